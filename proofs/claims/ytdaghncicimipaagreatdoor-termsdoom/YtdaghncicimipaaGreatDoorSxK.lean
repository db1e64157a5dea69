/-
  SX, part K: make, append, slice expressions, len, min and max, conversions.
-/
import Derived.Test.YtdaghncicimipaaGreatDoorSxJ
set_option linter.unusedVariables false
set_option linter.unusedSimpArgs false
namespace Go.SX
open Go.RowKit
variable {C : Cod}
section
variable {P : Program} {D : Codec C} {tab : Tab C} {B : Base} {E : Env} {σ : Nat → SV C} {H : Nat → HS C} {df : List Deferred} {a : Act} {w : World} {o : Oper}

theorem flatMap_replicate (u : C.U) (x : C.El u) : ∀ (n : Nat) (k : Nat), k < n * C.n u → ((List.replicate n x).flatMap (D.enc u))[k]? = (D.enc u x)[k % C.n u]? := by
  intro n k hk
  have hd : k / C.n u < n := (Nat.div_lt_iff_lt_mul (D.n_pos u)).2 hk
  have hm : k % C.n u < C.n u := Nat.mod_lt _ (D.n_pos u)
  have := flatMap_get (D := D) u (List.replicate n x) (k / C.n u) (k % C.n u) x (by simp [hd]) hm
  rw [show k / C.n u * C.n u + k % C.n u = k by rw [Nat.mul_comm]; exact Nat.div_add_mod k _] at this
  exact this

theorem makeSlice_ok (hT : TabOK P D tab) (hR : Rel D B E σ H df a w) {m : Nat} (hm : H m = .fresh) {t : TypeId} {ol oc : Operand} (ho : o.op = .makeSlice t ol oc) :
    OutOK P D B σ H df a w o (doMakeSlice D tab t (ev σ ol) (ev σ oc) m) := by
  have hl := ev_den hR ol
  have hc := ev_den hR oc
  generalize ev σ ol = sl at *
  generalize ev σ oc = sc at *
  unfold doMakeSlice
  cases htab : tab t with
  | none => trivial
  | some i =>
    have ht := hT t i htab
    simp only
    split
    · rename_i e l k hk
      have hu := slice_of ht hk
      have el := den_int hl
      have ek := den_int hc
      cases hte : tab e with
      | none => trivial
      | some j =>
        simp only
        cases hcode : j.code with
        | none => trivial
        | some u =>
          rintro ⟨h0, h1, h2, h3, h4⟩
          have hj := hT e j hte
          have hn := hj.code u hcode
          obtain ⟨ie, z, f1, f2, f3, f4, f5, f6⟩ := hj.info
          have wl : IntKind.i64.wrap l = l := IntWalk.i64_in _ (by omega)
          have wk : IntKind.i64.wrap k = k := IntWalk.i64_in _ (by omega)
          have hb : ¬ ((281474976710656 : Int) < (j.bytes : Int) * k) := by rw [Int.mul_comm]; omega
          have hb2 : ¬ ((281474976710656 : Int) < (j.bytes : Int) * l) := by
            have : (j.bytes : Int) * l ≤ (j.bytes : Int) * k := Int.mul_le_mul_of_nonneg_left h1 (by omega)
            omega
          have hneg : ¬ l < 0 := by omega
          have hnegk : ¬ k < 0 := by omega
          have hlk : ¬ k < l := by omega
          let cells : Array Value := (Array.range (k.toNat * j.size)).map (z.cells[· % z.cells.size]!)
          have hrun : (execOp a.eval o).run P w = .ok (.value (.slice (some ⟨w.heap.size, 0, none⟩) l.toNat k.toNat)) (w.alloc (.cells cells e)) := by
            by_cases hz : k.toNat * j.size = 0
            · have hc0 : cells = #[] := Array.eq_empty_of_size_eq_zero (by simp [cells, hz])
              rw [hc0]
              have hc1 : ∀ (g : Nat → Value), (Array.range (k.toNat * j.size)).map g = #[] := fun g => Array.eq_empty_of_size_eq_zero (by simp [hz])
              simp [execOp, ho, Instr.makeSlice, run_underlying hu, el, ek, asInt, asIntOf, typeInfo, f1, wl, wk, hneg, hnegk, hlk, f3, hb, run_sizeOf hj, newRow, hc1]
              exact fun h => absurd hz h
            · simp [execOp, ho, Instr.makeSlice, run_underlying hu, el, ek, asInt, asIntOf, typeInfo, f1, wl, wk, hneg, hnegk, hlk, f3, hb, run_sizeOf hj, newRow, zeroValue, f4, hz]
              rfl
          have hsz : cells.size = k.toNat * C.n u := by simp [cells, hn]
          have hden : PDenL D w E.F ((List.replicate l.toNat (C.dflt u)).flatMap (D.enc u)) (cells.toList.take (l.toNat * C.n u)) := by
            have hz := f6 w E
            rw [h4] at hz
            have hle : l.toNat * C.n u ≤ k.toNat * C.n u := Nat.mul_le_mul_right _ (by omega)
            refine ⟨by rw [flatMap_length, List.length_take, show cells.toList.length = k.toNat * C.n u from by rw [Array.length_toList, hsz], Nat.min_eq_left hle, List.length_replicate], fun q pv v hp hv => ?_⟩
            have hq : q < l.toNat * C.n u := by
              have := (List.getElem?_eq_some_iff.1 hp).1
              rw [flatMap_length] at this
              simpa using this
            rw [flatMap_replicate u _ _ _ hq] at hp
            rw [List.getElem?_take, if_pos hq] at hv
            have hzs : z.cells.size = C.n u := by rw [f5, hn]
            have hmod : q % C.n u < z.cells.size := by rw [hzs]; exact Nat.mod_lt _ (D.n_pos u)
            have hv' : v = z.cells[q % C.n u] := by
              have hqk : q < k.toNat * j.size := by rw [← hn]; omega
              simp [cells, hqk, hzs] at hv
              rw [← hv]
              rw [getElem!_pos z.cells (q % C.n u) hmod]
            subst hv'
            have gen : ∀ (l : List (PV C)) (vs : List Value), DenC D w E (pcells l) vs → ∀ (j : Nat) (pv : PV C) (v : Value), l[j]? = some pv → vs[j]? = some v → PDen D w E.F pv v := by
              intro l
              induction l with
              | nil => intro vs _ j pv v h; simp at h
              | cons x l ih =>
                intro vs h j pv v h1 h2
                simp only [pcells, List.map_cons, DenC, Den] at h
                obtain ⟨v0, v2, rfl, _, h3, h4⟩ := h
                cases j with
                | zero => simp at h1 h2; subst h1; subst h2; exact h3
                | succ j => exact ih v2 h4 j pv v (by simpa using h1) (by simpa using h2)
            exact gen _ _ hz _ _ _ hp (by simp [hmod])
          refine ⟨_, _, E.up m (.loc w.heap.size), .inl hrun, ?_, ?_⟩
          · rw [upHs_one]
            refine hR.alloc hm cells e ⟨cells, e, ⟨Row.new (heap_alloc_new w _), fun t h => (hj.ctype u t hcode h).symm⟩, ?_, ?_⟩
            · simp only [List.length_replicate, hsz]; exact Nat.mul_le_mul_right _ (by omega)
            · simp only [List.length_replicate]
              exact hden.mono (later_alloc (fresh_β hR.sat hm) _ hR.sat.F).F
          · simp only [Den, Env.up_same]
            refine .inr ⟨k.toNat, cells, e, by simp, by omega, Row.new (heap_alloc_new w _), ?_⟩
            rw [hsz, hn]; simp
    · trivial


theorem len_ok (hT : TabOK P D tab) (hR : Rel D B E σ H df a w) {tys : Array TypeId} {ox : Operand} (ho : o.op = .call { callee := .builtin .len, args := #[ox], argTypes := tys }) {hs : List (Nat × HS C)}
    (hhs : ∀ c, (ev σ ox).topId = some c → lk hs c = H c) (hty : 0 < tys.size) :
    OutOK P D B σ H df a w o (doLen tab (tys.getD 0 0) (ev σ ox) hs) := by
  have hx := ev_den hR ox
  generalize ev σ ox = sx at *
  have ht0 : tys[0]? = some (tys.getD 0 0) := by simp [Array.getD_eq_getD_getElem?, Array.getElem?_eq_getElem hty]
  generalize tys.getD 0 0 = t at *
  have key : ∀ n : Nat, (Builtin.len_ tys o.type #[a.eval ox]).run P w = .ok (.int .i64 n) w → OutOK P D B σ H df a w o (.val (.p (.int .i64 n))) := fun n h =>
    runOK_of hR (u := .int .i64 n) (by simp [execOp, ho, resolve, invoke, builtin, h]) (mk_int _ _)
  unfold doLen
  cases htab : tab t with
  | none => trivial
  | some i =>
    have ht := hT t i htab
    simp only
    split
    · rename_i l hk
      have e := den_str hx
      exact key _ (by simp [Builtin.len_, ht0, run_underlying (str_of ht hk), e, goInt, size_mk])
    · rename_i u xs hk
      have hu := slice_of ht hk
      simp only [Den] at hx
      generalize hxx : a.eval ox = vx at hx
      cases hx with
      | dslNil => exact key 0 (by simp [Builtin.len_, ht0, run_underlying hu, hxx, goInt])
      | dsl => exact key _ (by simp [Builtin.len_, ht0, run_underlying hu, hxx, goInt])
    · rename_i hk
      have hu := slice_of ht hk
      have e := den_lit hx
      exact key 0 (by simp [Builtin.len_, ht0, run_underlying hu, e, goInt])
    · rename_i e c o' n' off len hk
      have hu := slice_of ht hk
      refine ifLive_ok fun hl => ?_
      rw [hhs c rfl] at hl
      rcases slice_live hR.sat hl hx with ⟨rfl, ⟨ad, e, _⟩ | ⟨ad, b, e, _⟩⟩ | ⟨b, cap, cs, T, _, e, _⟩
      · exact key 0 (by simp [Builtin.len_, ht0, run_underlying hu, e, goInt])
      · exact key 0 (by simp [Builtin.len_, ht0, run_underlying hu, e, goInt])
      · exact key _ (by simp [Builtin.len_, ht0, run_underlying hu, e, goInt])
    · rename_i n e hk
      have hu := arr_of ht hk
      exact key _ (by simp [Builtin.len_, ht0, run_underlying hu, goInt])
    · trivial

theorem minmax_ok (hR : Rel D B E σ H df a w) {tys : Array TypeId} {ox oy : Operand} (mx : Bool) (ho : o.op = .call { callee := .builtin (match mx with | true => .max | false => .min), args := #[ox, oy], argTypes := tys }) :
    OutOK P D B σ H df a w o (minmax mx (ev σ ox) (ev σ oy)) := by
  have hx := ev_den hR ox
  have hy := ev_den hR oy
  generalize ev σ ox = sx at *
  generalize ev σ oy = sy at *
  unfold minmax
  split
  · rename_i k x k' y
    have ex := den_int hx
    have ey := den_int hy
    split
    · rename_i hk
      subst hk
      cases mx with
      | true =>
        refine runOK_of hR (u := .int k (max x y)) ?_ (mk_int _ _)
        have : (if y > x then y else x) = max x y := by rw [Int.max_def]; split <;> split <;> omega
        simp [execOp, ho, resolve, invoke, builtin, ex, ey, Builtin.max_, Builtin.max2, List.foldlM]
        simpa using this
      | false =>
        refine runOK_of hR (u := .int k (min x y)) ?_ (mk_int _ _)
        have : (if y < x then y else x) = min x y := by rw [Int.min_def]; split <;> split <;> omega
        simp [execOp, ho, resolve, invoke, builtin, ex, ey, Builtin.min_, Builtin.min2, List.foldlM]
        simpa using this
    · trivial
  · trivial

/-- the bounds of a slice expression, of a Go slice or string of length len and capacity cap -/
theorem bounds_run {isSl : Bool} {len cap : Nat} {olo ohi : Option Operand} {x y : Int} (hlo : boundOr 0 (olo.map (ev σ)) = some x) (hhi : boundOr len (ohi.map (ev σ)) = some y)
    (hR : Rel D B E σ H df a w) (h0 : 0 ≤ x) (h1 : x ≤ y) (h2 : y ≤ len) (hc : len ≤ cap) :
    (Instr.sliceBounds isSl len cap (olo.map a.eval) (ohi.map a.eval) none).run P w = .ok (x.toNat, y.toNat, cap) w := by
  have elo : ∀ (q : Operand), olo = some q → ∃ k, a.eval q = .int k x := fun q hq => by
    subst hq
    have hd := ev_den hR q
    simp only [Option.map_some] at hlo
    cases hs : ev σ q with
    | p pv =>
      rw [hs] at hlo hd
      cases pv with
      | int k n => simp [boundOr] at hlo; subst hlo; exact ⟨k, den_int hd⟩
      | _ => simp [boundOr] at hlo
    | _ => rw [hs] at hlo; simp [boundOr] at hlo
  have ehi : ∀ (q : Operand), ohi = some q → ∃ k, a.eval q = .int k y := fun q hq => by
    subst hq
    have hd := ev_den hR q
    simp only [Option.map_some] at hhi
    cases hs : ev σ q with
    | p pv =>
      rw [hs] at hhi hd
      cases pv with
      | int k n => simp [boundOr] at hhi; subst hhi; exact ⟨k, den_int hd⟩
      | _ => simp [boundOr] at hhi
    | _ => rw [hs] at hhi; simp [boundOr] at hhi
  cases olo with
  | none =>
    simp [boundOr] at hlo; subst hlo
    cases ohi with
    | none => simp [boundOr] at hhi; subst hhi; simp [Instr.sliceBounds]
    | some q =>
      obtain ⟨k, e⟩ := ehi q rfl
      have : 0 ≤ y ∧ y ≤ (cap : Int) := by omega
      simp [Instr.sliceBounds, Instr.sliceBound, e, asIntOf, this]
  | some p =>
    obtain ⟨k, e⟩ := elo p rfl
    cases ohi with
    | none =>
      simp [boundOr] at hhi; subst hhi
      have : 0 ≤ x ∧ x ≤ (len : Int) := by omega
      simp [Instr.sliceBounds, Instr.sliceBound, e, asIntOf, this]
    | some q =>
      obtain ⟨k', e'⟩ := ehi q rfl
      have h3 : 0 ≤ y ∧ y ≤ (cap : Int) := by omega
      have h4 : 0 ≤ x ∧ x ≤ (y.toNat : Int) := by omega
      have h5 : ¬ max y 0 < x := by omega
      simp [Instr.sliceBounds, Instr.sliceBound, e, e', asIntOf, h3, h0]
      omega

theorem slice_ok (hT : TabOK P D tab) (hR : Rel D B E σ H df a w) {t : TypeId} {ox : Operand} {olo ohi : Option Operand} (ho : o.op = .slice t ox olo ohi none) {hs : List (Nat × HS C)} (hhs : ∀ c, (ev σ ox).topId = some c → lk hs c = H c) :
    OutOK P D B σ H df a w o (doSlice tab t (ev σ ox) (olo.map (ev σ)) (ohi.map (ev σ)) hs) := by
  have hx := ev_den hR ox
  generalize hsx : ev σ ox = sx at *
  unfold doSlice
  cases htab : tab t with
  | none => trivial
  | some i =>
    have ht := hT t i htab
    simp only
    split
    · rename_i l hk
      have hu := str_of ht hk
      have e := den_str hx
      split
      · rename_i x y hx' hy'
        rintro ⟨h0, h1, h2⟩
        refine runOK_of hR (u := .string ⟨⟨(l.take y.toNat).drop x.toNat⟩⟩) ?_ (mk_str _)
        have hb := bounds_run (P := P) (isSl := false) (len := l.length) (cap := l.length) hx' hy' hR h0 h1 h2 (Nat.le_refl _)
        have hex : (⟨⟨l⟩⟩ : ByteArray).extract x.toNat y.toNat = ⟨⟨(l.take y.toNat).drop x.toNat⟩⟩ := by
          apply ByteArray.ext
          simp [List.extract_eq_take_drop, List.drop_take]
        simp [execOp, ho, Instr.sliceAt, run_underlying hu, Instr.slice, e, size_mk, hb, hex]
      · trivial
    · rename_i e u xs hk
      have hu := slice_of ht hk
      cases hte : tab e with
      | none => trivial
      | some j =>
        have hj := hT e j hte
        simp only
        split
        · rename_i x y hx' hy'
          rintro ⟨h0, h1, h2, h3⟩
          simp only [Den] at hx
          have hlen : ((xs.take y.toNat).drop x.toNat).length = y.toNat - x.toNat := by simp; omega
          generalize hxx : a.eval ox = vx at hx
          cases hx with
          | dslNil _ ad cap =>
            have hb := bounds_run (P := P) (isSl := true) (len := 0) (cap := cap) hx' hy' hR h0 h1 h2 (Nat.zero_le _)
            have hx0 : x.toNat = 0 := by simp at h2; omega
            have hy0 : y.toNat = 0 := by simp at h2; omega
            refine runOK_of hR (u := .slice (if cap = 0 then ad else ad.map (·.add 0)) 0 cap) ?_ ?_
            · simp [execOp, ho, Instr.sliceAt, run_underlying hu, Instr.slice, hxx, hb, run_sizeOf hj, hx0, hy0]
            · simp only [Den, List.take_nil, List.drop_nil]
              exact .dslNil _ _ _
          | dsl _ _ b o' cap cv hF hc hcell hden =>
            have hb := bounds_run (P := P) (isSl := true) (len := xs.length) (cap := cap) hx' hy' hR h0 h1 h2 hc
            refine runOK_of hR (u := .slice (if cap = x.toNat then some ⟨b, o', none⟩ else some ⟨b, o' + x.toNat * j.size, none⟩) (y.toNat - x.toNat) (cap - x.toNat)) ?_ ?_
            · simp [execOp, ho, Instr.sliceAt, run_underlying hu, Instr.slice, hxx, hb, run_sizeOf hj, Addr.add_lit]
            · simp only [Den]
              by_cases hcx : cap = x.toNat
              · have hnil : (xs.take y.toNat).drop x.toNat = [] := List.eq_nil_of_length_eq_zero (by rw [hlen]; omega)
                have hz : y.toNat - x.toNat = 0 := by omega
                rw [hnil, hz]
                exact .dslNil _ _ _
              · rw [if_neg hcx, ← hlen]
                refine .dsl u _ b _ _ (fun i j => cv (x.toNat + i) j) (fun hne => hF (fun e => by rw [e] at hne; simp at hne)) (by rw [hlen]; omega) ?_ ?_
                · intro i y' hy'' jj pv hp
                  have hxi : xs[x.toNat + i]? = some y' := by
                    rw [List.getElem?_drop, List.getElem?_take] at hy''
                    split at hy''
                    · exact hy''
                    · cases hy''
                  have := hcell _ _ hxi _ _ hp
                  rw [h3]
                  rw [show o' + x.toNat * C.n u + i * C.n u + jj = o' + (x.toNat + i) * C.n u + jj by rw [Nat.add_mul]; omega]
                  exact this
                · intro i y' hy'' jj pv hp
                  have hxi : xs[x.toNat + i]? = some y' := by
                    rw [List.getElem?_drop, List.getElem?_take] at hy''
                    split at hy''
                    · exact hy''
                    · cases hy''
                  exact hden _ _ hxi _ _ hp
        · trivial
    · rename_i e c o' n off len hk
      have hu := slice_of ht hk
      cases hte : tab e with
      | none => trivial
      | some j =>
        have hj := hT e j hte
        simp only
        split
        · rename_i x y hx' hy'
          refine ifLive_ok fun hl => ?_
          rw [hhs c rfl] at hl
          rintro ⟨h0, h1, h2, h3⟩
          rcases slice_live hR.sat hl hx with ⟨rfl, hn⟩ | ⟨b, cap, cs, T, hb, e, hlc, hcs, hsz⟩
          · have hb := bounds_run (P := P) (isSl := true) (len := 0) (cap := 0) hx' hy' hR h0 h1 h2 (Nat.zero_le _)
            have hx0 : x.toNat = 0 := by omega
            have hy0 : y.toNat = 0 := by omega
            rcases hn with ⟨ad, e, hβ⟩ | ⟨ad, b, e, hβ⟩
            · refine runOK_of hR (u := .slice ad 0 0) ?_ ?_
              · simp [execOp, ho, Instr.sliceAt, run_underlying hu, Instr.slice, e, hb, run_sizeOf hj, hx0, hy0]
              · simp only [Den, hβ]; exact ⟨ad, by first | rfl | trivial, by omega⟩
            · refine runOK_of hR (u := .slice ad 0 0) ?_ ?_
              · simp [execOp, ho, Instr.sliceAt, run_underlying hu, Instr.slice, e, hb, run_sizeOf hj, hx0, hy0]
              · simp only [Den, hβ]; exact .inl ⟨by omega, ad, rfl⟩
          · have hbr := bounds_run (P := P) (isSl := true) (len := len) (cap := cap) hx' hy' hR h0 h1 h2 hlc
            refine runOK_of hR (u := .slice (if cap = x.toNat then some ⟨b, o' + off * n, none⟩ else some ⟨b, o' + off * n + x.toNat * j.size, none⟩) (y.toNat - x.toNat) (cap - x.toNat)) ?_ ?_
            · simp [execOp, ho, Instr.sliceAt, run_underlying hu, Instr.slice, e, hbr, run_sizeOf hj, Addr.add_lit]
            · simp only [Den, hb]
              by_cases hcx : cap = x.toNat
              · exact .inl ⟨by omega, _, by rw [show y.toNat - x.toNat = 0 by omega, show cap - x.toNat = 0 by omega]⟩
              · refine .inr ⟨cap - x.toNat, cs, T, ?_, by omega, hcs, ?_⟩
                · rw [if_neg hcx, h3, Nat.add_mul, Nat.add_assoc]
                · rw [show off + x.toNat + (cap - x.toNat) = off + cap by omega]; exact hsz
        · trivial
    · rename_i len e c o' hk
      have hu := arr_of ht hk
      cases hte : tab e with
      | none => trivial
      | some j =>
        have hj := hT e j hte
        simp only
        split
        · rename_i u xs hsq
          split
          · rename_i x y hx' hy'
            rintro ⟨h0, h1, h2, h3, h4⟩
            rw [hhs c rfl] at hsq
            have hl : (H c).live = true := by cases hH : H c <;> rw [hH] at hsq <;> first | rfl | (simp [seqAt] at hsq)
            obtain ⟨b, hb⟩ := ptr_live hR.sat hl hx
            have e := ptr_den hx hb
            have hn := live_ne hl
            have hat : (H c).at D w E b := by
              rcases live_at hR.sat hn.1 hn.2 with ⟨hv, _⟩ | ⟨b', hb', h⟩
              · rw [hb] at hv; cases hv
              · rw [hb] at hb'; cases hb'; exact h
            have hq := seqAt_spec (o := o') hat
            rw [hsq] at hq
            obtain ⟨cs, T, hcs, hsz, _⟩ := hq
            have hbr := bounds_run (P := P) (isSl := false) (len := len) (cap := len) hx' hy' hR h0 h1 h2 (Nat.le_refl _)
            refine runOK_of hR (u := .slice (if len = x.toNat then some ⟨b, o', none⟩ else some ⟨b, o' + x.toNat * j.size, none⟩) (y.toNat - x.toNat) (len - x.toNat)) ?_ ?_
            · simp [execOp, ho, Instr.sliceAt, run_underlying hu, Instr.sureAddr, e, hbr, run_sizeOf hj, Addr.add_lit]
              split <;> simp_all
            · simp only [Den, hb]
              by_cases hcx : len = x.toNat
              · exact .inl ⟨by omega, _, by rw [show y.toNat - x.toNat = 0 by omega, show len - x.toNat = 0 by omega]⟩
              · refine .inr ⟨len - x.toNat, cs, T, ?_, by omega, hcs, ?_⟩
                · rw [if_neg hcx, h3]
                · have : len * C.n u ≤ xs.length * C.n u := Nat.mul_le_mul_right _ h4
                  rw [show x.toNat + (len - x.toNat) = len by omega]
                  omega
          · trivial
        · trivial
    · trivial

end
end Go.SX
