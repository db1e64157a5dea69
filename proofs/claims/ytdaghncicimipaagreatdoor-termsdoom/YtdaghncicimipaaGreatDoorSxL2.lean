/-
  SX, part L2: conversions of strings and bytes, pointers compared, copy, unsafe.String, full slices.
-/
import Derived.Test.YtdaghncicimipaaGreatDoorSxL
import Derived.Lib.UnsafeStr
import Derived.Lib.Builder
import Derived.Laws.BytesString
import Derived.Lib.ConvBytes
set_option linter.unusedSimpArgs false
namespace Go.SX
set_option linter.unusedVariables false
open Go.RowKit
variable {C : Cod}
section
variable {P : Program} {D : Codec C} {tab : Tab C} {B : Base} {E : Env} {σ : Nat → SV C} {H : Nat → HS C} {df : List Deferred} {a : Act} {w : World} {o : Oper}

theorem ptr_of {t : TypeId} {i : TI C} (ht : TyOK P D t i) {e : TypeId} (hk : i.kind = .ptr e) : P.underlying t = some (.pointer e) := by
  obtain ⟨d, hu, hkk⟩ := ht.und
  rw [hk] at hkk; simp only [KindOK] at hkk; subst hkk; exact hu
theorem uptr_of {t : TypeId} {i : TI C} (ht : TyOK P D t i) (hk : i.kind = .uptr) : P.underlying t = some .unsafePointer := by
  obtain ⟨d, hu, hkk⟩ := ht.und
  rw [hk] at hkk; simp only [KindOK] at hkk; subst hkk; exact hu
theorem int_of {t : TypeId} {i : TI C} (ht : TyOK P D t i) {k : IntKind} (hk : i.kind = .int k) : P.underlying t = some (.int k) := by
  obtain ⟨d, hu, hkk⟩ := ht.und
  rw [hk] at hkk; simp only [KindOK] at hkk; subst hkk; exact hu

/-- a new row with a frozen cell behind it -/
theorem alloc_freeze (w : World) (cs : Array Value) (e : TypeId) : (w.alloc (.cells cs e)).freeze ⟨w.heap.size, cs.size, none⟩ 1 = w.alloc (.cells cs e (cs.size, cs.size + 1)) := by
  unfold World.freeze
  rw [if_neg (by omega)]
  unfold World.alloc
  simp only [World.mk.injEq, and_true]
  apply Array.ext_getElem?
  intro i
  simp only [Array.getElem?_modify, Array.getElem?_push]
  by_cases h : i = w.heap.size
  · subst h; simp
  · simp [h, Ne.symm h]

theorem thaw_behind (n : Nat) : Thaw (n, n + 1) n := fun o h1 h2 _ => by simp at h2; omega

theorem bytes_push (ns : List Int) (s : ByteArray) : ns.foldl (fun r n => r.push (UInt8.ofNat n.toNat)) s = ⟨⟨s.data.toList ++ ns.map fun n => UInt8.ofNat n.toNat⟩⟩ := by
  induction ns generalizing s with
  | nil => obtain ⟨⟨l⟩⟩ := s; simp
  | cons n ns ih =>
    rw [List.foldl_cons, ih]
    apply ByteArray.ext
    simp [ByteArray.push]

/-- the cells of bytes -/
theorem news_bytes {F : Nat → Prop} {l : List (PV C)} {news : List Value} {ns : List Int} (h : PDenL D w F l news) (hl : l = ns.map (PV.int .u8)) : news = ns.map (Value.int .u8) := by
  subst hl
  apply List.ext_getElem?
  intro j
  have hlen := h.1
  rw [List.length_map] at hlen
  by_cases hj : j < ns.length
  · have h1 : (ns.map (PV.int (C := C) .u8))[j]? = some (.int .u8 ns[j]) := by simp [hj]
    obtain ⟨v, h2⟩ : ∃ v, news[j]? = some v := ⟨_, List.getElem?_eq_getElem (by omega)⟩
    have := h.2 j _ _ h1 h2
    cases this
    rw [h2]; simp [hj]
  · rw [List.getElem?_eq_none (by omega), List.getElem?_eq_none (by simp; omega)]

theorem conv_bytes {hs : List (Nat × HS C)} (A : Aux C D) (hT : TabOK P D tab) (hR : Rel D B E σ H df a w) {src dst : TypeId} {ox : Operand} (ho : o.op = .convert src dst ox) {e : TypeId}
    (hsrc : P.underlying src = some (.slice e)) (he : P.underlying e = some (.int .u8)) (hdst : P.underlying dst = some .string) {sx : SV C} (hx : Den D w E sx (a.eval ox)) (hhs : ∀ c, sx.topId = some c → lk hs c = H c)
    {u : C.U} {ys : List (C.El u)} (hq : srcOf hs sx = .some u ys) (hlen : srcSide u ys sx) {l : List UInt8} (hb : A.toBytes u ys = some l) : RunOK P D B σ H df a w o (.p (.str l)) [] := by
  obtain ⟨hn1, ns, h1, rfl⟩ := A.toBytes_ok _ _ _ hb
  obtain ⟨ax, cap, news, hv, hpn, hcase⟩ := srcOf_ok hR.sat hx hhs hq hlen
  have hnews := news_bytes hpn h1
  have hyl : ys.length = ns.length := by
    have := congrArg List.length h1
    rw [flatMap_length, hn1] at this
    simpa using this
  subst hnews
  refine runOK_of hR (u := .string ⟨⟨ns.map fun n => UInt8.ofNat n.toNat⟩⟩) ?_ (mk_str _)
  have hconv := run_convert_bytes_string (P := P) w src dst e ax ys.length cap hsrc he hdst
  have hfin : (Conv.bytesToString (.slice ax ys.length cap)).run P w = .ok (.string ⟨⟨ns.map fun n => UInt8.ofNat n.toNat⟩⟩) w := by
    rcases hcase with ⟨rfl, h0⟩ | ⟨ad, rfl, hc⟩
    · have hz : ns = [] := by simpa using h0
      subst hz
      rfl
    · have hld := run_loadCells_list (P := P) w ad (ns.map (Value.int .u8)) hc
      rw [List.length_map, ← hyl] at hld
      rw [run_bytesToString w ad _ cap ns hld, bytes_push]
      simp
  simp [execOp, ho, hv, hconv, hfin]

theorem cellsN_den : ∀ (vs : List (SV C)) (cs : List Value), DenC D w E vs cs → cs.length = cellsN vs
  | [], cs, h => by simp only [DenC] at h; subst h; rfl
  | x :: r, cs, h => by
    cases hx : x.isArr with
    | false =>
      rw [DenC_cons hx] at h
      obtain ⟨v, v2, rfl, _, _, h3⟩ := h
      have ih := cellsN_den r v2 h3
      have e : cellsN (x :: r) = 1 + cellsN r := by cases x <;> first | rfl | (simp [SV.isArr] at hx)
      rw [e, List.length_cons, ih, Nat.add_comm]
    | true =>
      obtain ⟨u, N, xs, rfl⟩ := SV.arr_of hx
      simp only [DenC] at h
      obtain ⟨h0, v1, v2, rfl, h2, h3⟩ := h
      have ih := cellsN_den r v2 h3
      simp only [cellsN, List.length_append, ih, h2.len, h0]
theorem var_of (hT : TabOK P D tab) (hs : Sat D w E H) {c : Nat} {t : TypeId} (h : isVarOf tab t (H c) = true) :
    ∃ b cs it info, E.β c = .loc b ∧ tab t = some it ∧ it.typed = true ∧ P.info? t = some info ∧ info.size = it.size ∧ 0 < it.size ∧ w.shape? b = some (t, (cs : Array Value).size) ∧ liesAt P P.depth t (cs.size / P.cellsOf t) 0 t 1 = true ∧ cs.size = it.size := by
  unfold isVarOf at h
  split at h
  · rename_i t' vs hH
    split at h
    · rename_i hbe
      have htt := Nat.eq_of_beq_eq_true hbe
      subst htt
      split at h
      · rename_i it htab
        split at h
        · rename_i hty
          have hsz := Nat.eq_of_beq_eq_true h
          obtain ⟨b, cs, T, hb, ⟨⟨z, h1, _⟩, h2⟩, h3⟩ := var_at hs hH
          have hT' := h2 t' rfl
          subst hT'
          have hlen := cellsN_den vs cs.toList h3
          rw [Array.length_toList, hsz] at hlen
          have ht := hT T it htab
          obtain ⟨info, zz, f1, f2, _⟩ := ht.info
          refine ⟨b, cs, it, info, hb, htab, hty, f1, f2, ht.pos, ?_, ?_, hlen⟩
          · unfold World.shape?; rw [h1]
          · rw [hlen]; exact ht.lies hty
        · cases h
      · cases h
    · cases h
  · cases h

theorem conv_ok (A : Aux C D) (hT : TabOK P D tab) (hR : Rel D B E σ H df a w) {m : Nat} (hm : H m = .fresh) {src dst : TypeId} {ox : Operand} (ho : o.op = .convert src dst ox) {hs : List (Nat × HS C)} (hhs : ∀ c, (ev σ ox).topId = some c → lk hs c = H c) :
    OutOK P D B σ H df a w o (doConv A tab src dst (ev σ ox) hs m) := by
  have hx := ev_den hR ox
  have hold := convert_ok hT hR ho
  generalize hsx : ev σ ox = sx at *
  unfold doConv
  cases hsrc : tab src with
  | none => trivial
  | some i =>
  cases hdst : tab dst with
  | none => trivial
  | some k =>
  simp only
  have ht := hT src i hsrc
  have hd := hT dst k hdst
  split
  · -- to a slice
    rename_i e hke
    have hud := slice_of hd hke
    split
    · rename_i l hki
      have hus := str_of ht hki
      have hv := den_str hx
      cases hte : tab e with
      | none => trivial
      | some j =>
        have hj := hT e j hte
        simp only
        split
        · rename_i hkj
          have hue := int_of hj hkj
          cases hcode : j.code with
          | none => trivial
          | some u =>
            simp only
            split
            · rename_i xs hz
              obtain ⟨hn1, hfm⟩ := A.ofBytes_ok _ _ _ hz
              have hxl : xs.length = l.length := by
                have := congrArg List.length hfm
                rw [flatMap_length, hn1] at this
                simpa using this
              have hcap := grownCap_ge w l.length 0 e
              obtain ⟨cap, hcapd⟩ : ∃ cap, grownCap w l.length 0 e = cap := ⟨_, rfl⟩
              rw [hcapd] at hcap
              obtain ⟨cs, hcs⟩ : ∃ cs : Array Value, (l.map fun b => Value.int .u8 (b.toNat : Int)).toArray ++ Array.replicate (cap - l.length) (.int .u8 0) = cs := ⟨_, rfl⟩
              have hcsz : cs.size = cap := by rw [← hcs]; simp; omega
              have hrun : (execOp a.eval o).run P w = .ok (.value (.slice (some ⟨w.heap.size, 0, none⟩) l.length cap)) (w.drew.alloc (.cells cs e (cs.size, cs.size + 1))) := by
                have hconv := Lib.run_convert_string_bytes (P := P) w src dst e ⟨⟨l⟩⟩ hus hud hue
                have hcells : Lib.bytesCells w e ⟨⟨l⟩⟩ = cs := by
                  rw [← hcs, ← hcapd]
                  simp [Lib.bytesCells, size_mk]
                have hw : Lib.bytesWorld w e ⟨⟨l⟩⟩ = w.drew.alloc (.cells cs e (cs.size, cs.size + 1)) := by
                  unfold Lib.bytesWorld
                  rw [hcells]
                  exact alloc_freeze w.drew cs e
                rw [size_mk, hcapd, hw] at hconv
                simp [execOp, ho, hv, hconv]
              have hL := later_alloc (w := w.drew) (fresh_β hR.drew.sat hm) (.cells cs e (cs.size, cs.size + 1)) hR.drew.sat.F
              have hrow : Row (w.drew.alloc (.cells cs e (cs.size, cs.size + 1))) w.drew.heap.size cs e := ⟨_, heap_alloc_new w.drew _, thaw_behind _⟩
              refine ⟨_, _, E.up m (.loc w.drew.heap.size), .inl hrun, ?_, ?_⟩
              · rw [upHs_one]
                refine hR.drew.allocO hm _ ⟨cs, e, ⟨hrow, fun t h => (hj.ctype u t hcode h).symm⟩, ?_, ?_⟩
                · rw [hn1, hxl, hcsz]; omega
                · have e1 : cs.toList.take (xs.length * C.n u) = l.map fun b => Value.int .u8 (b.toNat : Int) := by
                    rw [hn1, hxl, ← hcs]
                    simp
                  rw [e1, hfm]
                  exact byteCells_den l
              · simp only [Den, Env.up_same]
                refine .inr ⟨cap, cs, e, by rw [hxl]; simp, by omega, hrow, ?_⟩
                rw [hn1, hcsz]; omega
            · trivial
        · trivial
    · trivial
  · -- to a string
    rename_i hke
    have hud := str_of hd hke
    split
    · rename_i l hki
      have hus := str_of ht hki
      have hv := den_str hx
      exact runOK_of hR (u := .string ⟨⟨l⟩⟩) (by simp [execOp, ho, hv, convert, run_underlying hus, run_underlying hud]) (mk_str _)
    · rename_i e u xs hki
      have hus := slice_of ht hki
      cases hte : tab e with
      | none => trivial
      | some j =>
        simp only
        split
        · rename_i hkj
          have hue := int_of (hT e j hte) hkj
          split
          · rename_i l hb
            exact conv_bytes (hs := hs) A hT hR ho hus hue hud hx hhs (u := u) (ys := xs) rfl trivial hb
          · trivial
        · trivial
    · rename_i e c o' n off len hki
      have hus := slice_of ht hki
      cases hte : tab e with
      | none => trivial
      | some j =>
        simp only
        split
        · rename_i hkj
          have hue := int_of (hT e j hte) hkj
          split
          · rename_i u xs hsq
            split
            · rename_i l hb
              rintro ⟨h1, h2⟩
              exact conv_bytes (hs := hs) A hT hR ho hus hue hud hx hhs (u := u) (ys := (xs.drop off).take len) (by simp [srcOf, hsq]) ⟨h1, h2⟩ hb
            · trivial
          · trivial
        · trivial
    · trivial
  · -- to an unsafe pointer
    rename_i hke
    have hud := uptr_of hd hke
    split
    · rename_i t c o' hki
      have hus := ptr_of ht hki
      split
      · split
        · rename_i hvr
          rw [hhs c rfl] at hvr
          obtain ⟨b, cs, it, info, hb, htab, hty, hinf, hsz, h0, hsh, hlies, hcs0⟩ := var_of hT hR.sat hvr
          have hv := ptr_den hx hb
          have hrun := Lib.run_to_unsafe (P := P) w (src := src) (dst := dst) (t := t) ⟨b, 0, none⟩ hus hud hinf (by omega) hsh (by show 0 < cs.size; omega)
          exact runOK_of hR (u := .pointer (some ⟨b, 0, none⟩)) (by simp [execOp, ho, hv, hrun]) (by simp only [Den, hb])
        · trivial
      · trivial
    · trivial
  · -- from an unsafe pointer
    rename_i t hke
    have hud := ptr_of hd hke
    split
    · rename_i c o' hki
      have hus := uptr_of ht hki
      split
      · split
        · rename_i hvr
          rw [hhs c rfl] at hvr
          obtain ⟨b, cs, it, info, hb, htab, hty, hinf, hsz, h0, hsh, hlies, hcs0⟩ := var_of hT hR.sat hvr
          have hv := ptr_den hx hb
          have hrun := Lib.run_from_unsafe (P := P) w (src := src) (dst := dst) (u := t) ⟨b, 0, none⟩ hus hud hinf hsh hlies
          exact runOK_of hR (u := .pointer (some ⟨b, 0, none⟩)) (by simp [execOp, ho, hv, hrun]) (by simp only [Den, hb])
        · trivial
      · trivial
    · trivial
  · exact hold

/-! ### Pointers compared -/
theorem eqRes_ok (hR : Rel D B E σ H df a w) {op : BinOp} {t yt : TypeId} {ox oy : Operand} (ho : o.op = .binOp op t ox oy yt) {b : Bool}
    (hg : ∀ op : BinOp, ∃ u, (eqGuard op t ox oy (a.eval ox) (a.eval oy)).run P w = .ok u w) (h1 : (binOp .eql t (a.eval ox) (a.eval oy)).run P w = .ok (.bool b) w) (h2 : (binOp .neq t (a.eval ox) (a.eval oy)).run P w = .ok (.bool !b) w) : OutOK P D B σ H df a w o (eqRes op b) := by
  unfold eqRes
  obtain ⟨u1, g1⟩ := hg .eql
  obtain ⟨u2, g2⟩ := hg .neq
  split
  · exact runOK_of hR (u := .bool b) (by simp [execOp, ho, h1, g1]) (mk_bool _)
  · exact runOK_of hR (u := .bool !b) (by simp [execOp, ho, h2, g2]) (mk_bool _)
  · trivial
theorem nilEq_ok (hT : TabOK P D tab) (hR : Rel D B E σ H df a w) {op : BinOp} {t yt : TypeId} {ox oy : Operand} (ho : o.op = .binOp op t ox oy yt) {p : Prop} (hy : a.eval oy = .slice none 0 0) (hx : ∃ ad n cap, a.eval ox = .slice ad n cap ∧ (ad = none → p)) :
    OutOK P D B σ H df a w o (nilEq tab op t p) := by
  obtain ⟨ad, n, cap, h1, h2⟩ := hx
  unfold nilEq
  cases htab : tab t with
  | none => trivial
  | some i =>
    simp only
    split
    · rename_i e hk
      have hu := slice_of (hT t i htab) hk
      have key : ∀ d : Nat, (Op.equalIn (d + 1) t (.slice ad n cap) (.slice none 0 0)).run P w = .ok ad.isNone w := fun d => by
        cases ad <;> simp [Op.equalIn, run_underlying hu]
      have hp : ad.isNone = true → p := fun h => h2 (by simpa using h)
      split
      · refine ⟨ad.isNone, hp, runOK_of hR (u := .bool ad.isNone) ?_ (mk_bool _)⟩
        simp only [execOp, ho, h1, hy]
        simp [eqGuard, binOp, Op.equal, Op.maxDepth, key 9999]
      · refine ⟨ad.isNone, hp, runOK_of hR (u := .bool !ad.isNone) ?_ (mk_bool _)⟩
        simp only [execOp, ho, h1, hy]
        simp [eqGuard, binOp, Op.equal, Op.maxDepth, key 9999]
      · trivial
    · trivial
theorem binP_ok (A : Aux C D) (hT : TabOK P D tab) (hR : Rel D B E σ H df a w) {op : BinOp} {t yt : TypeId} {ox oy : Operand} (ho : o.op = .binOp op t ox oy yt) {hs : List (Nat × HS C)} (hhs : ∀ c, (ev σ ox).topId = some c → lk hs c = H c) :
    OutOK P D B σ H df a w o (doBinP A tab op t (ev σ ox) (ev σ oy) hs) := by
  have hx := ev_den hR ox
  have hy := ev_den hR oy
  have hold := bin_ok A hT hR ho
  generalize ev σ ox = sx at *
  generalize ev σ oy = sy at *
  unfold doBinP
  split
  · rename_i u xs
    refine nilEq_ok hT hR ho (den_lit hy) ?_
    simp only [Den] at hx
    generalize a.eval ox = vx at hx
    cases hx with
    | dslNil _ ad cap => exact ⟨_, _, _, rfl, fun _ => rfl⟩
    | dsl => exact ⟨_, _, _, rfl, fun h => by cases h⟩
  · rename_i c o' n off len
    refine ifLive_ok fun hl => ?_
    rw [hhs c rfl] at hl
    refine nilEq_ok hT hR ho (den_lit hy) ?_
    rcases slice_live hR.sat hl hx with ⟨h0, ⟨ad, e, _⟩ | ⟨ad, b, e, _⟩⟩ | ⟨b, cap, cs, T, _, e, _⟩
    · exact ⟨_, _, _, e, fun _ => h0⟩
    · exact ⟨_, _, _, e, fun _ => h0⟩
    · exact ⟨_, _, _, e, fun h => by cases h⟩
  · cases htab : tab t with
    | none => trivial
    | some i =>
      simp only
      split
      · rename_i e hk
        have hu := slice_of (hT t i htab) hk
        have h1 := den_lit hx
        have h2 := den_lit hy
        have key : ∀ d : Nat, (Op.equalIn (d + 1) t (.slice none 0 0) (.slice none 0 0)).run P w = .ok true w := fun d => by
          simp [Op.equalIn, run_underlying hu]
        refine eqRes_ok hR ho (fun op => ⟨(), by rw [h1, h2]; simp [eqGuard]⟩) ?_ ?_
        · rw [h1, h2]; simp only [binOp]; simp [Op.equal, Op.maxDepth, key 9999]
        · rw [h1, h2]; simp only [binOp]; simp [Op.equal, Op.maxDepth, key 9999]
      · trivial
  · rename_i c o'
    cases htab : tab t with
    | none => trivial
    | some i =>
      simp only
      split
      · rename_i e hk
        have hu := ptr_of (hT t i htab) hk
        refine ifLive_ok fun hl => ?_
        rw [hhs c rfl] at hl
        obtain ⟨b, hb⟩ := ptr_live hR.sat hl hx
        have h1 := ptr_den hx hb
        have h2 := den_lit hy
        have key : ∀ d : Nat, (Op.equalIn (d + 1) t (.pointer (some ⟨b, o', none⟩)) (.pointer none)).run P w = .ok false w := fun d => by
          simp [Op.equalIn, run_underlying hu]
        refine eqRes_ok hR ho (fun op => ⟨(), by rw [h1, h2]; simp [eqGuard]⟩) ?_ ?_
        · rw [h1, h2]; simp only [binOp]; simp [Op.equal, Op.maxDepth, key 9999]
        · rw [h1, h2]; simp only [binOp]; simp [Op.equal, Op.maxDepth, key 9999]
      · trivial
  · cases htab : tab t with
    | none => trivial
    | some i =>
      simp only
      split
      · rename_i e hk
        have hu := ptr_of (hT t i htab) hk
        have h1 := den_lit hx
        have h2 := den_lit hy
        have key : ∀ d : Nat, (Op.equalIn (d + 1) t (.pointer none) (.pointer none)).run P w = .ok true w := fun d => by
          simp [Op.equalIn, run_underlying hu]
        refine eqRes_ok hR ho (fun op => ⟨(), by rw [h1, h2]; simp [eqGuard]⟩) ?_ ?_
        · rw [h1, h2]; simp only [binOp]; simp [Op.equal, Op.maxDepth, key 9999]
        · rw [h1, h2]; simp only [binOp]; simp [Op.equal, Op.maxDepth, key 9999]
      · trivial
  · rename_i c o' c' o''
    cases htab : tab t with
    | none => trivial
    | some i =>
      simp only
      split
      · rename_i e hk
        have hu := ptr_of (hT t i htab) hk
        cases hte : tab e with
        | none => trivial
        | some j =>
          obtain ⟨info, z, f1, _⟩ := (hT e j hte).info
          simp only
          split
          · rename_i hc
            have hc' := Nat.eq_of_beq_eq_true hc
            subst hc'
            split
            · rename_i hc2
              have hc2' := Nat.eq_of_beq_eq_true hc2
              subst hc2'
              refine ifLive_ok fun hl => ?_
              rw [hhs c rfl] at hl
              obtain ⟨b, hb⟩ := ptr_live hR.sat hl hx
              have h1 := ptr_den hx hb
              have h2 := ptr_den hy hb
              have key : ∀ d : Nat, (Op.equalIn (d + 1) t (.pointer (some ⟨b, o', none⟩)) (.pointer (some ⟨b, o', none⟩))).run P w = .ok true w := fun d => by
                simp [Op.equalIn, run_underlying hu, sizeOf, typeInfo, f1, run_sameAddr_same]
              refine eqRes_ok hR ho (fun op => ⟨(), by rw [h1, h2]; simp [eqGuard]⟩) ?_ ?_
              · rw [h1, h2]; simp only [binOp]; simp [Op.equal, Op.maxDepth, key 9999]
              · rw [h1, h2]; simp only [binOp]; simp [Op.equal, Op.maxDepth, key 9999]
            · trivial
          · trivial
      · trivial
  · exact hold
end
end Go.SX
