/-
  SX, part L2: conversions of strings and bytes, pointers compared, copy, unsafe.String, full slices.
-/
import Derived.Test.YtdaghncicimipaaGreatDoorSxJ
import Derived.Lib.UnsafeStr
import Derived.Lib.Builder
import Derived.Laws.BytesString
import Derived.Lib.ConvBytes
import Derived.MapKept
import GoSem.Instr.Address
set_option linter.unusedVariables false
set_option linter.unusedSimpArgs false
namespace Go.SX
open Go.RowKit
variable {C : Cod}
section
variable {P : Program} {D : Codec C} {tab : Tab C} {B : Base} {E : Env} {σ : Nat → SV C} {H : Nat → HS C} {df : List Deferred} {a : Act} {w : World} {o : Oper}

theorem ptr_of {t : TypeId} {i : TI C} (ht : TyOK P D t i) {e : TypeId} (hk : i.kind = .ptr e) : P.underlying t = some (.pointer e) := by
 obtain ⟨d, hu, hkk⟩ := ht.und
 rw [hk] at hkk; simp only [KindOK] at hkk; subst hkk; exact hu
theorem uptr_of {t : TypeId} {i : TI C} (ht : TyOK P D t i) (hk : i.kind = .uptr) : P.underlying t = some .unsafePointer := by
 obtain ⟨d, hu, hkk⟩ := ht.und
 rw [hk] at hkk; simp only [KindOK] at hkk; subst hkk; exact hu
theorem int_of {t : TypeId} {i : TI C} (ht : TyOK P D t i) {k : IntKind} (hk : i.kind = .int k) : P.underlying t = some (.int k) := by
 obtain ⟨d, hu, hkk⟩ := ht.und
 rw [hk] at hkk; simp only [KindOK] at hkk; subst hkk; exact hu

/-- a new row with a frozen cell behind it -/
theorem alloc_freeze (w : World) (cs : Array Value) (e : TypeId) : (w.alloc (.cells cs e)).freeze ⟨w.heap.size, cs.size, none⟩ 1 = w.alloc (.cells cs e (cs.size, cs.size + 1)) := by
 unfold World.freeze
 rw [if_neg (by omega)]
 unfold World.alloc
 simp only [World.mk.injEq, and_true]
 apply Array.ext_getElem?
 intro i
 simp only [Array.getElem?_modify, Array.getElem?_push]
 by_cases h : i = w.heap.size
 ·subst h; simp
 ·simp [h, Ne.symm h]

theorem thaw_behind (n : Nat) : Thaw (n, n + 1) n := fun o h1 h2 _ => by simp at h2; omega

theorem bytes_push (ns : List Int) (s : ByteArray) : ns.foldl (fun r n => r.push (UInt8.ofNat n.toNat)) s = ⟨⟨s.data.toList ++ ns.map fun n => UInt8.ofNat n.toNat⟩⟩ := by
 induction ns generalizing s with
 | nil => obtain ⟨⟨l⟩⟩ := s; simp
 | cons n ns ih =>
  rw [List.foldl_cons, ih]
  apply ByteArray.ext
  simp [ByteArray.push]

/-- the cells of bytes -/
theorem news_bytes {F : Nat → Prop} {l : List (PV C)} {news : List Value} {ns : List Int} (h : PDenL D w F l news) (hl : l = ns.map (PV.int .u8)) : news = ns.map (Value.int .u8) := by
 subst hl
 apply List.ext_getElem?
 intro j
 have hlen := h.1
 rw [List.length_map] at hlen
 by_cases hj : j < ns.length
 ·have h1 : (ns.map (PV.int (C := C) .u8))[j]? = some (.int .u8 ns[j]) := by simp [hj]
  obtain ⟨v, h2⟩ : ∃ v, news[j]? = some v := ⟨_, List.getElem?_eq_getElem (by omega)⟩
  have := h.2 j _ _ h1 h2
  cases this
  rw [h2]; simp [hj]
 ·rw [List.getElem?_eq_none (by omega), List.getElem?_eq_none (by simp; omega)]

theorem conv_bytes {hs : List (Nat × HS C)} (A : Aux C D) (hT : TabOK P D tab) (hR : Rel D B E σ H df a w) {src dst : TypeId} {ox : Operand} (ho : o.op = .convert src dst ox) {e : TypeId}
  (hsrc : P.underlying src = some (.slice e)) (he : P.underlying e = some (.int .u8)) (hdst : P.underlying dst = some .string) {sx : SV C} (hx : Den D w E sx (a.eval ox)) (hhs : ∀ c, sx.topId = some c → lk hs c = H c)
  {u : C.U} {ys : List (C.El u)} (hq : srcOf hs sx = .some u ys) (hlen : srcSide u ys sx) {l : List UInt8} (hb : A.toBytes u ys = some l) : RunOK P D B σ H df a w o (.p (.str l)) [] := by
 obtain ⟨hn1, ns, h1, rfl⟩ := A.toBytes_ok _ _ _ hb
 obtain ⟨ax, cap, news, hv, hpn, hcase⟩ := srcOf_ok hR.sat hx hhs hq hlen
 have hnews := news_bytes hpn h1
 have hyl : ys.length = ns.length := by
  have := congrArg List.length h1
  rw [flatMap_length, hn1] at this
  simpa using this
 subst hnews
 refine runOK_of hR (u := .string ⟨⟨ns.map fun n => UInt8.ofNat n.toNat⟩⟩) ?_ (mk_str _)
 have hconv := run_convert_bytes_string (P := P) w src dst e ax ys.length cap hsrc he hdst
 have hfin : (Conv.bytesToString (.slice ax ys.length cap)).run P w = .ok (.string ⟨⟨ns.map fun n => UInt8.ofNat n.toNat⟩⟩) w := by
  rcases hcase with ⟨rfl, h0⟩ | ⟨ad, rfl, hc⟩
  ·have hz : ns = [] := by simpa using h0
   subst hz
   rfl
  ·have hld := run_loadCells_list (P := P) w ad (ns.map (Value.int .u8)) hc
   rw [List.length_map, ← hyl] at hld
   rw [run_bytesToString w ad _ cap ns hld, bytes_push]
   simp
 simp [execOp, ho, hv, hconv, hfin]

theorem cellsN_den : ∀ (vs : List (SV C)) (cs : List Value), DenC D w E vs cs → cs.length = cellsN vs
 | [], cs, h => by simp only [DenC] at h; subst h; rfl
 | x :: r, cs, h => by
  cases hx : x.isArr with
  | false =>
   rw [DenC_cons hx] at h
   obtain ⟨v, v2, rfl, _, _, h3⟩ := h
   have ih := cellsN_den r v2 h3
   have e : cellsN (x :: r) = 1 + cellsN r := by cases x <;> first | rfl | (simp [SV.isArr] at hx)
   rw [e, List.length_cons, ih, Nat.add_comm]
  | true =>
   obtain ⟨u, N, xs, rfl⟩ := SV.arr_of hx
   simp only [DenC] at h
   obtain ⟨h0, v1, v2, rfl, h2, h3⟩ := h
   have ih := cellsN_den r v2 h3
   simp only [cellsN, List.length_append, ih, h2.len, h0]
theorem var_of (hT : TabOK P D tab) (hs : Sat D w E H) {c : Nat} {t : TypeId} (h : isVarOf tab t (H c) = true) :
  ∃ b cs it info, E.β c = .loc b ∧ tab t = some it ∧ it.typed = true ∧ P.info? t = some info ∧ info.size = it.size ∧ 0 < it.size ∧ w.shape? b = some (t, (cs : Array Value).size) ∧ liesAt P P.depth t (cs.size / P.cellsOf t) 0 t 1 = true ∧ cs.size = it.size := by
 unfold isVarOf at h
 split at h
 ·rename_i t' vs hH
  split at h
  ·rename_i hbe
   have htt := Nat.eq_of_beq_eq_true hbe
   subst htt
   split at h
   ·rename_i it htab
    split at h
    ·rename_i hty
     have hsz := Nat.eq_of_beq_eq_true h
     obtain ⟨b, cs, T, hb, ⟨⟨z, h1, _⟩, h2⟩, h3⟩ := var_at hs hH
     have hT' := h2 t' rfl
     subst hT'
     have hlen := cellsN_den vs cs.toList h3
     rw [Array.length_toList, hsz] at hlen
     have ht := hT T it htab
     obtain ⟨info, zz, f1, f2, _⟩ := ht.info
     refine ⟨b, cs, it, info, hb, htab, hty, f1, f2, ht.pos, ?_, ?_, hlen⟩
     ·unfold World.shape?; rw [h1]
     ·rw [hlen]; exact ht.lies hty
    ·cases h
   ·cases h
  ·cases h
 ·cases h

theorem conv_ok (A : Aux C D) (hT : TabOK P D tab) (hR : Rel D B E σ H df a w) {m : Nat} (hm : H m = .fresh) {src dst : TypeId} {ox : Operand} (ho : o.op = .convert src dst ox) {hs : List (Nat × HS C)} (hhs : ∀ c, (ev σ ox).topId = some c → lk hs c = H c) :
  OutOK P D B σ H df a w o (doConv A tab src dst (ev σ ox) hs m) := by
 have hx := ev_den hR ox
 have hold := convert_ok hT hR ho
 generalize hsx : ev σ ox = sx at *
 unfold doConv
 cases hsrc : tab src with
 | none => trivial
 | some i =>
 cases hdst : tab dst with
 | none => trivial
 | some k =>
 simp only
 have ht := hT src i hsrc
 have hd := hT dst k hdst
 split
 ·rename_i e hke
  have hud := slice_of hd hke
  split
  ·rename_i l hki
   have hus := str_of ht hki
   have hv := den_str hx
   cases hte : tab e with
   | none => trivial
   | some j =>
    have hj := hT e j hte
    simp only
    split
    ·rename_i hkj
     have hue := int_of hj hkj
     cases hcode : j.code with
     | none => trivial
     | some u =>
      simp only
      split
      ·rename_i xs hz
       obtain ⟨hn1, hfm⟩ := A.ofBytes_ok _ _ _ hz
       have hxl : xs.length = l.length := by
        have := congrArg List.length hfm
        rw [flatMap_length, hn1] at this
        simpa using this
       have hcap := grownCap_ge w l.length 0 e
       obtain ⟨cap, hcapd⟩ : ∃ cap, grownCap w l.length 0 e = cap := ⟨_, rfl⟩
       rw [hcapd] at hcap
       obtain ⟨cs, hcs⟩ : ∃ cs : Array Value, (l.map fun b => Value.int .u8 (b.toNat : Int)).toArray ++ Array.replicate (cap - l.length) (.int .u8 0) = cs := ⟨_, rfl⟩
       have hcsz : cs.size = cap := by rw [← hcs]; simp; omega
       have hrun : (execOp a.eval o).run P w = .ok (.value (.slice (some ⟨w.heap.size, 0, none⟩) l.length cap)) (w.drew.alloc (.cells cs e (cs.size, cs.size + 1))) := by
        have hconv := Lib.run_convert_string_bytes (P := P) w src dst e ⟨⟨l⟩⟩ hus hud hue
        have hcells : Lib.bytesCells w e ⟨⟨l⟩⟩ = cs := by
         rw [← hcs, ← hcapd]
         simp [Lib.bytesCells, size_mk]
        have hw : Lib.bytesWorld w e ⟨⟨l⟩⟩ = w.drew.alloc (.cells cs e (cs.size, cs.size + 1)) := by
         unfold Lib.bytesWorld
         rw [hcells]
         exact alloc_freeze w.drew cs e
        rw [size_mk, hcapd, hw] at hconv
        simp [execOp, ho, hv, hconv]
       have hL := later_alloc (w := w.drew) (fresh_β hR.drew.sat hm) (.cells cs e (cs.size, cs.size + 1)) hR.drew.sat.F
       have hrow : Row (w.drew.alloc (.cells cs e (cs.size, cs.size + 1))) w.drew.heap.size cs e := ⟨_, heap_alloc_new w.drew _, thaw_behind _⟩
       refine ⟨_, _, E.up m (.loc w.drew.heap.size), .inl hrun, ?_, ?_⟩
       ·rw [upHs_one]
        refine hR.drew.allocO hm _ ⟨cs, e, ⟨hrow, fun t h => (hj.ctype u t hcode h).symm⟩, ?_, ?_⟩
        ·rw [hn1, hxl, hcsz]; omega
        ·have e1 : cs.toList.take (xs.length * C.n u) = l.map fun b => Value.int .u8 (b.toNat : Int) := by
          rw [hn1, hxl, ← hcs]
          simp
         rw [e1, hfm]
         exact byteCells_den l
       ·simp only [Den, Env.up_same]
        refine .inr ⟨cap, cs, e, by rw [hxl]; simp, by omega, hrow, ?_⟩
        rw [hn1, hcsz]; omega
      ·trivial
    ·trivial
  ·trivial
 ·rename_i hke
  have hud := str_of hd hke
  split
  ·rename_i l hki
   have hus := str_of ht hki
   have hv := den_str hx
   exact runOK_of hR (u := .string ⟨⟨l⟩⟩) (by simp [execOp, ho, hv, convert, run_underlying hus, run_underlying hud]) (mk_str _)
  ·rename_i e u xs hki
   have hus := slice_of ht hki
   cases hte : tab e with
   | none => trivial
   | some j =>
    simp only
    split
    ·rename_i hkj
     have hue := int_of (hT e j hte) hkj
     split
     ·rename_i l hb
      exact conv_bytes (hs := hs) A hT hR ho hus hue hud hx hhs (u := u) (ys := xs) rfl trivial hb
     ·trivial
    ·trivial
  ·rename_i e c o' n off len hki
   have hus := slice_of ht hki
   cases hte : tab e with
   | none => trivial
   | some j =>
    simp only
    split
    ·rename_i hkj
     have hue := int_of (hT e j hte) hkj
     split
     ·rename_i u xs hsq
      split
      ·rename_i l hb
       rintro ⟨h1, h2⟩
       exact conv_bytes (hs := hs) A hT hR ho hus hue hud hx hhs (u := u) (ys := (xs.drop off).take len) (by simp [srcOf, hsq]) ⟨h1, h2⟩ hb
      ·trivial
     ·trivial
    ·trivial
  ·trivial
 ·rename_i hke
  have hud := uptr_of hd hke
  split
  ·rename_i t c o' hki
   have hus := ptr_of ht hki
   split
   ·split
    ·rename_i hvr
     rw [hhs c rfl] at hvr
     obtain ⟨b, cs, it, info, hb, htab, hty, hinf, hsz, h0, hsh, hlies, hcs0⟩ := var_of hT hR.sat hvr
     have hv := ptr_den hx hb
     have hrun := Lib.run_to_unsafe (P := P) w (src := src) (dst := dst) (t := t) ⟨b, 0, none⟩ hus hud hinf (by omega) hsh (by show 0 < cs.size; omega)
     exact runOK_of hR (u := .pointer (some ⟨b, 0, none⟩)) (by simp [execOp, ho, hv, hrun]) (by simp only [Den, hb])
    ·trivial
   ·trivial
  ·trivial
 ·rename_i t hke
  have hud := ptr_of hd hke
  split
  ·rename_i c o' hki
   have hus := uptr_of ht hki
   split
   ·split
    ·rename_i hvr
     rw [hhs c rfl] at hvr
     obtain ⟨b, cs, it, info, hb, htab, hty, hinf, hsz, h0, hsh, hlies, hcs0⟩ := var_of hT hR.sat hvr
     have hv := ptr_den hx hb
     have hrun := Lib.run_from_unsafe (P := P) w (src := src) (dst := dst) (u := t) ⟨b, 0, none⟩ hus hud hinf hsh hlies
     exact runOK_of hR (u := .pointer (some ⟨b, 0, none⟩)) (by simp [execOp, ho, hv, hrun]) (by simp only [Den, hb])
    ·trivial
   ·trivial
  ·trivial
 ·exact hold

/-! ### Pointers compared -/
theorem eqRes_ok (hR : Rel D B E σ H df a w) {op : BinOp} {t yt : TypeId} {ox oy : Operand} (ho : o.op = .binOp op t ox oy yt) {b : Bool}
  (hg : ∀ op : BinOp, ∃ u, (eqGuard op t ox oy (a.eval ox) (a.eval oy)).run P w = .ok u w) (h1 : (binOp .eql t (a.eval ox) (a.eval oy)).run P w = .ok (.bool b) w) (h2 : (binOp .neq t (a.eval ox) (a.eval oy)).run P w = .ok (.bool !b) w) : OutOK P D B σ H df a w o (eqRes op b) := by
 unfold eqRes
 obtain ⟨u1, g1⟩ := hg .eql
 obtain ⟨u2, g2⟩ := hg .neq
 split
 ·exact runOK_of hR (u := .bool b) (by simp [execOp, ho, h1, g1]) (mk_bool _)
 ·exact runOK_of hR (u := .bool !b) (by simp [execOp, ho, h2, g2]) (mk_bool _)
 ·trivial
theorem nilEq_ok (hT : TabOK P D tab) (hR : Rel D B E σ H df a w) {op : BinOp} {t yt : TypeId} {ox oy : Operand} (ho : o.op = .binOp op t ox oy yt) {p : Prop} (hy : a.eval oy = .slice none 0 0) (hx : ∃ ad n cap, a.eval ox = .slice ad n cap ∧ (ad = none → p)) :
  OutOK P D B σ H df a w o (nilEq tab op t p) := by
 obtain ⟨ad, n, cap, h1, h2⟩ := hx
 unfold nilEq
 cases htab : tab t with
 | none => trivial
 | some i =>
  simp only
  split
  ·rename_i e hk
   have hu := slice_of (hT t i htab) hk
   have key : ∀ d : Nat, (Op.equalIn (d + 1) t (.slice ad n cap) (.slice none 0 0)).run P w = .ok ad.isNone w := fun d => by
    cases ad <;> simp [Op.equalIn, run_underlying hu]
   have hp : ad.isNone = true → p := fun h => h2 (by simpa using h)
   split
   ·refine ⟨ad.isNone, hp, runOK_of hR (u := .bool ad.isNone) ?_ (mk_bool _)⟩
    simp only [execOp, ho, h1, hy]
    simp [eqGuard, binOp, Op.equal, Op.maxDepth, key 9999]
   ·refine ⟨ad.isNone, hp, runOK_of hR (u := .bool !ad.isNone) ?_ (mk_bool _)⟩
    simp only [execOp, ho, h1, hy]
    simp [eqGuard, binOp, Op.equal, Op.maxDepth, key 9999]
   ·trivial
  ·trivial
theorem binP_ok (A : Aux C D) (hT : TabOK P D tab) (hR : Rel D B E σ H df a w) {op : BinOp} {t yt : TypeId} {ox oy : Operand} (ho : o.op = .binOp op t ox oy yt) {hs : List (Nat × HS C)} (hhs : ∀ c, (ev σ ox).topId = some c → lk hs c = H c) :
  OutOK P D B σ H df a w o (doBinP A tab op t (ev σ ox) (ev σ oy) hs) := by
 have hx := ev_den hR ox
 have hy := ev_den hR oy
 have hold := bin_ok A hT hR ho
 generalize ev σ ox = sx at *
 generalize ev σ oy = sy at *
 unfold doBinP
 split
 ·rename_i u xs
  refine nilEq_ok hT hR ho (den_lit hy) ?_
  simp only [Den] at hx
  generalize a.eval ox = vx at hx
  cases hx with
  | dslNil _ ad cap => exact ⟨_, _, _, rfl, fun _ => rfl⟩
  | dsl => exact ⟨_, _, _, rfl, fun h => by cases h⟩
 ·rename_i c o' n off len
  refine ifLive_ok fun hl => ?_
  rw [hhs c rfl] at hl
  refine nilEq_ok hT hR ho (den_lit hy) ?_
  rcases slice_live hR.sat hl hx with ⟨h0, ⟨ad, e, _⟩ | ⟨ad, b, e, _⟩⟩ | ⟨b, cap, cs, T, _, e, _⟩
  ·exact ⟨_, _, _, e, fun _ => h0⟩
  ·exact ⟨_, _, _, e, fun _ => h0⟩
  ·exact ⟨_, _, _, e, fun h => by cases h⟩
 ·cases htab : tab t with
  | none => trivial
  | some i =>
   simp only
   split
   ·rename_i e hk
    have hu := slice_of (hT t i htab) hk
    have h1 := den_lit hx
    have h2 := den_lit hy
    have key : ∀ d : Nat, (Op.equalIn (d + 1) t (.slice none 0 0) (.slice none 0 0)).run P w = .ok true w := fun d => by
     simp [Op.equalIn, run_underlying hu]
    refine eqRes_ok hR ho (fun op => ⟨(), by rw [h1, h2]; simp [eqGuard]⟩) ?_ ?_
    ·rw [h1, h2]; simp only [binOp]; simp [Op.equal, Op.maxDepth, key 9999]
    ·rw [h1, h2]; simp only [binOp]; simp [Op.equal, Op.maxDepth, key 9999]
   ·trivial
 ·rename_i c o'
  cases htab : tab t with
  | none => trivial
  | some i =>
   simp only
   split
   ·rename_i e hk
    have hu := ptr_of (hT t i htab) hk
    refine ifLive_ok fun hl => ?_
    rw [hhs c rfl] at hl
    obtain ⟨b, hb⟩ := ptr_live hR.sat hl hx
    have h1 := ptr_den hx hb
    have h2 := den_lit hy
    have key : ∀ d : Nat, (Op.equalIn (d + 1) t (.pointer (some ⟨b, o', none⟩)) (.pointer none)).run P w = .ok false w := fun d => by
     simp [Op.equalIn, run_underlying hu]
    refine eqRes_ok hR ho (fun op => ⟨(), by rw [h1, h2]; simp [eqGuard]⟩) ?_ ?_
    ·rw [h1, h2]; simp only [binOp]; simp [Op.equal, Op.maxDepth, key 9999]
    ·rw [h1, h2]; simp only [binOp]; simp [Op.equal, Op.maxDepth, key 9999]
   ·trivial
 ·cases htab : tab t with
  | none => trivial
  | some i =>
   simp only
   split
   ·rename_i e hk
    have hu := ptr_of (hT t i htab) hk
    have h1 := den_lit hx
    have h2 := den_lit hy
    have key : ∀ d : Nat, (Op.equalIn (d + 1) t (.pointer none) (.pointer none)).run P w = .ok true w := fun d => by
     simp [Op.equalIn, run_underlying hu]
    refine eqRes_ok hR ho (fun op => ⟨(), by rw [h1, h2]; simp [eqGuard]⟩) ?_ ?_
    ·rw [h1, h2]; simp only [binOp]; simp [Op.equal, Op.maxDepth, key 9999]
    ·rw [h1, h2]; simp only [binOp]; simp [Op.equal, Op.maxDepth, key 9999]
   ·trivial
 ·rename_i c o' c' o''
  cases htab : tab t with
  | none => trivial
  | some i =>
   simp only
   split
   ·rename_i e hk
    have hu := ptr_of (hT t i htab) hk
    cases hte : tab e with
    | none => trivial
    | some j =>
     obtain ⟨info, z, f1, _⟩ := (hT e j hte).info
     simp only
     split
     ·rename_i hc
      have hc' := Nat.eq_of_beq_eq_true hc
      subst hc'
      split
      ·rename_i hc2
       have hc2' := Nat.eq_of_beq_eq_true hc2
       subst hc2'
       refine ifLive_ok fun hl => ?_
       rw [hhs c rfl] at hl
       obtain ⟨b, hb⟩ := ptr_live hR.sat hl hx
       have h1 := ptr_den hx hb
       have h2 := ptr_den hy hb
       have key : ∀ d : Nat, (Op.equalIn (d + 1) t (.pointer (some ⟨b, o', none⟩)) (.pointer (some ⟨b, o', none⟩))).run P w = .ok true w := fun d => by
        simp [Op.equalIn, run_underlying hu, sizeOf, typeInfo, f1, run_sameAddr_same]
       refine eqRes_ok hR ho (fun op => ⟨(), by rw [h1, h2]; simp [eqGuard]⟩) ?_ ?_
       ·rw [h1, h2]; simp only [binOp]; simp [Op.equal, Op.maxDepth, key 9999]
       ·rw [h1, h2]; simp only [binOp]; simp [Op.equal, Op.maxDepth, key 9999]
      ·trivial
     ·trivial
   ·trivial
 ·exact hold
end
end Go.SX

/-
 SX, part L3: full slices, copy, unsafe.String.
-/
namespace Go.SX
open Go.RowKit
variable {C : Cod}
section
variable {P : Program} {D : Codec C} {tab : Tab C} {B : Base} {E : Env} {σ : Nat → SV C} {H : Nat → HS C} {df : List Deferred} {a : Act} {w : World} {o : Oper}

theorem bounds3_run {len cap : Nat} {k k' k'' : IntKind} {x y m : Int} (h0 : 0 ≤ x) (h1 : x ≤ y) (h2 : y ≤ m) (h3 : m ≤ len) (hc : len ≤ cap) :
  (Instr.sliceBounds true len cap (some (.int k x)) (some (.int k' y)) (some (.int k'' m))).run P w = .ok (x.toNat, y.toNat, m.toNat) w := by
 have a1 : 0 ≤ m ∧ m ≤ (cap : Int) := by omega
 have a2 : 0 ≤ y ∧ y ≤ (m.toNat : Int) := by omega
 have a3 : 0 ≤ x ∧ x ≤ (y.toNat : Int) := by omega
 simp only [Instr.sliceBounds, Instr.sliceBound, asIntOf, Sem.run_bind, Sem.run_pure, Result.andThen_ok, if_pos a1, if_pos a2, if_pos a3]

theorem slice3_ok (hT : TabOK P D tab) (hR : Rel D B E σ H df a w) {m : Nat} {t : TypeId} {ox ol oh om : Operand} (ho : o.op = .slice t ox (some ol) (some oh) (some om)) {hs : List (Nat × HS C)} (hhs : ∀ c, (ev σ ox).topId = some c → lk hs c = H c)
  (hmf : H m = .fresh) : OutOK P D B σ H df a w o (doSlice3 tab t (ev σ ox) (ev σ ol) (ev σ oh) (ev σ om) hs m) := by
 have hx := ev_den hR ox
 have hl := ev_den hR ol
 have hh := ev_den hR oh
 have hm := ev_den hR om
 generalize ev σ ox = sx at *
 generalize ev σ ol = sl at *
 generalize ev σ oh = sh at *
 generalize ev σ om = sm at *
 unfold doSlice3
 cases htab : tab t with
 | none => trivial
 | some i =>
  have ht := hT t i htab
  simp only
  split
  ·rename_i e k x k' y k'' m hk
   have hu := slice_of ht hk
   have el := den_int hl
   have eh := den_int hh
   have em := den_int hm
   cases hte : tab e with
   | none => trivial
   | some j =>
    have hj := hT e j hte
    simp only
    split
    ·rename_i u xs
     split
     ·rename_i hz
      rintro h4
      simp only [zero3, Bool.and_eq_true, decide_eq_true_eq] at hz
      obtain ⟨⟨rfl, rfl⟩, rfl⟩ := hz
      simp only [Den] at hx
      have hex : ∃ ad, (execOp a.eval o).run P w = .ok (.value (.slice ad 0 0)) w := by
       generalize hxx : a.eval ox = vx at hx
       cases hx with
       | dslNil _ ad cap =>
        have hb := bounds3_run (P := P) (w := w) (len := 0) (cap := cap) (x := 0) (y := 0) (m := 0) (k := k) (k' := k') (k'' := k'') (by omega) (by omega) (by omega) (by omega) (Nat.zero_le _)
        exact ⟨ad, by simp [execOp, ho, Instr.sliceAt, run_underlying hu, Instr.slice, hxx, el, eh, em, hb, run_sizeOf hj]⟩
       | dsl _ _ b o' cap cv hF hc hcell hden =>
        have hb := bounds3_run (P := P) (w := w) (len := xs.length) (cap := cap) (x := 0) (y := 0) (m := 0) (k := k) (k' := k') (k'' := k'') (by omega) (by omega) (by omega) (by omega) hc
        exact ⟨some ⟨b, o', none⟩, by simp [execOp, ho, Instr.sliceAt, run_underlying hu, Instr.slice, hxx, el, eh, em, hb, run_sizeOf hj, Addr.add_lit]⟩
      obtain ⟨ad, hex⟩ := hex
      refine ⟨_, _, _, .inl hex, hR.virt hmf u, ?_⟩
      simp only [Den, Env.up_same]
      exact ⟨ad, rfl, by first | rfl | trivial⟩
     rintro ⟨h0, h1, h2, h3, h4⟩
     simp only [Den] at hx
     have hlen : ((xs.take y.toNat).drop x.toNat).length = y.toNat - x.toNat := by simp; omega
     generalize hxx : a.eval ox = vx at hx
     cases hx with
     | dslNil _ ad cap =>
      have hb := bounds3_run (P := P) (w := w) (len := 0) (cap := cap) (k := k) (k' := k') (k'' := k'') h0 h1 h2 (by simpa using h3) (Nat.zero_le _)
      have hx0 : x.toNat = 0 := by simp at h3; omega
      have hy0 : y.toNat = 0 := by simp at h3; omega
      have hm0 : m.toNat = 0 := by simp at h3; omega
      rw [hx0, hy0, hm0] at hb
      refine runOK_of hR (u := .slice ad 0 0) ?_ ?_
      ·simp [execOp, ho, Instr.sliceAt, run_underlying hu, Instr.slice, hxx, el, eh, em, hb, run_sizeOf hj]
      ·simp only [Den, List.take_nil, List.drop_nil]
       exact .dslNil _ _ _
     | dsl _ _ b o' cap cv hF hc hcell hden =>
      have hb := bounds3_run (P := P) (w := w) (len := xs.length) (cap := cap) (k := k) (k' := k') (k'' := k'') h0 h1 h2 h3 hc
      refine runOK_of hR (u := .slice (if m.toNat = x.toNat then some ⟨b, o', none⟩ else some ⟨b, o' + x.toNat * j.size, none⟩) (y.toNat - x.toNat) (m.toNat - x.toNat)) ?_ ?_
      ·simp [execOp, ho, Instr.sliceAt, run_underlying hu, Instr.slice, hxx, el, eh, em, hb, run_sizeOf hj, Addr.add_lit]
      ·simp only [Den]
       by_cases hcx : m.toNat = x.toNat
       ·have hnil : (xs.take y.toNat).drop x.toNat = [] := List.eq_nil_of_length_eq_zero (by rw [hlen]; omega)
        have hz : y.toNat - x.toNat = 0 := by omega
        rw [hnil, hz]
        exact .dslNil _ _ _
       ·rw [if_neg hcx, ← hlen]
        refine .dsl u _ b _ _ (fun i j => cv (x.toNat + i) j) (fun hne => hF (fun e => by rw [e] at hne; simp at hne)) (by rw [hlen]; omega) ?_ ?_
        ·intro i y' hy'' jj pv hp
         have hxi : xs[x.toNat + i]? = some y' := by
          rw [List.getElem?_drop, List.getElem?_take] at hy''
          split at hy''
          ·exact hy''
          ·cases hy''
         have := hcell _ _ hxi _ _ hp
         rw [h4]
         rw [show o' + x.toNat * C.n u + i * C.n u + jj = o' + (x.toNat + i) * C.n u + jj by rw [Nat.add_mul]; omega]
         exact this
        ·intro i y' hy'' jj pv hp
         have hxi : xs[x.toNat + i]? = some y' := by
          rw [List.getElem?_drop, List.getElem?_take] at hy''
          split at hy''
          ·exact hy''
          ·cases hy''
         exact hden _ _ hxi _ _ hp
    ·rename_i c o' n off len
     refine ifLive_ok fun hlv => ?_
     rw [hhs c rfl] at hlv
     rintro ⟨h0, h1, h2, h3, h4⟩
     rcases slice_live hR.sat hlv hx with ⟨rfl, hn⟩ | ⟨b, cap, cs, T, hb, e, hlc, hcs, hsz⟩
     ·have hb := bounds3_run (P := P) (w := w) (len := 0) (cap := 0) (k := k) (k' := k') (k'' := k'') h0 h1 h2 h3 (Nat.zero_le _)
      have hx0 : x.toNat = 0 := by omega
      have hy0 : y.toNat = 0 := by omega
      have hm0 : m.toNat = 0 := by omega
      rw [hx0, hy0, hm0] at hb
      rcases hn with ⟨ad, e, hβ⟩ | ⟨ad, b, e, hβ⟩
      ·refine runOK_of hR (u := .slice ad 0 0) ?_ ?_
       ·simp [execOp, ho, Instr.sliceAt, run_underlying hu, Instr.slice, e, el, eh, em, hb, run_sizeOf hj]
       ·simp only [Den, hβ]; exact ⟨ad, by first | rfl | trivial, by omega⟩
      ·refine runOK_of hR (u := .slice ad 0 0) ?_ ?_
       ·simp [execOp, ho, Instr.sliceAt, run_underlying hu, Instr.slice, e, el, eh, em, hb, run_sizeOf hj]
       ·simp only [Den, hβ]; exact .inl ⟨by omega, ad, rfl⟩
     ·have hbr := bounds3_run (P := P) (w := w) (len := len) (cap := cap) (k := k) (k' := k') (k'' := k'') h0 h1 h2 h3 hlc
      refine runOK_of hR (u := .slice (if m.toNat = x.toNat then some ⟨b, o' + off * n, none⟩ else some ⟨b, o' + off * n + x.toNat * j.size, none⟩) (y.toNat - x.toNat) (m.toNat - x.toNat)) ?_ ?_
      ·simp [execOp, ho, Instr.sliceAt, run_underlying hu, Instr.slice, e, el, eh, em, hbr, run_sizeOf hj, Addr.add_lit]
      ·simp only [Den, hb]
       by_cases hcx : m.toNat = x.toNat
       ·exact .inl ⟨by omega, _, by rw [show y.toNat - x.toNat = 0 by omega, show m.toNat - x.toNat = 0 by omega]⟩
       ·refine .inr ⟨m.toNat - x.toNat, cs, T, ?_, by omega, hcs, ?_⟩
        ·rw [if_neg hcx, h4, Nat.add_mul, Nat.add_assoc]
        ·have : (off + x.toNat + (m.toNat - x.toNat)) * n ≤ (off + cap) * n := Nat.mul_le_mul_right _ (by omega)
         omega
    ·trivial
  ·trivial

theorem bounds3n_run {len cap : Nat} {k' k'' : IntKind} {y m : Int} (h1 : 0 ≤ y) (h2 : y ≤ m) (h3 : m ≤ len) (hc : len ≤ cap) :
  (Instr.sliceBounds true len cap none (some (.int k' y)) (some (.int k'' m))).run P w = .ok (0, y.toNat, m.toNat) w := by
 have a1 : 0 ≤ m ∧ m ≤ (cap : Int) := by omega
 have a2 : 0 ≤ y ∧ y ≤ (m.toNat : Int) := by omega
 simp only [Instr.sliceBounds, Instr.sliceBound, asIntOf, Sem.run_bind, Sem.run_pure, Result.andThen_ok, if_pos a1, if_pos a2]
theorem full_ok (hT : TabOK P D tab) (hR : Rel D B E σ H df a w) {t : TypeId} {ox oh om : Operand} (ho : o.op = .slice t ox none (some oh) (some om)) {hs : List (Nat × HS C)} (hhs : ∀ c, (ev σ ox).topId = some c → lk hs c = H c) :
  OutOK P D B σ H df a w o (doFull tab t (ev σ ox) (ev σ oh) (ev σ om) hs) := by
 have hx := ev_den hR ox
 have hh := ev_den hR oh
 have hm := ev_den hR om
 generalize ev σ ox = sx at *
 generalize ev σ oh = sh at *
 generalize ev σ om = sm at *
 unfold doFull
 cases htab : tab t with
 | none => trivial
 | some i =>
  have ht := hT t i htab
  simp only
  split
  ·rename_i e k' y k'' m hk
   have hu := slice_of ht hk
   have eh := den_int hh
   have em := den_int hm
   cases hte : tab e with
   | none => trivial
   | some j =>
    have hj := hT e j hte
    simp only
    split
    ·rename_i u xs
     rintro ⟨h0, rfl, h3, h4⟩
     simp only [Den] at hx
     have hlen : (xs.take y.toNat).length = y.toNat := by simp; omega
     generalize hxx : a.eval ox = vx at hx
     cases hx with
     | dslNil _ ad cap =>
      have hb := bounds3n_run (P := P) (w := w) (len := 0) (cap := cap) (k' := k') (k'' := k'') h0 (Int.le_refl _) (by simpa using h3) (Nat.zero_le _)
      have hy0 : y.toNat = 0 := by simp at h3; omega
      rw [hy0] at hb
      refine runOK_of hR (u := .slice ad 0 0) ?_ ?_
      ·simp [execOp, ho, Instr.sliceAt, run_underlying hu, Instr.slice, hxx, eh, em, hb, run_sizeOf hj]
      ·simp only [Den, List.take_nil]
       exact .fds u [] ad (.dslNil _ _ _)
     | dsl _ _ b o' cap cv hF hc hcell hden =>
      have hb := bounds3n_run (P := P) (w := w) (len := xs.length) (cap := cap) (k' := k') (k'' := k'') h0 (Int.le_refl _) h3 hc
      have hrun : (execOp a.eval o).run P w = .ok (.value (.slice (some ⟨b, o', none⟩) y.toNat y.toNat)) w := by
       simp [execOp, ho, Instr.sliceAt, run_underlying hu, Instr.slice, hxx, eh, em, hb, run_sizeOf hj, Addr.add_lit]
      refine runOK_of hR (u := .slice (some ⟨b, o', none⟩) y.toNat y.toNat) hrun ?_
      simp only [Den]
      have hmem : ∀ {i : Nat} {x : C.El u}, (xs.take y.toNat)[i]? = some x → xs[i]? = some x := fun h => by
       rw [List.getElem?_take] at h
       split at h
       ·exact h
       ·cases h
      have := PDen.dsl (D := D) (w := w) (F := E.F) u (xs.take y.toNat) b o' y.toNat cv (fun hne => hF (fun e => by rw [e] at hne; simp at hne)) (by rw [hlen]; exact Nat.le_refl _) (fun i x hx => hcell i x (hmem hx)) (fun i x hx => hden i x (hmem hx))
      have h5 := PDen.fds (D := D) (w := w) (F := E.F) u (xs.take y.toNat) (some ⟨b, o', none⟩) (by rw [hlen] at this ⊢; exact this)
      rw [hlen] at h5
      exact h5
    ·rename_i c o' n off len
     refine ifLive_ok fun hlv => ?_
     rw [hhs c rfl] at hlv
     rintro ⟨h0, h2, h3, h4⟩
     rcases slice_live hR.sat hlv hx with ⟨rfl, hn⟩ | ⟨b, cap, cs, T, hb, e, hlc, hcs, hsz⟩
     ·have hb := bounds3n_run (P := P) (w := w) (len := 0) (cap := 0) (k' := k') (k'' := k'') h0 h2 h3 (Nat.zero_le _)
      have hy0 : y.toNat = 0 := by omega
      have hm0 : m.toNat = 0 := by omega
      rw [hy0, hm0] at hb
      rcases hn with ⟨ad, e, hβ⟩ | ⟨ad, b, e, hβ⟩
      ·refine runOK_of hR (u := .slice ad 0 0) ?_ ?_
       ·simp [execOp, ho, Instr.sliceAt, run_underlying hu, Instr.slice, e, eh, em, hb, run_sizeOf hj]
       ·simp only [Den, hβ]; exact ⟨ad, by first | rfl | trivial, by omega⟩
      ·refine runOK_of hR (u := .slice ad 0 0) ?_ ?_
       ·simp [execOp, ho, Instr.sliceAt, run_underlying hu, Instr.slice, e, eh, em, hb, run_sizeOf hj]
       ·simp only [Den, hβ]; exact .inl ⟨by omega, ad, rfl⟩
     ·have hbr := bounds3n_run (P := P) (w := w) (len := len) (cap := cap) (k' := k') (k'' := k'') h0 h2 h3 hlc
      refine runOK_of hR (u := .slice (some ⟨b, o' + off * n, none⟩) y.toNat m.toNat) ?_ ?_
      ·simp [execOp, ho, Instr.sliceAt, run_underlying hu, Instr.slice, e, eh, em, hbr, run_sizeOf hj, Addr.add_lit]
      ·simp only [Den, hb]
       refine .inr ⟨m.toNat, cs, T, rfl, by omega, hcs, ?_⟩
       have : (off + m.toNat) * n ≤ (off + cap) * n := Nat.mul_le_mul_right _ (by omega)
       omega
    ·trivial
  ·trivial

/-! ### A sequence within a chunk is replaced -/
/-- the chunk behind a change of the sequence at o -/
theorem putSeq_at {w' : World} {h : HS C} {b o' : Nat} {u : C.U} {xs xs' : List (C.El u)} {cs cs' : Array Value} {T : TypeId} {V' : List Value} (hsq : seqAt h o' = .some u xs) (hat : h.at D w E b) (hcs : Row w b cs T)
  (hw' : Row w' b cs' T) (hL : Later w E w' E) (hlen : xs'.length = xs.length) (hfit : o' + xs.length * C.n u ≤ cs.size) (hV : PDenL D w E.F (xs'.flatMap (D.enc u)) V')
  (hcs' : cs'.toList = cs.toList.take o' ++ V' ++ cs.toList.drop (o' + xs.length * C.n u)) : (putSeq h o' u xs').at D w' E b := by
 have hVl : V'.length = xs.length * C.n u := by rw [hV.len, hlen]
 have hto : (cs.toList.take o').length = o' := by simp; omega
 cases h with
 | fresh => cases hsq
 | dead => cases hsq
 | obj ob => cases hsq
 | rows u0 xs0 =>
  cases o' with
  | succ o' => simp [seqAt] at hsq
  | zero =>
   simp only [seqAt, Sq.some.injEq] at hsq
   obtain ⟨rfl, hx⟩ := hsq
   cases hx
   simp only [putSeq]
   obtain ⟨cs2, T2, c1, _, _⟩ := hat
   obtain ⟨rfl, rfl⟩ := hcs.inj c1.1
   refine ⟨cs', T, ⟨hw', c1.2⟩, ?_, ?_⟩
   ·rw [hlen, ← Array.length_toList, hcs']
    simp only [List.length_append, List.length_take, List.length_drop, Array.length_toList, hVl]
    omega
   ·rw [hlen, hcs', List.take_zero, List.nil_append, List.take_left' hVl]
    exact hV.mono hL.F
 | vart ty vs =>
  simp only [seqAt] at hsq
  cases hhit : hitW vs o' with
  | miss => simp [hhit] at hsq
  | cell x => simp [hhit] at hsq
  | elem u1 N xs1 k1 =>
   cases k1 with
   | succ k1 => simp [hhit] at hsq
   | zero =>
    simp [hhit] at hsq
    obtain ⟨rfl, hx1⟩ := hsq
    cases hx1
    simp only [putSeq]
    obtain ⟨cs2, T2, c1, c2⟩ := hat
    obtain ⟨rfl, rfl⟩ := hcs.inj c1.1
    cases hsa : setArr vs o' u1 xs' with
    | none => obtain ⟨_, h7⟩ := setArr_some vs o' u1 N xs1 xs' hhit; rw [h7] at hsa; cases hsa
    | some vs' =>
     simp only
     have hfin := setArr_spec vs o' u1 N xs1 xs' vs' cs.toList V' hhit hsa hlen c2 hV
     refine ⟨cs', T, ⟨hw', c1.2⟩, DenC.mono hL _ _ ?_⟩
     rw [hVl] at hfin
     rw [hcs']
     exact hfin

theorem setArr_self : ∀ (vs : List (SV C)) (o : Nat) (u : C.U) (N : Nat) (xs : List (C.El u)), hitW vs o = .elem u N xs 0 → setArr vs o u xs = some vs
 | [], o, u, N, xs, h => by simp [hitW] at h
 | x :: r, o, u, N, xs, h => by
  cases hx : x.isArr with
  | false =>
   cases o with
   | zero => rw [hitW_zero hx] at h; cases h
   | succ o =>
    rw [hitW_cons hx] at h
    rw [setArr_cons hx, setArr_self r o u N xs h]
  | true =>
   obtain ⟨v, M, ys, rfl⟩ := SV.arr_of hx
   simp only [hitW] at h
   simp only [setArr]
   cases hs : subO o (M * C.n v) with
   | some o' =>
    rw [hs] at h
    simp only at h ⊢
    rw [setArr_self r o' u N xs h]
   | none =>
    rw [hs] at h
    simp only at h ⊢
    cases h
    rfl
theorem putSeq_self {h : HS C} {o' : Nat} {u : C.U} {xs : List (C.El u)} (hsq : seqAt h o' = .some u xs) : putSeq h o' u xs = h := by
 cases h with
 | fresh => cases hsq
 | dead => cases hsq
 | obj ob => cases hsq
 | rows u0 xs0 =>
  cases o' with
  | succ o' => simp [seqAt] at hsq
  | zero =>
   simp only [seqAt, Sq.some.injEq] at hsq
   obtain ⟨rfl, hx⟩ := hsq
   cases hx; rfl
 | vart ty vs =>
  simp only [seqAt] at hsq
  cases hhit : hitW vs o' with
  | miss => simp [hhit] at hsq
  | cell x => simp [hhit] at hsq
  | elem u1 N xs1 k1 =>
   cases k1 with
   | succ k1 => simp [hhit] at hsq
   | zero =>
    simp [hhit] at hsq
    obtain ⟨rfl, hx1⟩ := hsq
    cases hx1
    simp only [putSeq, setArr_self vs o' u1 N xs1 hhit]
theorem upH_self (H : Nat → HS C) (c : Nat) : upH H c (H c) = H := by
 funext i; unfold upH; split
 ·rename_i h; rw [h]
 ·rfl

theorem copy_ok (A : Aux C D) (hT : TabOK P D tab) (hR : Rel D B E σ H df a w) {t t2 : TypeId} {od ox : Operand} (ho : o.op = .call { callee := .builtin .copy, args := #[od, ox], argTypes := #[t, t2] }) {hs : List (Nat × HS C)}
  (hhd : ∀ c, (ev σ od).topId = some c → lk hs c = H c) (hhx : ∀ c, (ev σ ox).topId = some c → lk hs c = H c) : OutOK P D B σ H df a w o (doCopy A tab t t2 (ev σ od) (ev σ ox) hs) := by
 have hdd := ev_den hR od
 have hdx := ev_den hR ox
 generalize ev σ od = sd at *
 generalize ev σ ox = sx at *
 unfold doCopy
 cases htab : tab t with
 | none => trivial
 | some i =>
  have ht := hT t i htab
  simp only
  split
  case h_2 => trivial
  rename_i e hk
  have hu := slice_of ht hk
  cases hte : tab e with
  | none => trivial
  | some j =>
   have hj := hT e j hte
   obtain ⟨ie, z, f1, f2, f3, f4, f5, f6⟩ := hj.info
   simp only
   split
   case h_2 => trivial
   rename_i c o' n off len
   split
   case h_2 => trivial
   rename_i u xs hsq
   split
   case h_2 => trivial
   rename_i p zs hsrc
   rintro ⟨hp, hn, hju, hfit⟩
   subst hn
   obtain ⟨news, hS⟩ := srcZ_ok A hT hR.sat hu hdx hhx hsrc hp (size := ie.size) (f2.trans hju)
   rw [hhd c rfl] at hsq ⊢
   have hlive : (H c).live = true := by cases hH : H c <;> rw [hH] at hsq <;> first | rfl | (simp [seqAt] at hsq)
   have hmin : Nat.min zs.length len = (zs.take len).length := by rw [List.length_take, Nat.min_comm]
   have hcopy : ∀ v w', (Builtin.copy_ #[t, t2] o.type #[a.eval od, a.eval ox]).run P w = .ok v w' → (execOp a.eval o).run P w = .ok (.value v) w' := fun v w' h => by
    simp [execOp, ho, resolve, invoke, builtin, h]
   have hfst := hS.firstN w (fun _ => rfl) (zs.take len).length (by rw [List.length_take]; omega)
   rcases slice_live hR.sat hlive hdd with ⟨rfl, hnil⟩ | ⟨b, cap, cs, T, hb, es, hlc, hcs, hsz⟩
   ·have hos : ∃ base, a.eval od = .slice base 0 0 := by
     rcases hnil with ⟨ad, e, _⟩ | ⟨ad, _, e, _⟩
     ·exact ⟨_, e⟩
     ·exact ⟨_, e⟩
    obtain ⟨base, es⟩ := hos
    have hrun : (Builtin.copy_ #[t, t2] o.type #[a.eval od, a.eval ox]).run P w = .ok (.int .i64 0) w := by
     simp only [List.take_zero, List.length_nil, Nat.zero_mul] at hfst hmin
     rw [es]
     cases base <;> simp [Builtin.copy_, run_underlying hu, hS.len, sizeOf, typeInfo, f1, hmin, hfst, storeCells, goInt]
    refine ⟨_, _, E, .inl (hcopy _ _ hrun), ?_, ?_⟩
    ·have e1 : copyTo xs zs off 0 = xs := by simp [copyTo]
     rw [upHs_one, e1, putSeq_self hsq, upH_self]
     exact hR
    ·simp only [List.take_zero, List.length_nil]; exact mk_int _ _
   ·have hn := live_ne hlive
    have hat : (H c).at D w E b := by
     rcases live_at hR.sat hn.1 hn.2 with ⟨hv, _⟩ | ⟨b', hb', h⟩
     ·rw [hb] at hv; cases hv
     ·rw [hb] at hb'; cases hb'; exact h
    have hq := seqAt_spec (o := o') hat
    rw [hsq] at hq
    obtain ⟨cs2, T2, hcs2, hsz2, hV⟩ := hq
    obtain ⟨rfl, rfl⟩ := hcs.inj hcs2
    have hyl : (zs.take len).length ≤ len := by rw [List.length_take]; omega
    obtain ⟨N, hN⟩ : ∃ N, news.take ((zs.take len).length * ie.size) = N := ⟨_, rfl⟩
    rw [hN] at hfst
    have hNd : PDenL D w E.F ((zs.take len).flatMap (D.enc u)) N := by
     have h1 := hS.den.take ((zs.take len).length * C.n u)
     rw [flatMap_take'] at h1
     rw [← hN, f2, hju]; exact h1
    have hNl : N.length = (zs.take len).length * C.n u := hNd.len
    have hkn : ((zs.take len).length + off) * C.n u ≤ xs.length * C.n u := Nat.mul_le_mul_right _ (by omega)
    rw [Nat.add_mul] at hkn
    have hst := run_storeCells_row (P := P) (o := o' + off * C.n u) N 0 cs w hcs (by rw [hNl]; omega) hNd.oneCell
    simp only [Nat.add_zero] at hst
    obtain ⟨cs', hcs'⟩ : ∃ cs', (cs.toList.take (o' + off * C.n u) ++ N ++ cs.toList.drop (o' + off * C.n u + N.length)).toArray = cs' := ⟨_, rfl⟩
    rw [hcs'] at hst
    have hsize : cs'.size = cs.size := by
     rw [← hcs']
     simp only [List.size_toArray, List.length_append, List.length_take, List.length_drop, Array.length_toList]
     omega
    have hrun : (Builtin.copy_ #[t, t2] o.type #[a.eval od, a.eval ox]).run P w = .ok (.int .i64 (zs.take len).length) (w.setRow b cs') := by
     rw [es]
     have hf2 := hfst
     rw [List.length_take] at hf2
     simp [Builtin.copy_, run_underlying hu, hS.len, sizeOf, typeInfo, f1, hmin, hf2, hst, goInt]
    refine ⟨_, _, E, .inl (hcopy _ _ hrun), ?_, mk_int _ _⟩
    rw [upHs_one]
    refine hR.setRow hb hcs hsize fun hL => ?_
    obtain ⟨V, hVd⟩ : ∃ V, (cs.toList.drop o').take (xs.length * C.n u) = V := ⟨_, rfl⟩
    rw [hVd] at hV
    have hVl : V.length = xs.length * C.n u := hV.len
    refine putSeq_at (V' := V.take (off * C.n u) ++ N ++ V.drop (off * C.n u + N.length)) hsq hat hcs (hcs.set hsize) hL ?_ hsz2 ?_ ?_
    ·unfold copyTo
     simp only [List.length_append, List.length_take, List.length_drop]
     simp only [List.length_take] at hyl
     omega
    ·unfold copyTo
     rw [List.flatMap_append, List.flatMap_append, flatMap_take, flatMap_drop, Nat.add_mul, ← hNl]
     exact ((hV.take _).append hNd).append (hV.drop _)
    ·rw [← hcs', ← hVd]
     simp only [List.toList_toArray]
     have g1 : cs.toList.take (o' + off * C.n u) = cs.toList.take o' ++ ((cs.toList.drop o').take (xs.length * C.n u)).take (off * C.n u) := by
      rw [List.take_add, List.take_take, Nat.min_eq_left (by omega)]
     have g2 : cs.toList.drop (o' + off * C.n u + N.length) = ((cs.toList.drop o').take (xs.length * C.n u)).drop (off * C.n u + N.length) ++ cs.toList.drop (o' + xs.length * C.n u) := by
      rw [List.drop_take]
      have g3 : cs.toList.drop (o' + xs.length * C.n u) = ((cs.toList.drop o').drop (off * C.n u + N.length)).drop (xs.length * C.n u - (off * C.n u + N.length)) := by
       rw [List.drop_drop, List.drop_drop]; congr 1; omega
      rw [g3, List.take_append_drop, List.drop_drop]
      congr 1; omega
     rw [g1, g2]
     simp

theorem zf_cons {x : PV C} {m : List (PV C)} {v : Value} {vs : List Value} (h : PDenL D w E.F m vs) (hx : PDen D w E.F x v) : PDenL D w E.F (x :: m) (v :: vs) := by
 refine ⟨by simp [h.1], fun j pv v' hp hv => ?_⟩
 cases j with
 | zero => simp at hp hv; subst hp; subst hv; exact hx
 | succ j => exact h.2 j pv v' (by simpa using hp) (by simpa using hv)
theorem zFit_den : ∀ (l : List (SV C)) (m : List (PV C)) (vs : List Value), zFit l m = true → DenC D w E l vs → PDenL D w E.F m vs
 | l, m, vs, h, hd => by
  unfold zFit at h
  split at h
  ·simp only [DenC] at hd; subst hd; exact ⟨rfl, fun j pv v hp _ => by simp at hp⟩
  all_goals try (cases h; done)
  all_goals (
   simp only [DenC] at hd
   obtain ⟨v0, v2, rfl, h1, h2, h3⟩ := hd)
  ·exact zf_cons (zFit_den _ _ _ h h3) (by rw [den_lit h2]; exact .dslNil _ _ _)
  ·split at h
   ·rename_i e _
    split at h
    ·rename_i e2 _
     subst e; subst e2
     exact zf_cons (zFit_den _ _ _ h h3) (by rw [den_int h2]; exact .int _ _)
    ·cases h
   ·cases h
  ·split at h
   ·rename_i e _
    subst e
    exact zf_cons (zFit_den _ _ _ h h3) (by rw [den_bool h2]; exact .bool _)
   ·cases h
  ·exact zf_cons (zFit_den _ _ _ h h3) (by rw [den_str h2]; exact .str _)
theorem zeros_den {u : C.U} {x : C.El u} {z : Array Value} (hz : PDenL D w E.F (D.enc u x) z.toList) (n : Nat) : PDenL D w E.F ((List.replicate n x).flatMap (D.enc u)) (Builtin.zeroCells z n).toList := by
 have hzs : z.size = C.n u := by rw [← D.enc_len u x, hz.1, Array.length_toList]
 have hn := D.n_pos u
 refine ⟨by rw [flatMap_length]; simp [Builtin.zeroCells, hzs], fun q pv v hp hv => ?_⟩
 have hq : q < n * C.n u := by
  have := (List.getElem?_eq_some_iff.1 hp).1
  rw [flatMap_length] at this
  simpa using this
 rw [flatMap_replicate u _ _ _ hq] at hp
 have hmod : q % C.n u < z.size := by rw [hzs]; exact Nat.mod_lt _ hn
 have hv' : v = z[q % C.n u] := by
  simp [Builtin.zeroCells, hzs, hq] at hv
  rw [← hv, getElem!_pos z (q % C.n u) hmod]
 subst hv'
 exact hz.2 _ _ _ hp (by simp [hmod])
theorem clear_ok (hT : TabOK P D tab) (hR : Rel D B E σ H df a w) {t : TypeId} {od : Operand} (ho : o.op = .call { callee := .builtin .clear, args := #[od], argTypes := #[t] }) {hs : List (Nat × HS C)}
  (hhd : ∀ c, (ev σ od).topId = some c → lk hs c = H c) : OutOK P D B σ H df a w o (doClear D tab t (ev σ od) hs) := by
 have hdd := ev_den hR od
 generalize ev σ od = sd at *
 unfold doClear
 cases htab : tab t with
 | none => trivial
 | some i =>
  have ht := hT t i htab
  simp only
  split
  case h_2 => trivial
  rename_i e hk
  have hu := slice_of ht hk
  cases hte : tab e with
  | none => trivial
  | some j =>
   have hj := hT e j hte
   obtain ⟨ie, z, f1, f2, f3, f4, f5, f6⟩ := hj.info
   simp only
   split
   case h_2 => trivial
   rename_i c o' n off len
   split
   case h_2 => trivial
   rename_i u xs hsq
   split
   case h_2 => trivial
   rename_i hfitz
   rintro ⟨hn, hju, hfit⟩
   subst hn
   rw [hhd c rfl] at hsq ⊢
   have hlive : (H c).live = true := by cases hH : H c <;> rw [hH] at hsq <;> first | rfl | (simp [seqAt] at hsq)
   obtain ⟨zs, hzs⟩ : ∃ zs, List.replicate len (C.dflt u) = zs := ⟨_, rfl⟩
   have hzl : zs.take len = zs := List.take_of_length_le (by rw [← hzs]; simp)
   have hzlen : zs.length = len := by rw [← hzs]; simp
   have hcl : ∀ v w', (Builtin.clear_ #[t] o.type #[a.eval od]).run P w = .ok v w' → (execOp a.eval o).run P w = .ok (.value v) w' := fun v w' h => by
    simp [execOp, ho, resolve, invoke, builtin, h]
   rw [hzs]
   have hnone : len = 0 → (∃ base cap, a.eval od = .slice base 0 cap) → RunOK P D B σ H df a w o (.tuple []) [(c, putSeq (H c) o' u (copyTo xs zs off len))] := by
    rintro rfl ⟨base, cap, es⟩
    have hrun : (Builtin.clear_ #[t] o.type #[a.eval od]).run P w = .ok (.tuple #[]) w := by
     rw [es]
     cases base <;> simp [Builtin.clear_, run_underlying hu]
    refine ⟨_, _, E, .inl (hcl _ _ hrun), ?_, ?_⟩
    ·have e1 : copyTo xs zs off 0 = xs := by simp [copyTo]
     rw [upHs_one, e1, putSeq_self hsq, upH_self]
     exact hR
    ·simp only [Den, DenA]; exact ⟨_, rfl, rfl⟩
   rcases slice_live hR.sat hlive hdd with ⟨h0, hnil⟩ | ⟨b, cap, cs, T, hb, es, hlc, hcs, hsz⟩
   ·refine hnone h0 ?_
    rcases hnil with ⟨ad, e, _⟩ | ⟨ad, _, e, _⟩
    ·exact ⟨_, _, e⟩
    ·exact ⟨_, _, e⟩
   rcases Nat.eq_zero_or_pos len with h0 | hpos
   ·exact hnone h0 ⟨_, _, by rw [es, h0]⟩
   ·have hn := live_ne hlive
    have hat : (H c).at D w E b := by
     rcases live_at hR.sat hn.1 hn.2 with ⟨hv, _⟩ | ⟨b', hb', h⟩
     ·rw [hb] at hv; cases hv
     ·rw [hb] at hb'; cases hb'; exact h
    have hq := seqAt_spec (o := o') hat
    rw [hsq] at hq
    obtain ⟨cs2, T2, hcs2, hsz2, hV⟩ := hq
    obtain ⟨rfl, rfl⟩ := hcs.inj hcs2
    have hyl : (zs.take len).length ≤ len := by rw [List.length_take]; omega
    obtain ⟨N, hN⟩ : ∃ N, (Builtin.zeroCells z.cells len).toList = N := ⟨_, rfl⟩
    have hNd : PDenL D w E.F ((zs.take len).flatMap (D.enc u)) N := by
     rw [hzl, ← hzs, ← hN]
     exact zeros_den (zFit_den _ _ _ hfitz (f6 w E)) len
    have hNl : N.length = (zs.take len).length * C.n u := hNd.len
    have hkn : ((zs.take len).length + off) * C.n u ≤ xs.length * C.n u := Nat.mul_le_mul_right _ (by omega)
    rw [Nat.add_mul] at hkn
    have hst := run_storeCells_row (P := P) (o := o' + off * C.n u) N 0 cs w hcs (by rw [hNl]; omega) hNd.oneCell
    simp only [Nat.add_zero] at hst
    obtain ⟨cs', hcs'⟩ : ∃ cs', (cs.toList.take (o' + off * C.n u) ++ N ++ cs.toList.drop (o' + off * C.n u + N.length)).toArray = cs' := ⟨_, rfl⟩
    rw [hcs'] at hst
    have hsize : cs'.size = cs.size := by
     rw [← hcs']
     simp only [List.size_toArray, List.length_append, List.length_take, List.length_drop, Array.length_toList]
     omega
    have hrun : (Builtin.clear_ #[t] o.type #[a.eval od]).run P w = .ok (.tuple #[]) (w.setRow b cs') := by
     rw [es]
     obtain ⟨m, hm⟩ : ∃ m, len = m + 1 := ⟨len - 1, by omega⟩
     rw [hm] at hN ⊢
     simp [Builtin.clear_, run_underlying hu, zeroValue, typeInfo, f1, f4, hN, hst, Result.andThen]
    refine ⟨_, _, E, .inl (hcl _ _ hrun), ?_, by simp only [Den, DenA]; exact ⟨_, rfl, rfl⟩⟩
    rw [upHs_one]
    refine hR.setRow hb hcs hsize fun hL => ?_
    obtain ⟨V, hVd⟩ : ∃ V, (cs.toList.drop o').take (xs.length * C.n u) = V := ⟨_, rfl⟩
    rw [hVd] at hV
    have hVl : V.length = xs.length * C.n u := hV.len
    refine putSeq_at (V' := V.take (off * C.n u) ++ N ++ V.drop (off * C.n u + N.length)) hsq hat hcs (hcs.set hsize) hL ?_ hsz2 ?_ ?_
    ·unfold copyTo
     simp only [List.length_append, List.length_take, List.length_drop]
     simp only [List.length_take] at hyl
     omega
    ·unfold copyTo
     rw [List.flatMap_append, List.flatMap_append, flatMap_take, flatMap_drop, Nat.add_mul, ← hNl]
     exact ((hV.take _).append hNd).append (hV.drop _)
    ·rw [← hcs', ← hVd]
     simp only [List.toList_toArray]
     have g1 : cs.toList.take (o' + off * C.n u) = cs.toList.take o' ++ ((cs.toList.drop o').take (xs.length * C.n u)).take (off * C.n u) := by
      rw [List.take_add, List.take_take, Nat.min_eq_left (by omega)]
     have g2 : cs.toList.drop (o' + off * C.n u + N.length) = ((cs.toList.drop o').take (xs.length * C.n u)).drop (off * C.n u + N.length) ++ cs.toList.drop (o' + xs.length * C.n u) := by
      rw [List.drop_take]
      have g3 : cs.toList.drop (o' + xs.length * C.n u) = ((cs.toList.drop o').drop (off * C.n u + N.length)).drop (xs.length * C.n u - (off * C.n u + N.length)) := by
       rw [List.drop_drop, List.drop_drop]; congr 1; omega
      rw [g3, List.take_append_drop, List.drop_drop]
      congr 1; omega
     rw [g1, g2]
     simp

/-! ### unsafe.SliceData, unsafe.String, cap -/
theorem sliceData_ok (hR : Rel D B E σ H df a w) {tys : Array TypeId} {ox : Operand} (ho : o.op = .call { callee := .builtin .unsafeSliceData, args := #[ox], argTypes := tys }) {hs : List (Nat × HS C)} (hhs : ∀ c, (ev σ ox).topId = some c → lk hs c = H c) :
  OutOK P D B σ H df a w o (doSliceData (ev σ ox) hs) := by
 have hx := ev_den hR ox
 generalize ev σ ox = sx at *
 unfold doSliceData
 split
 ·have e := den_lit hx
  have hrun := Lib.run_unsafeSliceData_nil (P := P) w tys o.type 0 0
  exact runOK_of hR (u := .pointer none) (by simp [execOp, ho, resolve, invoke, builtin, e, hrun]) (by simp only [Den]; exact .lit _ rfl)
 ·rename_i c o' n off len
  refine ifLive_ok fun hl => ?_
  rw [hhs c rfl] at hl
  intro h0
  rcases slice_live hR.sat hl hx with ⟨rfl, _⟩ | ⟨b, cap, cs, T, hb, e, hlc, hcs, hsz⟩
  ·omega
  ·have hrun := Lib.run_unsafeSliceData_row (P := P) w tys o.type ⟨b, o' + off * n, none⟩ len cap (by omega)
   refine runOK_of hR (u := .pointer (some ⟨b, o' + off * n, none⟩)) (by simp [execOp, ho, resolve, invoke, builtin, e, hrun]) ?_
   simp only [Den, hb, Nat.add_zero]
 ·trivial

theorem cap_ok (hT : TabOK P D tab) (hR : Rel D B E σ H df a w) {t : TypeId} {ox : Operand} (ho : o.op = .call { callee := .builtin .cap, args := #[ox], argTypes := #[t] }) : OutOK P D B σ H df a w o (doCap tab t (ev σ ox)) := by
 have hx := ev_den hR ox
 generalize ev σ ox = sx at *
 unfold doCap
 cases htab : tab t with
 | none => trivial
 | some i =>
  have ht := hT t i htab
  simp only
  split
  ·rename_i e hk
   have hu := slice_of ht hk
   have ex := den_lit hx
   exact runOK_of hR (u := .int .i64 0) (by simp [execOp, ho, resolve, invoke, builtin, ex, Builtin.cap_, run_underlying hu, goInt]) (mk_int _ _)
  ·rename_i n e hk
   have hu := arr_of ht hk
   exact runOK_of hR (u := .int .i64 n) (by simp [execOp, ho, resolve, invoke, builtin, Builtin.cap_, run_underlying hu, goInt]) (mk_int _ _)
  ·trivial

theorem run_loadBytesN : ∀ (ns : List Int) (ad : Addr) (acc : ByteArray), (∀ j v, (ns.map (Value.int .u8))[j]? = some v → w.cell? (ad.add j) = some v) →
  (loadBytes ad acc ns.length).run P w = .ok ⟨⟨acc.data.toList ++ ns.map fun n => UInt8.ofNat n.toNat⟩⟩ w
 | [], ad, acc, _ => by obtain ⟨⟨l⟩⟩ := acc; simp [loadBytes]
 | n :: ns, ad, acc, h => by
  have h0 : w.cell? ad = some (.int .u8 n) := by
   have := h 0 (.int .u8 n) rfl
   simpa [Addr.add] using this
  have ih := run_loadBytesN ns (ad.add 1) (acc.push n.toNat.toUInt8) (fun j v hv => by
   have := h (j + 1) v (by simpa using hv)
   have e : (ad.add 1).add j = ad.add (j + 1) := by
    unfold Addr.add
    by_cases hj : j = 0
    ·subst hj; simp
    ·simp [hj]; omega
   rw [e]; exact this)
  simp only [List.length_cons, loadBytes, Sem.run_bind, run_load, h0, Result.andThen]
  rw [ih]
  congr 1
  apply ByteArray.ext
  simp [ByteArray.push]

/-- a block that is given up is frozen -/
theorem Rel.frost (h : Rel D B E σ H df a w) {c b : Nat} (hb : E.β c = .loc b) (ad : Addr) (had : ad.block = b) (n : Nat) : Rel D B (E.up c .dead) σ (upH H c .dead) df a (w.freeze ad n) := by
 have hk := h.kill c
 by_cases hn : n = 0
 ·unfold World.freeze; rw [if_pos hn]; exact hk
 have hoth : ∀ k, k ≠ b → (w.freeze ad n).heap[k]? = w.heap[k]? := fun k hkb => by
  unfold World.freeze
  rw [if_neg hn]
  simp only [Array.getElem?_modify]
  rw [if_neg (by rw [had]; exact Ne.symm hkb)]
 have hsize : (w.freeze ad n).heap.size = w.heap.size := by unfold World.freeze; rw [if_neg hn]; simp
 have hown := h.sat.own c b hb
 have hnat : ∀ i k, (E.up c .dead).β i = .loc k → k ≠ b := fun i k e ek => by
  subst ek
  by_cases hi : i = c
  ·subst hi; rw [Env.up_same] at e; cases e
  ·rw [Env.up_other E _ hi] at e
   exact hi (h.sat.inj i c k e hb)
 have hFb : ∀ k, (E.up c .dead).F k → k ≠ b := fun k hF e => hown.2 (e ▸ hF)
 have hL : Later w (E.up c .dead) (w.freeze ad n) (E.up c .dead) :=
  ⟨fun k hF => ⟨hF, hoth k (hFb k hF)⟩, fun _ => .inl rfl, fun i k e _ cs T hr => ⟨cs, T, Row.of (hoth k (hnat i k e)) hr, rfl⟩⟩
 refine hk.later hL ⟨fun i => HS.ok_mono hL (hk.sat.ok i) fun k e => hoth k (hnat i k e), fun i k e => ?_, hk.sat.inj, fun k hF => ?_, hk.sat.glob.mono hL.F⟩ ?_
 ·have := hk.sat.own i k e; rw [hsize]; exact this
 ·have := hk.sat.F k hF; rw [hsize]; exact this
 ·have hO := h.fr.newO c b hb
  have hos : (w.freeze ad n).os = w.os ∧ (w.freeze ad n).tape = w.tape ∧ (w.freeze ad n).output = w.output := by
   unfold World.freeze; rw [if_neg hn]; exact ⟨rfl, rfl, rfl⟩
  refine ⟨hos.1.trans hk.fr.os, hos.2.1.trans hk.fr.tape, hos.2.2.trans hk.fr.output, by rw [hsize]; exact hk.fr.size, fun k hlt ho => ?_, hk.fr.late.trans hL, hk.fr.newF, hk.fr.newO⟩
  refine (hoth k fun e => ?_).trans (hk.fr.same k hlt ho)
  subst e
  rcases hO with h1 | h1
  ·exact ho h1
  ·omega

theorem unsafeString_ok (A : Aux C D) (hT : TabOK P D tab) (hR : Rel D B E σ H df a w) {t t2 : TypeId} {ox on : Operand} (ho : o.op = .call { callee := .builtin .unsafeString, args := #[ox, on], argTypes := #[t, t2] }) {hs : List (Nat × HS C)} (hhs : ∀ c, (ev σ ox).topId = some c → lk hs c = H c) :
  OutOK P D B σ H df a w o (doUnsafeString A tab t (ev σ ox) (ev σ on) hs) := by
 have hx := ev_den hR ox
 have hn := ev_den hR on
 generalize ev σ ox = sx at *
 generalize ev σ on = sn at *
 unfold doUnsafeString
 split
 case h_2 => trivial
 rename_i k len
 split
 case h_2 => trivial
 have en := den_int hn
 split
 ·rintro rfl
  have ex := den_lit hx
  have hrun := Lib.run_unsafeString_none (P := P) w t t2 o.type none
  exact runOK_of hR (u := .string .empty) (by simp [execOp, ho, resolve, invoke, builtin, ex, en, hrun]) (mk_str [])
 ·rename_i c o' n' off f
  cases htab : tab t with
  | none => trivial
  | some i =>
   simp only
   split
   case h_2 => trivial
   rename_i e hk
   have hu := ptr_of (hT t i htab) hk
   cases hte : tab e with
   | none => trivial
   | some j =>
    simp only
    split
    case h_2 => trivial
    rename_i u xs hlk
    cases hty : C.ty u with
    | none => trivial
    | some e' =>
     simp only
     split
     case h_2 => trivial
     rename_i hbe
     have hee := Nat.eq_of_beq_eq_true hbe
     subst hee
     split
     case h_2 => trivial
     rename_i l hbts
     rintro ⟨h0, h1, h2, h3⟩
     have hH : H c = .rows u xs := by rw [← hhs c rfl]; exact hlk
     obtain ⟨hn1, ns, g1, rfl⟩ := A.toBytes_ok _ _ _ hbts
     have hlive : (H c).live = true := by rw [hH]; rfl
     obtain ⟨b, hb⟩ := eptr_live hR.sat hlive hx
     have ex := eptr_den hx hb
     have hat : (H c).at D w E b := by
      have := hR.sat.ok c
      rw [hb] at this; exact this
     rw [hH] at hat
     obtain ⟨cs, T, ⟨hrow, hTe⟩, hsz, hV⟩ := hat
     have hT' := hTe e' hty
     subst hT'
     obtain ⟨z, hz, hth⟩ := hrow
     have hnl : ns.length = len.toNat := by
      have := congrArg List.length g1
      rw [flatMap_length, hn1] at this
      simp at this
      omega
     have hcells : ∀ j v, (ns.map (Value.int .u8))[j]? = some v → w.cell? ((⟨b, 0, none⟩ : Addr).add j) = some v := by
      have hV2 := hV.take (len.toNat * C.n u)
      rw [← flatMap_take, g1] at hV2
      have := news_bytes hV2 rfl
      intro j v hv
      rw [← this] at hv
      rw [Addr.add_lit, Nat.zero_add, cell_of_row w b j cs T z hz]
      rw [List.getElem?_take] at hv
      split at hv
      ·rw [List.getElem?_take] at hv
       split at hv
       ·simpa using hv
       ·cases hv
      ·cases hv
     obtain ⟨info, zz, f1, f2, _⟩ := (hT T j hte).info
     have hcof : P.cellsOf T = 1 := by simp [Program.cellsOf, f1, f2, h2]
     have hsh : w.shape? b = some (T, cs.size) := by unfold World.shape?; rw [hz]
     have hlies := Lib.liesAt_bytes (P := P) hcof (cs.size / P.cellsOf T) ns.length (by rw [hcof]; rw [hn1] at hsz; simp; omega)
     have hlb := run_loadBytesN (P := P) (w := w) ns ⟨b, 0, none⟩ .empty hcells
     have hlen' : len = (ns.length : Int) := by omega
     have hns0 : ns.length ≠ 0 := by omega
     have hns1 : ¬ (ns.length : Int) < 0 := by omega
     have hns2 : ¬ (9223372036854775807 : Int) < (ns.length : Int) := by omega
     have hmax : IntKind.i64.max = 9223372036854775807 := rfl
     have hrun : (Builtin.unsafeString_ #[t, t2] o.type #[.pointer (some ⟨b, 0, none⟩), .int .i64 ns.length]).run P w = .ok (.string ⟨⟨ns.map fun n => UInt8.ofNat n.toNat⟩⟩) (w.freeze ⟨b, 0, none⟩ ns.length) := by
      have e0 : (ByteArray.empty.data.toList ++ ns.map fun n => UInt8.ofNat n.toNat) = ns.map fun n => UInt8.ofNat n.toNat := by simp
      rw [e0] at hlb
      obtain ⟨s1, s2, s3, hdef⟩ : ∃ s1 s2 s3, Builtin.unsafeString_ #[t, t2] o.type #[.pointer (some ⟨b, 0, none⟩), .int .i64 ns.length] = (do
        let n ← asInt (.int .i64 ns.length)
        if n < 0 then runtimePanic (.error s1)
        if n > IntKind.i64.max then unsupported (.unsafePointer s2)
        if n = 0 then pure (.string .empty)
        else if ← variablesAt ⟨b, 0, none⟩ (← elemOf t) n.toNat then do
         let s ← loadBytes ⟨b, 0, none⟩ .empty n.toNat
         freeze ⟨b, 0, none⟩ n.toNat
         pure (.string s)
        else unsupported (.unsafePointer s3)) := ⟨_, _, _, rfl⟩
      rw [hdef]
      simp [asInt, asIntOf, hmax, hns2, hns1, hns0, variablesAt, hsh, elemOf, run_underlying hu, hlies, hlb]
     refine ⟨.string ⟨⟨ns.map fun n => UInt8.ofNat n.toNat⟩⟩, w.freeze ⟨b, 0, none⟩ ns.length, E.up c .dead, .inl ?_, ?_, mk_str _⟩
     ·simp only [Nat.zero_mul, Nat.add_zero, Nat.zero_add] at ex
      simp [execOp, ho, resolve, invoke, builtin, ex, en, hlen', hrun]
     ·rw [upHs_one]
      exact hR.frost hb _ rfl _
 ·trivial
end
end Go.SX

/-
 SX, part Mp: maps whose keys are integers or strings.
-/
namespace Go.SX
open Go.RowKit Go.MapKept
variable {C : Cod}
section
variable {P : Program} {D : Codec C} {tab : Tab C} {B : Base} {E : Env} {σ : Nat → SV C} {H : Nat → HS C} {df : List Deferred} {a : Act} {w : World} {o : Oper}

mutual
theorem valV_den : ∀ (x : SV C) (v u : Value), valV x = some v → Den D w E x u → u = v
 | .p (.int k n), v, u, h, hd => by simp only [valV, Option.some.injEq] at h; subst h; exact den_int hd
 | .p (.bool b), v, u, h, hd => by simp only [valV, Option.some.injEq] at h; subst h; exact den_bool hd
 | .p (.str l), v, u, h, hd => by simp only [valV, Option.some.injEq] at h; subst h; exact den_str hd
 | .p (.lit z), v, u, h, hd => by simp only [valV, Option.some.injEq] at h; subst h; exact den_lit hd
 | .p (.dsl _ _), v, u, h, hd => by simp [valV] at h
 | .p (.fds _ _), v, u, h, hd => by simp [valV] at h
 | .fn f [] [], v, u, h, hd => by
  simp only [valV, Option.some.injEq] at h; subst h
  simp only [Den, DenA] at hd
  obtain ⟨xs, ys, e, h1, h2⟩ := hd
  rw [e]
  congr 1
  ·exact Array.toList_inj.1 h1
  ·exact Array.toList_inj.1 h2
 | .fn f (_ :: _) _, v, u, h, hd => by simp [valV] at h
 | .fn f [] (_ :: _), v, u, h, hd => by simp [valV] at h
 | .agg vs, v, u, h, hd => by
  simp only [valV] at h
  cases hv : valVs vs with
  | none => simp [hv] at h
  | some l =>
   simp only [hv, Option.some.injEq] at h; subst h
   simp only [Den] at hd
   obtain ⟨cs, e, h1⟩ := hd
   rw [e, ← valVs_den vs l _ hv h1]
 | .any, v, u, h, hd => by simp [valV] at h
 | .ptr _ _, v, u, h, hd => by simp [valV] at h
 | .eptr _ _ _ _ _, v, u, h, hd => by simp [valV] at h
 | .dptr _ _, v, u, h, hd => by simp [valV] at h
 | .slice _ _ _ _ _, v, u, h, hd => by simp [valV] at h
 | .arr _ _ _, v, u, h, hd => by simp [valV] at h
 | .iface _ _, v, u, h, hd => by simp [valV] at h
 | .tuple _, v, u, h, hd => by simp [valV] at h
 | .yieldv _, v, u, h, hd => by simp [valV] at h
 | .mapp _, v, u, h, hd => by simp [valV] at h
theorem valVs_den : ∀ (l : List (SV C)) (m us : List Value), valVs l = some m → DenC D w E l us → us = m
 | [], m, us, h, hd => by simp only [valVs, Option.some.injEq] at h; subst h; simpa only [DenC] using hd
 | x :: l, m, us, h, hd => by
  have hx : x.isArr = false := by
   cases hx : x.isArr with
   | false => rfl
   | true => obtain ⟨u, N, xs, rfl⟩ := SV.arr_of hx; simp [valVs] at h
  rw [DenC_cons hx] at hd
  obtain ⟨v, v2, rfl, _, h2, h3⟩ := hd
  have hh : valVs (x :: l) = (match valV x with | some v => (match valVs l with | some r => some (v :: r) | none => none) | none => none) := by
   cases x <;> first | rfl | simp [SV.isArr] at hx
  rw [hh] at h
  cases hv : valV x with
  | none => simp [hv] at h
  | some y =>
   cases hl : valVs l with
   | none => simp [hv, hl] at h
   | some r =>
    simp only [hv, hl, Option.some.injEq] at h; subst h
    rw [valV_den x y v hv h2, valVs_den l r v2 hl h3]
end
theorem keyV_den {q : CK} {x : SV C} {v u : Value} (h : keyV q x = some v) (hd : Den D w E x u) : u = v ∧ IsKey (ckDesc q) v := by
 unfold keyV at h
 split at h
 ·split at h
  ·rename_i hk
   injection h with h; subst h; subst hk
   exact ⟨den_int hd, by simp [IsKey, ckDesc]⟩
  ·cases h
 ·injection h with h; subst h
  exact ⟨den_str hd, by simp [IsKey, ckDesc]⟩
 ·cases h
theorem map_of {t : TypeId} {i : TI C} (ht : TyOK P D t i) {q : CK} {e : TypeId} (hk : i.kind = .map q e) : ∃ kt, P.underlying t = some (.map kt e) ∧ P.underlying kt = some (ckDesc q) := by
 obtain ⟨d, hu, h⟩ := ht.und
 rw [hk] at h
 obtain ⟨kt, rfl, h2⟩ := h
 exact ⟨kt, hu, h2⟩
theorem mapp_at (hs : Sat D w E H) {c : Nat} {es : Array MapEntry} {clk : Nat} (hc : H c = .obj (.map es clk)) {v : Value} (hd : Den D w E (.mapp c) v) : ∃ b, E.β c = .loc b ∧ v = .map (some b) ∧ w.heap[b]? = some (.map es clk) := by
 rcases live_at hs (c := c) (by rw [hc]; simp) (by rw [hc]; simp) with ⟨_, u, h⟩ | ⟨b, hb, hat⟩
 ·rw [hc] at h; cases h
 ·rw [hc] at hat
  simp only [Den, hb] at hd
  exact ⟨b, hb, hd, hat.1⟩
def lookV (cm : Bool) (z : Value) : Option (Nat × Value) → Value
 | some (_, v) => match cm with
  | true => .tuple #[v, .bool true]
  | false => v
 | none => match cm with
  | true => .tuple #[z, .bool false]
  | false => z
theorem makeMap_ok (hR : Rel D B E σ H df a w) {m : Nat} (hm : H m = .fresh) {t : TypeId} (ho : o.op = .makeMap t none) : OutOK P D B σ H df a w o (.mem (.mapp m) [(m, .obj (.map #[] 0))]) := by
 refine ⟨.map (some w.heap.size), w.alloc (.map #[] 0), E.up m (.loc w.heap.size), .inl ?_, ?_, ?_⟩
 ·simp only [execOp, ho]; rfl
 ·rw [upHs_one]
  exact hR.allocO hm _ ⟨heap_alloc_new w _, fun _ _ _ => by simp⟩
 ·simp only [Den, Env.up_same]
theorem lookup_ok (hT : TabOK P D tab) (hR : Rel D B E σ H df a w) {t : TypeId} {ox ok : Operand} {cm : Bool} (ho : o.op = .lookup t ox ok cm) {hs : List (Nat × HS C)} (hhs : ∀ c, (ev σ ox).topId = some c → lk hs c = H c) :
  OutOK P D B σ H df a w o (doLookup tab t (ev σ ox) (ev σ ok) cm hs) := by
 unfold doLookup
 split
 ·trivial
 ·rename_i i hi
  split
  ·rename_i q e hk
   obtain ⟨kt, hu, hu2⟩ := map_of (hT t i hi) hk
   split
   ·rename_i c hx
    split
    ·rename_i es clk hc
     split
     ·rename_i kv hkv
      split
      ·rename_i j hj
       intro r hr
       have hlk := hhs c (by rw [hx]; rfl)
       rw [hc] at hlk
       have hdx := ev_den hR ox
       rw [hx] at hdx
       obtain ⟨b, hb, ev1, hob⟩ := mapp_at hR.sat hlk.symm hdx
       obtain ⟨ek, hik⟩ := keyV_den hkv (ev_den hR ok)
       have hres : ∀ z, (zeroOf j = .any ∨ Den D w E (zeroOf j) z) → Den D w E (lookRes cm (zeroOf j) r) (lookV cm z r) := by
        intro z hz
        have hz' : Den D w E (zeroOf j) z := by
         rcases hz with hz | hz
         ·rw [hz]; trivial
         ·exact hz
        cases r with
        | none =>
         cases cm with
         | true => simp only [lookRes, Den, DenA]; exact ⟨_, rfl, _, _, rfl, hz', _, _, rfl, mk_bool false, rfl⟩
         | false => exact hz'
        | some p =>
         obtain ⟨i', v⟩ := p
         cases cm with
         | true => simp only [lookRes, Den, DenA]; exact ⟨_, rfl, _, _, rfl, ofV_den v, _, _, rfl, mk_bool true, rfl⟩
         | false => exact ofV_den v
       have hzr : ∃ z, (zeroValue e).run P w = .ok z w ∧ (zeroOf j = .any ∨ Den D w E (zeroOf j) z) := by
        by_cases hb : j.kind = .bool
        ·obtain ⟨info, h1, h2⟩ := (hT e j hj).zb hb
         refine ⟨.bool false, by simp [zeroValue, typeInfo, h1, h2], .inr ?_⟩
         simp only [zeroOf, hb]; exact mk_bool false
        ·obtain ⟨info, z, h1, _, _, h4, _⟩ := (hT e j hj).info
         refine ⟨z, by simp [zeroValue, typeInfo, h1, h4], .inl ?_⟩
         unfold zeroOf; split
         ·rename_i h; exact absurd h hb
         ·rfl
       obtain ⟨z, hz1, hz2⟩ := hzr
       refine ⟨_, w, E, .inl ?_, hR, hres z hz2⟩
       have key : (Instr.lookup t (.map (some b)) kv cm).run P w = .ok (lookV cm z r) w := by
        simp only [Instr.lookup, Sem.run_bind, run_underlying hu, Go.MapKept.run_getObj_map hob, Go.MapKept.run_checkKey hu2 hik, Go.MapKept.run_findKey hu2 hr, Result.andThen, Sem.run_pure]
        cases r with
        | none => cases cm <;> simp [hz1, Result.andThen, lookV]
        | some p => cases cm <;> simp [lookV]
       simp only [execOp, ho, ev1, ek, Sem.run_bind, key, Result.andThen, Sem.run_pure]
      ·trivial
     ·trivial
    ·trivial
   ·trivial
  ·trivial
theorem flatMap_div (u : C.U) {xs : List (C.El u)} {J : Nat} {pv : PV C} (h : (xs.flatMap (D.enc u))[J]? = some pv) : ∃ x, xs[J / C.n u]? = some x ∧ (D.enc u x)[J % C.n u]? = some pv := by
 have hn := D.n_pos u
 have hJ : J < xs.length * C.n u := by
  rw [← flatMap_length (D := D) u xs]
  exact (List.getElem?_eq_some_iff.1 h).1
 have hi : J / C.n u < xs.length := (Nat.div_lt_iff_lt_mul hn).2 hJ
 refine ⟨xs[J / C.n u], List.getElem?_eq_getElem hi, ?_⟩
 have := flatMap_get (D := D) u xs (J / C.n u) (J % C.n u) _ (List.getElem?_eq_getElem hi) (Nat.mod_lt _ hn)
 rw [Nat.div_add_mod' J (C.n u)] at this
 rw [← this]; exact h
theorem arrPtr_ok (hT : TabOK P D tab) (hR : Rel D B E σ H df a w) {t : TypeId} {ox : Operand} (ho : o.op = .sliceToArrayPointer t ox) : OutOK P D B σ H df a w o (doArrPtr D tab t (ev σ ox)) := by
 have hx := ev_den hR ox
 unfold doArrPtr
 split
 ·trivial
 ·rename_i i hi
  split
  ·rename_i len e hk
   have hu := arr_of (hT t i hi) hk
   split
   ·rename_i u xs hev
    rintro ⟨h0, h1⟩
    rw [hev] at hx
    simp only [Den] at hx
    generalize hxx : a.eval ox = vx at hx
    cases hx with
    | dslNil => simp at h1; omega
    | dsl _ _ b o' cap cv hF hc hcell hden =>
     refine runOK_of hR (u := .pointer (some ⟨b, o', none⟩)) ?_ ?_
     ·simp only [execOp, ho, Instr.arrayAt, hxx, Sem.run_bind, run_underlying hu, Result.andThen]
      rw [if_neg (by omega)]
      rfl
     ·simp only [Den]
      refine ⟨b, o', by simp, fun J pv hp => ?_⟩
      obtain ⟨x, hx, he⟩ := flatMap_div u hp
      refine ⟨hF (fun e => by rw [e] at hx; simp at hx), cv (J / C.n u) (J % C.n u), ?_, hden _ _ hx _ _ he⟩
      have := hcell _ _ hx _ _ he
      rw [Nat.add_assoc, Nat.div_add_mod' J (C.n u)] at this
      exact this
   ·trivial
  ·trivial
theorem put_ok (hT : TabOK P D tab) (hR : Rel D B E σ H df a w) {t : TypeId} {ox ok ov : Operand} (ho : o.op = .mapUpdate t ox ok ov ∨ o.op = .insert t ox ok ov) {hs : List (Nat × HS C)} (hhs : ∀ c, (ev σ ox).topId = some c → lk hs c = H c) :
  OutOK P D B σ H df a w o (doPut tab t (ev σ ox) (ev σ ok) (ev σ ov) hs) := by
 unfold doPut
 split
 ·trivial
 ·rename_i i hi
  split
  ·rename_i q e hk
   obtain ⟨kt, hu, hu2⟩ := map_of (hT t i hi) hk
   split
   ·rename_i c hx
    split
    ·rename_i es clk hc
     split
     ·rename_i kv hkv
      split
      ·rename_i vv hvv
       intro hr
       have hlk := hhs c (by rw [hx]; rfl)
       rw [hc] at hlk
       have hdx := ev_den hR ox
       rw [hx] at hdx
       obtain ⟨b, hb, ev1, hob⟩ := mapp_at hR.sat hlk.symm hdx
       obtain ⟨ek, hik⟩ := keyV_den hkv (ev_den hR ok)
       have ev2 := valV_den _ _ _ hvv (ev_den hR ov)
       have hput := hR.putO hb hlk.symm (o' := .map (es.push ⟨kv, vv, clk⟩) (clk + 1)) (by simp)
       refine ⟨undef, _, E, .inr ⟨?_, rfl⟩, hput.1, trivial⟩
       rcases ho with ho | ho <;>
       ·simp only [execOp, ho, Instr.mapUpdate, ev1, ek, ev2, Sem.run_bind, run_underlying hu, Go.MapKept.run_getObj_map hob, Go.MapKept.run_checkKey hu2 hik, Go.MapKept.run_findKey hu2 hr, Go.MapKept.run_setObj_map _ hob, Result.andThen]
        rfl
      ·trivial
     ·trivial
    ·trivial
   ·trivial
  ·trivial
end
end Go.SX

/-
 SX, part M: every operation's reckoning is right.
-/
namespace Go.SX
open Go.RowKit
variable {C : Cod}
section
variable {P : Program} {D : Codec C} {tab : Tab C} {B : Base} {E : Env} {σ : Nat → SV C} {H : Nat → HS C} {df : List Deferred} {a : Act} {w : World} {o : Oper}

theorem denA_append : ∀ (l m : List (SV C)) (vs ws : List Value), DenA D w E l vs → DenA D w E m ws → DenA D w E (l ++ m) (vs ++ ws)
 | [], m, vs, ws, h, k => by simp only [DenA] at h; subst h; simpa using k
 | x :: l, m, vs, ws, h, k => by
  simp only [DenA] at h
  obtain ⟨v, v2, rfl, h1, h2⟩ := h
  simp only [List.cons_append, DenA]
  exact ⟨v, v2 ++ ws, rfl, h1, denA_append l m _ _ h2 k⟩

def Out.plain : Out C → Bool
 | .mem _ _ => false
 | .smem _ _ _ => false
 | .call _ _ => false
 | .yieldc _ _ => false
 | .ask _ _ => false
 | .may _ _ => false
 | _ => true
theorem doLoad_plain (t : TypeId) (x : SV C) (hs : List (Nat × HS C)) : (doLoad D tab t x hs).plain = true := by
 unfold doLoad
 split
 ·rfl
 ·split
  ·split
   ·unfold loadVarAt
    split
    ·split
     ·split <;> rfl
     ·rfl
    ·split
     ·rfl
     ·split <;> rfl
     ·rfl
   ·rfl
  ·split
   ·unfold condSide; split <;> rfl
   ·rfl
  ·unfold loadSeqAt; (repeat' split) <;> rfl
  ·rfl

theorem exec_ok (A : Aux C D) (hT : TabOK P D tab) (hR : Rel D B E σ H df a w) {m : Nat} (hm : H m = .fresh) {vals : List (SV C)} (hv : vals = (opnds o.op).map (ev σ)) {hs : List (Nat × HS C)}
  (hhs : ∀ x ∈ vals, ∀ c, x.topId = some c → lk hs c = H c) : OutOK P D B σ H df a w o (exec A tab o.op vals hs m) := by
 subst hv
 cases ho : o.op with
 | move x => simp only [exec, opnds, List.map_cons, List.map_nil]; exact move_ok hR (.inl ho)
 | assign x => simp only [exec, opnds, List.map_cons, List.map_nil]; exact move_ok hR (.inr ho)
 | pick c x y =>
  simp only [exec, opnds, List.map_cons, List.map_nil]
  cases hc : ev σ c with
  | p pv =>
   cases pv with
   | bool b =>
    simp only
    cases b with
    | true => exact pick_ok hR ho hc
    | false => exact pick_ok hR ho hc
   | _ => trivial
  | _ => trivial
 | alloc t => simp only [exec]; exact alloc_ok hT hR hm ho
 | box t x => simp only [exec, opnds, List.map_cons, List.map_nil]; exact box_ok hR hm ho
 | build t ps => simp only [exec, opnds]; exact build_ok hT hR ho
 | buildSlice t len ps => simp only [exec, opnds]; exact buildSlice_ok hT hR hm ho
 | load t x =>
  simp only [exec, opnds, List.map_cons, List.map_nil]
  have h := load_ok hT hR ho (hs := hs) (hhs (ev σ x) (by simp [ho, opnds]))
  generalize hout : doLoad D tab t (ev σ x) hs = out at h
  cases out with
  | stuck => trivial
  | val v => exact h
  | side p v => exact h
  | mem v ws => have := doLoad_plain (D := D) (tab := tab) t (ev σ x) hs; rw [hout] at this; cases this
  | smem p v ws => have := doLoad_plain (D := D) (tab := tab) t (ev σ x) hs; rw [hout] at this; cases this
  | call f args => have := doLoad_plain (D := D) (tab := tab) t (ev σ x) hs; rw [hout] at this; cases this
  | yieldc f args => have := doLoad_plain (D := D) (tab := tab) t (ev σ x) hs; rw [hout] at this; cases this
  | may q K => have := doLoad_plain (D := D) (tab := tab) t (ev σ x) hs; rw [hout] at this; cases this
  | ask q K => have := doLoad_plain (D := D) (tab := tab) t (ev σ x) hs; rw [hout] at this; cases this
 | store t x y => simp only [exec, opnds, List.map_cons, List.map_nil]; exact store_ok hT hR ho (hhs (ev σ x) (by simp [ho, opnds]))
 | nilCheck x => simp only [exec, opnds, List.map_cons, List.map_nil]; exact nilCheck_ok hR ho (hhs (ev σ x) (by simp [ho, opnds]))
 | binOp op t x y yt =>
  simp only [exec, opnds, List.map_cons, List.map_nil]
  split
  ·exact binP_ok { A with wr := true } hT hR ho (hhs (ev σ x) (by simp [ho, opnds]))
  ·exact binP_ok A hT hR ho (hhs (ev σ x) (by simp [ho, opnds]))
 | unOp op t x => simp only [exec, opnds, List.map_cons, List.map_nil]; exact un_ok hR ho
 | convert src dst x => simp only [exec, opnds, List.map_cons, List.map_nil]; exact conv_ok A hT hR hm ho (hhs (ev σ x) (by simp [ho, opnds]))
 | makeFunc f first captured =>
  simp only [exec, opnds, List.map_append]
  have h1 : ((first.toList.map (ev σ) ++ captured.toList.map (ev σ)).take first.size) = first.toList.map (ev σ) := List.take_left' (by simp)
  have h2 : ((first.toList.map (ev σ) ++ captured.toList.map (ev σ)).drop first.size) = captured.toList.map (ev σ) := List.drop_left' (by simp)
  rw [h1, h2]
  exact makeFunc_ok hR ho
 | makeSlice t l c => simp only [exec, opnds, List.map_cons, List.map_nil]; exact makeSlice_ok hT hR hm ho
 | slice t x lo hi mx =>
  cases mx with
  | some q =>
   cases lo with
   | none =>
    cases hi with
    | none => trivial
    | some h =>
     have := full_ok hT hR ho (hs := hs) (hhs (ev σ x) (by simp [ho, opnds]))
     simp only [exec, opnds, List.map_cons, List.map_nil, List.append_nil, List.nil_append, List.cons_append]
     exact this
   | some l =>
    cases hi with
    | none => trivial
    | some h =>
     have := slice3_ok (m := m) hT hR ho (hs := hs) (hhs (ev σ x) (by simp [ho, opnds]))
     simp only [exec, opnds, List.map_cons, List.map_nil, List.append_nil, List.nil_append, List.cons_append]
     exact this hm
  | none =>
   have h := slice_ok hT hR ho (hs := hs) (hhs (ev σ x) (by simp [ho, opnds]))
   cases lo <;> cases hi <;> simp only [exec, opnds, List.map_cons, List.map_nil, List.append_nil, List.nil_append, List.cons_append] <;> exact h
 | fieldAddr s x f => simp only [exec, opnds, List.map_cons, List.map_nil]; exact fieldAddr_ok hT hR ho (hhs (ev σ x) (by simp [ho, opnds]))
 | field t x f => simp only [exec, opnds, List.map_cons, List.map_nil]; exact field_ok hT hR ho
 | indexAddr t x i => simp only [exec, opnds, List.map_cons, List.map_nil]; exact indexAddr_ok hT hR ho (hhs (ev σ x) (by simp [ho, opnds]))
 | index t x i => simp only [exec, opnds, List.map_cons, List.map_nil]; exact index_ok hT hR ho
 | sliceToArrayPointer t x => simp only [exec, opnds, List.map_cons, List.map_nil]; exact arrPtr_ok hT hR ho
 | makeMap t r =>
  cases r with
  | none => simp only [exec]; exact makeMap_ok hR hm ho
  | some r => trivial
 | lookup t x k ok => simp only [exec, opnds, List.map_cons, List.map_nil]; exact lookup_ok hT hR ho (hhs (ev σ x) (by simp [ho, opnds]))
 | mapUpdate t x k v => simp only [exec, opnds, List.map_cons, List.map_nil]; exact put_ok hT hR (.inl ho) (hhs (ev σ x) (by simp [ho, opnds]))
 | insert t x k v => simp only [exec, opnds, List.map_cons, List.map_nil]; exact put_ok hT hR (.inr ho) (hhs (ev σ x) (by simp [ho, opnds]))
 | extract x i => simp only [exec, opnds, List.map_cons, List.map_nil]; exact extract_ok hR ho
 | call c =>
  obtain ⟨callee, args, argTypes⟩ := c
  cases callee with
  | invoke r n => simp only [exec]; trivial
  | value f =>
   simp only [exec, opnds, List.map_cons]
   unfold doCall
   split
   ·rename_i k first captured rest heq
    simp only [List.cons.injEq] at heq
    obtain ⟨hf, rfl⟩ := heq
    intro E' hR'
    have hd := ev_den hR' f
    rw [hf] at hd
    simp only [Den] at hd
    obtain ⟨xs, ys, e, h1, h2⟩ := hd
    refine ⟨xs.toList ++ (args.toList.map a.eval ++ ys.toList), denA_append _ _ _ _ h1 (denA_append _ _ _ _ (denA_map hR' _) h2), ?_⟩
    simp only [execOp, ho, resolve, e, Deferred.ofValue, invoke, Sem.run_bind, Sem.run_pure, Result.andThen_ok]
    congr 2
    apply Array.ext'
    simp
   ·rename_i c rest heq
    simp only [List.cons.injEq] at heq
    obtain ⟨hf, rfl⟩ := heq
    intro E' hR' b hb
    have hd := ev_den hR' f
    rw [hf] at hd
    simp only [Den, hb] at hd
    refine ⟨args.toList.map a.eval, denA_map hR' _, ?_⟩
    simp only [execOp, ho, resolve, hd, Deferred.ofValue, invoke, Sem.run_bind, Sem.run_pure, Result.andThen_ok]
    congr 2
    apply Array.ext'
    simp
   ·trivial
  | builtin b =>
   have hat : argTypes = argTypes.toList.toArray := by simp
   cases b with
   | len =>
    simp only [exec, opnds]
    split
    ·rename_i x hx
     split
     ·rename_i t ht
      have hargs : ∃ y, args = #[y] ∧ ev σ y = x := by
       cases hl : args.toList with
       | nil => rw [hl] at hx; simp at hx
       | cons y l =>
        rw [hl] at hx
        simp at hx
        obtain ⟨h1, h2⟩ := hx
        subst h2
        exact ⟨y, by rw [← Array.toArray_toList (xs := args), hl], h1⟩
      obtain ⟨y, rfl, rfl⟩ := hargs
      have htt : argTypes = #[t] := by rw [hat, ht]
      subst htt
      have := len_ok hT hR ho (hs := hs) (hhs (ev σ y) (by simp [ho, opnds])) (by simp)
      exact this
     ·trivial
    ·trivial
   | append =>
    simp only [exec, opnds]
    split
    ·rename_i x y hxy
     split
     ·rename_i t t2 ht
      have hargs : ∃ p q, args = #[p, q] ∧ ev σ p = x ∧ ev σ q = y := by
       cases hl : args.toList with
       | nil => rw [hl] at hxy; simp at hxy
       | cons p l =>
        rw [hl] at hxy
        cases l with
        | nil => simp at hxy
        | cons q l =>
         simp at hxy
         obtain ⟨h1, h2, h3⟩ := hxy
         subst h3
         exact ⟨p, q, by rw [← Array.toArray_toList (xs := args), hl], h1, h2⟩
      obtain ⟨p, q, rfl, rfl, rfl⟩ := hargs
      have htt : argTypes = #[t, t2] := by rw [hat, ht]
      subst htt
      exact append_ok A hT hR hm ho (hhs (ev σ p) (by simp [ho, opnds])) (hhs (ev σ q) (by simp [ho, opnds]))
     ·trivial
    ·trivial
   | copy =>
    simp only [exec, opnds]
    split
    ·rename_i x y hxy
     split
     ·rename_i t t2 ht
      have hargs : ∃ p q, args = #[p, q] ∧ ev σ p = x ∧ ev σ q = y := by
       cases hl : args.toList with
       | nil => rw [hl] at hxy; simp at hxy
       | cons p l =>
        rw [hl] at hxy
        cases l with
        | nil => simp at hxy
        | cons q l =>
         simp at hxy
         obtain ⟨h1, h2, h3⟩ := hxy
         subst h3
         exact ⟨p, q, by rw [← Array.toArray_toList (xs := args), hl], h1, h2⟩
      obtain ⟨p, q, rfl, rfl, rfl⟩ := hargs
      have htt : argTypes = #[t, t2] := by rw [hat, ht]
      subst htt
      exact copy_ok A hT hR ho (hhs (ev σ p) (by simp [ho, opnds])) (hhs (ev σ q) (by simp [ho, opnds]))
     ·trivial
    ·trivial
   | unsafeString =>
    simp only [exec, opnds]
    split
    ·rename_i x y hxy
     split
     ·rename_i t t2 ht
      have hargs : ∃ p q, args = #[p, q] ∧ ev σ p = x ∧ ev σ q = y := by
       cases hl : args.toList with
       | nil => rw [hl] at hxy; simp at hxy
       | cons p l =>
        rw [hl] at hxy
        cases l with
        | nil => simp at hxy
        | cons q l =>
         simp at hxy
         obtain ⟨h1, h2, h3⟩ := hxy
         subst h3
         exact ⟨p, q, by rw [← Array.toArray_toList (xs := args), hl], h1, h2⟩
      obtain ⟨p, q, rfl, rfl, rfl⟩ := hargs
      have htt : argTypes = #[t, t2] := by rw [hat, ht]
      subst htt
      exact unsafeString_ok A hT hR ho (hhs (ev σ p) (by simp [ho, opnds]))
     ·trivial
    ·trivial
   | clear =>
    simp only [exec, opnds]
    split
    ·rename_i x hx
     split
     ·rename_i t ht
      have hargs : ∃ y, args = #[y] ∧ ev σ y = x := by
       cases hl : args.toList with
       | nil => rw [hl] at hx; simp at hx
       | cons y l =>
        rw [hl] at hx
        simp at hx
        obtain ⟨h1, h2⟩ := hx
        subst h2
        exact ⟨y, by rw [← Array.toArray_toList (xs := args), hl], h1⟩
      obtain ⟨y, rfl, rfl⟩ := hargs
      have htt : argTypes = #[t] := by rw [← Array.toArray_toList (xs := argTypes), ht]
      subst htt
      exact clear_ok hT hR ho (hhs (ev σ y) (by simp [ho, opnds]))
     ·trivial
    ·trivial
   | unsafeSliceData =>
    simp only [exec, opnds]
    split
    ·rename_i x hx
     have hargs : ∃ y, args = #[y] ∧ ev σ y = x := by
      cases hl : args.toList with
      | nil => rw [hl] at hx; simp at hx
      | cons y l =>
       rw [hl] at hx
       simp at hx
       obtain ⟨h1, h2⟩ := hx
       subst h2
       exact ⟨y, by rw [← Array.toArray_toList (xs := args), hl], h1⟩
     obtain ⟨y, rfl, rfl⟩ := hargs
     exact sliceData_ok hR ho (hhs (ev σ y) (by simp [ho, opnds]))
    ·trivial
   | cap =>
    simp only [exec, opnds]
    split
    ·rename_i x hx
     split
     ·rename_i t ht
      have hargs : ∃ y, args = #[y] ∧ ev σ y = x := by
       cases hl : args.toList with
       | nil => rw [hl] at hx; simp at hx
       | cons y l =>
        rw [hl] at hx
        simp at hx
        obtain ⟨h1, h2⟩ := hx
        subst h2
        exact ⟨y, by rw [← Array.toArray_toList (xs := args), hl], h1⟩
      obtain ⟨y, rfl, rfl⟩ := hargs
      have htt : argTypes = #[t] := by rw [hat, ht]
      subst htt
      exact cap_ok hT hR ho
     ·trivial
    ·trivial
   | min =>
    simp only [exec, opnds]
    split
    ·rename_i x y hxy
     have hargs : ∃ p q, args = #[p, q] ∧ ev σ p = x ∧ ev σ q = y := by
      cases hl : args.toList with
      | nil => rw [hl] at hxy; simp at hxy
      | cons p l =>
       rw [hl] at hxy
       cases l with
       | nil => simp at hxy
       | cons q l =>
        simp at hxy
        obtain ⟨h1, h2, h3⟩ := hxy
        subst h3
        exact ⟨p, q, by rw [← Array.toArray_toList (xs := args), hl], h1, h2⟩
     obtain ⟨p, q, rfl, rfl, rfl⟩ := hargs
     exact minmax_ok hR false ho
    ·trivial
   | max =>
    simp only [exec, opnds]
    split
    ·rename_i x y hxy
     have hargs : ∃ p q, args = #[p, q] ∧ ev σ p = x ∧ ev σ q = y := by
      cases hl : args.toList with
      | nil => rw [hl] at hxy; simp at hxy
      | cons p l =>
       rw [hl] at hxy
       cases l with
       | nil => simp at hxy
       | cons q l =>
        simp at hxy
        obtain ⟨h1, h2, h3⟩ := hxy
        subst h3
        exact ⟨p, q, by rw [← Array.toArray_toList (xs := args), hl], h1, h2⟩
     obtain ⟨p, q, rfl, rfl, rfl⟩ := hargs
     exact minmax_ok hR true ho
    ·trivial
   | _ => simp only [exec]; trivial
 | _ => simp only [exec]; trivial

end
end Go.SX
