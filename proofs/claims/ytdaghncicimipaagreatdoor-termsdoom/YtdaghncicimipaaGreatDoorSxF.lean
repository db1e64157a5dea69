/-
  SX, part F: the soundness of operations that make or write no memory.
-/
import Derived.Test.YtdaghncicimipaaGreatDoorSxE
set_option linter.unusedVariables false
set_option linter.unusedSimpArgs false
namespace Go.SX
open Go.RowKit
variable {C : Cod}

/-- The outcome 'out' of a reckoning is right of the operation o. -/
def OutOK (P : Program) (D : Codec C) (B : Base) (σ : Nat → SV C) (H : Nat → HS C) (df : List Deferred) (a : Act) (w : World) (o : Oper) : Out C → Prop
  | .stuck => True
  | .val v => RunOK P D B σ H df a w o v []
  | .side p v => p → RunOK P D B σ H df a w o v []
  | .mem v ws => RunOK P D B σ H df a w o v ws
  | .smem p v ws => p → RunOK P D B σ H df a w o v ws
  | .call f args => ∀ E, Rel D B E σ H df a w → ∃ vs, DenA D w E args vs ∧ (execOp a.eval o).run P w = (callFunc f vs.toArray).run P w
  | .may p v => ∃ b, (b = true → p) ∧ RunOK P D B σ H df a w o (v b) []
  | .ask q K => ∀ r, q = some r → RunOK P D B σ H df a w o (K r) []
  | .yieldc c args => ∀ E, Rel D B E σ H df a w → ∀ b, E.β c = .loc b → ∃ vs, DenA D w E args vs ∧ (execOp a.eval o).run P w = (Instr.yield b vs.toArray).run P w

section
variable {P : Program} {D : Codec C} {tab : Tab C} {B : Base} {E : Env} {σ : Nat → SV C} {H : Nat → HS C} {df : List Deferred} {a : Act} {w : World} {o : Oper}

theorem runOK_of {v : SV C} (hR : Rel D B E σ H df a w) {u : Value} (h : (execOp a.eval o).run P w = .ok (.value u) w) (hd : Den D w E v u) : RunOK P D B σ H df a w o v [] :=
  ⟨u, w, E, .inl h, hR, hd⟩

theorem den_int {k : IntKind} {n : Int} {v : Value} (h : Den D w E (.p (.int k n)) v) : v = .int k n := by
  simp only [Den] at h; cases h; rfl
theorem den_bool {b : Bool} {v : Value} (h : Den D w E (.p (.bool b)) v) : v = .bool b := by
  simp only [Den] at h; cases h; rfl
theorem den_str {l : List UInt8} {v : Value} (h : Den D w E (.p (.str l)) v) : v = .string ⟨⟨l⟩⟩ := by
  simp only [Den] at h; cases h; rfl
theorem den_lit {u v : Value} (h : Den D w E (.p (.lit u)) v) : v = u := by
  simp only [Den] at h; cases h; rfl
theorem mk_int (k : IntKind) (n : Int) : Den D w E (.p (.int k n)) (.int k n) := PDen.int k n
theorem mk_bool (b : Bool) : Den D w E (.p (.bool b)) (.bool b) := PDen.bool b
theorem mk_str (l : List UInt8) : Den D w E (.p (.str l)) (.string ⟨⟨l⟩⟩) := PDen.str l

theorem size_mk (l : List UInt8) : (⟨⟨l⟩⟩ : ByteArray).size = l.length := rfl
theorem toList_mk (l : List UInt8) : (⟨⟨l⟩⟩ : ByteArray).toList = l := by rw [ByteArray.toList_eq]
theorem append_mk (a b : List UInt8) : (⟨⟨a⟩⟩ : ByteArray) ++ ⟨⟨b⟩⟩ = ⟨⟨a ++ b⟩⟩ := by
  apply ByteArray.ext
  simp

theorem arith_ok {k : IntKind} {n : Int} (hR : Rel D B E σ H df a w) (h : (execOp a.eval o).run P w = .ok (.value (.int k (k.wrap n))) w) : OutOK P D B σ H df a w o (arith k n) := by
  unfold arith
  cases k
  case i64 =>
    intro hin
    unfold InR at hin
    rw [hin] at h
    exact runOK_of hR h (mk_int _ _)
  all_goals exact runOK_of hR h (mk_int _ _)

theorem arithW_ok {wr : Bool} {k : IntKind} {n : Int} (hR : Rel D B E σ H df a w) (h : (execOp a.eval o).run P w = .ok (.value (.int k (k.wrap n))) w) : OutOK P D B σ H df a w o (arithW wr k n) := by
  cases wr with
  | true => exact runOK_of hR h (mk_int _ _)
  | false => exact arith_ok hR h

theorem int_beq (x y : Int) : (x == y) = decide (x = y) := by by_cases h : x = y <;> simp [h]

theorem intBin_ok {wr : Bool} {op : BinOp} {k : IntKind} {x y : Int} (hR : Rel D B E σ H df a w) {t yt : TypeId} {ox oy : Operand} (ho : o.op = .binOp op t ox oy yt)
    (hx : a.eval ox = .int k x) (hy : a.eval oy = .int k y) : OutOK P D B σ H df a w o (intBin wr op k x y) := by
  have h0 : (execOp a.eval o).run P w = (do let r ← binOp op t (.int k x) (.int k y); pure (Next.value r) : Sem Next).run P w := by
    simp [execOp, ho, hx, hy, eqGuard]
  cases op
  case add => exact arithW_ok hR (by rw [h0]; simp [binOp, Op.intArith])
  case sub => exact arithW_ok hR (by rw [h0]; simp [binOp, Op.intArith])
  case mul => exact arithW_ok hR (by rw [h0]; simp [binOp, Op.intArith])
  case quo =>
    rintro ⟨hy0, hin⟩
    unfold InR at hin
    exact runOK_of hR (u := .int k (x.tdiv y)) (by rw [h0]; simp [binOp, Op.intDiv, hy0, hin]) (mk_int _ _)
  case rem =>
    intro hy0
    exact runOK_of hR (u := .int k (x.tmod y)) (by rw [h0]; simp [binOp, Op.intDiv, hy0]) (mk_int _ _)
  case and => exact runOK_of hR (u := .int k (bitop .and k x y)) (by rw [h0]; simp [binOp, Op.intBits, bitop]) (mk_int _ _)
  case or => exact runOK_of hR (u := .int k (bitop .or k x y)) (by rw [h0]; simp [binOp, Op.intBits, bitop]) (mk_int _ _)
  case xor => exact runOK_of hR (u := .int k (bitop .xor k x y)) (by rw [h0]; simp [binOp, Op.intBits, bitop]) (mk_int _ _)
  case andNot => exact runOK_of hR (u := .int k (bitop .andNot k x y)) (by rw [h0]; simp [binOp, Op.intBits, bitop]) (mk_int _ _)
  case shl => trivial
  case shr => trivial
  case eql => exact runOK_of hR (u := .bool (decide (x = y))) (by rw [h0]; simp [binOp, Op.intCmp, int_beq]) (mk_bool _)
  case neq => exact runOK_of hR (u := .bool (!decide (x = y))) (by rw [h0]; simp [binOp, Op.intCmp, int_beq, bne]) (mk_bool _)
  case lss => exact runOK_of hR (u := .bool (decide (x < y))) (by rw [h0]; simp [binOp, Op.intCmp]) (mk_bool _)
  case leq => exact runOK_of hR (u := .bool (decide (x ≤ y))) (by rw [h0]; simp [binOp, Op.intCmp]) (mk_bool _)
  case gtr => exact runOK_of hR (u := .bool (decide (y < x))) (by rw [h0]; simp [binOp, Op.intCmp]) (mk_bool _)
  case geq => exact runOK_of hR (u := .bool (decide (y ≤ x))) (by rw [h0]; simp [binOp, Op.intCmp]) (mk_bool _)

theorem strBin_ok {op : BinOp} {x y : List UInt8} (hR : Rel D B E σ H df a w) {t yt : TypeId} {ox oy : Operand} (ho : o.op = .binOp op t ox oy yt)
    (hx : a.eval ox = .string ⟨⟨x⟩⟩) (hy : a.eval oy = .string ⟨⟨y⟩⟩) : OutOK P D B σ H df a w o (strBin op x y) := by
  have h0 : (execOp a.eval o).run P w = (do let r ← binOp op t (.string ⟨⟨x⟩⟩) (.string ⟨⟨y⟩⟩); pure (Next.value r) : Sem Next).run P w := by
    simp [execOp, ho, hx, hy, eqGuard]
  cases op
  case add =>
    intro hl
    refine runOK_of hR (u := .string ⟨⟨x ++ y⟩⟩) ?_ (mk_str _)
    rw [h0]
    have : ¬ (IntKind.i64.max < ((x.length + y.length : Nat) : Int)) := by
      have : IntKind.i64.max = 9223372036854775807 := by decide
      omega
    simp only [binOp, Op.stringOp, size_mk, Sem.run_bind, gt_iff_lt, if_neg this, Sem.run_pure, Result.andThen_ok, append_mk]
  all_goals first | trivial | skip
  case eql => exact runOK_of hR (u := .bool (decide (x = y))) (by rw [h0]; simp [binOp, Op.stringOp, Bool.beq_eq_decide_eq]) (mk_bool _)
  case neq => exact runOK_of hR (u := .bool (!decide (x = y))) (by rw [h0]; simp [binOp, Op.stringOp, Bool.beq_eq_decide_eq]) (mk_bool _)
  case lss => exact runOK_of hR (u := .bool (strLess x y)) (by rw [h0]; simp [binOp, Op.stringOp, strLess, toList_mk]) (mk_bool _)
  case leq => exact runOK_of hR (u := .bool (strLess x y || decide (x = y))) (by rw [h0]; simp [binOp, Op.stringOp, strLess, Bool.beq_eq_decide_eq]) (mk_bool _)
  case gtr => exact runOK_of hR (u := .bool !(strLess x y || decide (x = y))) (by rw [h0]; simp [binOp, Op.stringOp, strLess, Bool.beq_eq_decide_eq]) (mk_bool _)
  case geq => exact runOK_of hR (u := .bool !(strLess x y)) (by rw [h0]; simp [binOp, Op.stringOp, strLess, toList_mk]) (mk_bool _)

theorem run_equalIn_bool'' (t : TypeId) (x y : Bool) (d : Nat) (h : P.underlying t = some .bool) : (Op.equalIn (d + 1) t (.bool x) (.bool y)).run P w = .ok (x == y) w := by
  simp [Op.equalIn, run_underlying h]

theorem eqAgg_ok (A : Aux C D) (hT : TabOK P D tab) (hR : Rel D B E σ H df a w) {op : BinOp} {t yt : TypeId} {ox oy : Operand} (ho : o.op = .binOp op t ox oy yt) {i : TI C} (hi : tab t = some i) (hne : i.cks ≠ []) {vs ws : List (SV C)}
    (hx : Den D w E (.agg vs) (a.eval ox)) (hy : Den D w E (.agg ws) (a.eval oy)) : OutOK P D B σ H df a w o (doEqAgg A op i vs ws) := by
  simp only [Den] at hx hy
  obtain ⟨cs, ex, hcs⟩ := hx
  obtain ⟨ds, ey, hds⟩ := hy
  have ht := hT t i hi
  obtain ⟨hag, hck, hgt⟩ := ht.eq hne
  obtain ⟨d, hu, hk⟩ := ht.und
  have hVof : ∀ cs : Array Value, Vof P t (.agg cs) cs.toList := by
    intro cs
    cases hkk : i.kind <;> rw [hkk] at hag hk <;> simp [TK.agg] at hag <;> simp only [KindOK] at hk
    · obtain ⟨F, rfl, _⟩ := hk; simp only [Vof, hu]
    · obtain ⟨rfl, _⟩ := hk; simp only [Vof, hu]
  have hrun : ∀ b, eqCells A i.cks vs ws = some b → (Op.equal t (.agg cs) (.agg ds)).run P w = .ok b w := by
    intro b hb
    obtain ⟨k1, k2, k3⟩ := eqCells_ok A i.cks vs ws b cs.toList ds.toList hb hcs hds
    have := eqF_of (P := P) 9936 64 t i.cks hck w (.agg cs) (.agg ds) cs.toList ds.toList (hVof cs) (hVof ds) k1 k2
    rw [show Op.equal t (.agg cs) (.agg ds) = Op.equalIn (9936 + 64) t (.agg cs) (.agg ds) from rfl, this]
    congr 1
    rw [Bool.eq_iff_iff]; simp [k3]
  unfold doEqAgg
  have hpg : program.run P w = .ok P w := rfl
  split
  · cases hb : eqCells A i.cks vs ws with
    | none => trivial
    | some b =>
      refine runOK_of hR (u := .bool b) ?_ (mk_bool _)
      simp [execOp, ho, ex, ey, eqGuard, hpg, hgt, binOp, hrun b hb]
  · cases hb : eqCells A i.cks vs ws with
    | none => trivial
    | some b =>
      refine runOK_of hR (u := .bool !b) ?_ (mk_bool _)
      simp [execOp, ho, ex, ey, eqGuard, hpg, hgt, binOp, hrun b hb]
  · trivial

theorem bin_ok (A : Aux C D) (hT : TabOK P D tab) (hR : Rel D B E σ H df a w) {op : BinOp} {t yt : TypeId} {ox oy : Operand} (ho : o.op = .binOp op t ox oy yt) :
    OutOK P D B σ H df a w o (doBin A tab op t (ev σ ox) (ev σ oy)) := by
  have hx := ev_den hR ox
  have hy := ev_den hR oy
  generalize ev σ ox = sx at *
  generalize ev σ oy = sy at *
  unfold doBin
  split
  · rename_i vs ws
    split
    · rename_i i hi
      split
      · trivial
      · rename_i c l hc
        exact eqAgg_ok A hT hR ho hi (by rw [hc]; simp) hx hy
    · trivial
  · rename_i k x k' y
    have ex := den_int hx
    have ey := den_int hy
    have h0 : (execOp a.eval o).run P w = (do let r ← binOp op t (.int k x) (.int k' y); pure (Next.value r) : Sem Next).run P w := by
      simp [execOp, ho, ex, ey, eqGuard]
    split
    · intro hy0
      refine runOK_of hR (u := .int k (shlop k x y)) ?_ (mk_int _ _)
      rw [h0]
      have : ¬ y < 0 := by omega
      simp [binOp, Op.shift, this, shlop]
    · intro hy0
      refine runOK_of hR (u := .int k (shrop k x y)) ?_ (mk_int _ _)
      rw [h0]
      have : ¬ y < 0 := by omega
      simp [binOp, Op.shift, this, shrop]
    · split
      · rename_i hk
        subst hk
        exact intBin_ok hR ho ex ey
      · trivial
  · rename_i x y
    exact strBin_ok hR ho (den_str hx) (den_str hy)
  · rename_i x y
    have ex := den_bool hx
    have ey := den_bool hy
    split
    · rename_i i htab
      have ht := hT t i htab
      split
      · rename_i hk
        obtain ⟨d, hu, hkk⟩ := ht.und
        rw [hk] at hkk
        simp only [KindOK] at hkk
        subst hkk
        split
        · refine runOK_of hR (u := .bool (x == y)) ?_ (mk_bool _)
          simp [execOp, ho, ex, ey, eqGuard, binOp, Op.equal, Op.maxDepth, run_equalIn_bool'' t x y 9999 hu]
        · refine runOK_of hR (u := .bool !(x == y)) ?_ (mk_bool _)
          simp [execOp, ho, ex, ey, eqGuard, binOp, Op.equal, Op.maxDepth, run_equalIn_bool'' t x y 9999 hu]
        · trivial
      · trivial
    · trivial
  · trivial

theorem un_ok (hR : Rel D B E σ H df a w) {op : UnOp} {t : TypeId} {ox : Operand} (ho : o.op = .unOp op t ox) : OutOK P D B σ H df a w o (doUn op (ev σ ox)) := by
  have hx := ev_den hR ox
  generalize ev σ ox = sx at *
  unfold doUn
  split
  · rename_i k n
    have ex := den_int hx
    exact arith_ok hR (by simp [execOp, ho, ex, Op.unary, Op.intArith])
  · rename_i b
    have ex := den_bool hx
    exact runOK_of hR (u := .bool !b) (by simp [execOp, ho, ex, Op.unary]) (mk_bool _)
  · rename_i k n
    have ex := den_int hx
    exact runOK_of hR (u := .int k (bitop .xor k (if k.signed then -1 else k.max) n)) (by simp [execOp, ho, ex, Op.unary, Op.intBits, bitop]) (mk_int _ _)
  · trivial

theorem convert_ok (hT : TabOK P D tab) (hR : Rel D B E σ H df a w) {src dst : TypeId} {ox : Operand} (ho : o.op = .convert src dst ox) :
    OutOK P D B σ H df a w o (doConvert tab src dst (ev σ ox)) := by
  have hx := ev_den hR ox
  generalize ev σ ox = sx at *
  unfold doConvert
  cases hsrc : tab src with
  | none => trivial
  | some i0 =>
  cases htab : tab dst with
  | none => trivial
  | some j =>
    simp only
    have ht := hT dst j htab
    obtain ⟨ds, hds, _⟩ := (hT src i0 hsrc).und
    split
    · rename_i k k' n hk
      obtain ⟨d, hu, hkk⟩ := ht.und
      rw [hk] at hkk
      simp only [KindOK] at hkk
      subst hkk
      have ex := den_int hx
      have h0 : (execOp a.eval o).run P w = .ok (.value (.int k (k.wrap n))) w := by
        simp [execOp, ho, ex, convert, run_underlying hds, run_underlying hu, Conv.intToInt]
      split
      · intro hin
        unfold InR at hin
        rw [hin] at h0
        exact runOK_of hR h0 (mk_int _ _)
      · exact runOK_of hR h0 (mk_int _ _)
    · trivial

theorem struct_of {t : TypeId} {i : TI C} (ht : TyOK P D t i) {fs : List (Nat × TypeId)} (hk : i.kind = .struct fs) : ∃ F, P.underlying t = some (.struct F) ∧ F.toList.map (fun f => (f.offset, f.type)) = fs := by
  obtain ⟨d, hu, hkk⟩ := ht.und
  rw [hk] at hkk
  obtain ⟨F, rfl, hF, _⟩ := hkk
  exact ⟨F, hu, hF⟩
theorem arr_of {t : TypeId} {i : TI C} (ht : TyOK P D t i) {n : Nat} {e : TypeId} (hk : i.kind = .arr n e) : P.underlying t = some (.array n e) := by
  obtain ⟨d, hu, hkk⟩ := ht.und
  rw [hk] at hkk
  simp only [KindOK] at hkk
  rw [hu, hkk.1]
theorem arr_size {t : TypeId} {i : TI C} (ht : TyOK P D t i) {n : Nat} {e : TypeId} (hk : i.kind = .arr n e) : ∃ ie, P.info? e = some ie ∧ i.size = n * ie.size := by
  obtain ⟨d, hu, hkk⟩ := ht.und
  rw [hk] at hkk
  exact hkk.2
theorem slice_of {t : TypeId} {i : TI C} (ht : TyOK P D t i) {e : TypeId} (hk : i.kind = .slice e) : P.underlying t = some (.slice e) := by
  obtain ⟨d, hu, hkk⟩ := ht.und
  rw [hk] at hkk
  simp only [KindOK] at hkk
  rw [hu, hkk]
theorem str_of {t : TypeId} {i : TI C} (ht : TyOK P D t i) (hk : i.kind = .str) : P.underlying t = some .string := by
  obtain ⟨d, hu, hkk⟩ := ht.und
  rw [hk] at hkk
  simp only [KindOK] at hkk
  rw [hu, hkk]

theorem field_get {F : Array Field} {fs : List (Nat × TypeId)} (hF : F.toList.map (fun f => (f.offset, f.type)) = fs) {f off : Nat} {ft : TypeId} (h : ixL fs f = some (off, ft)) :
    ∃ fd, F[f]? = some fd ∧ fd.offset = off ∧ fd.type = ft := by
  rw [ixL_eq, ← hF, List.getElem?_map] at h
  cases hq : F.toList[f]? with
  | none => simp [hq] at h
  | some fd =>
    simp [hq] at h
    exact ⟨fd, by simpa using hq, h.1, h.2⟩

theorem fieldPlace_run {fd : Field} {j : TI C} (ht : TyOK P D fd.type j) (b o' : Nat) : (fieldPlace ⟨b, o', none⟩ fd).run P w = .ok ⟨b, o' + fd.offset, none⟩ w := by
  have := ht.pos
  simp [fieldPlace, run_sizeOf ht, Nat.pos_iff_ne_zero.1 this, Addr.add_lit]

theorem ifLive_ok {h : HS C} {x : Out C} (hx : h.live = true → OutOK P D B σ H df a w o x) : OutOK P D B σ H df a w o (ifLive h x) := by
  unfold ifLive
  cases hl : h.live with
  | true => exact hx hl
  | false => trivial

theorem live_ne {h : HS C} (hl : h.live = true) : h ≠ .dead ∧ h ≠ .fresh := by
  cases h <;> simp [HS.live] at hl <;> simp

theorem ptr_live (hs : Sat D w E H) {c o : Nat} (hl : (H c).live = true) {v : Value} (h : Den D w E (.ptr c o) v) : ∃ b, E.β c = .loc b := by
  have hn := live_ne hl
  rcases live_at hs hn.1 hn.2 with ⟨hv, _⟩ | ⟨b, hb, _⟩
  · simp only [Den, hv] at h
  · exact ⟨b, hb⟩
theorem eptr_live (hs : Sat D w E H) {c o n i f : Nat} (hl : (H c).live = true) {v : Value} (h : Den D w E (.eptr c o n i f) v) : ∃ b, E.β c = .loc b := by
  have hn := live_ne hl
  rcases live_at hs hn.1 hn.2 with ⟨hv, _⟩ | ⟨b, hb, _⟩
  · simp only [Den, hv] at h
  · exact ⟨b, hb⟩
/-- what a live slice is -/
theorem slice_live (hs : Sat D w E H) {c o n off len : Nat} (hl : (H c).live = true) {v : Value} (h : Den D w E (.slice c o n off len) v) :
    (len = 0 ∧ ((∃ ad, v = .slice ad 0 0 ∧ E.β c = .virt) ∨ ∃ a b, v = .slice a 0 0 ∧ E.β c = .loc b)) ∨
    ∃ b cap cs T, E.β c = .loc b ∧ v = .slice (some ⟨b, o + off * n, none⟩) len cap ∧ len ≤ cap ∧ Row w b cs T ∧ o + (off + cap) * n ≤ cs.size := by
  have hn := live_ne hl
  rcases live_at hs hn.1 hn.2 with ⟨hv, _⟩ | ⟨b, hb, _⟩
  · simp only [Den, hv] at h
    obtain ⟨ad, h1, h2⟩ := h
    exact .inl ⟨h2, .inl ⟨ad, h1, hv⟩⟩
  · simp only [Den, hb] at h
    rcases h with ⟨h1, ad, h2⟩ | ⟨cap, cs, T, h⟩
    · exact .inl ⟨h1, .inr ⟨ad, b, h2, hb⟩⟩
    · exact .inr ⟨b, cap, cs, T, hb, h⟩

theorem fieldAddr_ok (hT : TabOK P D tab) (hR : Rel D B E σ H df a w) {s : TypeId} {ox : Operand} {f : Nat} (ho : o.op = .fieldAddr s ox f) {hs : List (Nat × HS C)} (hhs : ∀ c, (ev σ ox).topId = some c → lk hs c = H c) :
    OutOK P D B σ H df a w o (doFieldAddr tab s (ev σ ox) f hs) := by
  have hx := ev_den hR ox
  generalize ev σ ox = sx at *
  unfold doFieldAddr
  cases htab : tab s with
  | none => trivial
  | some i =>
    simp only
    have ht := hT s i htab
    split
    · rename_i fs hk
      obtain ⟨F, hu, hF⟩ := struct_of ht hk
      cases hf : ixL fs f with
      | none => trivial
      | some p =>
        obtain ⟨off, ft⟩ := p
        obtain ⟨fd, h1, h2, h3⟩ := field_get hF hf
        simp only
        cases htf : tab ft with
        | none => trivial
        | some j =>
          have hj := hT ft j htf
          rw [← h3] at hj
          simp only
          have key : ∀ b o', a.eval ox = .pointer (some ⟨b, o', none⟩) → (execOp a.eval o).run P w = .ok (.value (.pointer (some ⟨b, o' + off, none⟩))) w := fun b o' e => by
            simp [execOp, ho, e, Instr.fieldAt, run_underlying hu, h1, Instr.sureAddr, fieldPlace_run hj, h2]
          split
          · rename_i c o'
            refine ifLive_ok fun hl => ?_
            rw [hhs c rfl] at hl
            obtain ⟨b, hb⟩ := ptr_live hR.sat hl hx
            have e := ptr_den hx hb
            exact runOK_of hR (key b o' e) (by simp only [Den, hb])
          · rename_i c o' n k g
            refine ifLive_ok fun hl => ?_
            rw [hhs c rfl] at hl
            obtain ⟨b, hb⟩ := eptr_live hR.sat hl hx
            have e := eptr_den hx hb
            exact runOK_of hR (key b _ e) (by simp only [Den, hb, Nat.add_assoc])
          · rename_i cells g
            simp only [Den] at hx
            obtain ⟨b, o', e, hc⟩ := hx
            refine runOK_of hR (key b _ e) ?_
            simp only [Den]
            exact ⟨b, o', by rw [Nat.add_assoc], hc⟩
          · trivial
    · trivial

end
end Go.SX
