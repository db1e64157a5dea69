/-
  SX, part V6: calls of functions that only read: what the caller owns is seen as persistent for the while.
-/
import Derived.Test.YtijedffphgckmaaGreatDoorSxV2
import Derived.Lib.MakeNoZero
import Derived.Laws.Externs
import Derived.KernelRfl
import Derived.Test.YtijedffphgckmaaGreatDoorSxQ
import Derived.Test.YtijedffphgckmaaGreatDoorProg
set_option linter.unusedVariables false
set_option linter.unusedSimpArgs false
namespace Go.SX
open Go.RowKit
variable {C : Cod}
mutual
/-- a value that holds no address -/
def plainS : SV C → Bool
 | .p (.int _ _) => true
 | .p (.bool _) => true
 | .p (.str _) => true
 | .tuple l => plainL l
 | .agg l => plainL l
 | _ => false
def plainL : List (SV C) → Bool
 | [] => true
 | x :: l => plainS x && plainL l
end
section
variable {P : Program} {D : Codec C} {A : Aux C D} {tab : Tab C} {X : Ctx C} {R : Kont C} {k : List (It C)} {T : List (SV C)} {Hp : List (HS C)}
mutual
theorem plainS_den {w w' : World} {E E' : Env} : ∀ (x : SV C) (v : Value), plainS x = true → Den D w E x v → Den D w' E' x v
 | .p (.int k n), v, _, h => by simp only [Den] at *; cases h; exact .int _ _
 | .p (.bool b), v, _, h => by simp only [Den] at *; cases h; exact .bool _
 | .p (.str l), v, _, h => by simp only [Den] at *; cases h; exact .str _
 | .tuple l, v, hp, h => by
  simp only [plainS] at hp
  simp only [Den] at *
  obtain ⟨xs, h1, h2⟩ := h
  exact ⟨xs, h1, plainL_denA l _ hp h2⟩
 | .agg l, v, hp, h => by
  simp only [plainS] at hp
  simp only [Den] at *
  obtain ⟨xs, h1, h2⟩ := h
  exact ⟨xs, h1, plainL_denC l _ hp h2⟩
 | .p (.lit _), v, hp, h => by simp [plainS] at hp
 | .p (.dsl _ _), v, hp, h => by simp [plainS] at hp
 | .p (.fds _ _), v, hp, h => by simp [plainS] at hp
 | .any, v, hp, h => by simp [plainS] at hp
 | .ptr _ _, v, hp, h => by simp [plainS] at hp
 | .eptr _ _ _ _ _, v, hp, h => by simp [plainS] at hp
 | .dptr _ _, v, hp, h => by simp [plainS] at hp
 | .slice _ _ _ _ _, v, hp, h => by simp [plainS] at hp
 | .arr _ _ _, v, hp, h => by simp [plainS] at hp
 | .fn _ _ _, v, hp, h => by simp [plainS] at hp
 | .iface _ _, v, hp, h => by simp [plainS] at hp
 | .yieldv _, v, hp, h => by simp [plainS] at hp
 | .mapp _, v, hp, h => by simp [plainS] at hp
theorem plainL_denA {w w' : World} {E E' : Env} : ∀ (l : List (SV C)) (vs : List Value), plainL l = true → DenA D w E l vs → DenA D w' E' l vs
 | [], vs, _, h => by simp only [DenA] at *; exact h
 | x :: l, vs, hp, h => by
  simp only [plainL, Bool.and_eq_true] at hp
  simp only [DenA] at *
  obtain ⟨v, v2, h1, h2, h3⟩ := h
  exact ⟨v, v2, h1, plainS_den x v hp.1 h2, plainL_denA l v2 hp.2 h3⟩
theorem plainL_denC {w w' : World} {E E' : Env} : ∀ (l : List (SV C)) (vs : List Value), plainL l = true → DenC D w E l vs → DenC D w' E' l vs
 | [], vs, _, h => by simp only [DenC] at *; exact h
 | x :: l, vs, hp, h => by
  simp only [plainL, Bool.and_eq_true] at hp
  have hx : x.isArr = false := by cases x <;> first | rfl | simp [plainS] at hp
  rw [DenC_cons hx] at *
  obtain ⟨v, v2, h1, h2, h3, h4⟩ := h
  exact ⟨v, v2, h1, h2, plainS_den x v hp.1 h3, plainL_denC l v2 hp.2 h4⟩
end

theorem none_ne {x : Option Nat} {c : Nat} (h : x = none) : x ≠ some c := by rw [h]; simp
theorem some_ne {x : Option Nat} {a c : Nat} (h : x = some a) (hn : a ≠ c) : x ≠ some c := by rw [h]; simpa using hn
/-- what is owned, seen as persistent -/
structure Seen (Hp : List (HS C)) (θ : List (Option Nat)) (l m : List (SV C)) : Prop where
 h : ViewL Hp θ l m
theorem callx_read {f : FuncId} {args args' : List (SV C)} {ret : SV C} {dst : Option Nat} {all rest : List Oper} (hM : Meets P D f args' [] ret []) (hv : Seen Hp [] args args') (hp : plainS ret = true)
  (h : setOK T dst ret fun T' => R (.ops all rest :: k) T' Hp) : CallX P D X R f args dst all rest k T Hp := by
 rw [setOK_eq] at h
 refine CallX.of (fun ret' Hp' => ret' = ret ∧ Hp' = Hp) ⟨.inl ⟨hM.enter, fun B σ df a w E _ hR vs hd => ?_⟩⟩ ?_
 ·let B0 : Base := ⟨w, { F := E.F, β := fun _ => .fresh }, fun _ => True, 0, fun _ _ => rfl, [], false⟩
  have hf0 : Fr B0 E w := ⟨rfl, rfl, rfl, Nat.le_refl _, fun b _ ho => absurd trivial ho, ⟨fun b hb => ⟨hb, rfl⟩, fun c => .inr (.inr rfl), fun c b e => by cases e⟩, fun b _ => .inr (.inl trivial), fun c b _ => .inl trivial⟩
  obtain ⟨g1, g2, g3⟩ := view_env hR.sat hf0 (θ := []) (Hp' := []) ⟨trivial, rfl, rfl⟩
  have hd' := view_denA hR.sat g1 args args' vs hv.h hd
  refine (hM.calls w (E.view [] []) (fun c _ => rfl) vs g2 hd').mono ?_
  rintro e w' ⟨v, E', rfl, hv', _, hfr⟩
  have hsame : ∀ b, b < w.heap.size → w'.heap[b]? = w.heap[b]? := fun b hb => hfr.same b hb (by rintro ⟨c, hc⟩; cases hc)
  have hL := Later.same hsame hR.sat.F
  exact ⟨v, E, ret, Hp, rfl, plainS_den ret v hp hv', hR.later hL (hR.sat.same hsame hfr.size) (hR.fr.on hR.sat.F hsame hfr.size hfr.os hfr.tape hfr.output), rfl, rfl⟩
 ·rintro ret' Hp' ⟨rfl, rfl⟩; exact h
def forceIds : List (Option Nat) → (List (Option Nat) → Prop) → Prop
 | [], K => K []
 | none :: l, K => forceIds l fun m => K (none :: m)
 | some n :: l, K => natK n fun n => forceIds l fun m => K (some n :: m)
theorem forceIds_eq : ∀ (l : List (Option Nat)) (K : List (Option Nat) → Prop), forceIds l K = K l
 | [], _ => rfl
 | none :: l, K => by simp only [forceIds, forceIds_eq l]
 | some n :: l, K => by simp only [forceIds, natK_eq, forceIds_eq l]
/-- the numbers k, k + 1, .. -/
def idsK : List (HS C) → Nat → List (Option Nat)
 | [], _ => []
 | _ :: l, k => some k :: idsK l (k + 1)
/-- a state and arguments, seen as others -/
theorem subA_of {m0 : Nat} {T T' : List (SV C)} {Hp Hp' : List (HS C)} {args args' : List (SV C)} (θ : List (Option Nat)) (hT : ViewL Hp θ T T') (ha : ViewL Hp θ args args') (hv : ViewOK Hp θ Hp' m0) : SubA D m0 T Hp args T' Hp' args' := by
 rintro B E df a w rfl hR hsz
 obtain ⟨h1, h2, h3⟩ := view_env hR.sat hR.fr hv
 have hlen : ∀ (l m : List (SV C)), ViewL Hp θ l m → l.length = m.length := by
  intro l
  induction l with
  | nil => intro m h; cases m with
   | nil => rfl
   | cons y m => simp [ViewL] at h
  | cons x l ih => intro m h; cases m with
   | nil => simp [ViewL] at h
   | cons y m => simp only [ViewL] at h; simp [ih m h.2]
 have hget : ∀ (l m : List (SV C)) (i : Nat) (v : Value), ViewL Hp θ l m → Den D w E (getT l i) v → Den D w (E.view θ Hp') (getT m i) v := by
  intro l
  induction l with
  | nil => intro m i v h _; cases m with
   | nil => trivial
   | cons y m => simp [ViewL] at h
  | cons x l ih => intro m i v h hd; cases m with
   | nil => simp [ViewL] at h
   | cons y m =>
    simp only [ViewL] at h
    cases i with
    | zero => exact view_den hR.sat h1 x y v h.1 hd
    | succ i => exact ih m i v h.2 hd
 exact ⟨_, ⟨fun i => hget T T' i _ hT (hR.den i), h2, h3, hR.defers, hR.marks.mono fun b hb => ⟨h1.F b hb, rfl⟩⟩, by rw [hsz, hlen T T' hT], fun vs hd => view_denA hR.sat h1 args args' vs ha hd⟩
/-- what is owned is given up for good ahead of a call: slots and chunks seen as others -/
theorem callx_frz {f : FuncId} {args : List (SV C)} {dst : Option Nat} {all rest : List Oper} (us : List (Nat × SV C)) (cs : List (Nat × HS C)) (args' : List (SV C)) (hb : Back X.m0 (idsK Hp 0) T Hp (setMany T us) (setCs Hp cs)) (ha : Seen Hp (idsK Hp 0) args args')
  (h : forceV (setMany T us) fun T1 => setCsK Hp cs fun Hp1 => CallX P D X R f args' dst all rest k T1 Hp1) : CallX P D X R f args dst all rest k T Hp := by
 rw [forceV_eq, setCsK_eq] at h
 obtain ⟨T2, Hp2, args2, hsub, hor⟩ := h.h
 refine ⟨T2, Hp2, args2, fun B E df a w hm hR hsz => ?_, hor⟩
 obtain ⟨E1, hR1, hsz1, hd1⟩ := subA_of (D := D) _ hb.T ha.h ⟨hb.H, hb.id, hb.nd⟩ B E df a w hm hR hsz
 obtain ⟨E2, hR2, hsz2, hd2⟩ := hsub B E1 df a w hm hR1 hsz1
 exact ⟨E2, hR2, hsz2, fun vs hv => hd2 vs (hd1 vs hv)⟩
theorem nilC {p X Y : Prop} (h1 : p → X) (h2 : Y) : NilX p X Y := ⟨h1, h2⟩
theorem ask_in {q : Option (Option (Nat × Value))} {Y : Option (Nat × Value) → Prop} {r : Option (Nat × Value)} (h1 : q = some r) (h2 : Y r) : AskX q Y := ⟨r, h1, h2⟩
/-- an operation that is stuck: what is owned is given up for good ahead of it -/
theorem frz_op {op : Op} {vals : List (SV C)} {hs : List (Nat × HS C)} {dst : Option Nat} {all rest : List Oper} (θ : List (Option Nat)) (us : List (Nat × SV C)) (cs : List (Nat × HS C)) (hb : Back X.m0 θ T Hp (setMany T us) (setCs Hp cs))
  (h : forceV (setMany T us) fun T1 => setCsK Hp cs fun Hp1 => forceV (valsOf T1 (opnds op)) fun vals => hlenK Hp1 0 fun m => after0 P D X R False dst all rest k T1 Hp1 (exec A tab op vals (hsOf Hp1 vals) m)) : StuckX op vals hs (FrzY P A tab X R op dst all rest k T Hp) := by
 rw [forceV_eq, setCsK_eq, forceV_eq, hlenK_eq, Nat.add_zero] at h
 refine ⟨_, _, fun B E df a w hm hR hsz => ?_, h⟩
 exact subA_of (D := D) _ hb.T (show ViewL Hp θ [] [] from trivial) ⟨hb.H, hb.id, hb.nd⟩ B E df a w hm hR hsz
/-- a region that draws its order: what is owned is given up for good ahead of it -/
theorem frz_draw {m0 : Nat} {ops : List Oper} (θ : List (Option Nat)) (us : List (Nat × SV C)) (cs : List (Nat × HS C)) (hb : Back m0 θ T Hp (setMany T us) (setCs Hp cs))
  (h : forceV (setMany T us) fun T1 => setCsK Hp cs fun Hp1 => DrawX P A tab m0 R ops k T1 Hp1) : DrawX P A tab m0 R ops k T Hp := by
 rw [forceV_eq, setCsK_eq] at h
 obtain ⟨T1, Hp1, hs, h1⟩ := h.h
 exact ⟨T1, Hp1, fun B df a w hm hR => hs B df a w hm (sub_of θ hb.T ⟨hb.H, hb.id, hb.nd⟩ B df a w hm hR), h1⟩
def condT (b : Bool) (X : Prop) : Prop := match b with
 | true => X
 | false => False
def someK {α : Type} (x : Option α) (K : α → Prop) : Prop := match x with
 | some a => K a
 | none => False
/-- behind a call that knows chunks of the heap -/
def callK (Hp : List (HS C)) (ρ : List (Option Nat)) (n0 : Nat) (H1 : List (HS C)) (ret0 : SV C) (K : SV C → List (Option Nat) → List (Nat × HS C) → Prop) : Prop :=
 hlenK Hp 0 fun m => forceIds (ρ ++ newIds (H1.length - n0) m) fun θ => condT (ndO θ && Nat.ble n0 H1.length) (someK (renHs θ H1) fun H1' => someK (renS θ ret0) fun ret => K ret θ (zipW θ H1'))
theorem callh {f : FuncId} {args0 args : List (SV C)} {H0 H0' H1 : List (HS C)} {ret0 : SV C} {dst : Option Nat} {all rest : List Oper} (ρ : List (Option Nat)) (hM : Meets P D f args0 H0 ret0 H1)
  (hargs : renL ρ args0 = some args) (hH0 : renHs ρ H0 = some H0') (hat : heapAt (getC Hp) ρ H0')
  (h : callK Hp ρ H0.length H1 ret0 fun ret _ ws => setOK T dst ret fun T' => setCsK Hp ws fun Hp' => R (.ops all rest :: k) T' Hp') : CallX P D X R f args dst all rest k T Hp := by
 unfold callK at h
 rw [hlenK_eq, Nat.add_zero, forceIds_eq] at h
 unfold condT at h
 split at h
 ·rename_i hc
  simp only [Bool.and_eq_true] at hc
  unfold someK at h
  split at h
  ·rename_i H1' hH1
   split at h
   ·rename_i ret hret
    exact callx_heap ρ hM hargs hH0 hat _ rfl hc.1 (Nat.le_of_ble_eq_true hc.2) hH1 hret h
   ·exact h.elim
  ·exact h.elim
 ·exact h.elim
theorem dcallh {next : DK C} {f : FuncId} {args0 args : List (SV C)} {H0 H0' H1 : List (HS C)} {ret0 : SV C} {dst : Option Nat} {fs fc : List Nat} {tr : List Ent} (ρ : List (Option Nat)) (hM : Meets P D f args0 H0 ret0 H1)
  (hargs : renL ρ args0 = some args) (hH0 : renHs ρ H0 = some H0') (hat : heapAt (getC Hp) ρ H0')
  (h : callK Hp ρ H0.length H1 ret0 fun ret θ ws => forceL (fc ++ foot θ) fun fc => forceL (idsOf ws) fun ids => setOK T dst ret fun T' => setCsK Hp ws fun Hp' => next (⟨dst, fs, fc, ids⟩ :: tr) T' Hp') : DCallX P D next f args dst fs fc tr T Hp := by
 unfold callK at h
 rw [hlenK_eq, Nat.add_zero, forceIds_eq] at h
 unfold condT at h
 split at h
 ·rename_i hc
  simp only [Bool.and_eq_true] at hc
  unfold someK at h
  split at h
  ·rename_i H1' hH1
   split at h
   ·rename_i ret hret
    exact dcallx_heap ρ hM hargs hH0 hat _ rfl hc.1 (Nat.le_of_ble_eq_true hc.2) hH1 hret h
   ·exact h.elim
  ·exact h.elim
 ·exact h.elim
/-- A loop, by what it changes: I the slots that count, U the chunks that turn; the other chunks stay as they are. -/
theorem loop_up {D : Codec C} {m0 : Nat} {body : Code} {γ : Type} (I : γ → List (Nat × SV C)) (U : γ → List (Nat × HS C)) (good : γ → Prop) (μ : γ → Nat) (g0 : γ) (h0 : good g0) (hent : Back m0 (idsK Hp 0) T Hp (headT body T (I g0)) (setCs Hp (U g0)))
  (hround : ∀ g, good g → ∀ K : List (SV C) → List (HS C) → Prop, (∀ g' θ T' Hp', Side (good g') → Side (μ g' < μ g) → Back m0 θ T' Hp' (headT body T (I g')) (setCs Hp (U g')) → K T' Hp') →
   forceV (headT body T (I g)) fun T1 => setCsK Hp (U g) fun Hp1 => R (.code body :: .endLoop K :: k) T1 Hp1) : LoopX D m0 R body k T Hp := by
 refine loop_inv I (fun g => setCs Hp (U g)) good μ g0 h0 _ hent fun g hg K hK => ?_
 have := hround g hg K hK
 rw [forceV_eq, setCsK_eq] at this
 rw [forceV_eq, forceL_eq]
 exact this
end
end Go.SX

/-
 SX, part V7: calls of functions that have no body: abi.NoEscape, bytealg.MakeNoZero.
-/
namespace Go.SX
open Go.RowKit
variable {C : Cod}
section
variable {P : Program} {D : Codec C} {A : Aux C D} {tab : Tab C} {X : Ctx C} {R : Kont C} {k : List (It C)} {T : List (SV C)} {Hp : List (HS C)} {f : FuncId} {dst : Option Nat} {all rest : List Oper} {next : DK C} {fs fc : List Nat} {tr : List Ent}

/-- a function that gives back what it is given -/
structure SameF (P : Program) (f : FuncId) : Prop where
 h : ∀ v w, (callFunc f #[v]).run P w = .ok (.value v) w
theorem callAt_same (h : SameF P f) (x : SV C) (H : Nat → HS C) : CallAt P D f [x] H x [] := by
 refine ⟨.inr fun B σ df a w E hR vs hd => ?_⟩
 simp only [DenA] at hd
 obtain ⟨v, v2, rfl, h1, rfl⟩ := hd
 exact ⟨v, w, E, h.h v w, h1, hR⟩
theorem callx_same (hs : SameF P f) {x : SV C} (h : setOK T dst x fun T' => R (.ops all rest :: k) T' Hp) : CallX P D X R f [x] dst all rest k T Hp :=
 callX_of_at (callAt_same hs x _) (by simpa [setCsK] using h)
theorem dcallx_same (hs : SameF P f) {x : SV C} (h : forceL fc fun fc => setOK T dst x fun T' => next (⟨dst, fs, fc, []⟩ :: tr) T' Hp) : DCallX P D next f [x] dst fs fc tr T Hp := by
 rw [forceL_eq, setOK_eq] at h
 exact ⟨⟨x, [], [], ⟨fun H _ => callAt_same hs x H⟩, by simpa [idsOf, setCs] using h⟩⟩

/-- bytealg.MakeNoZero -/
structure MnzF (P : Program) (tab : Tab C) (f : FuncId) (u : C.U) : Prop where
 h : ∃ ps t e i j, (∀ args w, (callFunc f args).run P w = ((Extern.BytealgMakeNoZero.makeNoZero ps #[t] args).run P w).andThen fun v w' => .ok (.value v) w') ∧
  tab t = some i ∧ i.kind = .slice e ∧ tab e = some j ∧ j.code = some u ∧ C.n u = 1
theorem callAt_mnz (hT : TabOK P D tab) {u : C.U} (hf : MnzF P tab f u) {n : Int} (h0 : 0 ≤ n) (h1 : n ≤ 281474976710656) {H : Nat → HS C} {m : Nat} (hm : H m = .fresh) :
  CallAt P D f [.p (.int .i64 n)] H (.slice m 0 1 0 n.toNat) [(m, .rows u [])] := by
 obtain ⟨ps, t, e, i, j, hrun, ht, hk, hj, hcode, hn⟩ := hf.h
 refine ⟨.inr fun B σ df a w E hR vs hd => ?_⟩
 simp only [DenA] at hd
 obtain ⟨v, v2, rfl, hv, rfl⟩ := hd
 have ev := den_int hv
 subst ev
 obtain ⟨cs, hr, hge, _⟩ := Lib.run_makeNoZero (P := P) w ps t e (slice_of (hT t i ht) hk) n.toNat (by omega)
 rw [Int.toNat_of_nonneg h0] at hr
 have hrow : Row (w.drew.drew.alloc (.cells cs e)) w.drew.drew.heap.size cs e := Row.new (heap_alloc_new w.drew.drew _)
 refine ⟨.slice (some ⟨w.heap.size, 0, none⟩) n.toNat cs.size, w.drew.drew.alloc (.cells cs e), E.up m (.loc w.drew.drew.heap.size), ?_, ?_, ?_⟩
 ·rw [hrun]
  show ((Extern.BytealgMakeNoZero.makeNoZero ps #[t] #[.int .i64 n]).run P w).andThen _ = _
  rw [hr]; rfl
 ·simp only [Den, Env.up_same]
  exact .inr ⟨cs.size, cs, e, by simp, hge, hrow, by omega⟩
 ·rw [upHs_one]
  exact hR.drew.drew.alloc hm cs e ⟨cs, e, ⟨hrow, fun t' h => ((hT e j hj).ctype u t' hcode h).symm⟩, by simp, ⟨by simp, fun q pv v hp _ => by simp at hp⟩⟩
theorem callx_mnz (hT : TabOK P D tab) {u : C.U} (hf : MnzF P tab f u) {n : Int} (hs : Side (0 ≤ n ∧ n ≤ 281474976710656)) (h : hlenK Hp 0 fun m => setOK T dst (.slice m 0 1 0 n.toNat) fun T' => setCK Hp m (.rows u []) fun Hp' => R (.ops all rest :: k) T' Hp') :
  CallX P D X R f [.p (.int .i64 n)] dst all rest k T Hp := by
 rw [hlenK_eq, Nat.add_zero] at h
 refine callX_of_at (callAt_mnz hT hf hs.h.1 hs.h.2 (getC_len Hp)) ?_
 rw [setOK_eq, setCK_eq] at h
 rw [setOK_eq, setCsK_eq]
 exact h
theorem dcallx_mnz (hT : TabOK P D tab) {u : C.U} (hf : MnzF P tab f u) {n : Int} (hs : Side (0 ≤ n ∧ n ≤ 281474976710656))
  (h : hlenK Hp 0 fun m => forceL (fc ++ [m]) fun fc => setOK T dst (.slice m 0 1 0 n.toNat) fun T' => setCK Hp m (.rows u []) fun Hp' => next (⟨dst, fs, fc, [m]⟩ :: tr) T' Hp') : DCallX P D next f [.p (.int .i64 n)] dst fs fc tr T Hp := by
 rw [hlenK_eq, Nat.add_zero, forceL_eq, setOK_eq, setCK_eq] at h
 refine ⟨⟨_, [(hlen Hp, .rows u [])], [hlen Hp], ⟨fun H hH => callAt_mnz hT hf hs.h.1 hs.h.2 ?_⟩, h⟩⟩
 rw [hH _ (by simp)]; exact getC_len Hp
end
end Go.SX

/-
 SX, part V8: the stops' laws in a short form.
-/
namespace Go.SX
variable {C : Cod}
class Bl (b : Bool) (p q : outParam Prop) : Prop where
 t : b = true → p
 f : b = false → q
instance (priority := 10) blB (b : Bool) : Bl b (b = true) (b = false) := ⟨id, id⟩
instance (priority := 20) blN (b : Bool) : Bl (!b) (b = false) (b = true) := ⟨by simp, by simp⟩
instance (priority := 30) blD (p : Prop) [Decidable p] : Bl (decide p) p (¬p) := ⟨by simp, by simp⟩
instance (priority := 40) blE (p : Prop) [Decidable p] : Bl (!decide p) (¬p) p := ⟨by simp, by simp⟩
theorem spC {b : Bool} {p q X Y : Prop} [hb : Bl b p q] (h1 : p → X) (h2 : q → Y) : condX b X Y := split_x (fun h => h1 (hb.t h)) (fun h => h2 (hb.f h))
theorem sdV {p : Prop} (h : p := by
  first | ((repeat' (first | refine And.intro ?_ ?_ | exact inR_i64 (by omega) (by omega) | omega | rfl | exact trivial | exact none_ne rfl | exact some_ne rfl (Nat.ne_of_beq_eq_false rfl) | exact Nat.ne_of_beq_eq_false rfl | (dsimp only [srcSide]; omega) | (simp; done) | (simp; omega))); done) | fail) : Side p := ⟨h⟩
theorem saC {p q : Prop} (h2 : q) (h1 : Side p := by first | exact sdV | fail) : p ∧ q := ⟨h1.h, h2⟩
section
variable {P : Program} {D : Codec C} {tab : Tab C} {A : Aux C D} {X : Ctx C} {R : Kont C} {k : List (It C)} {T : List (SV C)} {Hp : List (HS C)} {m0 : Nat} {f : FuncId} {args args' : List (SV C)} {dst : Option Nat} {all rest : List Oper} {next : DK C} {fs fc : List Nat} {tr : List Ent} {ret : SV C}
theorem taC {t : List Ent} {Z : Prop} (h2 : Z) (h1 : traceB all t.reverse = true := by kernel_rfl) : TraceOK all t ∧ Z := ⟨⟨h1⟩, h2⟩
theorem x0C {rs : List ResultVar} (hE : EndV Hp [] ret (resOf D tab T Hp rs)) : (Exit.ret = Exit.normal ∨ Exit.ret = Exit.ret) ∧ ∃ θ l, resOf D tab T Hp rs = some l ∧ View Hp θ (retOf l) ret ∧ ViewOK Hp θ [] 0 :=
 end_fn [] (.inr rfl) hE trivial rfl rfl
theorem eB {rs : List ResultVar} {θ : List (Option Nat)} {b r : Bool} (h1 : b = r) (h2 : resOf D tab T Hp rs = some [.p (.bool b)]) : EndV Hp θ (.p (.bool r)) (resOf D tab T Hp rs) := by
 subst h1; rw [h2]; exact ⟨rfl⟩
theorem eI {rs : List ResultVar} {θ : List (Option Nat)} {K : IntKind} {b r : Int} (h1 : b = r) (h2 : resOf D tab T Hp rs = some [.p (.int K b)]) : EndV Hp θ (.p (.int K r)) (resOf D tab T Hp rs) := by
 subst h1; rw [h2]; exact ⟨rfl⟩
theorem cpC (hM : Meets P D f args [] ret []) (h : setOK T dst ret fun T' => R (.ops all rest :: k) T' Hp) (h1 : renL [] args = some args := by rfl) (h2 : renS [] ret = some ret := by rfl) : CallX P D X R f args dst all rest k T Hp := callx_pure hM h1 h2 h
theorem dpC (hM : Meets P D f args [] ret []) (h : forceL fc fun fc => setOK T dst ret fun T' => next (⟨dst, fs, fc, []⟩ :: tr) T' Hp) (h1 : renL [] args = some args := by rfl) (h2 : renS [] ret = some ret := by rfl) : DCallX P D next f args dst fs fc tr T Hp := dcallx_pure hM h1 h2 h
theorem fzV {θ : List (Option Nat)} {c o n off len : Nat} {u : C.U} {ys xs : List (C.El u)} (h1 : getC Hp c = .rows u xs := by rfl) (h2 : o = 0 := by rfl) (h3 : n = C.n u := by rfl) (h4 : off + len ≤ xs.length := by first | (simp; done) | (simp; omega) | omega)
  (h5 : ys = (xs.drop off).take len := by first | (simp; done) | (simp [List.take_of_length_le]; done) | (simp [List.take_of_length_le]; rfl)) (h6 : inO θ c = false := by rfl) : FrozenAs Hp θ c o n off len u ys := ⟨xs, h1, h2, h3, h4, h5, h6⟩
theorem fvV {θ : List (Option Nat)} {c : Nat} {cells : List (PV C)} {t : Option TypeId} {vs : List (SV C)} (h1 : getC Hp c = .vart t vs := by rfl) (h2 : ViewPs Hp θ vs cells := by first | ((repeat' (first | exact trivial | exact rfl | refine And.intro ?_ ?_ | exact fzV)); done) | fail) (h3 : inO θ c = false := by rfl) : FrozenVar Hp θ c cells := ⟨t, vs, h1, h2, h3⟩
theorem snV {θ : List (Option Nat)} {l m : List (SV C)} (h : ViewL Hp θ l m := by first | ((repeat' (first | exact trivial | exact rfl | refine And.intro ?_ ?_ | exact fzV | exact fvV)); done) | fail) : Seen Hp θ l m := ⟨h⟩
theorem rdC (hM : Meets P D f args' [] ret []) (h : setOK T dst ret fun T' => R (.ops all rest :: k) T' Hp) (hv : Seen Hp [] args args' := by first | exact snV | fail) (hp : plainS ret = true := by rfl) : CallX P D X R f args dst all rest k T Hp := callx_read hM hv hp h
theorem vwV {θ : List (Option Nat)} {l : Option (List (SV C))} (h : endV Hp θ ret l := by first | ((repeat' (first | exact trivial | exact rfl | refine And.intro ?_ ?_ | exact fzV | exact fvV)); done) | fail) : EndV Hp θ ret l := ⟨h⟩
theorem hsV {θ l : List (Option Nat)} {m : List (HS C)} (h : ViewHs Hp θ l m := by first | ((repeat' (first | exact trivial | exact rfl | refine And.intro ?_ ?_ | exact ⟨_, rfl⟩ | exact fzV | exact fvV)); done) | fail) : ViewHs Hp θ l m := h
theorem bkV {θ : List (Option Nat)} {T' : List (SV C)} {Hp' : List (HS C)} (h1 : ViewL Hp θ T T' := by first | ((repeat' (first | exact trivial | exact rfl | refine And.intro ?_ ?_ | exact fzV | exact fvV)); done) | fail) (h2 : ViewHs Hp θ θ Hp' := by first | exact hsV | fail) (h3 : idO m0 0 θ = true := by rfl) (h4 : ndO θ = true := by rfl) : Back m0 θ T Hp T' Hp' := ⟨h1, h2, h3, h4⟩
end
theorem mviewC {P : Program} {D : Codec C} {f : FuncId} {args args' : List (SV C)} {ret : SV C} {H1 : List (HS C)} (hM : Meets P D f args' [] ret H1) (h : Seen [] [] args args') : Meets P D f args [] ret H1 := by
 refine ⟨hM.enter, fun w E hm vs hs hd => hM.calls w E hm vs hs (view_denA hs ⟨fun _ h => h, fun j d e => by simp [ixO] at e, fun j e => by simp [ixL] at e, fun c b _ e => ?_⟩ args args' vs h.h hd)⟩
 rw [hm c (Nat.zero_le c)] at e
 cases e
/-- a contract over what lasts, at what the caller owns -/
theorem mownC {P : Program} {D : Codec C} {f : FuncId} {args args' : List (SV C)} {ret : SV C} {H1 : List (HS C)} (hM : Meets P D f args' [] ret []) (hv : Seen H1 [] args args') (hp : plainS ret = true) : Meets P D f args H1 ret H1 := by
 refine ⟨hM.enter, fun w E hm vs hs hd => ?_⟩
 let B0 : Base := ⟨w, { F := E.F, β := fun _ => .fresh }, fun _ => True, 0, fun _ _ => rfl, [], false⟩
 have hf0 : Fr B0 E w := ⟨rfl, rfl, rfl, Nat.le_refl _, fun b _ ho => absurd trivial ho, ⟨fun b hb => ⟨hb, rfl⟩, fun c => .inr (.inr rfl), fun c b e => by cases e⟩, fun b _ => .inr (.inl trivial), fun c b _ => .inl trivial⟩
 obtain ⟨g1, g2, g3⟩ := view_env hs hf0 (θ := []) (Hp' := []) ⟨trivial, rfl, rfl⟩
 have hd' := view_denA hs g1 args args' vs hv.h hd
 refine (hM.calls w (E.view [] []) (fun c _ => rfl) vs g2 hd').mono ?_
 rintro e w' ⟨v, E', rfl, hv', _, hfr⟩
 have hsame : ∀ b, b < w.heap.size → w'.heap[b]? = w.heap[b]? := fun b hb => hfr.same b hb (by rintro ⟨c, hc⟩; cases hc)
 exact ⟨v, E, rfl, plainS_den ret v hp hv', hs.same hsame hfr.size, (Fr.here (m := H1.length) (hm := hm)).on hs.F hsame hfr.size hfr.os hfr.tape hfr.output⟩
theorem frzC {P : Program} {D : Codec C} {X : Ctx C} {R : Kont C} {k : List (It C)} {T : List (SV C)} {Hp : List (HS C)} {f : FuncId} {args : List (SV C)} {dst : Option Nat} {all rest : List Oper} (θ : List (Option Nat)) (us : List (Nat × SV C)) (cs : List (Nat × HS C)) (args' : List (SV C)) (hb : Back X.m0 θ T Hp (setMany T us) (setCs Hp cs)) (ha : Seen Hp θ args args')
  (h : forceV (setMany T us) fun T1 => setCsK Hp cs fun Hp1 => CallX P D X R f args' dst all rest k T1 Hp1) : CallX P D X R f args dst all rest k T Hp := by
 rw [forceV_eq, setCsK_eq] at h
 obtain ⟨T2, Hp2, args2, hsub, hor⟩ := h.h
 refine ⟨T2, Hp2, args2, fun B E df a w hm hR hsz => ?_, hor⟩
 obtain ⟨E1, hR1, hsz1, hd1⟩ := subA_of (D := D) _ hb.T ha.h ⟨hb.H, hb.id, hb.nd⟩ B E df a w hm hR hsz
 obtain ⟨E2, hR2, hsz2, hd2⟩ := hsub B E1 df a w hm hR1 hsz1
 exact ⟨E2, hR2, hsz2, fun vs hv => hd2 vs (hd1 vs hv)⟩
end Go.SX

/-
 SX, part S: a table of types checked against the program by a computation.
-/
namespace Go.SX
variable {C : Cod}

def pB : PV C → Value → Bool
 | .int k n, .int k' n' => decide (k = k') && decide (n = n')
 | .bool b, .bool b' => b == b'
 | .str l, .string s => decide (l = s.data.toList)
 | .lit (.slice none 0 0), .slice none 0 0 => true
 | .lit (.pointer none), .pointer none => true
 | .lit (.map none), .map none => true
 | .lit .nilFunc, .nilFunc => true
 | .lit .nilIface, .nilIface => true
 | _, _ => false
def pLB : List (PV C) → List Value → Option (List Value)
 | [], vs => some vs
 | x :: l, v :: vs => if pB x v then pLB l vs else none
 | _ :: _, [] => none
def zeroB (D : Codec C) : List (SV C) → List Value → Bool
 | [], [] => true
 | .p x :: l, v :: vs => pB x v && zeroB D l vs
 | .arr u N xs :: l, vs => decide (xs.length = N) && (match pLB (xs.flatMap (D.enc u)) vs with
  | some r => zeroB D l r
  | none => false)
 | _, _ => false
def kindB (P : Program) (size : Nat) : TK → TypeDesc → Bool
 | .int k, .int k' => decide (k' = k)
 | .bool, .bool => true
 | .str, .string => true
 | .struct fs, .struct F => decide (F.toList.map (fun f => (f.offset, f.type)) = fs) && fs.all fun f => (P.info? f.2).isSome
 | .arr n e, .array n' e' => decide (n' = n) && decide (e' = e) && (match P.info? e with | some ie => decide (size = n * ie.size) | none => false)
 | .slice e, .slice e' => decide (e' = e)
 | .ptr e, .pointer e' => decide (e' = e)
 | .uptr, .unsafePointer => true
 | .ifc, .interface _ => true
 | .map k e, .map kt e' => decide (e' = e) && (match P.underlying kt with | some d => (match k, d with | .int q, .int q' => decide (q' = q) | .str, .string => true | _, _ => false) | none => false)
 | .other, d => match d with | .struct _ | .array _ _ => false | _ => true
 | _, _ => false
def zbB (P : Program) (t : TypeId) : TK → Bool
 | .bool => match P.info? t with
  | some info => match info.zero with
   | some (.bool false) => true
   | _ => false
  | none => false
 | _ => true
def tyB (P : Program) (D : Codec C) (t : TypeId) (i : TI C) : Bool :=
 (match P.info? t with
  | some info => decide (info.size = i.size) && decide (info.bytes = i.bytes) && (match info.zero with
   | some z => decide (z.cells.size = i.size) && zeroB D i.zero z.cells.toList
   | none => false)
  | none => false) &&
 (match P.underlying t with
  | some d => kindB P i.size i.kind d
  | none => false) &&
 decide (0 < i.size) && (match i.code with
  | some u => decide (C.n u = i.size) && (match C.ty u with
   | some t' => decide (t' = t)
   | none => true)
  | none => true) && (match i.typed with
  | true => liesAt P P.depth t (i.size / P.cellsOf t) 0 t 1
  | false => true) && (match i.cks with
  | [] => true
  | l => i.kind.agg && ckB P 64 t l && !P.eqGuardType P.depth t) && zbB P t i.kind

section
variable {P : Program} {D : Codec C} {w : World} {E : Env}
theorem pB_ok {x : PV C} {v : Value} (h : pB x v = true) {F : Nat → Prop} : PDen D w F x v := by
 unfold pB at h
 split at h
 ·simp at h; obtain ⟨rfl, rfl⟩ := h; exact .int _ _
 ·simp at h; subst h; exact .bool _
 ·simp at h; subst h; rename_i s; obtain ⟨⟨l⟩⟩ := s; exact .str _
 ·exact .lit _ rfl
 ·exact .lit _ rfl
 ·exact .lit _ rfl
 ·exact .lit _ rfl
 ·exact .lit _ rfl
 ·cases h
theorem pLB_ok {F : Nat → Prop} : ∀ (l : List (PV C)) (vs r : List Value), pLB l vs = some r → ∃ v1, vs = v1 ++ r ∧ PDenL D w F l v1
 | [], vs, r, h => by simp [pLB] at h; subst h; exact ⟨[], rfl, rfl, fun j pv v hp _ => by simp at hp⟩
 | x :: l, [], r, h => by simp [pLB] at h
 | x :: l, v :: vs, r, h => by
  simp only [pLB] at h
  split at h
  ·rename_i hb
   obtain ⟨v1, rfl, h1⟩ := pLB_ok (F := F) l vs r h
   refine ⟨v :: v1, rfl, by simp [h1.1], fun j pv u hp hu => ?_⟩
   cases j with
   | zero => simp at hp hu; subst hp; subst hu; exact pB_ok hb
   | succ j => exact h1.2 j pv u (by simpa using hp) (by simpa using hu)
  ·cases h
theorem zeroB_ok : ∀ (l : List (SV C)) (vs : List Value), zeroB D l vs = true → DenC D w E l vs
 | [], [], _ => by simp only [DenC]
 | [], _ :: _, h => by simp [zeroB] at h
 | .p x :: l, [], h => by simp [zeroB] at h
 | .p x :: l, v :: vs, h => by
  simp only [zeroB, Bool.and_eq_true] at h
  have h1 : PDen D w E.F x v := pB_ok h.1
  simp only [DenC, Den]
  exact ⟨v, vs, rfl, h1.oneCell, h1, zeroB_ok l vs h.2⟩
 | .arr u N xs :: l, vs, h => by
  have h' : xs.length = N ∧ (match pLB (xs.flatMap (D.enc u)) vs with | some r => zeroB D l r | none => false) = true := by
   cases vs <;> simpa [zeroB] using h
  obtain ⟨h1, h2⟩ := h'
  cases hp : pLB (xs.flatMap (D.enc u)) vs with
  | none => rw [hp] at h2; cases h2
  | some r =>
   rw [hp] at h2
   obtain ⟨v1, e, h3⟩ := pLB_ok (D := D) (w := w) (F := E.F) _ vs r hp
   simp only [DenC]
   exact ⟨h1, v1, r, e, h3, zeroB_ok l r h2⟩
 | .any :: l, vs, h => by cases vs <;> simp [zeroB] at h
 | .ptr _ _ :: l, vs, h => by cases vs <;> simp [zeroB] at h
 | .eptr _ _ _ _ _ :: l, vs, h => by cases vs <;> simp [zeroB] at h
 | .dptr _ _ :: l, vs, h => by cases vs <;> simp [zeroB] at h
 | .slice _ _ _ _ _ :: l, vs, h => by cases vs <;> simp [zeroB] at h
 | .agg _ :: l, vs, h => by cases vs <;> simp [zeroB] at h
 | .fn _ _ _ :: l, vs, h => by cases vs <;> simp [zeroB] at h
 | .iface _ _ :: l, vs, h => by cases vs <;> simp [zeroB] at h
 | .tuple _ :: l, vs, h => by cases vs <;> simp [zeroB] at h
theorem kindB_ok {size : Nat} {k : TK} {d : TypeDesc} (h : kindB P size k d = true) : KindOK P size k d := by
 unfold kindB at h
 split at h
 ·simp at h; subst h; rfl
 ·rfl
 ·rfl
 ·simp at h
  exact ⟨_, rfl, h.1, fun f hf => by
   have := h.2 f.1 f.2 hf
   simpa [Option.isSome_iff_ne_none] using this⟩
 ·simp at h
  obtain ⟨⟨rfl, rfl⟩, h2⟩ := h
  split at h2
  ·rename_i ie hie
   exact ⟨rfl, ie, hie, by simpa using h2⟩
  ·cases h2
 ·simp at h; subst h; rfl
 ·simp at h; subst h; rfl
 ·rfl
 ·exact ⟨_, rfl⟩
 ·simp only [Bool.and_eq_true, decide_eq_true_eq] at h
  obtain ⟨rfl, h2⟩ := h
  refine ⟨_, rfl, ?_⟩
  split at h2
  ·rename_i d hd
   split at h2
   ·simp at h2; subst h2; exact hd
   ·exact hd
   ·cases h2
  ·cases h2
 ·simp only [KindOK]
  exact h
 ·cases h
theorem tyB_ok {t : TypeId} {i : TI C} (h : tyB P D t i = true) : TyOK P D t i := by
 simp only [tyB, Bool.and_eq_true, decide_eq_true_eq] at h
 obtain ⟨⟨⟨⟨⟨⟨h1, h2⟩, h3⟩, h4⟩, h6⟩, h5⟩, h8⟩ := h
 refine ⟨?_, ?_, h3, fun u hu => ?_, fun u t' hu ht => ?_, fun ht => ?_, fun hk => ?_, fun hc => ?_⟩
 ·split at h1
  ·rename_i info hinfo
   simp only [Bool.and_eq_true, decide_eq_true_eq] at h1
   obtain ⟨⟨h5, h6⟩, h7⟩ := h1
   split at h7
   ·rename_i z hz
    simp only [Bool.and_eq_true, decide_eq_true_eq] at h7
    exact ⟨info, z, hinfo, h5, h6, hz, h7.1, fun w E => zeroB_ok _ _ h7.2⟩
   ·cases h7
  ·cases h1
 ·split at h2
  ·rename_i d hd; exact ⟨d, hd, kindB_ok h2⟩
  ·cases h2
 ·rw [hu] at h4; simp only [Bool.and_eq_true, decide_eq_true_eq] at h4; exact h4.1
 ·rw [hu] at h4; simp only [Bool.and_eq_true, decide_eq_true_eq] at h4; rw [ht] at h4; simpa using h4.2
 ·rw [ht] at h6; exact h6
 ·rw [hk] at h8
  simp only [zbB] at h8
  split at h8
  ·rename_i info hi
   split at h8
   ·rename_i hz; exact ⟨info, hi, hz⟩
   ·cases h8
  ·cases h8
 ·split at h5
  ·rename_i h; exact (hc h).elim
  ·simp only [Bool.and_eq_true, Bool.not_eq_true'] at h5
   exact ⟨h5.1.1, h5.1.2, h5.2⟩
end
end Go.SX

/-
 The element types of this project's slices and arrays (written by mku.py).
-/
namespace Go.SX

structure A5 where
 a : Int
 b : Int
 c : Int
 d : Int
 e : Int
deriving DecidableEq
structure A3 where
 a : Int
 b : Int
 c : Int
deriving DecidableEq
structure Spell where
 from_ : Int
 to_ : Int
deriving DecidableEq
structure Cell where
 x : Int
 y : Int
deriving DecidableEq
structure Goal where
 kind : Int
 rows : List Int
 from_ : Int
 to_ : Int
 low : Int
 high : Int
 clear : Bool
 days : Int
 times : Int
 within : Int
 cents : List Int
 kids : List Goal
structure Order where
 id : Int
 owner : Int
 goal : Goal
 price : Int
 group : Int
 urgent : Bool
 known : Int
 due : Int
/-- what an interface without methods may hold here -/
inductive AnyV where
 | n (i : Int)
 | s (l : List UInt8)
@[reducible] def anyVal : AnyV → Value
 | .n i => .iface 3 (.int .i64 i)
 | .s l => .iface 9 (.string ⟨⟨l⟩⟩)

inductive U where
 | int | bool | str | u8 | u32 | u64 | anyv | arr5 | arr3 | spell | cell | goal | order
deriving DecidableEq

@[reducible] def U.El : U → Type
 | .int => Int
 | .bool => Bool
 | .str => List UInt8
 | .u8 => Int
 | .u32 => Int
 | .u64 => Int
 | .anyv => AnyV
 | .arr5 => A5
 | .arr3 => A3
 | .spell => Spell
 | .cell => Cell
 | .goal => Goal
 | .order => Order
def U.dflt : (u : U) → u.El
 | .int => (0 : Int)
 | .bool => false
 | .str => ([] : List UInt8)
 | .u8 => (0 : Int)
 | .u32 => (0 : Int)
 | .u64 => (0 : Int)
 | .anyv => (AnyV.n 0)
 | .arr5 => (⟨0, 0, 0, 0, 0⟩ : A5)
 | .arr3 => (⟨0, 0, 0⟩ : A3)
 | .spell => (⟨0, 0⟩ : Spell)
 | .cell => (⟨0, 0⟩ : Cell)
 | .goal => (⟨0, [], 0, 0, 0, 0, false, 0, 0, 0, [], []⟩ : Goal)
 | .order => (⟨0, 0, (⟨0, [], 0, 0, 0, 0, false, 0, 0, 0, [], []⟩), 0, 0, false, 0, 0⟩ : Order)
def U.n : U → Nat
 | .int => 1
 | .bool => 1
 | .str => 1
 | .u8 => 1
 | .u32 => 1
 | .u64 => 1
 | .anyv => 1
 | .arr5 => 5
 | .arr3 => 3
 | .spell => 2
 | .cell => 2
 | .goal => 12
 | .order => 19
def U.glob : Nat → List Value
 | 1 => [.int .u8 0, .int .u8 1, .int .u8 56, .int .u8 2, .int .u8 57, .int .u8 49, .int .u8 28, .int .u8 3, .int .u8 61, .int .u8 58, .int .u8 42, .int .u8 50, .int .u8 38, .int .u8 29, .int .u8 17, .int .u8 4, .int .u8 62, .int .u8 47, .int .u8 59, .int .u8 36, .int .u8 45, .int .u8 43, .int .u8 51, .int .u8 22, .int .u8 53, .int .u8 39, .int .u8 33, .int .u8 30, .int .u8 24, .int .u8 18, .int .u8 12, .int .u8 5, .int .u8 63, .int .u8 55, .int .u8 48, .int .u8 27, .int .u8 60, .int .u8 41, .int .u8 37, .int .u8 16, .int .u8 46, .int .u8 35, .int .u8 44, .int .u8 21, .int .u8 52, .int .u8 32, .int .u8 23, .int .u8 11, .int .u8 54, .int .u8 26, .int .u8 40, .int .u8 15, .int .u8 34, .int .u8 20, .int .u8 31, .int .u8 10, .int .u8 25, .int .u8 14, .int .u8 19, .int .u8 9, .int .u8 13, .int .u8 8, .int .u8 7, .int .u8 6]
 | 3 => [.int .u64 1, .int .u64 10, .int .u64 100, .int .u64 1000, .int .u64 10000, .int .u64 100000, .int .u64 1000000, .int .u64 10000000, .int .u64 100000000, .int .u64 1000000000, .int .u64 10000000000, .int .u64 100000000000, .int .u64 1000000000000, .int .u64 10000000000000, .int .u64 100000000000000, .int .u64 1000000000000000, .int .u64 10000000000000000, .int .u64 100000000000000000, .int .u64 1000000000000000000, .int .u64 10000000000000000000]
 | _ => []
def U.gifc : Nat → Bool
 | 4 => true
 | 5 => true
 | _ => false
def U.ty : U → Option TypeId
 | .u8 => some 5
 | _ => none
@[reducible] def Cd : Cod := { U := U, El := U.El, dflt := U.dflt, n := U.n, glob := U.glob, ty := U.ty, gifc := U.gifc }

def encU : (u : U) → u.El → List (PV Cd)
 | .int, x => [.int .i64 x]
 | .bool, x => [.bool x]
 | .str, x => [.str x]
 | .u8, x => [.int .u8 x]
 | .u32, x => [.int .u32 x]
 | .u64, x => [.int .u64 x]
 | .anyv, x => [.lit (anyVal x)]
 | .arr5, x => [.int .i64 x.a, .int .i64 x.b, .int .i64 x.c, .int .i64 x.d, .int .i64 x.e]
 | .arr3, x => [.int .i64 x.a, .int .i64 x.b, .int .i64 x.c]
 | .spell, x => [.int .i64 x.from_, .int .i64 x.to_]
 | .cell, x => [.int .i64 x.x, .int .i64 x.y]
 | .goal, x => [.int .i64 x.kind, .dsl U.int x.rows, .int .i64 x.from_, .int .i64 x.to_, .int .i64 x.low, .int .i64 x.high, .bool x.clear, .int .i64 x.days, .int .i64 x.times, .int .i64 x.within, .dsl U.int x.cents, .dsl U.goal x.kids]
 | .order, x => [.int .i64 x.id, .int .i64 x.owner, .int .i64 x.goal.kind, .dsl U.int x.goal.rows, .int .i64 x.goal.from_, .int .i64 x.goal.to_, .int .i64 x.goal.low, .int .i64 x.goal.high, .bool x.goal.clear, .int .i64 x.goal.days, .int .i64 x.goal.times, .int .i64 x.goal.within, .dsl U.int x.goal.cents, .dsl U.goal x.goal.kids, .int .i64 x.price, .int .i64 x.group, .bool x.urgent, .int .i64 x.known, .int .i64 x.due]
def decU : (u : U) → List (PV Cd) → Option u.El
 | .int, [.int .i64 a0] => some a0
 | .bool, [.bool a0] => some a0
 | .str, [.str a0] => some a0
 | .u8, [.int .u8 a0] => some a0
 | .u32, [.int .u32 a0] => some a0
 | .u64, [.int .u64 a0] => some a0
 | .anyv, [.lit (.iface 3 (.int .i64 i))] => some (AnyV.n i)
 | .anyv, [.lit (.iface 9 (.string ⟨⟨l⟩⟩))] => some (AnyV.s l)
 | .arr5, [.int .i64 a0, .int .i64 a1, .int .i64 a2, .int .i64 a3, .int .i64 a4] => some (⟨a0, a1, a2, a3, a4⟩ : A5)
 | .arr3, [.int .i64 a0, .int .i64 a1, .int .i64 a2] => some (⟨a0, a1, a2⟩ : A3)
 | .spell, [.int .i64 a0, .int .i64 a1] => some (⟨a0, a1⟩ : Spell)
 | .cell, [.int .i64 a0, .int .i64 a1] => some (⟨a0, a1⟩ : Cell)
 | .goal, [.int .i64 a0, .dsl U.int a1, .int .i64 a2, .int .i64 a3, .int .i64 a4, .int .i64 a5, .bool a6, .int .i64 a7, .int .i64 a8, .int .i64 a9, .dsl U.int a10, .dsl U.goal a11] => some (⟨a0, a1, a2, a3, a4, a5, a6, a7, a8, a9, a10, a11⟩ : Goal)
 | .order, [.int .i64 a0, .int .i64 a1, .int .i64 a2, .dsl U.int a3, .int .i64 a4, .int .i64 a5, .int .i64 a6, .int .i64 a7, .bool a8, .int .i64 a9, .int .i64 a10, .int .i64 a11, .dsl U.int a12, .dsl U.goal a13, .int .i64 a14, .int .i64 a15, .bool a16, .int .i64 a17, .int .i64 a18] => some (⟨a0, a1, ⟨a2, a3, a4, a5, a6, a7, a8, a9, a10, a11, a12, a13⟩, a14, a15, a16, a17, a18⟩ : Order)
 | _, _ => none
theorem decU_ok (u : U) (l : List (PV Cd)) (x : u.El) (h : decU u l = some x) : encU u x = l := by
 unfold decU at h
 split at h <;> first | (injection h with h; subst h; rfl) | (injection h)
def Dc : Codec Cd where
 enc := encU
 dec := decU
 dec_ok := decU_ok
 enc_len := by intro u x; cases u <;> rfl
 n_pos := by intro u; cases u <;> decide
def castU : (u u' : U) → List u'.El → Option (List u.El)
 | .int, .int, l => some l
 | .bool, .bool, l => some l
 | .str, .str, l => some l
 | .u8, .u8, l => some l
 | .u32, .u32, l => some l
 | .u64, .u64, l => some l
 | .anyv, .anyv, l => some l
 | .arr5, .arr5, l => some l
 | .arr3, .arr3, l => some l
 | .spell, .spell, l => some l
 | .cell, .cell, l => some l
 | .goal, .goal, l => some l
 | .order, .order, l => some l
 | _, _, _ => none
theorem castU_ok (u u' : U) (ys : List u'.El) (zs : List u.El) (h : castU u u' ys = some zs) : zs.map (encU u) = ys.map (encU u') ∧ u.n = u'.n := by
 unfold castU at h
 split at h <;> first | (injection h with h; subst h; exact ⟨rfl, rfl⟩) | (injection h)
def ckU : U → List CK
 | .int => [.int .i64]
 | .bool => [.bool]
 | .str => [.str]
 | .u8 => [.int .u8]
 | .u32 => [.int .u32]
 | .u64 => [.int .u64]
 | .arr5 => [.int .i64, .int .i64, .int .i64, .int .i64, .int .i64]
 | .arr3 => [.int .i64, .int .i64, .int .i64]
 | .spell => [.int .i64, .int .i64]
 | .cell => [.int .i64, .int .i64]
 | _ => []
theorem ckU_ok (u : U) (h : ckU u ≠ []) (x : u.El) : (encU u x).map pvCk = (ckU u).map some := by
 cases u <;> first | rfl | exact (h rfl).elim
theorem encU_inj (u : U) (h : ckU u ≠ []) (x y : u.El) (e : encU u x = encU u y) : x = y := by
 cases u <;> first | exact (h rfl).elim | (simp [encU] at e; first | exact e | (cases x; cases y; simp_all))
theorem flatMap_inj {α β : Type} (f : α → List β) (n : Nat) (hn : 0 < n) (hf : ∀ x, (f x).length = n) (hi : ∀ x y, f x = f y → x = y) : ∀ xs ys : List α, xs.flatMap f = ys.flatMap f → xs = ys
 | [], [], _ => rfl
 | [], y :: ys, h => by have := congrArg List.length h; simp [hf] at this; omega
 | x :: xs, [], h => by have := congrArg List.length h; simp [hf] at this; omega
 | x :: xs, y :: ys, h => by
  simp only [List.flatMap_cons] at h
  have h1 := List.append_inj h (by rw [hf, hf])
  rw [hi x y h1.1, flatMap_inj f n hn hf hi xs ys h1.2]
def eqU : (u u' : U) → List u.El → List u'.El → Option Bool
 | .int, .int, xs, ys => some (decide (xs = ys))
 | .bool, .bool, xs, ys => some (decide (xs = ys))
 | .str, .str, xs, ys => some (decide (xs = ys))
 | .u8, .u8, xs, ys => some (decide (xs = ys))
 | .u32, .u32, xs, ys => some (decide (xs = ys))
 | .u64, .u64, xs, ys => some (decide (xs = ys))
 | .arr5, .arr5, xs, ys => some (decide (xs = ys))
 | .arr3, .arr3, xs, ys => some (decide (xs = ys))
 | .spell, .spell, xs, ys => some (decide (xs = ys))
 | .cell, .cell, xs, ys => some (decide (xs = ys))
 | _, _, _, _ => none
theorem flatMap_one {α β : Type} (f : α → β) : ∀ xs : List α, (xs.flatMap fun x => [f x]) = xs.map f
 | [] => rfl
 | x :: xs => by rw [List.flatMap_cons, flatMap_one f xs]; rfl
def bytesU : (u : U) → List UInt8 → Option (List u.El)
 | .u8, l => some (l.map fun b => (b.toNat : Int))
 | _, _ => none
theorem bytesU_ok (u : U) (l : List UInt8) (xs : List u.El) (h : bytesU u l = some xs) : U.n u = 1 ∧ xs.flatMap (encU u) = l.map (fun b => PV.int .u8 b.toNat) := by
 unfold bytesU at h
 split at h
 ·injection h with h; subst h
  refine ⟨rfl, ?_⟩
  have h1 := flatMap_one (fun n : Int => (PV.int .u8 n : PV Cd)) (l.map fun b => (b.toNat : Int))
  rw [List.map_map] at h1
  exact h1
 ·cases h
def strU : (u : U) → List u.El → Option (List UInt8)
 | .u8, xs => some (xs.map fun n : Int => UInt8.ofNat n.toNat)
 | _, _ => none
theorem strU_ok (u : U) (xs : List u.El) (l : List UInt8) (h : strU u xs = some l) : U.n u = 1 ∧ ∃ ns : List Int, xs.flatMap (encU u) = ns.map (PV.int .u8) ∧ l = ns.map (fun n => UInt8.ofNat n.toNat) := by
 unfold strU at h
 split at h
 ·injection h with h; subst h
  exact ⟨rfl, _, flatMap_one (fun n : Int => (PV.int .u8 n : PV Cd)) _, rfl⟩
 ·cases h
theorem eqU_ok (u u' : U) (xs : List u.El) (ys : List u'.El) (b : Bool) (h : eqU u u' xs ys = some b) : ckU u ≠ [] ∧ ckU u' ≠ [] ∧ (b = true ↔ xs.flatMap (encU u) = ys.flatMap (encU u')) := by
 have key : ∀ (u : U) (hu : ckU u ≠ []) (xs ys : List u.El), (xs = ys ↔ xs.flatMap (encU u) = ys.flatMap (encU u)) := fun u hu xs ys =>
  ⟨fun e => by rw [e], flatMap_inj (encU u) u.n (Dc.n_pos u) (fun x => Dc.enc_len u x) (encU_inj u hu) xs ys⟩
 unfold eqU at h
 split at h
 all_goals first
  | (injection h with h; subst h; refine ⟨by decide, by decide, ?_⟩; rw [decide_eq_true_iff]; exact key _ (by decide) _ _)
  | (injection h)
def Ax : Aux Cd Dc where
 castL := castU
 castL_ok := castU_ok
 ckA := ckU
 ckA_ok := ckU_ok
 eqA := eqU
 eqA_ok := eqU_ok
 ofBytes := bytesU
 ofBytes_ok := bytesU_ok
 toBytes := strU
 toBytes_ok := strU_ok
/-- with sums that wrap around -/
theorem wr_Ax : Ax.wr = false := rfl
def AxW : Aux Cd Dc := { Ax with wr := true }
theorem n_int : Cd.n U.int = 1 := rfl
theorem un_int : U.n U.int = 1 := rfl
theorem cast_int (l : List (Cd.El U.int)) : Ax.castL U.int U.int l = some l := rfl
theorem enc_int (x : Int) : Dc.enc U.int x = [.int .i64 x] := rfl
theorem dec_int (a0 : Int) : Dc.dec U.int [.int .i64 a0] = some a0 := rfl
theorem dflt_int : U.dflt U.int = (0 : Int) := rfl
theorem ckA_int : Ax.ckA U.int = [.int .i64] := rfl
theorem eqA_int (xs ys : List Int) : Ax.eqA U.int U.int xs ys = some (decide (xs = ys)) := rfl
theorem n_bool : Cd.n U.bool = 1 := rfl
theorem un_bool : U.n U.bool = 1 := rfl
theorem cast_bool (l : List (Cd.El U.bool)) : Ax.castL U.bool U.bool l = some l := rfl
theorem enc_bool (x : Bool) : Dc.enc U.bool x = [.bool x] := rfl
theorem dec_bool (a0 : Bool) : Dc.dec U.bool [.bool a0] = some a0 := rfl
theorem dflt_bool : U.dflt U.bool = false := rfl
theorem ckA_bool : Ax.ckA U.bool = [.bool] := rfl
theorem eqA_bool (xs ys : List Bool) : Ax.eqA U.bool U.bool xs ys = some (decide (xs = ys)) := rfl
theorem n_str : Cd.n U.str = 1 := rfl
theorem un_str : U.n U.str = 1 := rfl
theorem cast_str (l : List (Cd.El U.str)) : Ax.castL U.str U.str l = some l := rfl
theorem enc_str (x : List UInt8) : Dc.enc U.str x = [.str x] := rfl
theorem dec_str (a0 : List UInt8) : Dc.dec U.str [.str a0] = some a0 := rfl
theorem dflt_str : U.dflt U.str = ([] : List UInt8) := rfl
theorem ckA_str : Ax.ckA U.str = [.str] := rfl
theorem eqA_str (xs ys : List (List UInt8)) : Ax.eqA U.str U.str xs ys = some (decide (xs = ys)) := rfl
theorem n_u8 : Cd.n U.u8 = 1 := rfl
theorem un_u8 : U.n U.u8 = 1 := rfl
theorem cast_u8 (l : List (Cd.El U.u8)) : Ax.castL U.u8 U.u8 l = some l := rfl
theorem enc_u8 (x : Int) : Dc.enc U.u8 x = [.int .u8 x] := rfl
theorem dec_u8 (a0 : Int) : Dc.dec U.u8 [.int .u8 a0] = some a0 := rfl
theorem dflt_u8 : U.dflt U.u8 = (0 : Int) := rfl
theorem ckA_u8 : Ax.ckA U.u8 = [.int .u8] := rfl
theorem eqA_u8 (xs ys : List Int) : Ax.eqA U.u8 U.u8 xs ys = some (decide (xs = ys)) := rfl
theorem n_u32 : Cd.n U.u32 = 1 := rfl
theorem un_u32 : U.n U.u32 = 1 := rfl
theorem cast_u32 (l : List (Cd.El U.u32)) : Ax.castL U.u32 U.u32 l = some l := rfl
theorem enc_u32 (x : Int) : Dc.enc U.u32 x = [.int .u32 x] := rfl
theorem dec_u32 (a0 : Int) : Dc.dec U.u32 [.int .u32 a0] = some a0 := rfl
theorem dflt_u32 : U.dflt U.u32 = (0 : Int) := rfl
theorem ckA_u32 : Ax.ckA U.u32 = [.int .u32] := rfl
theorem eqA_u32 (xs ys : List Int) : Ax.eqA U.u32 U.u32 xs ys = some (decide (xs = ys)) := rfl
theorem n_u64 : Cd.n U.u64 = 1 := rfl
theorem un_u64 : U.n U.u64 = 1 := rfl
theorem cast_u64 (l : List (Cd.El U.u64)) : Ax.castL U.u64 U.u64 l = some l := rfl
theorem enc_u64 (x : Int) : Dc.enc U.u64 x = [.int .u64 x] := rfl
theorem dec_u64 (a0 : Int) : Dc.dec U.u64 [.int .u64 a0] = some a0 := rfl
theorem dflt_u64 : U.dflt U.u64 = (0 : Int) := rfl
theorem ckA_u64 : Ax.ckA U.u64 = [.int .u64] := rfl
theorem eqA_u64 (xs ys : List Int) : Ax.eqA U.u64 U.u64 xs ys = some (decide (xs = ys)) := rfl
theorem n_anyv : Cd.n U.anyv = 1 := rfl
theorem un_anyv : U.n U.anyv = 1 := rfl
theorem cast_anyv (l : List (Cd.El U.anyv)) : Ax.castL U.anyv U.anyv l = some l := rfl
theorem enc_anyv (x : AnyV) : Dc.enc U.anyv x = [.lit (anyVal x)] := rfl
theorem dec_anyn (i : Int) : Dc.dec U.anyv [.lit (.iface 3 (.int .i64 i))] = some (AnyV.n i) := rfl
theorem dec_anys (l : List UInt8) : Dc.dec U.anyv [.lit (.iface 9 (.string ⟨⟨l⟩⟩))] = some (AnyV.s l) := rfl
theorem n_arr5 : Cd.n U.arr5 = 5 := rfl
theorem un_arr5 : U.n U.arr5 = 5 := rfl
theorem cast_arr5 (l : List (Cd.El U.arr5)) : Ax.castL U.arr5 U.arr5 l = some l := rfl
theorem enc_arr5 (x : A5) : Dc.enc U.arr5 x = [.int .i64 x.a, .int .i64 x.b, .int .i64 x.c, .int .i64 x.d, .int .i64 x.e] := rfl
theorem dec_arr5 (a0 : Int) (a1 : Int) (a2 : Int) (a3 : Int) (a4 : Int) : Dc.dec U.arr5 [.int .i64 a0, .int .i64 a1, .int .i64 a2, .int .i64 a3, .int .i64 a4] = some (⟨a0, a1, a2, a3, a4⟩ : A5) := rfl
def arr50 : A5 := ⟨0, 0, 0, 0, 0⟩
theorem dflt_arr5 : U.dflt U.arr5 = arr50 := rfl
theorem ckA_arr5 : Ax.ckA U.arr5 = [.int .i64, .int .i64, .int .i64, .int .i64, .int .i64] := rfl
theorem eqB_arr5 (p q : A5) : (decide (p.a = q.a) && (decide (p.b = q.b) && (decide (p.c = q.c) && (decide (p.d = q.d) && (decide (p.e = q.e) && true))))) = decide (p = q) := by
 rw [Bool.eq_iff_iff]; cases p; cases q; simp
theorem eqA_arr5 (xs ys : List A5) : Ax.eqA U.arr5 U.arr5 xs ys = some (decide (xs = ys)) := rfl
theorem n_arr3 : Cd.n U.arr3 = 3 := rfl
theorem un_arr3 : U.n U.arr3 = 3 := rfl
theorem cast_arr3 (l : List (Cd.El U.arr3)) : Ax.castL U.arr3 U.arr3 l = some l := rfl
theorem enc_arr3 (x : A3) : Dc.enc U.arr3 x = [.int .i64 x.a, .int .i64 x.b, .int .i64 x.c] := rfl
theorem dec_arr3 (a0 : Int) (a1 : Int) (a2 : Int) : Dc.dec U.arr3 [.int .i64 a0, .int .i64 a1, .int .i64 a2] = some (⟨a0, a1, a2⟩ : A3) := rfl
def arr30 : A3 := ⟨0, 0, 0⟩
theorem dflt_arr3 : U.dflt U.arr3 = arr30 := rfl
theorem ckA_arr3 : Ax.ckA U.arr3 = [.int .i64, .int .i64, .int .i64] := rfl
theorem eqB_arr3 (p q : A3) : (decide (p.a = q.a) && (decide (p.b = q.b) && (decide (p.c = q.c) && true))) = decide (p = q) := by
 rw [Bool.eq_iff_iff]; cases p; cases q; simp
theorem eqA_arr3 (xs ys : List A3) : Ax.eqA U.arr3 U.arr3 xs ys = some (decide (xs = ys)) := rfl
theorem n_spell : Cd.n U.spell = 2 := rfl
theorem un_spell : U.n U.spell = 2 := rfl
theorem cast_spell (l : List (Cd.El U.spell)) : Ax.castL U.spell U.spell l = some l := rfl
theorem enc_spell (x : Spell) : Dc.enc U.spell x = [.int .i64 x.from_, .int .i64 x.to_] := rfl
theorem dec_spell (a0 : Int) (a1 : Int) : Dc.dec U.spell [.int .i64 a0, .int .i64 a1] = some (⟨a0, a1⟩ : Spell) := rfl
def spell0 : Spell := ⟨0, 0⟩
theorem dflt_spell : U.dflt U.spell = spell0 := rfl
theorem ckA_spell : Ax.ckA U.spell = [.int .i64, .int .i64] := rfl
theorem eqB_spell (p q : Spell) : (decide (p.from_ = q.from_) && (decide (p.to_ = q.to_) && true)) = decide (p = q) := by
 rw [Bool.eq_iff_iff]; cases p; cases q; simp
theorem eqA_spell (xs ys : List Spell) : Ax.eqA U.spell U.spell xs ys = some (decide (xs = ys)) := rfl
theorem n_cell : Cd.n U.cell = 2 := rfl
theorem un_cell : U.n U.cell = 2 := rfl
theorem cast_cell (l : List (Cd.El U.cell)) : Ax.castL U.cell U.cell l = some l := rfl
theorem enc_cell (x : Cell) : Dc.enc U.cell x = [.int .i64 x.x, .int .i64 x.y] := rfl
theorem dec_cell (a0 : Int) (a1 : Int) : Dc.dec U.cell [.int .i64 a0, .int .i64 a1] = some (⟨a0, a1⟩ : Cell) := rfl
def cell0 : Cell := ⟨0, 0⟩
theorem dflt_cell : U.dflt U.cell = cell0 := rfl
theorem ckA_cell : Ax.ckA U.cell = [.int .i64, .int .i64] := rfl
theorem eqB_cell (p q : Cell) : (decide (p.x = q.x) && (decide (p.y = q.y) && true)) = decide (p = q) := by
 rw [Bool.eq_iff_iff]; cases p; cases q; simp
theorem eqA_cell (xs ys : List Cell) : Ax.eqA U.cell U.cell xs ys = some (decide (xs = ys)) := rfl
theorem n_goal : Cd.n U.goal = 12 := rfl
theorem un_goal : U.n U.goal = 12 := rfl
theorem cast_goal (l : List (Cd.El U.goal)) : Ax.castL U.goal U.goal l = some l := rfl
theorem enc_goal (x : Goal) : Dc.enc U.goal x = [.int .i64 x.kind, .dsl U.int x.rows, .int .i64 x.from_, .int .i64 x.to_, .int .i64 x.low, .int .i64 x.high, .bool x.clear, .int .i64 x.days, .int .i64 x.times, .int .i64 x.within, .dsl U.int x.cents, .dsl U.goal x.kids] := rfl
theorem dec_goal (a0 : Int) (a1 : List Int) (a2 : Int) (a3 : Int) (a4 : Int) (a5 : Int) (a6 : Bool) (a7 : Int) (a8 : Int) (a9 : Int) (a10 : List Int) (a11 : List Goal) : Dc.dec U.goal [.int .i64 a0, .dsl U.int a1, .int .i64 a2, .int .i64 a3, .int .i64 a4, .int .i64 a5, .bool a6, .int .i64 a7, .int .i64 a8, .int .i64 a9, .dsl U.int a10, .dsl U.goal a11] = some (⟨a0, a1, a2, a3, a4, a5, a6, a7, a8, a9, a10, a11⟩ : Goal) := rfl
def goal0 : Goal := ⟨0, [], 0, 0, 0, 0, false, 0, 0, 0, [], []⟩
theorem dflt_goal : U.dflt U.goal = goal0 := rfl
theorem n_order : Cd.n U.order = 19 := rfl
theorem un_order : U.n U.order = 19 := rfl
theorem cast_order (l : List (Cd.El U.order)) : Ax.castL U.order U.order l = some l := rfl
theorem enc_order (x : Order) : Dc.enc U.order x = [.int .i64 x.id, .int .i64 x.owner, .int .i64 x.goal.kind, .dsl U.int x.goal.rows, .int .i64 x.goal.from_, .int .i64 x.goal.to_, .int .i64 x.goal.low, .int .i64 x.goal.high, .bool x.goal.clear, .int .i64 x.goal.days, .int .i64 x.goal.times, .int .i64 x.goal.within, .dsl U.int x.goal.cents, .dsl U.goal x.goal.kids, .int .i64 x.price, .int .i64 x.group, .bool x.urgent, .int .i64 x.known, .int .i64 x.due] := rfl
theorem dec_order (a0 : Int) (a1 : Int) (a2 : Int) (a3 : List Int) (a4 : Int) (a5 : Int) (a6 : Int) (a7 : Int) (a8 : Bool) (a9 : Int) (a10 : Int) (a11 : Int) (a12 : List Int) (a13 : List Goal) (a14 : Int) (a15 : Int) (a16 : Bool) (a17 : Int) (a18 : Int) : Dc.dec U.order [.int .i64 a0, .int .i64 a1, .int .i64 a2, .dsl U.int a3, .int .i64 a4, .int .i64 a5, .int .i64 a6, .int .i64 a7, .bool a8, .int .i64 a9, .int .i64 a10, .int .i64 a11, .dsl U.int a12, .dsl U.goal a13, .int .i64 a14, .int .i64 a15, .bool a16, .int .i64 a17, .int .i64 a18] = some (⟨a0, a1, ⟨a2, a3, a4, a5, a6, a7, a8, a9, a10, a11, a12, a13⟩, a14, a15, a16, a17, a18⟩ : Order) := rfl
def order0 : Order := ⟨0, 0, (⟨0, [], 0, 0, 0, 0, false, 0, 0, 0, [], []⟩), 0, 0, false, 0, 0⟩
theorem dflt_order : U.dflt U.order = order0 := rfl
theorem inR_i64 {n : Int} (h1 : -9223372036854775808 ≤ n) (h2 : n ≤ 9223372036854775807) : InR .i64 n := by
 show IntKind.i64.wrap n = n
 exact IntWalk.i64_in n ⟨h1, h2⟩
end Go.SX

namespace Go.SX

def tabC : Nat → List (Nat × TI Cd)
 | 0 => [(1, { kind := .other, size := 1, bytes := 8, zero := [.p (.lit .nilFunc)], code := none }),
  (2, { kind := .int .i64, size := 1, bytes := 8, zero := [.p (.int .i64 0)], code := none }),
  (3, { kind := .int .i64, size := 1, bytes := 8, zero := [.p (.int .i64 0)], code := some U.int }),
  (4, { kind := .bool, size := 1, bytes := 1, zero := [.p (.bool false)], code := some U.bool }),
  (5, { kind := .int .u8, size := 1, bytes := 1, zero := [.p (.int .u8 0)], code := some U.u8 }),
  (9, { kind := .str, size := 1, bytes := 16, zero := [.p (.str [])], code := some U.str }),
  (12, { kind := .int .u64, size := 1, bytes := 8, zero := [.p (.int .u64 0)], code := none }),
  (13, { kind := .struct [(0, 9), (1, 12)], size := 2, bytes := 24, zero := [.p (.str []), .p (.int .u64 0)], code := none })]
 | 1 => [(20, { kind := .ifc, size := 1, bytes := 16, zero := [.p (.lit .nilIface)], code := some U.anyv }),
  (21, { kind := .int .i32, size := 1, bytes := 4, zero := [.p (.int .i32 0)], code := none }),
  (22, { kind := .arr 7 3, size := 7, bytes := 56, zero := [.arr U.int 7 (List.replicate 7 (Cd.dflt U.int))], code := none, cks := [.int .i64, .int .i64, .int .i64, .int .i64, .int .i64, .int .i64, .int .i64] }),
  (23, { kind := .slice 121, size := 1, bytes := 24, zero := [.p (.lit (.slice none 0 0))], code := none }),
  (24, { kind := .slice 3, size := 1, bytes := 24, zero := [.p (.lit (.slice none 0 0))], code := none }),
  (25, { kind := .struct [(0, 24)], size := 1, bytes := 24, zero := [.p (.lit (.slice none 0 0))], code := none }),
  (26, { kind := .struct [(0, 24)], size := 1, bytes := 24, zero := [.p (.lit (.slice none 0 0))], code := none }),
  (27, { kind := .struct [(0, 3), (1, 3)], size := 2, bytes := 16, zero := [.p (.int .i64 0), .p (.int .i64 0)], code := none }),
  (28, { kind := .struct [(0, 3), (1, 3)], size := 2, bytes := 16, zero := [.p (.int .i64 0), .p (.int .i64 0)], code := some U.spell, cks := [.int .i64, .int .i64] }),
  (29, { kind := .slice 31, size := 1, bytes := 24, zero := [.p (.lit (.slice none 0 0))], code := none }),
  (30, { kind := .struct [(0, 3), (1, 26), (2, 28), (4, 3), (5, 3), (6, 4), (7, 3), (8, 3), (9, 3), (10, 24), (11, 29)], size := 12, bytes := 144, zero := [.p (.int .i64 0), .p (.lit (.slice none 0 0)), .p (.int .i64 0), .p (.int .i64 0), .p (.int .i64 0), .p (.int .i64 0), .p (.bool false), .p (.int .i64 0), .p (.int .i64 0), .p (.int .i64 0), .p (.lit (.slice none 0 0)), .p (.lit (.slice none 0 0))], code := none }),
  (31, { kind := .struct [(0, 3), (1, 26), (2, 28), (4, 3), (5, 3), (6, 4), (7, 3), (8, 3), (9, 3), (10, 24), (11, 29)], size := 12, bytes := 144, zero := [.p (.int .i64 0), .p (.lit (.slice none 0 0)), .p (.int .i64 0), .p (.int .i64 0), .p (.int .i64 0), .p (.int .i64 0), .p (.bool false), .p (.int .i64 0), .p (.int .i64 0), .p (.int .i64 0), .p (.lit (.slice none 0 0)), .p (.lit (.slice none 0 0))], code := some U.goal })]
 | 2 => [(32, { kind := .struct [(0, 3), (1, 3), (2, 31), (14, 3), (15, 3), (16, 4), (17, 3), (18, 3)], size := 19, bytes := 200, zero := [.p (.int .i64 0), .p (.int .i64 0), .p (.int .i64 0), .p (.lit (.slice none 0 0)), .p (.int .i64 0), .p (.int .i64 0), .p (.int .i64 0), .p (.int .i64 0), .p (.bool false), .p (.int .i64 0), .p (.int .i64 0), .p (.int .i64 0), .p (.lit (.slice none 0 0)), .p (.lit (.slice none 0 0)), .p (.int .i64 0), .p (.int .i64 0), .p (.bool false), .p (.int .i64 0), .p (.int .i64 0)], code := none }),
  (33, { kind := .struct [(0, 3), (1, 3), (2, 31), (14, 3), (15, 3), (16, 4), (17, 3), (18, 3)], size := 19, bytes := 200, zero := [.p (.int .i64 0), .p (.int .i64 0), .p (.int .i64 0), .p (.lit (.slice none 0 0)), .p (.int .i64 0), .p (.int .i64 0), .p (.int .i64 0), .p (.int .i64 0), .p (.bool false), .p (.int .i64 0), .p (.int .i64 0), .p (.int .i64 0), .p (.lit (.slice none 0 0)), .p (.lit (.slice none 0 0)), .p (.int .i64 0), .p (.int .i64 0), .p (.bool false), .p (.int .i64 0), .p (.int .i64 0)], code := some U.order }),
  (34, { kind := .other, size := 1, bytes := 8, zero := [.p (.lit .nilFunc)], code := none }),
  (35, { kind := .other, size := 1, bytes := 8, zero := [.p (.lit .nilFunc)], code := none }),
  (36, { kind := .other, size := 1, bytes := 8, zero := [.p (.lit .nilFunc)], code := none }),
  (37, { kind := .other, size := 1, bytes := 8, zero := [.p (.lit .nilFunc)], code := none }),
  (38, { kind := .slice 9, size := 1, bytes := 24, zero := [.p (.lit (.slice none 0 0))], code := none }),
  (39, { kind := .slice 33, size := 1, bytes := 24, zero := [.p (.lit (.slice none 0 0))], code := none }),
  (40, { kind := .int .i64, size := 1, bytes := 8, zero := [.p (.int .i64 0)], code := some U.int }),
  (42, { kind := .other, size := 1, bytes := 8, zero := [.p (.lit .nilFunc)], code := none }),
  (43, { kind := .other, size := 1, bytes := 8, zero := [.p (.lit .nilFunc)], code := none }),
  (44, { kind := .other, size := 1, bytes := 8, zero := [.p (.lit .nilFunc)], code := none }),
  (45, { kind := .other, size := 1, bytes := 8, zero := [.p (.lit .nilFunc)], code := none }),
  (46, { kind := .other, size := 1, bytes := 8, zero := [.p (.lit .nilFunc)], code := none }),
  (47, { kind := .other, size := 1, bytes := 8, zero := [.p (.lit .nilFunc)], code := none })]
 | 3 => [(49, { kind := .other, size := 1, bytes := 8, zero := [.p (.lit .nilFunc)], code := none }),
  (50, { kind := .other, size := 1, bytes := 8, zero := [.p (.lit .nilFunc)], code := none }),
  (51, { kind := .other, size := 1, bytes := 8, zero := [.p (.lit .nilFunc)], code := none }),
  (52, { kind := .other, size := 1, bytes := 8, zero := [.p (.lit .nilFunc)], code := none }),
  (53, { kind := .slice 55, size := 1, bytes := 24, zero := [.p (.lit (.slice none 0 0))], code := none }),
  (54, { kind := .other, size := 1, bytes := 8, zero := [.p (.lit .nilFunc)], code := none }),
  (55, { kind := .arr 3 3, size := 3, bytes := 24, zero := [.arr U.int 3 (List.replicate 3 (Cd.dflt U.int))], code := some U.arr3, cks := [.int .i64, .int .i64, .int .i64] }),
  (56, { kind := .other, size := 1, bytes := 8, zero := [.p (.lit .nilFunc)], code := none }),
  (57, { kind := .other, size := 1, bytes := 8, zero := [.p (.lit .nilFunc)], code := none }),
  (58, { kind := .slice 5, size := 1, bytes := 24, zero := [.p (.lit (.slice none 0 0))], code := none }),
  (59, { kind := .other, size := 1, bytes := 8, zero := [.p (.lit .nilFunc)], code := none }),
  (60, { kind := .other, size := 1, bytes := 8, zero := [.p (.lit .nilFunc)], code := none }),
  (61, { kind := .other, size := 1, bytes := 8, zero := [.p (.lit .nilFunc)], code := none }),
  (62, { kind := .other, size := 1, bytes := 8, zero := [.p (.lit .nilFunc)], code := none }),
  (63, { kind := .other, size := 1, bytes := 8, zero := [.p (.lit .nilFunc)], code := none })]
 | 4 => [(64, { kind := .other, size := 1, bytes := 8, zero := [.p (.lit .nilFunc)], code := none }),
  (65, { kind := .other, size := 1, bytes := 8, zero := [.p (.lit .nilFunc)], code := none }),
  (66, { kind := .ptr 68, size := 1, bytes := 8, zero := [.p (.lit (.pointer none))], code := none }),
  (67, { kind := .struct [(0, 38)], size := 1, bytes := 24, zero := [.p (.lit (.slice none 0 0))], code := none }),
  (68, { kind := .struct [(0, 38)], size := 1, bytes := 24, zero := [.p (.lit (.slice none 0 0))], code := none }),
  (69, { kind := .other, size := 1, bytes := 8, zero := [.p (.lit .nilFunc)], code := none }),
  (70, { kind := .other, size := 1, bytes := 8, zero := [.p (.lit .nilFunc)], code := none }),
  (71, { kind := .other, size := 1, bytes := 8, zero := [.p (.lit .nilFunc)], code := none }),
  (72, { kind := .other, size := 1, bytes := 8, zero := [.p (.lit .nilFunc)], code := none }),
  (73, { kind := .other, size := 1, bytes := 8, zero := [.p (.lit .nilFunc)], code := none }),
  (75, { kind := .other, size := 1, bytes := 8, zero := [.p (.lit .nilFunc)], code := none }),
  (76, { kind := .other, size := 1, bytes := 8, zero := [.p (.lit .nilFunc)], code := none }),
  (77, { kind := .other, size := 1, bytes := 8, zero := [.p (.lit .nilFunc)], code := none }),
  (78, { kind := .other, size := 1, bytes := 8, zero := [.p (.lit .nilFunc)], code := none }),
  (79, { kind := .other, size := 1, bytes := 8, zero := [.p (.lit .nilFunc)], code := none })]
 | 5 => [(80, { kind := .ptr 82, size := 1, bytes := 8, zero := [.p (.lit (.pointer none))], code := none }),
  (81, { kind := .struct [(0, 38), (1, 3), (2, 3)], size := 3, bytes := 40, zero := [.p (.lit (.slice none 0 0)), .p (.int .i64 0), .p (.int .i64 0)], code := none }),
  (82, { kind := .struct [(0, 38), (1, 3), (2, 3)], size := 3, bytes := 40, zero := [.p (.lit (.slice none 0 0)), .p (.int .i64 0), .p (.int .i64 0)], code := none }),
  (86, { kind := .other, size := 1, bytes := 8, zero := [.p (.lit .nilFunc)], code := none }),
  (87, { kind := .ptr 89, size := 1, bytes := 8, zero := [.p (.lit (.pointer none))], code := none }),
  (88, { kind := .struct [(0, 38), (1, 3), (2, 4), (3, 3)], size := 4, bytes := 48, zero := [.p (.lit (.slice none 0 0)), .p (.int .i64 0), .p (.bool false), .p (.int .i64 0)], code := none }),
  (89, { kind := .struct [(0, 38), (1, 3), (2, 4), (3, 3)], size := 4, bytes := 48, zero := [.p (.lit (.slice none 0 0)), .p (.int .i64 0), .p (.bool false), .p (.int .i64 0)], code := none }),
  (90, { kind := .other, size := 1, bytes := 8, zero := [.p (.lit .nilFunc)], code := none }),
  (91, { kind := .other, size := 1, bytes := 8, zero := [.p (.lit .nilFunc)], code := none }),
  (92, { kind := .other, size := 1, bytes := 8, zero := [.p (.lit .nilFunc)], code := none }),
  (93, { kind := .other, size := 1, bytes := 8, zero := [.p (.lit .nilFunc)], code := none }),
  (94, { kind := .other, size := 1, bytes := 8, zero := [.p (.lit .nilFunc)], code := none }),
  (95, { kind := .other, size := 1, bytes := 8, zero := [.p (.lit .nilFunc)], code := none })]
 | 6 => [(97, { kind := .other, size := 1, bytes := 8, zero := [.p (.lit .nilFunc)], code := none }),
  (98, { kind := .slice 20, size := 1, bytes := 24, zero := [.p (.lit (.slice none 0 0))], code := none }),
  (99, { kind := .other, size := 1, bytes := 8, zero := [.p (.lit .nilFunc)], code := none }),
  (100, { kind := .other, size := 1, bytes := 8, zero := [.p (.lit .nilFunc)], code := none }),
  (101, { kind := .other, size := 1, bytes := 8, zero := [.p (.lit .nilFunc)], code := none }),
  (102, { kind := .ptr 104, size := 1, bytes := 8, zero := [.p (.lit (.pointer none))], code := none }),
  (103, { kind := .struct [(0, 102), (1, 58)], size := 2, bytes := 32, zero := [.p (.lit (.pointer none)), .p (.lit (.slice none 0 0))], code := none }),
  (104, { kind := .struct [(0, 102), (1, 58)], size := 2, bytes := 32, zero := [.p (.lit (.pointer none)), .p (.lit (.slice none 0 0))], code := none, typed := true }),
  (105, { kind := .other, size := 1, bytes := 8, zero := [.p (.lit .nilFunc)], code := none }),
  (106, { kind := .ifc, size := 1, bytes := 16, zero := [.p (.lit .nilIface)], code := none }),
  (107, { kind := .ifc, size := 1, bytes := 16, zero := [.p (.lit .nilIface)], code := none }),
  (109, { kind := .other, size := 1, bytes := 8, zero := [.p (.lit .nilFunc)], code := none }),
  (110, { kind := .other, size := 1, bytes := 8, zero := [.p (.lit .nilFunc)], code := none }),
  (111, { kind := .other, size := 1, bytes := 8, zero := [.p (.lit .nilFunc)], code := none })]
 | 7 => [(112, { kind := .other, size := 1, bytes := 8, zero := [.p (.lit .nilFunc)], code := none }),
  (113, { kind := .other, size := 1, bytes := 8, zero := [.p (.lit .nilFunc)], code := none }),
  (114, { kind := .other, size := 1, bytes := 8, zero := [.p (.lit .nilFunc)], code := none }),
  (115, { kind := .other, size := 1, bytes := 8, zero := [.p (.lit .nilFunc)], code := none }),
  (116, { kind := .other, size := 1, bytes := 8, zero := [.p (.lit .nilFunc)], code := none }),
  (117, { kind := .other, size := 1, bytes := 8, zero := [.p (.lit .nilFunc)], code := none }),
  (118, { kind := .ptr 31, size := 1, bytes := 8, zero := [.p (.lit (.pointer none))], code := none }),
  (119, { kind := .other, size := 1, bytes := 8, zero := [.p (.lit .nilFunc)], code := none }),
  (120, { kind := .other, size := 1, bytes := 8, zero := [.p (.lit .nilFunc)], code := none }),
  (121, { kind := .arr 5 3, size := 5, bytes := 40, zero := [.arr U.int 5 (List.replicate 5 (Cd.dflt U.int))], code := some U.arr5, cks := [.int .i64, .int .i64, .int .i64, .int .i64, .int .i64] }),
  (122, { kind := .other, size := 1, bytes := 8, zero := [.p (.lit .nilFunc)], code := none }),
  (123, { kind := .other, size := 1, bytes := 8, zero := [.p (.lit .nilFunc)], code := none }),
  (124, { kind := .int .u64, size := 1, bytes := 8, zero := [.p (.int .u64 0)], code := none }),
  (125, { kind := .other, size := 1, bytes := 8, zero := [.p (.lit .nilFunc)], code := none }),
  (126, { kind := .ptr 5, size := 1, bytes := 8, zero := [.p (.lit (.pointer none))], code := none }),
  (127, { kind := .other, size := 1, bytes := 8, zero := [.p (.lit .nilFunc)], code := none })]
 | 8 => [(128, { kind := .other, size := 1, bytes := 8, zero := [.p (.lit .nilFunc)], code := none }),
  (129, { kind := .other, size := 1, bytes := 8, zero := [.p (.lit .nilFunc)], code := none }),
  (130, { kind := .other, size := 1, bytes := 8, zero := [.p (.lit .nilFunc)], code := none }),
  (131, { kind := .other, size := 1, bytes := 8, zero := [.p (.lit .nilFunc)], code := none }),
  (132, { kind := .other, size := 1, bytes := 8, zero := [.p (.lit .nilFunc)], code := none }),
  (133, { kind := .other, size := 1, bytes := 8, zero := [.p (.lit .nilFunc)], code := none }),
  (134, { kind := .other, size := 1, bytes := 8, zero := [.p (.lit .nilFunc)], code := none }),
  (135, { kind := .other, size := 1, bytes := 8, zero := [.p (.lit .nilFunc)], code := none }),
  (136, { kind := .struct [(0, 3), (1, 3), (2, 135)], size := 3, bytes := 24, zero := [.p (.int .i64 0), .p (.int .i64 0), .p (.lit .nilFunc)], code := none }),
  (137, { kind := .struct [(0, 3), (1, 3), (2, 135)], size := 3, bytes := 24, zero := [.p (.int .i64 0), .p (.int .i64 0), .p (.lit .nilFunc)], code := none }),
  (139, { kind := .map .str 137, size := 1, bytes := 8, zero := [.p (.lit (.map none))], code := none }),
  (140, { kind := .other, size := 1, bytes := 8, zero := [.p (.lit .nilFunc)], code := none }),
  (141, { kind := .other, size := 1, bytes := 8, zero := [.p (.lit .nilFunc)], code := none }),
  (142, { kind := .other, size := 1, bytes := 8, zero := [.p (.lit .nilFunc)], code := none }),
  (143, { kind := .struct [(0, 3), (1, 3)], size := 2, bytes := 16, zero := [.p (.int .i64 0), .p (.int .i64 0)], code := none })]
 | 9 => [(144, { kind := .struct [(0, 3), (1, 3)], size := 2, bytes := 16, zero := [.p (.int .i64 0), .p (.int .i64 0)], code := some U.cell, cks := [.int .i64, .int .i64] }),
  (145, { kind := .other, size := 1, bytes := 8, zero := [.p (.lit .nilFunc)], code := none }),
  (146, { kind := .other, size := 1, bytes := 8, zero := [.p (.lit .nilFunc)], code := none }),
  (147, { kind := .int .u32, size := 1, bytes := 4, zero := [.p (.int .u32 0)], code := some U.u32 }),
  (148, { kind := .other, size := 1, bytes := 8, zero := [.p (.lit .nilFunc)], code := none }),
  (149, { kind := .int .u64, size := 1, bytes := 8, zero := [.p (.int .u64 0)], code := some U.u64 }),
  (150, { kind := .uptr, size := 1, bytes := 8, zero := [.p (.lit (.pointer none))], code := none }),
  (151, { kind := .other, size := 1, bytes := 8, zero := [.p (.lit .nilFunc)], code := none }),
  (152, { kind := .other, size := 1, bytes := 8, zero := [.p (.lit .nilFunc)], code := none }),
  (153, { kind := .other, size := 1, bytes := 8, zero := [.p (.lit .nilFunc)], code := none }),
  (154, { kind := .other, size := 1, bytes := 8, zero := [.p (.lit .nilFunc)], code := none }),
  (155, { kind := .other, size := 1, bytes := 8, zero := [.p (.lit .nilFunc)], code := none }),
  (156, { kind := .other, size := 1, bytes := 8, zero := [.p (.lit .nilFunc)], code := none }),
  (157, { kind := .other, size := 1, bytes := 8, zero := [.p (.lit .nilFunc)], code := none }),
  (158, { kind := .slice 144, size := 1, bytes := 24, zero := [.p (.lit (.slice none 0 0))], code := none }),
  (159, { kind := .other, size := 1, bytes := 8, zero := [.p (.lit .nilFunc)], code := none })]
 | 10 => [(160, { kind := .other, size := 1, bytes := 8, zero := [.p (.lit .nilFunc)], code := none }),
  (161, { kind := .other, size := 1, bytes := 8, zero := [.p (.lit .nilFunc)], code := none }),
  (163, { kind := .other, size := 1, bytes := 8, zero := [.p (.lit .nilFunc)], code := none }),
  (164, { kind := .other, size := 1, bytes := 8, zero := [.p (.lit .nilFunc)], code := none }),
  (165, { kind := .arr 24 5, size := 24, bytes := 24, zero := [.arr U.u8 24 (List.replicate 24 (Cd.dflt U.u8))], code := none, cks := [.int .u8, .int .u8, .int .u8, .int .u8, .int .u8, .int .u8, .int .u8, .int .u8, .int .u8, .int .u8, .int .u8, .int .u8, .int .u8, .int .u8, .int .u8, .int .u8, .int .u8, .int .u8, .int .u8, .int .u8, .int .u8, .int .u8, .int .u8, .int .u8], seq := true }),
  (166, { kind := .other, size := 1, bytes := 8, zero := [.p (.lit .nilFunc)], code := none }),
  (168, { kind := .other, size := 1, bytes := 8, zero := [.p (.lit .nilFunc)], code := none }),
  (169, { kind := .arr 32 5, size := 32, bytes := 32, zero := [.arr U.u8 32 (List.replicate 32 (Cd.dflt U.u8))], code := none, cks := [.int .u8, .int .u8, .int .u8, .int .u8, .int .u8, .int .u8, .int .u8, .int .u8, .int .u8, .int .u8, .int .u8, .int .u8, .int .u8, .int .u8, .int .u8, .int .u8, .int .u8, .int .u8, .int .u8, .int .u8, .int .u8, .int .u8, .int .u8, .int .u8, .int .u8, .int .u8, .int .u8, .int .u8, .int .u8, .int .u8, .int .u8, .int .u8], seq := true }),
  (170, { kind := .arr 64 5, size := 64, bytes := 64, zero := [.arr U.u8 64 (List.replicate 64 (Cd.dflt U.u8))], code := none, seq := true }),
  (171, { kind := .other, size := 1, bytes := 8, zero := [.p (.lit .nilFunc)], code := none }),
  (172, { kind := .other, size := 1, bytes := 8, zero := [.p (.lit .nilFunc)], code := none }),
  (173, { kind := .int .i64, size := 1, bytes := 8, zero := [.p (.int .i64 0)], code := none }),
  (175, { kind := .other, size := 1, bytes := 8, zero := [.p (.lit .nilFunc)], code := none })]
 | 11 => [(176, { kind := .ptr 186, size := 1, bytes := 8, zero := [.p (.lit (.pointer none))], code := none }),
  (177, { kind := .other, size := 1, bytes := 8, zero := [.p (.lit .nilFunc)], code := none }),
  (178, { kind := .other, size := 1, bytes := 8, zero := [.p (.lit .nilFunc)], code := none }),
  (179, { kind := .other, size := 1, bytes := 8, zero := [.p (.lit .nilFunc)], code := none }),
  (180, { kind := .arr 20 149, size := 20, bytes := 160, zero := [.arr U.u64 20 (List.replicate 20 (Cd.dflt U.u64))], code := none, cks := [.int .u64, .int .u64, .int .u64, .int .u64, .int .u64, .int .u64, .int .u64, .int .u64, .int .u64, .int .u64, .int .u64, .int .u64, .int .u64, .int .u64, .int .u64, .int .u64, .int .u64, .int .u64, .int .u64, .int .u64], seq := true }),
  (181, { kind := .arr 65 5, size := 65, bytes := 65, zero := [.arr U.u8 65 (List.replicate 65 (Cd.dflt U.u8))], code := none, seq := true }),
  (183, { kind := .other, size := 1, bytes := 8, zero := [.p (.lit .nilFunc)], code := none }),
  (184, { kind := .other, size := 1, bytes := 8, zero := [.p (.lit .nilFunc)], code := none }),
  (185, { kind := .struct [(0, 9), (1, 9), (2, 107)], size := 3, bytes := 48, zero := [.p (.str []), .p (.str []), .p (.lit .nilIface)], code := none }),
  (186, { kind := .struct [(0, 9), (1, 9), (2, 107)], size := 3, bytes := 48, zero := [.p (.str []), .p (.str []), .p (.lit .nilIface)], code := none }),
  (187, { kind := .other, size := 1, bytes := 8, zero := [.p (.lit .nilFunc)], code := none }),
  (188, { kind := .arr 256 5, size := 256, bytes := 256, zero := [.arr U.u8 256 (List.replicate 256 (Cd.dflt U.u8))], code := none, seq := true }),
  (189, { kind := .struct [(0, 5), (1, 5)], size := 2, bytes := 2, zero := [.p (.int .u8 0), .p (.int .u8 0)], code := none }),
  (190, { kind := .struct [(0, 5), (1, 5)], size := 2, bytes := 2, zero := [.p (.int .u8 0), .p (.int .u8 0)], code := none }),
  (191, { kind := .arr 16 190, size := 32, bytes := 32, zero := [.p (.int .u8 0), .p (.int .u8 0), .p (.int .u8 0), .p (.int .u8 0), .p (.int .u8 0), .p (.int .u8 0), .p (.int .u8 0), .p (.int .u8 0), .p (.int .u8 0), .p (.int .u8 0), .p (.int .u8 0), .p (.int .u8 0), .p (.int .u8 0), .p (.int .u8 0), .p (.int .u8 0), .p (.int .u8 0), .p (.int .u8 0), .p (.int .u8 0), .p (.int .u8 0), .p (.int .u8 0), .p (.int .u8 0), .p (.int .u8 0), .p (.int .u8 0), .p (.int .u8 0), .p (.int .u8 0), .p (.int .u8 0), .p (.int .u8 0), .p (.int .u8 0), .p (.int .u8 0), .p (.int .u8 0), .p (.int .u8 0), .p (.int .u8 0)], code := none, cks := [.int .u8, .int .u8, .int .u8, .int .u8, .int .u8, .int .u8, .int .u8, .int .u8, .int .u8, .int .u8, .int .u8, .int .u8, .int .u8, .int .u8, .int .u8, .int .u8, .int .u8, .int .u8, .int .u8, .int .u8, .int .u8, .int .u8, .int .u8, .int .u8, .int .u8, .int .u8, .int .u8, .int .u8, .int .u8, .int .u8, .int .u8, .int .u8] })]
 | 12 => [(193, { kind := .other, size := 1, bytes := 8, zero := [.p (.lit .nilFunc)], code := none }),
  (194, { kind := .other, size := 1, bytes := 8, zero := [.p (.lit .nilFunc)], code := none }),
  (195, { kind := .ptr 197, size := 1, bytes := 8, zero := [.p (.lit (.pointer none))], code := none }),
  (196, { kind := .struct [(0, 9)], size := 1, bytes := 16, zero := [.p (.str [])], code := none }),
  (197, { kind := .struct [(0, 9)], size := 1, bytes := 16, zero := [.p (.str [])], code := none }),
  (203, { kind := .other, size := 1, bytes := 8, zero := [.p (.lit .nilFunc)], code := none }),
  (206, { kind := .other, size := 1, bytes := 8, zero := [.p (.lit .nilFunc)], code := none })]
 | _ => []
def lkT : List (Nat × TI Cd) → Nat → Option (TI Cd)
 | [], _ => none
 | (n, i) :: l, t => match Nat.beq n t with
  | true => some i
  | false => lkT l t
theorem lkT_mem : ∀ (l : List (Nat × TI Cd)) (t : Nat) (i : TI Cd), lkT l t = some i → (t, i) ∈ l
 | [], t, i, h => by simp [lkT] at h
 | (n, j) :: l, t, i, h => by
  simp only [lkT] at h
  split at h
  ·rename_i hb
   injection h with h
   subst h
   rw [Nat.eq_of_beq_eq_true hb]
   exact List.mem_cons_self ..
  ·exact List.mem_cons_of_mem _ (lkT_mem l t i h)
def tab : Tab Cd := fun t => lkT (tabC (t / 16)) t
set_option maxRecDepth 100000 in
set_option maxHeartbeats 4000000 in
theorem tabC_ok (c : Nat) : (tabC c).all (fun p => tyB Go.Proofs.Tryz.prog Dc p.1 p.2) = true := by
 unfold tabC
 split <;> kernel_rfl
theorem tab_ok : TabOK Go.Proofs.Tryz.prog Dc tab := by
 intro t i h
 have h1 := List.all_eq_true.1 (tabC_ok (t / 16)) (t, i) (lkT_mem (tabC (t / 16)) t i h)
 exact tyB_ok h1
theorem mixed : Go.Proofs.Tryz.prog.follows .mixedOrders = true := by kernel_rfl
end Go.SX
