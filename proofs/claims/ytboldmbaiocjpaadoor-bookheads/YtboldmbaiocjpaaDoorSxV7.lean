/-
  SX, part V7: calls of functions that have no body: abi.NoEscape, bytealg.MakeNoZero.
-/
import Derived.Test.YtboldmbaiocjpaaDoorSxV6
import Derived.Lib.MakeNoZero
import Derived.Laws.Externs
set_option linter.unusedSimpArgs false
namespace Go.SX
set_option linter.unusedVariables false
open Go.RowKit
variable {C : Cod}
section
variable {P : Program} {D : Codec C} {A : Aux C D} {tab : Tab C} {X : Ctx C} {R : Kont C} {k : List (It C)} {T : List (SV C)} {Hp : List (HS C)} {f : FuncId} {dst : Option Nat} {all rest : List Oper} {next : DK C} {fs fc : List Nat} {tr : List Ent}

/-- a function that gives back what it is given -/
structure SameF (P : Program) (f : FuncId) : Prop where
  h : ∀ v w, (callFunc f #[v]).run P w = .ok (.value v) w
theorem callAt_same (h : SameF P f) (x : SV C) (H : Nat → HS C) : CallAt P D f [x] H x [] := by
  refine ⟨.inr fun B σ df a w E hR vs hd => ?_⟩
  simp only [DenA] at hd
  obtain ⟨v, v2, rfl, h1, rfl⟩ := hd
  exact ⟨v, w, E, h.h v w, h1, hR⟩
theorem callx_same (hs : SameF P f) {x : SV C} (h : setOK T dst x fun T' => R (.ops all rest :: k) T' Hp) : CallX P D X R f [x] dst all rest k T Hp :=
  callX_of_at (callAt_same hs x _) (by simpa [setCsK] using h)
theorem dcallx_same (hs : SameF P f) {x : SV C} (h : forceL fc fun fc => setOK T dst x fun T' => next (⟨dst, fs, fc, []⟩ :: tr) T' Hp) : DCallX P D next f [x] dst fs fc tr T Hp := by
  rw [forceL_eq, setOK_eq] at h
  exact ⟨⟨x, [], [], ⟨fun H _ => callAt_same hs x H⟩, by simpa [idsOf, setCs] using h⟩⟩

/-- bytealg.MakeNoZero -/
structure MnzF (P : Program) (tab : Tab C) (f : FuncId) (u : C.U) : Prop where
  h : ∃ ps t e i j, (∀ args w, (callFunc f args).run P w = ((Extern.BytealgMakeNoZero.makeNoZero ps #[t] args).run P w).andThen fun v w' => .ok (.value v) w') ∧
    tab t = some i ∧ i.kind = .slice e ∧ tab e = some j ∧ j.code = some u ∧ C.n u = 1
theorem callAt_mnz (hT : TabOK P D tab) {u : C.U} (hf : MnzF P tab f u) {n : Int} (h0 : 0 ≤ n) (h1 : n ≤ 281474976710656) {H : Nat → HS C} {m : Nat} (hm : H m = .fresh) :
    CallAt P D f [.p (.int .i64 n)] H (.slice m 0 1 0 n.toNat) [(m, .rows u [])] := by
  obtain ⟨ps, t, e, i, j, hrun, ht, hk, hj, hcode, hn⟩ := hf.h
  refine ⟨.inr fun B σ df a w E hR vs hd => ?_⟩
  simp only [DenA] at hd
  obtain ⟨v, v2, rfl, hv, rfl⟩ := hd
  have ev := den_int hv
  subst ev
  obtain ⟨cs, hr, hge, _⟩ := Lib.run_makeNoZero (P := P) w ps t e (slice_of (hT t i ht) hk) n.toNat (by omega)
  rw [Int.toNat_of_nonneg h0] at hr
  have hrow : Row (w.drew.drew.alloc (.cells cs e)) w.drew.drew.heap.size cs e := Row.new (heap_alloc_new w.drew.drew _)
  refine ⟨.slice (some ⟨w.heap.size, 0, none⟩) n.toNat cs.size, w.drew.drew.alloc (.cells cs e), E.up m (.loc w.drew.drew.heap.size), ?_, ?_, ?_⟩
  · rw [hrun]
    show ((Extern.BytealgMakeNoZero.makeNoZero ps #[t] #[.int .i64 n]).run P w).andThen _ = _
    rw [hr]; rfl
  · simp only [Den, Env.up_same]
    exact .inr ⟨cs.size, cs, e, by simp, hge, hrow, by omega⟩
  · rw [upHs_one]
    exact hR.drew.drew.alloc hm cs e ⟨cs, e, ⟨hrow, fun t' h => ((hT e j hj).ctype u t' hcode h).symm⟩, by simp, ⟨by simp, fun q pv v hp _ => by simp at hp⟩⟩
theorem callx_mnz (hT : TabOK P D tab) {u : C.U} (hf : MnzF P tab f u) {n : Int} (hs : Side (0 ≤ n ∧ n ≤ 281474976710656)) (h : hlenK Hp 0 fun m => setOK T dst (.slice m 0 1 0 n.toNat) fun T' => setCK Hp m (.rows u []) fun Hp' => R (.ops all rest :: k) T' Hp') :
    CallX P D X R f [.p (.int .i64 n)] dst all rest k T Hp := by
  rw [hlenK_eq, Nat.add_zero] at h
  refine callX_of_at (callAt_mnz hT hf hs.h.1 hs.h.2 (getC_len Hp)) ?_
  rw [setOK_eq, setCK_eq] at h
  rw [setOK_eq, setCsK_eq]
  exact h
theorem dcallx_mnz (hT : TabOK P D tab) {u : C.U} (hf : MnzF P tab f u) {n : Int} (hs : Side (0 ≤ n ∧ n ≤ 281474976710656))
    (h : hlenK Hp 0 fun m => forceL (fc ++ [m]) fun fc => setOK T dst (.slice m 0 1 0 n.toNat) fun T' => setCK Hp m (.rows u []) fun Hp' => next (⟨dst, fs, fc, [m]⟩ :: tr) T' Hp') : DCallX P D next f [.p (.int .i64 n)] dst fs fc tr T Hp := by
  rw [hlenK_eq, Nat.add_zero, forceL_eq, setOK_eq, setCK_eq] at h
  refine ⟨⟨_, [(hlen Hp, .rows u [])], [hlen Hp], ⟨fun H hH => callAt_mnz hT hf hs.h.1 hs.h.2 ?_⟩, h⟩⟩
  rw [hH _ (by simp)]; exact getC_len Hp
end
end Go.SX
