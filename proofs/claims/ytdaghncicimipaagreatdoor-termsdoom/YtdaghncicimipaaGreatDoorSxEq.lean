/-
  SX, part Eq: == on structs and arrays of integers, bools and strings.
-/
import Derived.Test.YtdaghncicimipaaGreatDoorSxA
import Derived.DeepKeys
set_option linter.unusedVariables false
set_option linter.unusedSimpArgs false
namespace Go.SX

inductive CK where
  | int (k : IntKind)
  | bool
  | str
deriving DecidableEq
def ckDesc : CK → TypeDesc
  | .int k => .int k
  | .bool => .bool
  | .str => .string
def CK.is : CK → Value → Bool
  | .int k, .int k' _ => decide (k' = k)
  | .bool, .bool _ => true
  | .str, .string _ => true
  | _, _ => false
def Kd : List CK → List Value → Prop
  | [], [] => True
  | c :: l, v :: vs => c.is v = true ∧ Kd l vs
  | _, _ => False
def sl {α : Type} (l : List α) (o n : Nat) : List α := (l.drop o).take n

def ckB (P : Program) : Nat → TypeId → List CK → Bool
  | 0, _, _ => false
  | d + 1, t, l => match P.underlying t with
    | some .bool => decide (l = [.bool])
    | some (.int k) => decide (l = [.int k])
    | some .string => decide (l = [.str])
    | some (.array n e) => decide (l.length = P.cellsOf t) && decide (l.length = n * P.cellsOf e) && decide (0 < P.cellsOf e) && (P.info? e).isSome && (List.range n).all fun i => ckB P d e (sl l (i * P.cellsOf e) (P.cellsOf e))
    | some (.struct fs) => !P.stoodInHeld t && decide (l.length = P.cellsOf t) && (fs.toList.all fun f => f.name != "_" && decide (f.offset + P.cellsOf f.type ≤ l.length) && ckB P d f.type (sl l f.offset (P.cellsOf f.type))) &&
      (List.range l.length).all fun j => fs.toList.any fun f => decide (f.offset ≤ j) && decide (j < f.offset + P.cellsOf f.type)
    | _ => false

theorem Kd.length : ∀ {l : List CK} {vs : List Value}, Kd l vs → l.length = vs.length
  | [], [], _ => rfl
  | [], _ :: _, h => h.elim
  | _ :: _, [], h => h.elim
  | _ :: l, _ :: vs, h => by simp [Kd.length h.2]
theorem Kd.drop : ∀ {l : List CK} {vs : List Value} (n : Nat), Kd l vs → Kd (l.drop n) (vs.drop n)
  | _, _, 0, h => h
  | [], [], _ + 1, h => h
  | [], _ :: _, _ + 1, h => h.elim
  | _ :: _, [], _ + 1, h => h.elim
  | _ :: l, _ :: vs, n + 1, h => Kd.drop n h.2
theorem Kd.take : ∀ {l : List CK} {vs : List Value} (n : Nat), Kd l vs → Kd (l.take n) (vs.take n)
  | _, _, 0, _ => trivial
  | [], [], _ + 1, h => h
  | [], _ :: _, _ + 1, h => h.elim
  | _ :: _, [], _ + 1, h => h.elim
  | _ :: l, _ :: vs, n + 1, h => ⟨h.1, Kd.take n h.2⟩
theorem Kd.sl {l : List CK} {vs : List Value} (o n : Nat) (h : Kd l vs) : Kd (sl l o n) (sl vs o n) := (h.drop o).take n

section
open Classical
set_option linter.unusedVariables false
variable {P : Program}
/-- a is the value of type t with the cells cs -/
def Vof (P : Program) (t : TypeId) (a : Value) (cs : List Value) : Prop := match P.underlying t with
  | some (.struct _) => a = .agg cs.toArray
  | some (.array _ _) => a = .agg cs.toArray
  | _ => cs = [a]

def EqF (P : Program) (d : Nat) (t : TypeId) (l : List CK) : Prop := ∀ w a b cs ds, Vof P t a cs → Vof P t b ds → Kd l cs → Kd l ds → (Op.equalIn d t a b).run P w = .ok (decide (cs = ds)) w

theorem part_of {e : TypeId} {d : Nat} {l : List CK} (hc : ckB P d e l = true) {xs : Array Value} {off : Nat} (hk : Kd l (sl xs.toList off (P.cellsOf e))) (hl : l.length = P.cellsOf e) (w : World) :
    ∃ a, (part e xs off).run P w = .ok a w ∧ Vof P e a (sl xs.toList off (P.cellsOf e)) := by
  cases d with
  | zero => simp [ckB] at hc
  | succ d =>
    unfold ckB at hc
    have plain : P.plainKey e = true → l.length = 1 → (match P.underlying e with | some (.struct _) => False | some (.array _ _) => False | _ => True) → ∃ a, (part e xs off).run P w = .ok a w ∧ Vof P e a (sl xs.toList off (P.cellsOf e)) := by
      intro hp h1 hm
      have hlen := hk.length
      have hs : ∃ a, sl xs.toList off (P.cellsOf e) = [a] := List.length_eq_one_iff.1 (by omega)
      obtain ⟨a, ha⟩ := hs
      have hx : xs[off]? = some a := by
        have : (sl xs.toList off (P.cellsOf e))[0]? = some a := by rw [ha]; rfl
        unfold sl at this
        rw [List.getElem?_take, List.getElem?_drop] at this
        split at this
        · simpa using this
        · cases this
      refine ⟨a, run_part_plain w hp hx, ?_⟩
      unfold Vof
      split
      · rename_i h; rw [h] at hm; exact hm.elim
      · rename_i h; rw [h] at hm; exact hm.elim
      · exact ha
    have agg : (P.info? e).isSome → (∃ n e', P.underlying e = some (.array n e')) ∨ (∃ fs, P.underlying e = some (.struct fs)) → ∃ a, (part e xs off).run P w = .ok a w ∧ Vof P e a (sl xs.toList off (P.cellsOf e)) := by
      intro hi hk
      obtain ⟨i, hi⟩ := Option.isSome_iff_exists.1 hi
      have hl : (xs.extract off (off + P.cellsOf e)).toList = sl xs.toList off (P.cellsOf e) := by
        rw [Array.toList_extract]; simp [sl, List.extract]
      refine ⟨.agg (xs.extract off (off + P.cellsOf e)), ?_, ?_⟩
      · rcases hk with ⟨n, e', hu⟩ | ⟨fs, hu⟩ <;> simp [part, isAgg, run_underlying hu, run_sizeOf w hi]
      · rcases hk with ⟨n, e', hu⟩ | ⟨fs, hu⟩ <;> simp only [Vof, hu] <;> rw [← hl]
    cases hu : P.underlying e with
    | none => simp [hu] at hc
    | some k =>
      have hinfo : (P.info? e).isSome := by obtain ⟨i, hi⟩ := info_of_underlying hu; rw [hi]; rfl
      cases k
      case bool => simp only [hu, decide_eq_true_eq] at hc; exact plain (by simp [Program.plainKey, hu]) (by simp [hc]) (by simp [hu])
      case int q => simp only [hu, decide_eq_true_eq] at hc; exact plain (by simp [Program.plainKey, hu]) (by simp [hc]) (by simp [hu])
      case string => simp only [hu, decide_eq_true_eq] at hc; exact plain (by simp [Program.plainKey, hu]) (by simp [hc]) (by simp [hu])
      case array n e' => exact agg hinfo (.inl ⟨n, e', hu⟩)
      case struct fs => exact agg hinfo (.inr ⟨fs, hu⟩)
      all_goals (simp [hu] at hc; done)

theorem eqFields_of (d : Nat) {l : List CK} {xs ys : Array Value} (hx : Kd l xs.toList) (hy : Kd l ys.toList) {dd : Nat} : ∀ (fs : List Field), (∀ f ∈ fs, f.name ≠ "_" ∧ f.offset + P.cellsOf f.type ≤ l.length ∧ ckB P dd f.type (sl l f.offset (P.cellsOf f.type)) = true ∧ EqF P d f.type (sl l f.offset (P.cellsOf f.type))) → ∀ w,
    (Op.eqFields d xs ys fs).run P w = .ok (decide (∀ f ∈ fs, sl xs.toList f.offset (P.cellsOf f.type) = sl ys.toList f.offset (P.cellsOf f.type))) w
  | [], _, w => by simp [Op.eqFields]
  | f :: fs, h, w => by
    obtain ⟨h1, h2, h3, h4⟩ := h f (by simp)
    have hlen : (sl l f.offset (P.cellsOf f.type)).length = P.cellsOf f.type := by simp [sl]; omega
    obtain ⟨a, pa, va⟩ := part_of h3 (hx.sl _ _) hlen w
    obtain ⟨b, pb, vb⟩ := part_of h3 (hy.sl _ _) hlen w
    have he := h4 w a b _ _ va vb (hx.sl _ _) (hy.sl _ _)
    have ih := eqFields_of d hx hy fs (fun g hg => h g (by simp [hg])) w
    simp only [Op.eqFields, h1, ne_eq, not_false_eq_true, if_true, Sem.run_bind, pa, pb, he, Result.andThen_ok]
    by_cases hc : sl xs.toList f.offset (P.cellsOf f.type) = sl ys.toList f.offset (P.cellsOf f.type)
    · simp [hc, ih]
    · simp [hc]

theorem eqItems_of (d : Nat) {e : TypeId} {l : List CK} {xs ys : Array Value} (hx : Kd l xs.toList) (hy : Kd l ys.toList) {dd : Nat} : ∀ (is : List Nat), (∀ i ∈ is, i * P.cellsOf e + P.cellsOf e ≤ l.length ∧ ckB P dd e (sl l (i * P.cellsOf e) (P.cellsOf e)) = true ∧ EqF P d e (sl l (i * P.cellsOf e) (P.cellsOf e))) → ∀ w,
    (Op.eqItems d e (P.cellsOf e) xs ys is).run P w = .ok (decide (∀ i ∈ is, sl xs.toList (i * P.cellsOf e) (P.cellsOf e) = sl ys.toList (i * P.cellsOf e) (P.cellsOf e))) w
  | [], _, w => by simp [Op.eqItems]
  | i :: is, h, w => by
    obtain ⟨h2, h3, h4⟩ := h i (by simp)
    have hlen : (sl l (i * P.cellsOf e) (P.cellsOf e)).length = P.cellsOf e := by simp [sl]; omega
    obtain ⟨a, pa, va⟩ := part_of h3 (hx.sl _ _) hlen w
    obtain ⟨b, pb, vb⟩ := part_of h3 (hy.sl _ _) hlen w
    have he := h4 w a b _ _ va vb (hx.sl _ _) (hy.sl _ _)
    have ih := eqItems_of d hx hy is (fun g hg => h g (by simp [hg])) w
    simp only [Op.eqItems, Sem.run_bind, pa, pb, he, Result.andThen_ok]
    by_cases hc : sl xs.toList (i * P.cellsOf e) (P.cellsOf e) = sl ys.toList (i * P.cellsOf e) (P.cellsOf e)
    · simp [hc, ih]
    · simp [hc]

theorem sl_get {α : Type} {l : List α} {o n j : Nat} (h1 : o ≤ j) (h2 : j < o + n) : (sl l o n)[j - o]? = l[j]? := by
  unfold sl
  rw [List.getElem?_take, if_pos (by omega), List.getElem?_drop]
  congr 1; omega

theorem ck_one {c : CK} {cs : List Value} (h : Kd [c] cs) : ∃ v, cs = [v] ∧ c.is v = true := by
  cases cs with
  | nil => exact h.elim
  | cons v vs => cases vs with
    | nil => exact ⟨v, rfl, h.1⟩
    | cons _ _ => exact h.2.elim

theorem eqF_of (d : Nat) : ∀ (m : Nat) (t : TypeId) (l : List CK), ckB P m t l = true → EqF P (d + m) t l
  | 0, _, _, h => by simp [ckB] at h
  | m + 1, t, l, h => by
    intro w a b cs ds ha hb hka hkb
    unfold ckB at h
    cases hu : P.underlying t with
    | none => simp [hu] at h
    | some k =>
      cases k
      case bool =>
        simp only [hu, decide_eq_true_eq] at h; subst h
        obtain ⟨v, rfl, hv⟩ := ck_one hka
        obtain ⟨u, rfl, hu'⟩ := ck_one hkb
        simp only [Vof, hu, List.cons.injEq, and_true] at ha hb
        subst ha; subst hb
        cases v <;> simp [CK.is] at hv
        cases u <;> simp [CK.is] at hu'
        rw [show d + (m + 1) = (d + m) + 1 from rfl, run_equalIn_bool' w (d + m) t _ _ hu]
        congr 1; simp [Bool.beq_eq_decide_eq]
      case int q =>
        simp only [hu, decide_eq_true_eq] at h; subst h
        obtain ⟨v, rfl, hv⟩ := ck_one hka
        obtain ⟨u, rfl, hu'⟩ := ck_one hkb
        simp only [Vof, hu, List.cons.injEq, and_true] at ha hb
        subst ha; subst hb
        cases v <;> simp [CK.is] at hv
        cases u <;> simp [CK.is] at hu'
        subst hv; subst hu'
        rw [show d + (m + 1) = (d + m) + 1 from rfl, run_equalIn_int w (d + m) t _ _ _ _ hu]
        congr 1; rw [Bool.eq_iff_iff]; simp
      case string =>
        simp only [hu, decide_eq_true_eq] at h; subst h
        obtain ⟨v, rfl, hv⟩ := ck_one hka
        obtain ⟨u, rfl, hu'⟩ := ck_one hkb
        simp only [Vof, hu, List.cons.injEq, and_true] at ha hb
        subst ha; subst hb
        cases v <;> simp [CK.is] at hv
        cases u <;> simp [CK.is] at hu'
        rw [show d + (m + 1) = (d + m) + 1 from rfl, run_equalIn_string w (d + m) t _ _ hu]
        congr 1; rw [Bool.eq_iff_iff]; simp [ByteArray.toList_eq]
        rename_i x y
        obtain ⟨⟨x⟩⟩ := x; obtain ⟨⟨y⟩⟩ := y
        simp
      case array n e =>
        simp only [hu, Bool.and_eq_true, decide_eq_true_eq, List.all_eq_true, List.mem_range] at h
        obtain ⟨⟨⟨⟨h1, h2⟩, h3⟩, h4⟩, h5⟩ := h
        simp only [Vof, hu] at ha hb
        subst ha; subst hb
        obtain ⟨i, hi⟩ := Option.isSome_iff_exists.1 h4
        rw [show d + (m + 1) = (d + m) + 1 from rfl, run_equalIn_array w (d + m) _ _ hu hi, eqItems_of (d + m) (l := l) hka hkb (dd := m) (List.range n) (fun i hi => by
          rw [List.mem_range] at hi
          refine ⟨?_, h5 i hi, eqF_of d m _ _ (h5 i hi)⟩
          rw [h2, ← Nat.succ_mul]; exact Nat.mul_le_mul_right _ hi) w]
        congr 1
        simp only [decide_eq_decide, List.mem_range]
        refine ⟨fun hall => List.ext_getElem? fun j => ?_, fun e i _ => by rw [e]⟩
        by_cases hj : j < l.length
        · have hlt : j / P.cellsOf e < n := by rw [Nat.div_lt_iff_lt_mul h3, ← h2]; exact hj
          have hd1 : j / P.cellsOf e * P.cellsOf e ≤ j := Nat.div_mul_le_self _ _
          have hd2 : j < j / P.cellsOf e * P.cellsOf e + P.cellsOf e := by have h6 := Nat.div_add_mod j (P.cellsOf e); have h7 := Nat.mod_lt j h3; rw [Nat.mul_comm] at h6; omega
          rw [← sl_get (l := cs) hd1 hd2, ← sl_get (l := ds) hd1 hd2]
          rw [hall _ hlt]
        · rw [List.getElem?_eq_none (by rw [← hka.length]; omega), List.getElem?_eq_none (by rw [← hkb.length]; omega)]
      case struct fs =>
        simp only [hu, Bool.and_eq_true, Bool.not_eq_true', decide_eq_true_eq, List.all_eq_true, List.mem_range, List.any_eq_true, bne_iff_ne, ne_eq] at h
        obtain ⟨⟨⟨h1, h2⟩, h3⟩, h4⟩ := h
        simp only [Vof, hu] at ha hb
        subst ha; subst hb
        have hfs : P.fieldsOf t = fs := by simp [Program.fieldsOf, hu]
        rw [show d + (m + 1) = (d + m) + 1 from rfl, run_equalIn_struct w (d + m) t _ _ (by rw [hfs]; exact hu) h1, hfs, eqFields_of (d + m) (l := l) hka hkb (dd := m) fs.toList (fun f hf => by
          obtain ⟨⟨g1, g2⟩, g3⟩ := h3 f hf
          exact ⟨g1, g2, g3, eqF_of d m _ _ g3⟩) w]
        congr 1
        simp only [decide_eq_decide]
        refine ⟨fun hall => List.ext_getElem? fun j => ?_, fun e i _ => by rw [e]⟩
        by_cases hj : j < l.length
        · obtain ⟨f, hf, g1, g2⟩ := h4 j hj
          rw [← sl_get (l := cs) g1 g2, ← sl_get (l := ds) g1 g2]
          rw [hall f hf]
        · rw [List.getElem?_eq_none (by rw [← hka.length]; omega), List.getElem?_eq_none (by rw [← hkb.length]; omega)]
      all_goals (simp [hu] at h; done)
end
end Go.SX
