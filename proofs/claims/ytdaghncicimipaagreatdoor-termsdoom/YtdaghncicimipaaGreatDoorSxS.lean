/-
  SX, part S: a table of types checked against the program by a computation.
-/
import Derived.Test.YtdaghncicimipaaGreatDoorSxR
set_option linter.unusedVariables false
set_option linter.unusedSimpArgs false
namespace Go.SX
variable {C : Cod}

def pB : PV C → Value → Bool
  | .int k n, .int k' n' => decide (k = k') && decide (n = n')
  | .bool b, .bool b' => b == b'
  | .str l, .string s => decide (l = s.data.toList)
  | .lit (.slice none 0 0), .slice none 0 0 => true
  | .lit (.pointer none), .pointer none => true
  | .lit (.map none), .map none => true
  | .lit .nilFunc, .nilFunc => true
  | .lit .nilIface, .nilIface => true
  | _, _ => false
def pLB : List (PV C) → List Value → Option (List Value)
  | [], vs => some vs
  | x :: l, v :: vs => if pB x v then pLB l vs else none
  | _ :: _, [] => none
def zeroB (D : Codec C) : List (SV C) → List Value → Bool
  | [], [] => true
  | .p x :: l, v :: vs => pB x v && zeroB D l vs
  | .arr u N xs :: l, vs => decide (xs.length = N) && (match pLB (xs.flatMap (D.enc u)) vs with
    | some r => zeroB D l r
    | none => false)
  | _, _ => false
def kindB (P : Program) (size : Nat) : TK → TypeDesc → Bool
  | .int k, .int k' => decide (k' = k)
  | .bool, .bool => true
  | .str, .string => true
  | .struct fs, .struct F => decide (F.toList.map (fun f => (f.offset, f.type)) = fs) && fs.all fun f => (P.info? f.2).isSome
  | .arr n e, .array n' e' => decide (n' = n) && decide (e' = e) && (match P.info? e with | some ie => decide (size = n * ie.size) | none => false)
  | .slice e, .slice e' => decide (e' = e)
  | .ptr e, .pointer e' => decide (e' = e)
  | .uptr, .unsafePointer => true
  | .map k e, .map kt e' => decide (e' = e) && (match P.underlying kt with | some d => (match k, d with | .int q, .int q' => decide (q' = q) | .str, .string => true | _, _ => false) | none => false)
  | .other, d => match d with | .struct _ | .array _ _ => false | _ => true
  | _, _ => false
def zbB (P : Program) (t : TypeId) : TK → Bool
  | .bool => match P.info? t with
    | some info => match info.zero with
      | some (.bool false) => true
      | _ => false
    | none => false
  | _ => true
def tyB (P : Program) (D : Codec C) (t : TypeId) (i : TI C) : Bool :=
  (match P.info? t with
    | some info => decide (info.size = i.size) && decide (info.bytes = i.bytes) && (match info.zero with
      | some z => decide (z.cells.size = i.size) && zeroB D i.zero z.cells.toList
      | none => false)
    | none => false) &&
  (match P.underlying t with
    | some d => kindB P i.size i.kind d
    | none => false) &&
  decide (0 < i.size) && (match i.code with
    | some u => decide (C.n u = i.size) && (match C.ty u with
      | some t' => decide (t' = t)
      | none => true)
    | none => true) && (match i.typed with
    | true => liesAt P P.depth t (i.size / P.cellsOf t) 0 t 1
    | false => true) && (match i.cks with
    | [] => true
    | l => i.kind.agg && ckB P 64 t l && !P.eqGuardType P.depth t) && zbB P t i.kind

section
variable {P : Program} {D : Codec C} {w : World} {E : Env}
theorem pB_ok {x : PV C} {v : Value} (h : pB x v = true) {F : Nat → Prop} : PDen D w F x v := by
  unfold pB at h
  split at h
  · simp at h; obtain ⟨rfl, rfl⟩ := h; exact .int _ _
  · simp at h; subst h; exact .bool _
  · simp at h; subst h; rename_i s; obtain ⟨⟨l⟩⟩ := s; exact .str _
  · exact .lit _ rfl
  · exact .lit _ rfl
  · exact .lit _ rfl
  · exact .lit _ rfl
  · exact .lit _ rfl
  · cases h
theorem pLB_ok {F : Nat → Prop} : ∀ (l : List (PV C)) (vs r : List Value), pLB l vs = some r → ∃ v1, vs = v1 ++ r ∧ PDenL D w F l v1
  | [], vs, r, h => by simp [pLB] at h; subst h; exact ⟨[], rfl, rfl, fun j pv v hp _ => by simp at hp⟩
  | x :: l, [], r, h => by simp [pLB] at h
  | x :: l, v :: vs, r, h => by
    simp only [pLB] at h
    split at h
    · rename_i hb
      obtain ⟨v1, rfl, h1⟩ := pLB_ok (F := F) l vs r h
      refine ⟨v :: v1, rfl, by simp [h1.1], fun j pv u hp hu => ?_⟩
      cases j with
      | zero => simp at hp hu; subst hp; subst hu; exact pB_ok hb
      | succ j => exact h1.2 j pv u (by simpa using hp) (by simpa using hu)
    · cases h
theorem zeroB_ok : ∀ (l : List (SV C)) (vs : List Value), zeroB D l vs = true → DenC D w E l vs
  | [], [], _ => by simp only [DenC]
  | [], _ :: _, h => by simp [zeroB] at h
  | .p x :: l, [], h => by simp [zeroB] at h
  | .p x :: l, v :: vs, h => by
    simp only [zeroB, Bool.and_eq_true] at h
    have h1 : PDen D w E.F x v := pB_ok h.1
    simp only [DenC, Den]
    exact ⟨v, vs, rfl, h1.oneCell, h1, zeroB_ok l vs h.2⟩
  | .arr u N xs :: l, vs, h => by
    have h' : xs.length = N ∧ (match pLB (xs.flatMap (D.enc u)) vs with | some r => zeroB D l r | none => false) = true := by
      cases vs <;> simpa [zeroB] using h
    obtain ⟨h1, h2⟩ := h'
    cases hp : pLB (xs.flatMap (D.enc u)) vs with
    | none => rw [hp] at h2; cases h2
    | some r =>
      rw [hp] at h2
      obtain ⟨v1, e, h3⟩ := pLB_ok (D := D) (w := w) (F := E.F) _ vs r hp
      simp only [DenC]
      exact ⟨h1, v1, r, e, h3, zeroB_ok l r h2⟩
  | .any :: l, vs, h => by cases vs <;> simp [zeroB] at h
  | .ptr _ _ :: l, vs, h => by cases vs <;> simp [zeroB] at h
  | .eptr _ _ _ _ _ :: l, vs, h => by cases vs <;> simp [zeroB] at h
  | .dptr _ _ :: l, vs, h => by cases vs <;> simp [zeroB] at h
  | .slice _ _ _ _ _ :: l, vs, h => by cases vs <;> simp [zeroB] at h
  | .agg _ :: l, vs, h => by cases vs <;> simp [zeroB] at h
  | .fn _ _ _ :: l, vs, h => by cases vs <;> simp [zeroB] at h
  | .iface _ _ :: l, vs, h => by cases vs <;> simp [zeroB] at h
  | .tuple _ :: l, vs, h => by cases vs <;> simp [zeroB] at h
theorem kindB_ok {size : Nat} {k : TK} {d : TypeDesc} (h : kindB P size k d = true) : KindOK P size k d := by
  unfold kindB at h
  split at h
  · simp at h; subst h; rfl
  · rfl
  · rfl
  · simp at h
    exact ⟨_, rfl, h.1, fun f hf => by
      have := h.2 f.1 f.2 hf
      simpa [Option.isSome_iff_ne_none] using this⟩
  · simp at h
    obtain ⟨⟨rfl, rfl⟩, h2⟩ := h
    split at h2
    · rename_i ie hie
      exact ⟨rfl, ie, hie, by simpa using h2⟩
    · cases h2
  · simp at h; subst h; rfl
  · simp at h; subst h; rfl
  · rfl
  · simp only [Bool.and_eq_true, decide_eq_true_eq] at h
    obtain ⟨rfl, h2⟩ := h
    refine ⟨_, rfl, ?_⟩
    split at h2
    · rename_i d hd
      split at h2
      · simp at h2; subst h2; exact hd
      · exact hd
      · cases h2
    · cases h2
  · simp only [KindOK]
    exact h
  · cases h
theorem tyB_ok {t : TypeId} {i : TI C} (h : tyB P D t i = true) : TyOK P D t i := by
  simp only [tyB, Bool.and_eq_true, decide_eq_true_eq] at h
  obtain ⟨⟨⟨⟨⟨⟨h1, h2⟩, h3⟩, h4⟩, h6⟩, h5⟩, h8⟩ := h
  refine ⟨?_, ?_, h3, fun u hu => ?_, fun u t' hu ht => ?_, fun ht => ?_, fun hk => ?_, fun hc => ?_⟩
  · split at h1
    · rename_i info hinfo
      simp only [Bool.and_eq_true, decide_eq_true_eq] at h1
      obtain ⟨⟨h5, h6⟩, h7⟩ := h1
      split at h7
      · rename_i z hz
        simp only [Bool.and_eq_true, decide_eq_true_eq] at h7
        exact ⟨info, z, hinfo, h5, h6, hz, h7.1, fun w E => zeroB_ok _ _ h7.2⟩
      · cases h7
    · cases h1
  · split at h2
    · rename_i d hd; exact ⟨d, hd, kindB_ok h2⟩
    · cases h2
  · rw [hu] at h4; simp only [Bool.and_eq_true, decide_eq_true_eq] at h4; exact h4.1
  · rw [hu] at h4; simp only [Bool.and_eq_true, decide_eq_true_eq] at h4; rw [ht] at h4; simpa using h4.2
  · rw [ht] at h6; exact h6
  · rw [hk] at h8
    simp only [zbB] at h8
    split at h8
    · rename_i info hi
      split at h8
      · rename_i hz; exact ⟨info, hi, hz⟩
      · cases h8
    · cases h8
  · split at h5
    · rename_i h; exact (hc h).elim
    · simp only [Bool.and_eq_true, Bool.not_eq_true'] at h5
      exact ⟨h5.1.1, h5.1.2, h5.2⟩
end
end Go.SX
