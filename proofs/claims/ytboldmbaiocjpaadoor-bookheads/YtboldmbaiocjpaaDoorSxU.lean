/-
  The element types of this project's slices and arrays (written by mku.py).
-/
import Derived.Test.YtboldmbaiocjpaaDoorSxS
set_option linter.unusedVariables false
set_option linter.unusedSimpArgs false
namespace Go.SX

structure DSide where
  root : List UInt8
  first : Bool
deriving DecidableEq
structure Posting where
  kind : Int
  day : Int
  debtor : Int
  creditor : Int
  amount : Int
  subject : Int
  of_ : Int
deriving DecidableEq
structure Book where
  accounts : Int
  postings : List Posting
  closed : Int
deriving DecidableEq
structure A5 where
  a : Int
  b : Int
  c : Int
  d : Int
  e : Int
deriving DecidableEq

inductive U where
  | int | bool | str | u8 | u32 | u64 | side | posting | book | arr5
deriving DecidableEq

@[reducible] def U.El : U → Type
  | .int => Int
  | .bool => Bool
  | .str => List UInt8
  | .u8 => Int
  | .u32 => Int
  | .u64 => Int
  | .side => DSide
  | .posting => Posting
  | .book => Book
  | .arr5 => A5
def U.dflt : (u : U) → u.El
  | .int => (0 : Int)
  | .bool => false
  | .str => ([] : List UInt8)
  | .u8 => (0 : Int)
  | .u32 => (0 : Int)
  | .u64 => (0 : Int)
  | .side => (⟨[], false⟩ : DSide)
  | .posting => (⟨0, 0, 0, 0, 0, 0, 0⟩ : Posting)
  | .book => (⟨0, [], 0⟩ : Book)
  | .arr5 => (⟨0, 0, 0, 0, 0⟩ : A5)
def U.n : U → Nat
  | .int => 1
  | .bool => 1
  | .str => 1
  | .u8 => 1
  | .u32 => 1
  | .u64 => 1
  | .side => 2
  | .posting => 7
  | .book => 3
  | .arr5 => 5
def U.glob : Nat → List Value
  | 0 => [.int .u32 1116352408, .int .u32 1899447441, .int .u32 3049323471, .int .u32 3921009573, .int .u32 961987163, .int .u32 1508970993, .int .u32 2453635748, .int .u32 2870763221, .int .u32 3624381080, .int .u32 310598401, .int .u32 607225278, .int .u32 1426881987, .int .u32 1925078388, .int .u32 2162078206, .int .u32 2614888103, .int .u32 3248222580, .int .u32 3835390401, .int .u32 4022224774, .int .u32 264347078, .int .u32 604807628, .int .u32 770255983, .int .u32 1249150122, .int .u32 1555081692, .int .u32 1996064986, .int .u32 2554220882, .int .u32 2821834349, .int .u32 2952996808, .int .u32 3210313671, .int .u32 3336571891, .int .u32 3584528711, .int .u32 113926993, .int .u32 338241895, .int .u32 666307205, .int .u32 773529912, .int .u32 1294757372, .int .u32 1396182291, .int .u32 1695183700, .int .u32 1986661051, .int .u32 2177026350, .int .u32 2456956037, .int .u32 2730485921, .int .u32 2820302411, .int .u32 3259730800, .int .u32 3345764771, .int .u32 3516065817, .int .u32 3600352804, .int .u32 4094571909, .int .u32 275423344, .int .u32 430227734, .int .u32 506948616, .int .u32 659060556, .int .u32 883997877, .int .u32 958139571, .int .u32 1322822218, .int .u32 1537002063, .int .u32 1747873779, .int .u32 1955562222, .int .u32 2024104815, .int .u32 2227730452, .int .u32 2361852424, .int .u32 2428436474, .int .u32 2756734187, .int .u32 3204031479, .int .u32 3329325298]
  | _ => []
def U.ty : U → Option TypeId
  | .u8 => some 5
  | _ => none
@[reducible] def Cd : Cod := { U := U, El := U.El, dflt := U.dflt, n := U.n, glob := U.glob, ty := U.ty }

def encU : (u : U) → u.El → List (PV Cd)
  | .int, x => [.int .i64 x]
  | .bool, x => [.bool x]
  | .str, x => [.str x]
  | .u8, x => [.int .u8 x]
  | .u32, x => [.int .u32 x]
  | .u64, x => [.int .u64 x]
  | .side, x => [.str x.root, .bool x.first]
  | .posting, x => [.int .i64 x.kind, .int .i64 x.day, .int .i64 x.debtor, .int .i64 x.creditor, .int .i64 x.amount, .int .i64 x.subject, .int .i64 x.of_]
  | .book, x => [.int .i64 x.accounts, .dsl U.posting x.postings, .int .i64 x.closed]
  | .arr5, x => [.int .i64 x.a, .int .i64 x.b, .int .i64 x.c, .int .i64 x.d, .int .i64 x.e]
def decU : (u : U) → List (PV Cd) → Option u.El
  | .int, [.int .i64 a0] => some a0
  | .bool, [.bool a0] => some a0
  | .str, [.str a0] => some a0
  | .u8, [.int .u8 a0] => some a0
  | .u32, [.int .u32 a0] => some a0
  | .u64, [.int .u64 a0] => some a0
  | .side, [.str a0, .bool a1] => some (⟨a0, a1⟩ : DSide)
  | .posting, [.int .i64 a0, .int .i64 a1, .int .i64 a2, .int .i64 a3, .int .i64 a4, .int .i64 a5, .int .i64 a6] => some (⟨a0, a1, a2, a3, a4, a5, a6⟩ : Posting)
  | .book, [.int .i64 a0, .dsl U.posting a1, .int .i64 a2] => some (⟨a0, a1, a2⟩ : Book)
  | .arr5, [.int .i64 a0, .int .i64 a1, .int .i64 a2, .int .i64 a3, .int .i64 a4] => some (⟨a0, a1, a2, a3, a4⟩ : A5)
  | _, _ => none
theorem decU_ok (u : U) (l : List (PV Cd)) (x : u.El) (h : decU u l = some x) : encU u x = l := by
  unfold decU at h
  split at h <;> first | (injection h with h; subst h; rfl) | (injection h)
def Dc : Codec Cd where
  enc := encU
  dec := decU
  dec_ok := decU_ok
  enc_len := by intro u x; cases u <;> rfl
  n_pos := by intro u; cases u <;> decide
def castU : (u u' : U) → List u'.El → Option (List u.El)
  | .int, .int, l => some l
  | .bool, .bool, l => some l
  | .str, .str, l => some l
  | .u8, .u8, l => some l
  | .u32, .u32, l => some l
  | .u64, .u64, l => some l
  | .side, .side, l => some l
  | .posting, .posting, l => some l
  | .book, .book, l => some l
  | .arr5, .arr5, l => some l
  | _, _, _ => none
theorem castU_ok (u u' : U) (ys : List u'.El) (zs : List u.El) (h : castU u u' ys = some zs) : zs.map (encU u) = ys.map (encU u') ∧ u.n = u'.n := by
  unfold castU at h
  split at h <;> first | (injection h with h; subst h; exact ⟨rfl, rfl⟩) | (injection h)
def ckU : U → List CK
  | .int => [.int .i64]
  | .bool => [.bool]
  | .str => [.str]
  | .u8 => [.int .u8]
  | .u32 => [.int .u32]
  | .u64 => [.int .u64]
  | .side => [.str, .bool]
  | .posting => [.int .i64, .int .i64, .int .i64, .int .i64, .int .i64, .int .i64, .int .i64]
  | .arr5 => [.int .i64, .int .i64, .int .i64, .int .i64, .int .i64]
  | _ => []
theorem ckU_ok (u : U) (h : ckU u ≠ []) (x : u.El) : (encU u x).map pvCk = (ckU u).map some := by
  cases u <;> first | rfl | exact (h rfl).elim
theorem encU_inj (u : U) (h : ckU u ≠ []) (x y : u.El) (e : encU u x = encU u y) : x = y := by
  cases u <;> first | exact (h rfl).elim | (simp [encU] at e; first | exact e | (cases x; cases y; simp_all))
theorem flatMap_inj {α β : Type} (f : α → List β) (n : Nat) (hn : 0 < n) (hf : ∀ x, (f x).length = n) (hi : ∀ x y, f x = f y → x = y) : ∀ xs ys : List α, xs.flatMap f = ys.flatMap f → xs = ys
  | [], [], _ => rfl
  | [], y :: ys, h => by have := congrArg List.length h; simp [hf] at this; omega
  | x :: xs, [], h => by have := congrArg List.length h; simp [hf] at this; omega
  | x :: xs, y :: ys, h => by
    simp only [List.flatMap_cons] at h
    have h1 := List.append_inj h (by rw [hf, hf])
    rw [hi x y h1.1, flatMap_inj f n hn hf hi xs ys h1.2]
def eqU : (u u' : U) → List u.El → List u'.El → Option Bool
  | .int, .int, xs, ys => some (decide (xs = ys))
  | .bool, .bool, xs, ys => some (decide (xs = ys))
  | .str, .str, xs, ys => some (decide (xs = ys))
  | .u8, .u8, xs, ys => some (decide (xs = ys))
  | .u32, .u32, xs, ys => some (decide (xs = ys))
  | .u64, .u64, xs, ys => some (decide (xs = ys))
  | .side, .side, xs, ys => some (decide (xs = ys))
  | .posting, .posting, xs, ys => some (decide (xs = ys))
  | .arr5, .arr5, xs, ys => some (decide (xs = ys))
  | _, _, _, _ => none
theorem flatMap_one {α β : Type} (f : α → β) : ∀ xs : List α, (xs.flatMap fun x => [f x]) = xs.map f
  | [] => rfl
  | x :: xs => by rw [List.flatMap_cons, flatMap_one f xs]; rfl
def bytesU : (u : U) → List UInt8 → Option (List u.El)
  | .u8, l => some (l.map fun b => (b.toNat : Int))
  | _, _ => none
theorem bytesU_ok (u : U) (l : List UInt8) (xs : List u.El) (h : bytesU u l = some xs) : U.n u = 1 ∧ xs.flatMap (encU u) = l.map (fun b => PV.int .u8 b.toNat) := by
  unfold bytesU at h
  split at h
  · injection h with h; subst h
    refine ⟨rfl, ?_⟩
    have h1 := flatMap_one (fun n : Int => (PV.int .u8 n : PV Cd)) (l.map fun b => (b.toNat : Int))
    rw [List.map_map] at h1
    exact h1
  · cases h
def strU : (u : U) → List u.El → Option (List UInt8)
  | .u8, xs => some (xs.map fun n : Int => UInt8.ofNat n.toNat)
  | _, _ => none
theorem strU_ok (u : U) (xs : List u.El) (l : List UInt8) (h : strU u xs = some l) : U.n u = 1 ∧ ∃ ns : List Int, xs.flatMap (encU u) = ns.map (PV.int .u8) ∧ l = ns.map (fun n => UInt8.ofNat n.toNat) := by
  unfold strU at h
  split at h
  · injection h with h; subst h
    exact ⟨rfl, _, flatMap_one (fun n : Int => (PV.int .u8 n : PV Cd)) _, rfl⟩
  · cases h
theorem eqU_ok (u u' : U) (xs : List u.El) (ys : List u'.El) (b : Bool) (h : eqU u u' xs ys = some b) : ckU u ≠ [] ∧ ckU u' ≠ [] ∧ (b = true ↔ xs.flatMap (encU u) = ys.flatMap (encU u')) := by
  have key : ∀ (u : U) (hu : ckU u ≠ []) (xs ys : List u.El), (xs = ys ↔ xs.flatMap (encU u) = ys.flatMap (encU u)) := fun u hu xs ys =>
    ⟨fun e => by rw [e], flatMap_inj (encU u) u.n (Dc.n_pos u) (fun x => Dc.enc_len u x) (encU_inj u hu) xs ys⟩
  unfold eqU at h
  split at h
  all_goals first
    | (injection h with h; subst h; refine ⟨by decide, by decide, ?_⟩; rw [decide_eq_true_iff]; exact key _ (by decide) _ _)
    | (injection h)
def Ax : Aux Cd Dc where
  castL := castU
  castL_ok := castU_ok
  ckA := ckU
  ckA_ok := ckU_ok
  eqA := eqU
  eqA_ok := eqU_ok
  ofBytes := bytesU
  ofBytes_ok := bytesU_ok
  toBytes := strU
  toBytes_ok := strU_ok
/-- with sums that wrap around -/
theorem wr_Ax : Ax.wr = false := rfl
def AxW : Aux Cd Dc := { Ax with wr := true }
theorem n_int : Cd.n U.int = 1 := rfl
theorem un_int : U.n U.int = 1 := rfl
theorem cast_int (l : List (Cd.El U.int)) : Ax.castL U.int U.int l = some l := rfl
theorem enc_int (x : Int) : Dc.enc U.int x = [.int .i64 x] := rfl
theorem dec_int (a0 : Int) : Dc.dec U.int [.int .i64 a0] = some a0 := rfl
theorem dflt_int : U.dflt U.int = (0 : Int) := rfl
theorem ckA_int : Ax.ckA U.int = [.int .i64] := rfl
theorem eqA_int (xs ys : List Int) : Ax.eqA U.int U.int xs ys = some (decide (xs = ys)) := rfl
theorem n_bool : Cd.n U.bool = 1 := rfl
theorem un_bool : U.n U.bool = 1 := rfl
theorem cast_bool (l : List (Cd.El U.bool)) : Ax.castL U.bool U.bool l = some l := rfl
theorem enc_bool (x : Bool) : Dc.enc U.bool x = [.bool x] := rfl
theorem dec_bool (a0 : Bool) : Dc.dec U.bool [.bool a0] = some a0 := rfl
theorem dflt_bool : U.dflt U.bool = false := rfl
theorem ckA_bool : Ax.ckA U.bool = [.bool] := rfl
theorem eqA_bool (xs ys : List Bool) : Ax.eqA U.bool U.bool xs ys = some (decide (xs = ys)) := rfl
theorem n_str : Cd.n U.str = 1 := rfl
theorem un_str : U.n U.str = 1 := rfl
theorem cast_str (l : List (Cd.El U.str)) : Ax.castL U.str U.str l = some l := rfl
theorem enc_str (x : List UInt8) : Dc.enc U.str x = [.str x] := rfl
theorem dec_str (a0 : List UInt8) : Dc.dec U.str [.str a0] = some a0 := rfl
theorem dflt_str : U.dflt U.str = ([] : List UInt8) := rfl
theorem ckA_str : Ax.ckA U.str = [.str] := rfl
theorem eqA_str (xs ys : List (List UInt8)) : Ax.eqA U.str U.str xs ys = some (decide (xs = ys)) := rfl
theorem n_u8 : Cd.n U.u8 = 1 := rfl
theorem un_u8 : U.n U.u8 = 1 := rfl
theorem cast_u8 (l : List (Cd.El U.u8)) : Ax.castL U.u8 U.u8 l = some l := rfl
theorem enc_u8 (x : Int) : Dc.enc U.u8 x = [.int .u8 x] := rfl
theorem dec_u8 (a0 : Int) : Dc.dec U.u8 [.int .u8 a0] = some a0 := rfl
theorem dflt_u8 : U.dflt U.u8 = (0 : Int) := rfl
theorem ckA_u8 : Ax.ckA U.u8 = [.int .u8] := rfl
theorem eqA_u8 (xs ys : List Int) : Ax.eqA U.u8 U.u8 xs ys = some (decide (xs = ys)) := rfl
theorem n_u32 : Cd.n U.u32 = 1 := rfl
theorem un_u32 : U.n U.u32 = 1 := rfl
theorem cast_u32 (l : List (Cd.El U.u32)) : Ax.castL U.u32 U.u32 l = some l := rfl
theorem enc_u32 (x : Int) : Dc.enc U.u32 x = [.int .u32 x] := rfl
theorem dec_u32 (a0 : Int) : Dc.dec U.u32 [.int .u32 a0] = some a0 := rfl
theorem dflt_u32 : U.dflt U.u32 = (0 : Int) := rfl
theorem ckA_u32 : Ax.ckA U.u32 = [.int .u32] := rfl
theorem eqA_u32 (xs ys : List Int) : Ax.eqA U.u32 U.u32 xs ys = some (decide (xs = ys)) := rfl
theorem n_u64 : Cd.n U.u64 = 1 := rfl
theorem un_u64 : U.n U.u64 = 1 := rfl
theorem cast_u64 (l : List (Cd.El U.u64)) : Ax.castL U.u64 U.u64 l = some l := rfl
theorem enc_u64 (x : Int) : Dc.enc U.u64 x = [.int .u64 x] := rfl
theorem dec_u64 (a0 : Int) : Dc.dec U.u64 [.int .u64 a0] = some a0 := rfl
theorem dflt_u64 : U.dflt U.u64 = (0 : Int) := rfl
theorem ckA_u64 : Ax.ckA U.u64 = [.int .u64] := rfl
theorem eqA_u64 (xs ys : List Int) : Ax.eqA U.u64 U.u64 xs ys = some (decide (xs = ys)) := rfl
theorem n_side : Cd.n U.side = 2 := rfl
theorem un_side : U.n U.side = 2 := rfl
theorem cast_side (l : List (Cd.El U.side)) : Ax.castL U.side U.side l = some l := rfl
theorem enc_side (x : DSide) : Dc.enc U.side x = [.str x.root, .bool x.first] := rfl
theorem dec_side (a0 : List UInt8) (a1 : Bool) : Dc.dec U.side [.str a0, .bool a1] = some (⟨a0, a1⟩ : DSide) := rfl
def side0 : DSide := ⟨[], false⟩
theorem dflt_side : U.dflt U.side = side0 := rfl
theorem ckA_side : Ax.ckA U.side = [.str, .bool] := rfl
theorem eqB_side (p q : DSide) : (decide (p.root = q.root) && (decide (p.first = q.first) && true)) = decide (p = q) := by
  rw [Bool.eq_iff_iff]; cases p; cases q; simp
theorem eqA_side (xs ys : List DSide) : Ax.eqA U.side U.side xs ys = some (decide (xs = ys)) := rfl
theorem n_posting : Cd.n U.posting = 7 := rfl
theorem un_posting : U.n U.posting = 7 := rfl
theorem cast_posting (l : List (Cd.El U.posting)) : Ax.castL U.posting U.posting l = some l := rfl
theorem enc_posting (x : Posting) : Dc.enc U.posting x = [.int .i64 x.kind, .int .i64 x.day, .int .i64 x.debtor, .int .i64 x.creditor, .int .i64 x.amount, .int .i64 x.subject, .int .i64 x.of_] := rfl
theorem dec_posting (a0 : Int) (a1 : Int) (a2 : Int) (a3 : Int) (a4 : Int) (a5 : Int) (a6 : Int) : Dc.dec U.posting [.int .i64 a0, .int .i64 a1, .int .i64 a2, .int .i64 a3, .int .i64 a4, .int .i64 a5, .int .i64 a6] = some (⟨a0, a1, a2, a3, a4, a5, a6⟩ : Posting) := rfl
def posting0 : Posting := ⟨0, 0, 0, 0, 0, 0, 0⟩
theorem dflt_posting : U.dflt U.posting = posting0 := rfl
theorem ckA_posting : Ax.ckA U.posting = [.int .i64, .int .i64, .int .i64, .int .i64, .int .i64, .int .i64, .int .i64] := rfl
theorem eqB_posting (p q : Posting) : (decide (p.kind = q.kind) && (decide (p.day = q.day) && (decide (p.debtor = q.debtor) && (decide (p.creditor = q.creditor) && (decide (p.amount = q.amount) && (decide (p.subject = q.subject) && (decide (p.of_ = q.of_) && true))))))) = decide (p = q) := by
  rw [Bool.eq_iff_iff]; cases p; cases q; simp
theorem eqA_posting (xs ys : List Posting) : Ax.eqA U.posting U.posting xs ys = some (decide (xs = ys)) := rfl
theorem n_book : Cd.n U.book = 3 := rfl
theorem un_book : U.n U.book = 3 := rfl
theorem cast_book (l : List (Cd.El U.book)) : Ax.castL U.book U.book l = some l := rfl
theorem enc_book (x : Book) : Dc.enc U.book x = [.int .i64 x.accounts, .dsl U.posting x.postings, .int .i64 x.closed] := rfl
theorem dec_book (a0 : Int) (a1 : List Posting) (a2 : Int) : Dc.dec U.book [.int .i64 a0, .dsl U.posting a1, .int .i64 a2] = some (⟨a0, a1, a2⟩ : Book) := rfl
def book0 : Book := ⟨0, [], 0⟩
theorem dflt_book : U.dflt U.book = book0 := rfl
theorem n_arr5 : Cd.n U.arr5 = 5 := rfl
theorem un_arr5 : U.n U.arr5 = 5 := rfl
theorem cast_arr5 (l : List (Cd.El U.arr5)) : Ax.castL U.arr5 U.arr5 l = some l := rfl
theorem enc_arr5 (x : A5) : Dc.enc U.arr5 x = [.int .i64 x.a, .int .i64 x.b, .int .i64 x.c, .int .i64 x.d, .int .i64 x.e] := rfl
theorem dec_arr5 (a0 : Int) (a1 : Int) (a2 : Int) (a3 : Int) (a4 : Int) : Dc.dec U.arr5 [.int .i64 a0, .int .i64 a1, .int .i64 a2, .int .i64 a3, .int .i64 a4] = some (⟨a0, a1, a2, a3, a4⟩ : A5) := rfl
def arr50 : A5 := ⟨0, 0, 0, 0, 0⟩
theorem dflt_arr5 : U.dflt U.arr5 = arr50 := rfl
theorem ckA_arr5 : Ax.ckA U.arr5 = [.int .i64, .int .i64, .int .i64, .int .i64, .int .i64] := rfl
theorem eqB_arr5 (p q : A5) : (decide (p.a = q.a) && (decide (p.b = q.b) && (decide (p.c = q.c) && (decide (p.d = q.d) && (decide (p.e = q.e) && true))))) = decide (p = q) := by
  rw [Bool.eq_iff_iff]; cases p; cases q; simp
theorem eqA_arr5 (xs ys : List A5) : Ax.eqA U.arr5 U.arr5 xs ys = some (decide (xs = ys)) := rfl
theorem inR_i64 {n : Int} (h1 : -9223372036854775808 ≤ n) (h2 : n ≤ 9223372036854775807) : InR .i64 n := by
  show IntKind.i64.wrap n = n
  exact IntWalk.i64_in n ⟨h1, h2⟩
end Go.SX
