/-
  SX, part C: one operation, reckoned on symbolic values. All functions here are plain and structural: they are meant to be unfolded by dsimp.
-/
import Derived.Test.YtiflflnmonljeaaGreatDoorSxA
import GoSem.Instr.Lookup
set_option linter.unusedVariables false
set_option linter.unusedSimpArgs false
namespace Go.SX
variable {C : Cod}
inductive TK where
 | int (k : IntKind) | bool | str
 | struct (fs : List (Nat × TypeId))
 | arr (len : Nat) (elem : TypeId)
 | slice (elem : TypeId)
 | ptr (elem : TypeId)
 | map (key : CK) (elem : TypeId)
 | mapg (keys : List CK) (elem : TypeId)
 | uptr
 | ifc
 | other
structure TI (C : Cod) where
 kind : TK
 size : Nat
 bytes : Nat
 zero : List (SV C)
 code : Option C.U
 cks : List CK := []
 typed : Bool := false
 seq : Bool := false
abbrev Tab (C : Cod) := TypeId → Option (TI C)
def Zk (b : Bool) (t : TypeId) : Option TypeId := match b with
 | true => some t
 | false => none
def TK.agg : TK → Bool
 | .struct _ => true
 | .arr _ _ => true
 | _ => false
def Em : PV C → Option CK
 | .int k _ => some (.int k)
 | .bool _ => some .bool
 | .str _ => some .str
 | _ => none
structure Aux (C : Cod) (D : aL C) where
 ckA : C.U → List CK
 ckA_ok : ∀ u, ckA u ≠ [] → ∀ x, (D.enc u x).map Em = (ckA u).map some
 eqA : (u u' : C.U) → List (C.El u) → List (C.El u') → Option Bool
 eqA_ok : ∀ u u' xs ys b, eqA u u' xs ys = some b → ckA u ≠ [] ∧ ckA u' ≠ [] ∧ (b = true ↔ xs.flatMap (D.enc u) = ys.flatMap (D.enc u'))
 castL : (u u' : C.U) → List (C.El u') → Option (List (C.El u))
 castL_ok : ∀ u u' ys zs, castL u u' ys = some zs → zs.map (D.enc u) = ys.map (D.enc u') ∧ C.n u = C.n u'
 ofBytes : (u : C.U) → List UInt8 → Option (List (C.El u)) := fun _ _ => none
 ofBytes_ok : ∀ u l xs, ofBytes u l = some xs → C.n u = 1 ∧ xs.flatMap (D.enc u) = l.map (fun b => PV.int .u8 b.toNat) := by intro _ _ _ h; cases h
 toBytes : (u : C.U) → List (C.El u) → Option (List UInt8) := fun _ _ => none
 toBytes_ok : ∀ u xs l, toBytes u xs = some l → C.n u = 1 ∧ ∃ ns : List Int, xs.flatMap (D.enc u) = ns.map (PV.int .u8) ∧ l = ns.map (fun n => UInt8.ofNat n.toNat) := by intro _ _ _ h; cases h
 wr : Bool := false
 wro : Operand → Operand → Bool := fun _ _ => false
def InR (k : IntKind) (n : Int) : Prop := k.wrap n = n
def bL (op : BinOp) (k : IntKind) (x y : Int) : Int :=
 k.wrap (match op with
  | .and => (BitVec.ofInt k.bits x &&& BitVec.ofInt k.bits y)
  | .or => (BitVec.ofInt k.bits x ||| BitVec.ofInt k.bits y)
  | .xor => (BitVec.ofInt k.bits x ^^^ BitVec.ofInt k.bits y)
  | _ => (BitVec.ofInt k.bits x &&& ~~~BitVec.ofInt k.bits y)).toNat
def iT (k : IntKind) (x y : Int) : Int := k.wrap (x * 2 ^ (min y.toNat k.bits))
def nO (k : IntKind) (x y : Int) : Int := x.fdiv (2 ^ (min y.toNat k.bits))
def fV (a b : List UInt8) : Bool := Op.bytesLess a b
def tF : Nat → Nat → Option Nat
 | a, 0 => some a
 | 0, _ + 1 => none
 | a + 1, b + 1 => tF a b
def ixL {α : Type} : List α → Nat → Option α
 | [], _ => none
 | a :: _, 0 => some a
 | _ :: l, i + 1 => ixL l i
def pH {α : Type} : List α → Nat → Option (List α)
 | _, 0 => some []
 | [], _ + 1 => none
 | a :: l, i + 1 => match pH l i with
  | some r => some (a :: r)
  | none => none
def oX {α : Type} : List α → Nat → Option (List α)
 | l, 0 => some l
 | [], _ + 1 => none
 | _ :: l, i + 1 => oX l i
def iB : List (SV C) → Nat → Option (List (SV C))
 | [], 0 => some []
 | [], _ + 1 => none
 | .arr u N xs :: r, n => match n with
  | 0 => some []
  | n + 1 => match tF (n + 1) (N * C.n u) with
   | some m => match iB r m with
    | some l => some (.arr u N xs :: l)
    | none => none
   | none => none
 | x :: r, n => match n with
  | 0 => some []
  | n + 1 => match iB r n with
   | some l => some (x :: l)
   | none => none
def iX : List (SV C) → Nat → Option (List (SV C))
 | [], 0 => some []
 | [], _ + 1 => none
 | .arr u N xs :: r, n => match n with
  | 0 => some (.arr u N xs :: r)
  | n + 1 => match tF (n + 1) (N * C.n u) with
   | some m => iX r m
   | none => none
 | x :: r, n => match n with
  | 0 => some (x :: r)
  | n + 1 => iX r n
inductive Hit (C : Cod) where
 | miss
 | cell (x : SV C)
 | elem (u : C.U) (N : Nat) (xs : List (C.El u)) (k : Nat)
def mM : List (SV C) → Nat → Hit C
 | [], _ => .miss
 | .arr u N xs :: r, o => match tF o (N * C.n u) with
  | some o' => mM r o'
  | none => .elem u N xs o
 | x :: r, o => match o with
  | 0 => .cell x
  | o + 1 => mM r o
def nF (vs : List (SV C)) (o n : Nat) (new : List (SV C)) : Option (List (SV C)) :=
 match iB vs o with
 | none => none
 | some a => match iX vs o with
  | none => none
  | some b => match iX b n with
   | none => none
   | some c => some (a ++ (new ++ c))
def fG : List (SV C) → Nat → (u : C.U) → List (C.El u) → Option (List (SV C))
 | [], _, _, _ => none
 | .arr v N xs :: r, o, u, ys => match tF o (N * C.n v) with
  | some o' => match fG r o' u ys with
   | some l => some (.arr v N xs :: l)
   | none => none
  | none => match o with
   | 0 => some (.arr u N ys :: r)
   | _ + 1 => none
 | x :: r, o, u, ys => match o with
  | 0 => none
  | o + 1 => match fG r o u ys with
   | some l => some (x :: l)
   | none => none
def SV.one : SV C → Bool
 | .p _ => true
 | .ptr _ _ => true
 | .eptr _ _ _ _ _ => true
 | .dptr _ _ => true
 | .slice _ _ _ _ _ => true
 | .fn _ _ _ => true
 | .iface _ _ => true
 | .yieldv _ => true
 | .mapp _ => true
 | _ => false
def cellsOf : SV C → Option (List (SV C))
 | .agg vs => some vs
 | .any => none
 | .tuple _ => none
 | x => some [x]
def q06 : SV C → Option (PV C)
 | .p x => some x
 | _ => none
def D9 : List (SV C) → Option (List (PV C))
 | [] => some []
 | x :: r => match q06 x with
  | some y => match D9 r with
   | some l => some (y :: l)
   | none => none
  | none => none
def SV.topId : SV C → Option Nat
 | .ptr c _ => some c
 | .eptr c _ _ _ _ => some c
 | .slice c _ _ _ _ => some c
 | .mapp c => some c
 | _ => none
def xT : Value → SV C
 | .int k n => .p (.int k n)
 | .bool b => .p (.bool b)
 | .string s => .p (.str s.data.toList)
 | .func f a b => if a.size = 0 then if b.size = 0 then .fn f [] [] else .any else .any
 | .agg _ => .any
 | .tuple _ => .any
 | v => .p (.lit v)
def vK : List Value → List (SV C)
 | [] => []
 | v :: l => xT v :: vK l
def q01 : Value → Bool
 | .agg _ => false
 | .tuple _ => false
 | _ => true
def J7 : List Value → Bool
 | [] => true
 | v :: l => match q01 v with
  | true => J7 l
  | false => false
def ofV : Value → SV C
 | .agg cs => match J7 cs.toList with
  | true => .agg (vK cs.toList)
  | false => .any
 | v => xT v
def Ot (_g : Nat) : List Value → SV C
 | [] => .any
 | v :: l => .dptr (Yi v :: l.map Yi) 0
def ev (σ : Nat → SV C) : Operand → SV C
 | .tmp t => σ t
 | .const v => ofV v
 | .global g => Ot g (C.glob g)
 | .func f => .fn (.func f) [] []
inductive Out (C : Cod) where
 | stuck
 | val (v : SV C)
 | side (P : Prop) (v : SV C)
 | mem (v : SV C) (ws : List (Nat × HS C))
 | smem (P : Prop) (v : SV C) (ws : List (Nat × HS C))
 | call (f : Nat) (args : List (SV C))
 | yieldc (c : Nat) (args : List (SV C))
 | ask (q : Option (Option (Nat × Value))) (K : Option (Nat × Value) → SV C) (W : Option (Nat × Value) → List (Nat × HS C))
 | may (p : Prop) (v : Bool → SV C)
def lk : List (Nat × HS C) → Nat → HS C
 | [], _ => .fresh
 | (c, h) :: l, d => if c = d then h else lk l d
inductive Sq (C : Cod) where
 | no
 | some (u : C.U) (xs : List (C.El u))
def eA : HS C → Nat → Sq C
 | .rows u xs, o => match o with
  | 0 => .some u xs
  | _ + 1 => .no
 | .vart _ vs, o => match mM vs o with
  | .elem u _ xs k => match k with
   | 0 => .some u xs
   | _ + 1 => .no
  | _ => .no
 | _, _ => .no
def Xc (x : Option (SV C)) : Out C := match x with
 | some v => .val v
 | none => .stuck
def lN (D : aL C) (i : TI C) (vs : List (SV C)) (o : Nat) : Out C :=
 match i.kind.agg with
 | true => match iX vs o with
  | some r => match iB r i.size with
   | some l => .val (.agg l)
   | none => .stuck
  | none => .stuck
 | false => match mM vs o with
  | .cell x => .val x
  | .elem u _ xs k => match ixL (D.enc u (xs.getD (k / C.n u) (C.dflt u))) (k % C.n u) with
   | some pv => .val (.p pv)
   | none => .stuck
  | .miss => .stuck
def rP (l : List (PV C)) : List (SV C) := l.map .p
def cV (i : TI C) (cells : List (PV C)) (f : Nat) : Option (SV C) :=
 match i.kind.agg with
 | true => match oX cells f with
  | some r => match pH r i.size with
   | some l => some (.agg (rP l))
   | none => none
  | none => none
 | false => match ixL cells f with
  | some pv => some (.p pv)
  | none => none
def tZ (D : aL C) (u : C.U) : Nat → List (PV C) → Option (List (C.El u))
 | 0, _ => some []
 | k + 1, l => match pH l (C.n u) with
  | some x => match oX l (C.n u) with
   | some r => match D.dec u x with
    | some y => match tZ D u k r with
     | some ys => some (y :: ys)
     | none => none
    | none => none
   | none => none
  | none => none
def vQ (D : aL C) (tab : Tab C) (i : TI C) (cells : List (PV C)) (f : Nat) : Out C :=
 match i.seq with
 | false => match cV i cells f with
  | some v => .val v
  | none => .stuck
 | true => match i.kind, f with
  | .arr len e, 0 => match tab e with
   | some j => match j.code with
    | some u => match tZ D u len cells with
     | some xs => .val (.agg [.arr u len xs])
     | none => .stuck
    | none => .stuck
   | none => .stuck
  | _, _ => .stuck
def oS (P : Prop) (x : Option (SV C)) : Out C := match x with
 | some v => .side P v
 | none => .stuck
def mN (D : aL C) (tab : Tab C) (t : TypeId) (a : SV C) (hs : List (Nat × HS C)) : Out C :=
 match tab t with
 | none => .stuck
 | some i => match a with
  | .ptr c o => match lk hs c with
   | .vart _ vs => lN D i vs o
   | _ => .stuck
  | .eptr c o n k f => match eA (lk hs c) o with
   | .some u xs => oS (k < xs.length ∧ n = C.n u) (cV i (D.enc u (xs.getD k (C.dflt u))) f)
   | .no => .stuck
  | .dptr cells f => vQ D tab i cells f
  | _ => .stuck
def zB (l : List (PV C)) (f : Nat) (n : Nat) (new : List (PV C)) : Option (List (PV C)) :=
 match pH l f with
 | some a => match oX l f with
  | some b => match oX b n with
   | some c => some (a ++ (new ++ c))
   | none => none
  | none => none
 | none => none
def lF (h : HS C) (o : Nat) (u : C.U) (xs : List (C.El u)) : HS C :=
 match h with
 | .rows _ _ => .rows u xs
 | .vart t vs => match fG vs o u xs with
  | some l => .vart t l
  | none => .dead
 | x => x
def uR (D : aL C) (u : C.U) (xs : List (C.El u)) (k f size : Nat) (v : SV C) : Option (List (C.El u)) :=
 match cellsOf v with
 | none => none
 | some l => match D9 l with
  | none => none
  | some l => match zB (D.enc u (xs.getD k (C.dflt u))) f size l with
   | none => none
   | some l => match D.dec u l with
    | none => none
    | some x => some (xs.set k x)
def pR (D : aL C) (tab : Tab C) (t : TypeId) (a v : SV C) (hs : List (Nat × HS C)) : Out C :=
 match tab t with
 | none => .stuck
 | some i => match a with
  | .ptr c o => match lk hs c with
   | .vart ty vs => match cellsOf v with
    | none => .stuck
    | some l => match iB l i.size with
     | none => .stuck
     | some l' => match iX l i.size with
      | some [] => match mM vs o with
       | .elem u N xs k => match i.kind.agg with
        | true => match nF vs o i.size l' with
         | some vs' => .mem .any [(c, .vart ty vs')]
         | none => .stuck
        | false => match uR D u xs (k / C.n u) (k % C.n u) i.size v with
         | some xs' => match fG vs (o - k) u xs' with
          | some vs' => .mem .any [(c, .vart ty vs')]
          | none => .stuck
         | none => .stuck
       | .cell _ => match nF vs o i.size l' with
        | some vs' => .mem .any [(c, .vart ty vs')]
        | none => .stuck
       | .miss => .stuck
      | _ => .stuck
   | _ => .stuck
  | .eptr c o n k f => match lk hs c with
   | h => match eA h o with
    | .some u xs => match uR D u xs k f i.size v with
     | some xs' => .smem (k < xs.length ∧ n = C.n u) .any [(c, lF h o u xs')]
     | none => .stuck
    | .no => .stuck
  | _ => .stuck
def Ex (place : Nat → Option (Nat × Nat)) (vs : List (SV C)) : List (Nat × SV C) → Option (List (SV C))
 | [] => some vs
 | (i, v) :: rest => match place i with
  | none => none
  | some (off, size) => match cellsOf v with
   | none => none
   | some l => match iB l size with
    | none => none
    | some l' => match iX l size with
     | some [] => match nF vs off size l' with
      | some vs' => Ex place vs' rest
      | none => none
     | _ => none
def kM (tab : Tab C) (fs : List (Nat × TypeId)) (i : Nat) : Option (Nat × Nat) :=
 match ixL fs i with
 | none => none
 | some (off, t) => match tab t with
  | none => none
  | some j => some (off, j.size)
def Ci : List (PV C) → List (PV C) → List (PV C)
 | .dsl u _ :: t, .lit (.slice none 0 0) :: l => .dsl u [] :: Ci t l
 | _ :: t, x :: l => x :: Ci t l
 | [], l => l
 | _ :: _, [] => []
def gB (D : aL C) (u : C.U) : Nat → List (Nat × SV C) → Option (List (C.El u))
 | _, [] => some []
 | k, (i, v) :: rest => if i = k then match cellsOf v with
  | none => none
  | some l => match D9 l with
   | none => none
   | some l => match D.dec u (Ci (D.enc u (C.dflt u)) l) with
    | none => none
    | some x => match gB D u (k + 1) rest with
     | some r => some (x :: r)
     | none => none
  else none
def S7 : List (Nat × Operand) → List (SV C) → List (Nat × SV C)
 | (i, _) :: l, v :: r => (i, v) :: S7 l r
 | _, _ => []
def W1 (D : aL C) (tab : Tab C) (t : TypeId) (parts : List (Nat × SV C)) : Out C :=
 match tab t with
 | none => .stuck
 | some i => match i.kind with
  | .struct fs => match Ex (kM tab fs) i.zero parts with
   | some vs => .val (.agg vs)
   | none => .stuck
  | .arr len e => match parts with
   | [] => .val (.agg i.zero)
   | _ :: _ => match tab e with
    | some j => match j.code with
     | some u => match gB D u 0 parts with
      | some xs => if xs.length = len then .val (.agg [.arr u len xs]) else .stuck
      | none => .stuck
     | none => .stuck
    | none => .stuck
  | _ => .stuck
def xG : List (Nat × SV C) → Option (List (SV C))
 | [(0, x), (1, y)] => match x.one, y.one with
  | true, true => some [x, y]
  | _, _ => none
 | _ => none
def Ox : HS C → Bool
 | .vart none [x, y] => x.one && y.one
 | _ => false
def lD (D : aL C) (tab : Tab C) (t : TypeId) (len : Nat) (parts : List (Nat × SV C)) (m : Nat) : Out C :=
 match tab t with
 | none => .stuck
 | some i => match i.kind with
  | .slice e => match tab e with
   | some j => match j.code with
    | some u => match gB D u 0 parts with
     | some xs => .smem (parts.length = len ∧ len * j.size ≤ 16777216) (.slice m 0 j.size 0 len) [(m, .rows u xs)]
     | none => match j.size, len with
      | 1, 2 => match xG parts with
       | some vs => .mem (.slice m 0 1 0 2) [(m, .vart none vs)]
       | none => .stuck
      | _, _ => .stuck
    | none => .stuck
   | none => .stuck
  | _ => .stuck
def Y5 (wr : Bool) (k : IntKind) (n : Int) : Out C :=
 match wr with
 | true => .val (.p (.int k (k.wrap n)))
 | false => match k with
  | .i64 => .side (InR .i64 n) (.p (.int .i64 n))
  | k => .val (.p (.int k (k.wrap n)))
def Ur (k : IntKind) (n : Int) : Out C :=
 match k with
 | .i64 => .side (InR .i64 n) (.p (.int .i64 n))
 | k => .val (.p (.int k (k.wrap n)))
def Pk (wr : Bool) (op : BinOp) (k : IntKind) (x y : Int) : Out C :=
 match op with
 | .add => Y5 wr k (x + y)
 | .sub => Y5 wr k (x - y)
 | .mul => Y5 wr k (x * y)
 | .quo => .side (y ≠ 0 ∧ InR k (x.tdiv y)) (.p (.int k (x.tdiv y)))
 | .rem => .side (y ≠ 0) (.p (.int k (x.tmod y)))
 | .and => .val (.p (.int k (bL .and k x y)))
 | .or => .val (.p (.int k (bL .or k x y)))
 | .xor => .val (.p (.int k (bL .xor k x y)))
 | .andNot => .val (.p (.int k (bL .andNot k x y)))
 | .eql => .val (.p (.bool (decide (x = y))))
 | .neq => .val (.p (.bool (!decide (x = y))))
 | .lss => .val (.p (.bool (decide (x < y))))
 | .leq => .val (.p (.bool (decide (x ≤ y))))
 | .gtr => .val (.p (.bool (decide (y < x))))
 | .geq => .val (.p (.bool (decide (y ≤ x))))
 | _ => .stuck
def Qk (op : BinOp) (a b : List UInt8) : Out C :=
 match op with
 | .add => .side (((a.length + b.length : Nat) : Int) ≤ 9223372036854775807) (.p (.str (a ++ b)))
 | .eql => .val (.p (.bool (decide (a = b))))
 | .neq => .val (.p (.bool (!decide (a = b))))
 | .lss => .val (.p (.bool (fV a b)))
 | .leq => .val (.p (.bool (fV a b || decide (a = b))))
 | .gtr => .val (.p (.bool !(fV a b || decide (a = b))))
 | .geq => .val (.p (.bool !(fV a b)))
 | _ => .stuck
def q04 (c : CK) (x y : PV C) : Option Bool :=
 match c, x, y with
 | .int q, .int k a, .int k' b => if k = q then if k' = q then some (decide (a = b)) else none else none
 | .bool, .bool a, .bool b => some (decide (a = b))
 | .str, .str a, .str b => some (decide (a = b))
 | _, _, _ => none
def Yu (b : Bool) : Option Bool → Option Bool
 | some c => some (b && c)
 | none => none
def Vb : List CK → List CK → Option (List CK)
 | [], l => some l
 | _ :: _, [] => none
 | c :: cs, d :: l => if c = d then Vb cs l else none
def Vs : Nat → List CK → List CK → Option (List CK)
 | 0, _, l => some l
 | n + 1, cs, l => match Vb cs l with
  | some r => Vs n cs r
  | none => none
def iU {D : aL C} (A : Aux C D) : List CK → List (SV C) → List (SV C) → Option Bool
 | [], [], [] => some true
 | c :: l, .p x :: vs, .p y :: ws => match q04 c x y with
  | some b => Yu b (iU A l vs ws)
  | none => none
 | l, .arr u N xs :: vs, .arr u' N' ys :: ws => match eqA' A u u' N N' xs ys with
  | some b => match Vs N (A.ckA u) l with
   | some r => match Vs N' (A.ckA u') l with
    | some _ => Yu b (iU A r vs ws)
    | none => none
   | none => none
  | none => none
 | _, _, _ => none
where eqA' (A : Aux C D) (u u' : C.U) (N N' : Nat) (xs : List (C.El u)) (ys : List (C.El u')) : Option Bool := if N = N' then if (A.ckA u).length = (A.ckA u').length then A.eqA u u' xs ys else none else none
def q1a (n : Bool) : Option Bool → Out C
 | some b => .val (.p (.bool (match n with | true => !b | false => b)))
 | none => .stuck
def Q9 {D : aL C} (A : Aux C D) (op : BinOp) (i : TI C) (vs ws : List (SV C)) : Out C :=
 match op with
 | .eql => q1a false (iU A i.cks vs ws)
 | .neq => q1a true (iU A i.cks vs ws)
 | _ => .stuck
def Rv {D : aL C} (A : Aux C D) (tab : Tab C) (op : BinOp) (t : TypeId) (x y : SV C) : Out C :=
 match x, y with
 | .agg vs, .agg ws => match tab t with
  | some i => match i.cks with
   | [] => .stuck
   | _ :: _ => Q9 A op i vs ws
  | none => .stuck
 | .p (.int k a), .p (.int k' b) => match op with
  | .shl => .side (0 ≤ b) (.p (.int k (iT k a b)))
  | .shr => .side (0 ≤ b) (.p (.int k (nO k a b)))
  | op => if k = k' then Pk A.wr op k a b else .stuck
 | .p (.str a), .p (.str b) => Qk op a b
 | .p (.bool a), .p (.bool b) => match tab t with
  | some i => match i.kind with
   | .bool => match op with
    | .eql => .val (.p (.bool (a == b)))
    | .neq => .val (.p (.bool !(a == b)))
    | _ => .stuck
   | _ => .stuck
  | none => .stuck
 | _, _ => .stuck
def q07 (op : UnOp) (x : SV C) : Out C :=
 match op, x with
 | .neg, .p (.int k n) => Ur k (0 - n)
 | .not, .p (.bool b) => .val (.p (.bool !b))
 | .xor, .p (.int k n) => .val (.p (.int k (bL .xor k (if k.signed then -1 else k.max) n)))
 | _, _ => .stuck
def uU (tab : Tab C) (src dst : TypeId) (x : SV C) : Out C :=
 match tab src with
 | none => .stuck
 | some _ => match tab dst with
  | none => .stuck
  | some j => match j.kind, x with
   | .int k, .p (.int _ n) => match k with
    | .i64 => .side (InR .i64 n) (.p (.int .i64 n))
    | k => .val (.p (.int k (k.wrap n)))
   | _, _ => .stuck
def HS.live : HS C → Bool
 | .vart _ _ => true
 | .rows _ _ => true
 | _ => false
def dT (h : HS C) (x : Out C) : Out C := match h.live with
 | true => x
 | false => .stuck
def nP (tab : Tab C) (s : TypeId) (x : SV C) (f : Nat) (hs : List (Nat × HS C)) : Out C :=
 match tab s with
 | none => .stuck
 | some i => match i.kind with
  | .struct fs => match ixL fs f with
   | none => .stuck
   | some (off, ft) => match tab ft with
    | none => .stuck
    | some _ => match x with
     | .ptr c o => dT (lk hs c) (.val (.ptr c (o + off)))
     | .eptr c o n k g => dT (lk hs c) (.val (.eptr c o n k (g + off)))
     | .dptr cells g => .val (.dptr cells (g + off))
     | _ => .stuck
  | _ => .stuck
def Tx (i : TI C) (vs : List (SV C)) (off : Nat) : Option (SV C) :=
 match i.kind.agg with
 | true => match iX vs off with
  | some r => match iB r i.size with
   | some l => some (.agg l)
   | none => none
  | none => none
 | false => match mM vs off with
  | .cell x => some x
  | _ => none
def R4 (tab : Tab C) (t : TypeId) (x : SV C) (f : Nat) : Out C :=
 match tab t with
 | none => .stuck
 | some i => match i.kind with
  | .struct fs => match ixL fs f with
   | none => .stuck
   | some (off, ft) => match tab ft with
    | none => .stuck
    | some j => match x with
     | .agg vs => Xc (Tx j vs off)
     | _ => .stuck
  | _ => .stuck
def M8 (q : IntKind) : List (PV C) → Bool
 | [] => true
 | .int k _ :: l => match decEq k q with
  | .isTrue _ => M8 q l
  | .isFalse _ => false
 | _ :: _ => false
def C7 : List (PV C) → Nat → Int
 | .int _ n :: _, 0 => n
 | _ :: l, i + 1 => C7 l i
 | _, _ => 0
def mV (D : aL C) (tab : Tab C) (t : TypeId) (x ix : SV C) (hs : List (Nat × HS C)) : Out C :=
 match tab t, ix with
 | some i, .p (.int _ k) => match i.kind with
  | .arr len e => match tab e with
   | none => .stuck
   | some j => match x with
    | .ptr c o => match eA (lk hs c) o with
     | .some u xs => .side (0 ≤ k ∧ k < len ∧ j.size = C.n u ∧ len ≤ xs.length) (.eptr c o (C.n u) k.toNat 0)
     | .no => dT (lk hs c) (.side (0 ≤ k ∧ k < len) (.ptr c (o + k.toNat * j.size)))
    | .eptr c o n l f => dT (lk hs c) (.side (0 ≤ k ∧ k < len) (.eptr c o n l (f + k.toNat * j.size)))
    | .dptr cells f => match i.seq with
     | false => .side (0 ≤ k ∧ k < len) (.dptr cells (f + k.toNat * j.size))
     | true => match j.kind with
      | .int q => match M8 q cells with
       | true => .side (0 ≤ k ∧ k < len ∧ j.size = 1 ∧ f + len ≤ cells.length) (.dptr [.int q (C7 cells (f + k.toNat))] 0)
       | false => .stuck
      | _ => .stuck
    | _ => .stuck
  | .slice e => match tab e with
   | none => .stuck
   | some j => match x with
    | .p (.dsl u xs) => .side (0 ≤ k ∧ k < xs.length ∧ j.size = C.n u) (.dptr (D.enc u (xs.getD k.toNat (C.dflt u))) 0)
    | .slice c o n off len => match Ox (lk hs c) with
     | true => dT (lk hs c) (.side (0 ≤ k ∧ k < len ∧ j.size = n) (.ptr c (o + (off + k.toNat) * n)))
     | false => dT (lk hs c) (.side (0 ≤ k ∧ k < len ∧ j.size = n) (.eptr c o n (off + k.toNat) 0))
    | _ => .stuck
  | _ => .stuck
 | _, _ => .stuck
def W7 (D : aL C) (tab : Tab C) (t : TypeId) (x ix : SV C) : Out C :=
 match x, ix with
 | .p (.str l), .p (.int _ k) => match tab t with
  | some i => match i.kind with
   | .str => .side (0 ≤ k ∧ k < l.length) (.p (.int .u8 (l.getD k.toNat 0).toNat))
   | _ => .stuck
  | none => .stuck
 | .agg [.arr u _ xs], .p (.int _ k) => match tab t with
  | some i => match i.kind with
   | .arr len e => match tab e with
    | some j => oS (0 ≤ k ∧ k < len ∧ j.size = C.n u ∧ len = xs.length) (cV j (D.enc u (xs.getD k.toNat (C.dflt u))) 0)
    | none => .stuck
   | _ => .stuck
  | none => .stuck
 | _, _ => .stuck
def vR (x : SV C) (i : Nat) : Out C :=
 match x with
 | .tuple vs => match ixL vs i with
  | some v => .val v
  | none => .stuck
 | _ => .stuck
def cE (d : Int) : Option (SV C) → Option Int
 | none => some d
 | some (.p (.int _ k)) => some k
 | _ => none
def pZ (tab : Tab C) (t : TypeId) (x : SV C) (lo hi : Option (SV C)) (hs : List (Nat × HS C)) : Out C :=
 match tab t with
 | none => .stuck
 | some i => match i.kind, x with
  | .str, .p (.str l) => match cE 0 lo, cE l.length hi with
   | some a, some b => .side (0 ≤ a ∧ a ≤ b ∧ b ≤ l.length) (.p (.str ((l.take b.toNat).drop a.toNat)))
   | _, _ => .stuck
  | .slice e, .p (.dsl u xs) => match tab e with
   | some j => match cE 0 lo, cE xs.length hi with
    | some a, some b => .side (0 ≤ a ∧ a ≤ b ∧ b ≤ xs.length ∧ j.size = C.n u) (.p (.dsl u ((xs.take b.toNat).drop a.toNat)))
    | _, _ => .stuck
   | none => .stuck
  | .slice e, .slice c o n off len => match tab e with
   | some j => match cE 0 lo, cE len hi with
    | some a, some b => dT (lk hs c) (.side (0 ≤ a ∧ a ≤ b ∧ b ≤ len ∧ j.size = n) (.slice c o n (off + a.toNat) (b.toNat - a.toNat)))
    | _, _ => .stuck
   | none => .stuck
  | .arr len e, .ptr c o => match tab e with
   | some j => match eA (lk hs c) o with
    | .some u xs => match cE 0 lo, cE len hi with
     | some a, some b => .side (0 ≤ a ∧ a ≤ b ∧ b ≤ len ∧ j.size = C.n u ∧ len ≤ xs.length) (.slice c o (C.n u) a.toNat (b.toNat - a.toNat))
     | _, _ => .stuck
    | .no => .stuck
   | none => .stuck
  | _, _ => .stuck
def mW (D : aL C) (tab : Tab C) (t : TypeId) (len cap : SV C) (m : Nat) : Out C :=
 match tab t with
 | none => .stuck
 | some i => match i.kind, len, cap with
  | .slice e, .p (.int .i64 l), .p (.int .i64 k) => match tab e with
   | some j => match j.code with
    | some u => .smem (0 ≤ l ∧ l ≤ k ∧ k * j.bytes ≤ 281474976710656 ∧ k ≤ 9223372036854775807 ∧ j.zero = rP (D.enc u (C.dflt u)))
      (.slice m 0 j.size 0 l.toNat) [(m, .rows u (List.replicate l.toNat (C.dflt u)))]
    | none => .stuck
   | none => .stuck
  | _, _, _ => .stuck
def Sx (tab : Tab C) (t : TypeId) (x : SV C) (hs : List (Nat × HS C)) : Out C :=
 match tab t with
 | none => .stuck
 | some i => match i.kind, x with
  | .str, .p (.str l) => .val (.p (.int .i64 l.length))
  | .slice _, .p (.dsl _ xs) => .val (.p (.int .i64 xs.length))
  | .slice _, .p (.lit (.slice none 0 0)) => .val (.p (.int .i64 0))
  | .slice _, .slice c _ _ _ len => dT (lk hs c) (.val (.p (.int .i64 len)))
  | .arr n _, _ => .val (.p (.int .i64 n))
  | _, _ => .stuck
def Jd (hs : List (Nat × HS C)) : SV C → Sq C
 | .p (.dsl u xs) => .some u xs
 | .slice c o _ off len => match eA (lk hs c) o with
  | .some u xs => .some u ((xs.drop off).take len)
  | .no => .no
 | _ => .no
def uN (u : C.U) (ys : List (C.El u)) : SV C → Prop
 | .slice _ _ n _ len => n = C.n u ∧ len = ys.length
 | _ => True
def M6 (u : C.U) (m : Nat) (kill : Option Nat) (P : Prop) (xs : List (C.El u)) : Out C :=
 .smem P (.slice m 0 (C.n u) 0 xs.length) (match kill with
  | some c => [(c, .dead), (m, .rows u xs)]
  | none => [(m, .rows u xs)])
def Vm {D : aL C} (A : Aux C D) (tab : Tab C) (t t2 : TypeId) (u : C.U) (hs : List (Nat × HS C)) (x : SV C) : Option (Prop × List (C.El u)) :=
 match x with
 | .p (.str l) => match tab t2 with
  | some i2 => match i2.kind with
   | .str => match A.ofBytes u l with
    | some zs => some (True, zs)
    | none => none
   | _ => none
  | none => none
 | .p (.lit (.slice none 0 0)) => match tab t2 with
  | some i2 => match i2.kind with
   | .slice _ => some (True, [])
   | _ => none
  | none => none
 | x => match Jd hs x with
  | .some u' ys => match A.castL u u' ys with
   | some zs => some (t2 = t ∧ uN u' ys x, zs)
   | none => none
  | .no => none
def Nv (o : Option TypeId) (e : TypeId) : Bool := match o with
 | none => true
 | some t => Nat.beq e t
def Pr (u : C.U) (m : Nat) (P : Prop) (zs : List (C.El u)) : Option TypeId → Out C
 | none => M6 u m none P zs
 | some _ => match zs with
  | [] => .side P (.p (.lit (.slice none 0 0)))
  | z :: r => M6 u m none P (z :: r)
def zN {D : aL C} (A : Aux C D) (tab : Tab C) (t t2 : TypeId) (s x : SV C) (hs : List (Nat × HS C)) (m : Nat) : Out C :=
 match tab t with
 | none => .stuck
 | some i => match i.kind with
  | .slice e => match tab e with
   | none => .stuck
   | some j => match s with
    | .slice c o n off len => match o, off, lk hs c with
     | 0, 0, .rows u xs => match Nv (C.ty u) e with
      | true => match Vm A tab t t2 u hs x with
       | some (p, zs) => M6 u m (some c) (p ∧ len ≤ xs.length ∧ n = C.n u ∧ j.size = C.n u ∧ (len + zs.length) * j.bytes ≤ 140737488355328 ∧ len + zs.length ≤ 9223372036854775807 ∧ x.topId ≠ some c ∧ c ≠ m) (xs.take len ++ zs)
       | none => .stuck
      | false => .stuck
     | _, _, _ => .stuck
    | .p (.fds u xs) => match Nv (C.ty u) e with
     | true => match Vm A tab t t2 u hs x with
      | some (p, zs) => M6 u m none (p ∧ j.size = C.n u ∧ 0 < zs.length ∧ (xs.length + zs.length) * j.bytes ≤ 140737488355328 ∧ xs.length + zs.length ≤ 9223372036854775807) (xs ++ zs)
      | none => .stuck
     | false => .stuck
    | .p (.lit (.slice none 0 0)) => match j.code with
     | some u => match Vm A tab t t2 u hs x with
      | some (p, zs) => Pr u m (p ∧ j.size = C.n u ∧ zs.length * j.bytes ≤ 140737488355328 ∧ zs.length ≤ 9223372036854775807) zs (C.ty u)
      | none => .stuck
     | none => .stuck
    | _ => .stuck
  | _ => .stuck
def Ra (vals : List (SV C)) : Out C :=
 match vals with
 | .fn (.func f) first captured :: args => .call f (first ++ (args ++ captured))
 | .yieldv c :: args => .yieldc c args
 | _ => .stuck
def Y7 (isMax : Bool) (x y : SV C) : Out C :=
 match x, y with
 | .p (.int k a), .p (.int k' b) => if k = k' then (match isMax with | true => .val (.p (.int k (max a b))) | false => .val (.p (.int k (min a b)))) else .stuck
 | _, _ => .stuck
def tO : List (SV C) → Nat
 | [] => 0
 | .arr u N _ :: r => N * C.n u + tO r
 | _ :: r => 1 + tO r
def zT (tab : Tab C) (t : TypeId) : HS C → Bool
 | .vart (some t') vs => match Nat.beq t' t with
  | true => match tab t with
   | some it => match it.typed with
    | true => Nat.beq (tO vs) it.size
    | false => false
   | none => false
  | false => false
 | _ => false
def Fz {D : aL C} (A : Aux C D) (tab : Tab C) (src dst : TypeId) (x : SV C) (hs : List (Nat × HS C)) (m : Nat) : Out C :=
 match tab src with
 | none => .stuck
 | some i => match tab dst with
  | none => .stuck
  | some k => match k.kind with
   | .slice e => match i.kind, x with
    | .str, .p (.str l) => match tab e with
     | some j => match j.kind with
      | .int .u8 => match j.code with
       | some u => match A.ofBytes u l with
        | some xs => .mem (.slice m 0 (C.n u) 0 xs.length) [(m, .rows u xs)]
        | none => .stuck
       | none => .stuck
      | _ => .stuck
     | none => .stuck
    | _, _ => .stuck
   | .str => match i.kind, x with
    | .str, .p (.str l) => .val (.p (.str l))
    | .slice e, .p (.dsl u xs) => match tab e with
     | some j => match j.kind with
      | .int .u8 => match A.toBytes u xs with
       | some l => .val (.p (.str l))
       | none => .stuck
      | _ => .stuck
     | none => .stuck
    | .slice e, .slice c o n off len => match tab e with
     | some j => match j.kind with
      | .int .u8 => match eA (lk hs c) o with
       | .some u xs => match A.toBytes u ((xs.drop off).take len) with
        | some l => .side (n = C.n u ∧ len = ((xs.drop off).take len).length) (.p (.str l))
        | none => .stuck
       | .no => .stuck
      | _ => .stuck
     | none => .stuck
    | _, _ => .stuck
   | .uptr => match i.kind, x with
    | .ptr t, .ptr c o => match o with
     | 0 => match zT tab t (lk hs c) with
      | true => .val (.ptr c 0)
      | false => .stuck
     | _ + 1 => .stuck
    | _, _ => .stuck
   | .ptr t => match i.kind, x with
    | .uptr, .ptr c o => match o with
     | 0 => match zT tab t (lk hs c) with
      | true => .val (.ptr c 0)
      | false => .stuck
     | _ + 1 => .stuck
    | _, _ => .stuck
   | _ => uU tab src dst x
def K7 (op : BinOp) (b : Bool) : Out C := match op with
 | .eql => .val (.p (.bool b))
 | .neq => .val (.p (.bool !b))
 | _ => .stuck
def Mn (tab : Tab C) (op : BinOp) (t : TypeId) (p : Prop) : Out C := match tab t with
 | some i => match i.kind with
  | .slice _ => match op with
   | .eql => .may p fun b => .p (.bool b)
   | .neq => .may p fun b => .p (.bool !b)
   | _ => .stuck
  | _ => .stuck
 | none => .stuck
def Cr (tab : Tab C) (op : BinOp) (t : TypeId) (b : Bool) : Out C := match tab t with
 | some i => match i.kind with
  | .ifc => K7 op b
  | _ => .stuck
 | none => .stuck
def R5 : SV C → SV C → Operand → Bool
 | .p (.lit .nilIface), .p (.lit .nilIface), .const _ => true
 | _, _, _ => false
def Z9 {D : aL C} (A : Aux C D) (tab : Tab C) (op : BinOp) (t : TypeId) (x y : SV C) (hs : List (Nat × HS C)) : Out C :=
 match x, y with
 | .p (.lit (.iface _ _)), .p (.lit .nilIface) => Cr tab op t false
 | .iface _ _, .p (.lit .nilIface) => Cr tab op t false
 | .p (.dsl _ xs), .p (.lit (.slice none 0 0)) => Mn tab op t (xs = [])
 | .slice c _ _ _ len, .p (.lit (.slice none 0 0)) => dT (lk hs c) (Mn tab op t (len = 0))
 | .p (.lit (.slice none 0 0)), .p (.lit (.slice none 0 0)) => match tab t with
  | some i => match i.kind with
   | .slice _ => K7 op true
   | _ => .stuck
  | none => .stuck
 | .ptr c _, .p (.lit (.pointer none)) => match tab t with
  | some i => match i.kind with
   | .ptr _ => dT (lk hs c) (K7 op false)
   | _ => .stuck
  | none => .stuck
 | .p (.lit (.pointer none)), .p (.lit (.pointer none)) => match tab t with
  | some i => match i.kind with
   | .ptr _ => K7 op true
   | _ => .stuck
  | none => .stuck
 | .ptr c o, .ptr c' o' => match tab t with
  | some i => match i.kind with
   | .ptr e => match tab e with
    | some _ => match Nat.beq c c' with
     | true => match Nat.beq o o' with
      | true => dT (lk hs c) (K7 op true)
      | false => .stuck
     | false => .stuck
    | none => .stuck
   | _ => .stuck
  | none => .stuck
 | x, y => Rv A tab op t x y
def Yo (a b m : Int) : Bool := decide (a = 0) && decide (b = 0) && decide (m = 0)
def zQ (tab : Tab C) (t : TypeId) (x : SV C) (lo hi mx : SV C) (hs : List (Nat × HS C)) (q : Nat) : Out C :=
 match tab t with
 | none => .stuck
 | some i => match i.kind, lo, hi, mx with
  | .slice e, .p (.int _ a), .p (.int _ b), .p (.int _ m) => match tab e with
   | some j => match x with
    | .p (.dsl u xs) => match Yo a b m with
     | true => .smem (j.size = C.n u) (.slice q 0 (C.n u) 0 0) [(q, .rows u [])]
     | false => .side (0 ≤ a ∧ a ≤ b ∧ b ≤ m ∧ m ≤ xs.length ∧ j.size = C.n u) (.p (.dsl u ((xs.take b.toNat).drop a.toNat)))
    | .slice c o n off len => dT (lk hs c) (.side (0 ≤ a ∧ a ≤ b ∧ b ≤ m ∧ m ≤ len ∧ j.size = n) (.slice c o n (off + a.toNat) (b.toNat - a.toNat)))
    | _ => .stuck
   | none => .stuck
  | _, _, _, _ => .stuck
def Hn (tab : Tab C) (t : TypeId) (x : SV C) (hi mx : SV C) (hs : List (Nat × HS C)) : Out C :=
 match tab t with
 | none => .stuck
 | some i => match i.kind, hi, mx with
  | .slice e, .p (.int _ b), .p (.int _ m) => match tab e with
   | some j => match x with
    | .p (.dsl u xs) => .side (0 ≤ b ∧ b = m ∧ m ≤ xs.length ∧ j.size = C.n u) (.p (.fds u (xs.take b.toNat)))
    | .slice c o n off len => dT (lk hs c) (.side (0 ≤ b ∧ b ≤ m ∧ m ≤ len ∧ j.size = n) (.slice c o n off b.toNat))
    | _ => .stuck
   | none => .stuck
  | _, _, _ => .stuck
def iM {α : Type} (xs ys : List α) (off len : Nat) : List α := xs.take off ++ ys.take len ++ xs.drop (off + (ys.take len).length)
def Gf {D : aL C} (A : Aux C D) (tab : Tab C) (t t2 : TypeId) (d x : SV C) (hs : List (Nat × HS C)) : Out C :=
 match tab t with
 | none => .stuck
 | some i => match i.kind with
  | .slice e => match tab e with
   | none => .stuck
   | some j => match d with
    | .slice c o n off len => match eA (lk hs c) o with
     | .some u xs => match Vm A tab t t2 u hs x with
      | some (p, zs) => .smem (p ∧ n = C.n u ∧ j.size = C.n u ∧ off + len ≤ xs.length) (.p (.int .i64 (zs.take len).length)) [(c, lF (lk hs c) o u (iM xs zs off len))]
      | none => .stuck
     | .no => .stuck
    | _ => .stuck
  | _ => .stuck
def Uf : List (SV C) → List (PV C) → Bool
 | [], [] => true
 | .p (.lit (.slice none 0 0)) :: l, .dsl _ [] :: m => Uf l m
 | .p (.int k n) :: l, .int k' n' :: m => match decEq k k' with
  | .isTrue _ => match decEq n n' with
   | .isTrue _ => Uf l m
   | .isFalse _ => false
  | .isFalse _ => false
 | .p (.bool b) :: l, .bool b' :: m => match decEq b b' with
  | .isTrue _ => Uf l m
  | .isFalse _ => false
 | .p (.str []) :: l, .str [] :: m => Uf l m
 | _, _ => false
def T3 (D : aL C) (tab : Tab C) (t : TypeId) (d : SV C) (hs : List (Nat × HS C)) : Out C :=
 match tab t with
 | none => .stuck
 | some i => match i.kind with
  | .slice e => match tab e with
   | none => .stuck
   | some j => match d with
    | .slice c o n off len => match eA (lk hs c) o with
     | .some u xs => match Uf j.zero (D.enc u (C.dflt u)) with
      | true => .smem (n = C.n u ∧ j.size = C.n u ∧ off + len ≤ xs.length) (.tuple []) [(c, lF (lk hs c) o u (iM xs (List.replicate len (C.dflt u)) off len))]
      | false => .stuck
     | .no => .stuck
    | _ => .stuck
  | _ => .stuck
def nZ (x : SV C) (hs : List (Nat × HS C)) : Out C :=
 match x with
 | .p (.lit (.slice none 0 0)) => .val (.p (.lit (.pointer none)))
 | .slice c o n off len => dT (lk hs c) (.side (0 < len) (.eptr c o n off 0))
 | _ => .stuck
def iQ {D : aL C} (A : Aux C D) (tab : Tab C) (t : TypeId) (x n : SV C) (hs : List (Nat × HS C)) : Out C :=
 match n with
 | .p (.int k len) => match k with
  | .i64 => match x with
   | .p (.lit (.pointer none)) => .side (len = 0) (.p (.str []))
   | .eptr c o _ off f => match tab t with
    | some i => match i.kind with
     | .ptr e => match tab e with
      | some j => match o, off, f, lk hs c with
       | 0, 0, 0, .rows u xs => match C.ty u with
        | some e' => match Nat.beq e' e with
         | true => match A.toBytes u (xs.take len.toNat) with
          | some l => .smem (0 < len ∧ len ≤ xs.length ∧ j.size = 1 ∧ len ≤ 9223372036854775807) (.p (.str l)) [(c, .dead)]
          | none => .stuck
         | false => .stuck
        | none => .stuck
       | _, _, _, _ => .stuck
      | none => .stuck
     | _ => .stuck
    | none => .stuck
   | _ => .stuck
  | _ => .stuck
 | _ => .stuck
def Ve (tab : Tab C) (t : TypeId) (x : SV C) : Out C :=
 match tab t with
 | none => .stuck
 | some i => match i.kind, x with
  | .slice _, .p (.lit (.slice none 0 0)) => .val (.p (.int .i64 0))
  | .arr n _, _ => .val (.p (.int .i64 n))
  | _, _ => .stuck
def zL (D : aL C) (tab : Tab C) (t : TypeId) (x : SV C) : Out C :=
 match tab t with
 | none => .stuck
 | some i => match i.kind with
  | .arr len _ => match x with
   | .p (.dsl u xs) => .side (0 < len ∧ len ≤ xs.length) (.dptr (xs.flatMap (D.enc u)) 0)
   | _ => .stuck
  | _ => .stuck
mutual
def qG : SV C → Option Value
 | .p (.int k n) => some (.int k n)
 | .p (.bool b) => some (.bool b)
 | .p (.str l) => some (.string ⟨⟨l⟩⟩)
 | .p (.lit v) => some v
 | .fn f [] [] => some (.func f #[] #[])
 | .agg vs => match valVs vs with
  | some l => some (.agg l.toArray)
  | none => none
 | _ => none
def valVs : List (SV C) → Option (List Value)
 | [] => some []
 | .arr _ _ _ :: _ => none
 | x :: l => match qG x with
  | some v => match valVs l with
   | some r => some (v :: r)
   | none => none
  | none => none
end
def TK.plain : TK → Bool
 | .int _ => true
 | .bool => true
 | .str => true
 | .struct _ => true
 | _ => false
def V8 (tab : Tab C) (t : TypeId) (x : SV C) : Out C :=
 match tab t with
 | none => .stuck
 | some i => match i.kind.plain with
  | false => .stuck
  | true => match qG x with
   | some u => .val (.p (.lit (.iface t u)))
   | none => .stuck
def C2 (tab : Tab C) (t : TypeId) (ok : Bool) (x : SV C) : Out C :=
 match tab t with
 | none => .stuck
 | some i => match i.kind.plain with
  | false => .stuck
  | true => match x with
   | .p (.lit (.iface s u)) => match Nat.beq s t with
    | true => match ok with
     | true => .val (.tuple [ofV u, .p (.bool true)])
     | false => .val (ofV u)
    | false => match ok with
     | true => .val (.tuple [.any, .p (.bool false)])
     | false => .stuck
   | _ => .stuck
def Zl : CK → SV C → Option Value
 | .int q, .p (.int k n) => if k = q then some (.int k n) else none
 | .str, .p (.str l) => some (.string ⟨⟨l⟩⟩)
 | _, _ => none
def kN (j : TI C) : SV C := match j.kind with
 | .bool => .p (.bool false)
 | .struct _ => match Nat.ble 2 j.size with
  | true => .agg j.zero
  | false => .any
 | _ => .any
def qW (ok : Bool) (z : SV C) : Option (Nat × Value) → SV C
 | some (_, v) => match ok with
  | true => .tuple [ofV v, .p (.bool true)]
  | false => ofV v
 | none => match ok with
  | true => .tuple [z, .p (.bool false)]
  | false => z
def q1d (_ : Option (Nat × Value)) : List (Nat × HS C) := []
def pvV : PV C → Option Value
 | .int k n => some (.int k n)
 | .bool b => some (.bool b)
 | .str l => some (.string ⟨⟨l⟩⟩)
 | _ => none
def Xz : List (PV C) → Option (List Value)
 | [] => some []
 | x :: l => match pvV x with
  | some v => match Xz l with
   | some r => some (v :: r)
   | none => none
  | none => none
def F2 (D : aL C) : List (SV C) → Option (List Value)
 | [] => some []
 | .arr u _ xs :: l => match Xz (xs.flatMap (D.enc u)) with
  | some a => match F2 D l with
   | some r => some (a ++ r)
   | none => none
  | none => none
 | .p x :: l => match pvV x with
  | some v => match F2 D l with
   | some r => some (v :: r)
   | none => none
  | none => none
 | _ :: _ => none
def kdB : List CK → List Value → Bool
 | [], [] => true
 | c :: l, v :: vs => match c.is v with
  | true => kdB l vs
  | false => false
 | _, _ => false
def Zn (D : aL C) (ks : List CK) : SV C → Option (List Value)
 | .agg vs => match F2 D vs with
  | some l => match kdB ks l with
   | true => some l
   | false => none
  | none => none
 | _ => none
def Ul : Value → Value → Bool
 | .int k a, .int k' b => decide (k = k') && decide (a = b)
 | .bool a, .bool b => decide (a = b)
 | .string a, .string b => decide (a.data.toList = b.data.toList)
 | _, _ => false
def yI : List Value → List Value → Bool
 | [], [] => true
 | v :: l, u :: m => Ul v u && yI l m
 | _, _ => false
def kK (ks : List CK) (k : List Value) : List MapEntry → Nat → Option (Option (Nat × Value))
 | [], _ => some none
 | e :: es, i => match e.key with
  | .agg cs => match kdB ks cs.toList with
   | true => match yI k cs.toList with
    | true => some (some (i, e.val))
    | false => kK ks k es (i + 1)
   | false => none
  | _ => none
def putO (es : Array MapEntry) (clk : Nat) (kv vv : Value) : Option (Nat × Value) → Obj
 | none => .map (es.push ⟨kv, vv, clk⟩) (clk + 1)
 | some (i, _) => .map (es.modify i fun e => { e with key := kv, val := vv }) clk
def C9 (D : aL C) (tab : Tab C) (t : TypeId) (x k : SV C) (ok : Bool) (hs : List (Nat × HS C)) : Out C :=
 match tab t with
 | none => .stuck
 | some i => match i.kind with
  | .map q e => match x with
   | .mapp c => match lk hs c with
    | .obj (.map es _) => match Zl q k with
     | some kv => match tab e with
      | some j => .ask (Instr.findNow (fB q) kv es.toList 0) (qW ok (kN j)) q1d
      | none => .stuck
     | none => .stuck
    | _ => .stuck
   | _ => .stuck
  | .mapg ks e => match x with
   | .mapp c => match lk hs c with
    | .obj (.map es _) => match Zn D ks k with
     | some kv => match tab e with
      | some j => .ask (kK ks kv es.toList 0) (qW ok (kN j)) q1d
      | none => .stuck
     | none => .stuck
    | _ => .stuck
   | _ => .stuck
  | _ => .stuck
def Lo (D : aL C) (tab : Tab C) (t : TypeId) (x k v : SV C) (hs : List (Nat × HS C)) : Out C :=
 match tab t with
 | none => .stuck
 | some i => match i.kind with
  | .map q _ => match x with
   | .mapp c => match lk hs c with
    | .obj (.map es clk) => match Zl q k with
     | some kv => match qG v with
      | some vv => .ask (Instr.findNow (fB q) kv es.toList 0) (fun _ => .any) (fun r => [(c, .obj (putO es clk kv vv r))])
      | none => .stuck
     | none => .stuck
    | _ => .stuck
   | _ => .stuck
  | .mapg ks _ => match x with
   | .mapp c => match lk hs c with
    | .obj (.map es clk) => match Zn D ks k with
     | some kv => match qG v with
      | some vv => .ask (kK ks kv es.toList 0) (fun _ => .any) (fun r => [(c, .obj (putO es clk (.agg kv.toArray) vv r))])
      | none => .stuck
     | none => .stuck
    | _ => .stuck
   | _ => .stuck
  | _ => .stuck
def aO : Op → List Operand
 | .move x => [x]
 | .assign x => [x]
 | .pick c a b => [c, a, b]
 | .box _ x => [x]
 | .build _ ps => ps.toList.map (·.2)
 | .buildSlice _ _ ps => ps.toList.map (·.2)
 | .load _ a => [a]
 | .store _ a v => [a, v]
 | .nilCheck x => [x]
 | .binOp _ _ x y _ => [x, y]
 | .unOp _ _ x => [x]
 | .convert _ _ x => [x]
 | .makeFunc _ first captured => first.toList ++ captured.toList
 | .makeSlice _ l c => [l, c]
 | .slice _ x lo hi mx => x :: (match lo with | some l => [l] | none => []) ++ (match hi with | some h => [h] | none => []) ++ (match mx with | some h => [h] | none => [])
 | .fieldAddr _ x _ => [x]
 | .field _ x _ => [x]
 | .indexAddr _ x i => [x, i]
 | .index _ x i => [x, i]
 | .extract t _ => [t]
 | .lookup _ m k _ => [m, k]
 | .makeInterface _ x => [x]
 | .typeAssert x _ _ _ => [x]
 | .sliceToArrayPointer _ x => [x]
 | .mapUpdate _ m k v => [m, k, v]
 | .insert _ m k v => [m, k, v]
 | .call c => match c.callee with
  | .value f => f :: c.args.toList
  | .builtin _ => c.args.toList
  | .invoke r _ => r :: c.args.toList
 | _ => []
def exec {D : aL C} (A : Aux C D) (tab : Tab C) (o : Op) (vals : List (SV C)) (hs : List (Nat × HS C)) (m : Nat) : Out C :=
 match o with
 | .move _ => match vals with
  | [x] => .val x
  | _ => .stuck
 | .assign _ => match vals with
  | [x] => .val x
  | _ => .stuck
 | .pick _ _ _ => match vals with
  | [.p (.bool c), a, b] => match c with
   | true => .val a
   | false => .val b
  | _ => .stuck
 | .alloc t => match tab t with
  | some i => .mem (.ptr m 0) [(m, .vart (Zk i.typed t) i.zero)]
  | none => .stuck
 | .box _ _ => match vals with
  | [x] => match cellsOf x with
   | some l => .mem (.ptr m 0) [(m, .var l)]
   | none => .stuck
  | _ => .stuck
 | .build t ps => W1 D tab t (S7 ps.toList vals)
 | .buildSlice t len ps => lD D tab t len (S7 ps.toList vals) m
 | .load t _ => match vals with
  | [a] => mN D tab t a hs
  | _ => .stuck
 | .store t _ _ => match vals with
  | [a, v] => pR D tab t a v hs
  | _ => .stuck
 | .nilCheck _ => match vals with
  | [.ptr c o] => dT (lk hs c) (.val (.ptr c o))
  | [.eptr c o n i f] => dT (lk hs c) (.val (.eptr c o n i f))
  | [.dptr cells f] => .val (.dptr cells f)
  | [.fn (.func f) a b] => .val (.fn (.func f) a b)
  | _ => .stuck
 | .binOp op t a b _ => match vals with
  | [x, y] => match R5 x y b with
   | true => Cr tab op t true
   | false => match A.wro a b with
    | true => Z9 { A with wr := true } tab op t x y hs
    | false => Z9 A tab op t x y hs
  | _ => .stuck
 | .unOp op _ _ => match vals with
  | [x] => q07 op x
  | _ => .stuck
 | .convert src dst _ => match vals with
  | [x] => Fz A tab src dst x hs m
  | _ => .stuck
 | .makeFunc f first _ => .val (.fn f (vals.take first.size) (vals.drop first.size))
 | .makeSlice t _ _ => match vals with
  | [l, c] => mW D tab t l c m
  | _ => .stuck
 | .slice t _ lo hi none => match lo, hi, vals with
  | none, none, [x] => pZ tab t x none none hs
  | some _, none, [x, l] => pZ tab t x (some l) none hs
  | none, some _, [x, h] => pZ tab t x none (some h) hs
  | some _, some _, [x, l, h] => pZ tab t x (some l) (some h) hs
  | _, _, _ => .stuck
 | .slice t _ (some _) (some _) (some _) => match vals with
  | [x, l, h, m'] => zQ tab t x l h m' hs m
  | _ => .stuck
 | .slice t _ none (some _) (some _) => match vals with
  | [x, h, m'] => Hn tab t x h m' hs
  | _ => .stuck
 | .fieldAddr s _ f => match vals with
  | [x] => nP tab s x f hs
  | _ => .stuck
 | .field t _ f => match vals with
  | [x] => R4 tab t x f
  | _ => .stuck
 | .indexAddr t _ _ => match vals with
  | [x, i] => mV D tab t x i hs
  | _ => .stuck
 | .index t _ _ => match vals with
  | [x, i] => W7 D tab t x i
  | _ => .stuck
 | .makeInterface t _ => match vals with
  | [x] => V8 tab t x
  | _ => .stuck
 | .typeAssert _ _ t ok => match vals with
  | [x] => C2 tab t ok x
  | _ => .stuck
 | .extract _ i => match vals with
  | [x] => vR x i
  | _ => .stuck
 | .sliceToArrayPointer t _ => match vals with
  | [x] => zL D tab t x
  | _ => .stuck
 | .makeMap _ none => .mem (.mapp m) [(m, .obj (.map #[] 0))]
 | .lookup t _ _ ok => match vals with
  | [x, k] => C9 D tab t x k ok hs
  | _ => .stuck
 | .mapUpdate t _ _ _ => match vals with
  | [x, k, v] => Lo D tab t x k v hs
  | _ => .stuck
 | .insert t _ _ _ => match vals with
  | [x, k, v] => Lo D tab t x k v hs
  | _ => .stuck
 | .call c => match c.callee with
  | .value _ => Ra vals
  | .builtin .len => match vals with
   | [x] => match c.argTypes.toList with
    | [t] => Sx tab t x hs
    | _ => .stuck
   | _ => .stuck
  | .builtin .append => match vals with
   | [s, x] => match c.argTypes.toList with
    | [t, t2] => zN A tab t t2 s x hs m
    | _ => .stuck
   | _ => .stuck
  | .builtin .copy => match vals with
   | [d, x] => match c.argTypes.toList with
    | [t, t2] => Gf A tab t t2 d x hs
    | _ => .stuck
   | _ => .stuck
  | .builtin .clear => match vals with
   | [d] => match c.argTypes.toList with
    | [t] => T3 D tab t d hs
    | _ => .stuck
   | _ => .stuck
  | .builtin .unsafeSliceData => match vals with
   | [x] => nZ x hs
   | _ => .stuck
  | .builtin .unsafeString => match vals with
   | [x, n] => match c.argTypes.toList with
    | [t, _] => iQ A tab t x n hs
    | _ => .stuck
   | _ => .stuck
  | .builtin .cap => match vals with
   | [x] => match c.argTypes.toList with
    | [t] => Ve tab t x
    | _ => .stuck
   | _ => .stuck
  | .builtin .min => match vals with
   | [x, y] => Y7 false x y
   | _ => .stuck
  | .builtin .max => match vals with
   | [x, y] => Y7 true x y
   | _ => .stuck
  | _ => .stuck
 | _ => .stuck
end Go.SX
namespace Go.SX
variable {C : Cod}
def SV.isArr : SV C → Bool
 | .arr _ _ _ => true
 | _ => false
section
variable {D : aL C} {w : World} {E : Env}
theorem aZ {x : SV C} (hx : x.isArr = false) (r : List (SV C)) (vs : List Value) :
  DenC D w E (x :: r) vs ↔ ∃ v v2, vs = v :: v2 ∧ v.oneCell' = true ∧ Den D w E x v ∧ DenC D w E r v2 := by
 cases x <;> first | (simp [SV.isArr] at hx; done) | simp only [DenC]
theorem Ee {x : SV C} (hx : x.isArr = false) (r : List (SV C)) (n : Nat) : iB (x :: r) (n + 1) = (match iB r n with | some l => some (x :: l) | none => none) := by
 cases x <;> first | (simp [SV.isArr] at hx; done) | rfl
theorem Df (vs : List (SV C)) : iB vs 0 = some [] := by
 cases vs with
 | nil => rfl
 | cons x r => cases x <;> rfl
theorem Cq {x : SV C} (hx : x.isArr = false) (r : List (SV C)) (n : Nat) : iX (x :: r) (n + 1) = iX r n := by
 cases x <;> first | (simp [SV.isArr] at hx; done) | rfl
theorem Ea (vs : List (SV C)) : iX vs 0 = some vs := by
 cases vs with
 | nil => rfl
 | cons x r => cases x <;> rfl
theorem iW {x : SV C} (hx : x.isArr = false) (r : List (SV C)) (o : Nat) : mM (x :: r) (o + 1) = mM r o := by
 cases x <;> first | (simp [SV.isArr] at hx; done) | rfl
theorem kT {x : SV C} (hx : x.isArr = false) (r : List (SV C)) : mM (x :: r) 0 = .cell x := by
 cases x <;> first | (simp [SV.isArr] at hx; done) | rfl
theorem nD {x : SV C} (hx : x.isArr = false) (r : List (SV C)) (o : Nat) (u : C.U) (ys : List (C.El u)) :
  fG (x :: r) (o + 1) u ys = (match fG r o u ys with | some l => some (x :: l) | none => none) := by
 cases x <;> first | (simp [SV.isArr] at hx; done) | rfl
theorem SV.arr_of {x : SV C} (h : x.isArr = true) : ∃ u N xs, x = .arr u N xs := by
 cases x <;> simp [SV.isArr] at h
 exact ⟨_, _, _, rfl⟩
theorem jI {a b m : Nat} (h : tF a b = some m) : a = m + b := by
 induction a generalizing b with
 | zero => cases b <;> simp [tF] at h; omega
 | succ a ih => cases b with
  | zero => simp [tF] at h; omega
  | succ b => simp only [tF] at h; have := ih h; omega
theorem vT {a b : Nat} (h : tF a b = none) : a < b := by
 induction a generalizing b with
 | zero => cases b <;> simp [tF] at h; omega
 | succ a ih => cases b with
  | zero => simp [tF] at h
  | succ b => simp only [tF] at h; have := ih h; omega
theorem aQ (u : C.U) (xs : List (C.El u)) : (xs.flatMap (D.enc u)).length = xs.length * C.n u := by
 induction xs with
 | nil => simp
 | cons x xs ih => simp only [List.flatMap_cons, List.length_append, D.enc_len, ih, List.length_cons, Nat.add_mul, Nat.one_mul]; omega
theorem eU (u : C.U) (xs : List (C.El u)) (i j : Nat) (x : C.El u) (hx : xs[i]? = some x) (hj : j < C.n u) :
  (xs.flatMap (D.enc u))[i * C.n u + j]? = (D.enc u x)[j]? := by
 induction xs generalizing i with
 | nil => simp at hx
 | cons y ys ih =>
  cases i with
  | zero =>
   simp at hx; subst hx
   simp only [List.flatMap_cons, Nat.zero_mul, Nat.zero_add]
   rw [List.getElem?_append_left (by rw [D.enc_len]; exact hj)]
  | succ i =>
   simp only [List.getElem?_cons_succ] at hx
   simp only [List.flatMap_cons]
   rw [List.getElem?_append_right (by rw [D.enc_len, Nat.add_mul]; omega), D.enc_len]
   rw [show (i + 1) * C.n u + j - C.n u = i * C.n u + j by rw [Nat.add_mul]; omega]
   exact ih i hx
theorem T5 (u : C.U) (xs : List (C.El u)) (i : Nat) (x : C.El u) (hi : i < xs.length) :
    (xs.set i x).flatMap (D.enc u) = (xs.flatMap (D.enc u)).take (i * C.n u) ++ D.enc u x ++ (xs.flatMap (D.enc u)).drop (i * C.n u + C.n u) := by
  induction xs generalizing i with
  | nil => simp at hi
  | cons y ys ih =>
    cases i with
    | zero =>
      simp only [List.set_cons_zero, List.flatMap_cons, Nat.zero_mul, List.take_zero, List.nil_append, Nat.zero_add]
      rw [List.drop_left' (D.enc_len u y)]
    | succ i =>
      simp only [List.set_cons_succ, List.flatMap_cons]
      rw [ih i (by simpa using hi)]
      have e1 : (i + 1) * C.n u = (D.enc u y).length + i * C.n u := by rw [D.enc_len, Nat.add_mul]; omega
      rw [e1, List.take_append, List.take_of_length_le (show (D.enc u y).length ≤ (D.enc u y).length + i * C.n u by omega),
        show (D.enc u y).length + i * C.n u - (D.enc u y).length = i * C.n u by omega]
      rw [show (D.enc u y).length + i * C.n u + C.n u = (D.enc u y).length + (i * C.n u + C.n u) by omega, List.drop_append,
        List.drop_of_length_le (show (D.enc u y).length ≤ (D.enc u y).length + (i * C.n u + C.n u) by omega)]
      simp only [List.nil_append, List.append_assoc]
      rw [show (D.enc u y).length + (i * C.n u + C.n u) - (D.enc u y).length = i * C.n u + C.n u by omega]
theorem bE.len {F : Nat → Prop} {u : C.U} {xs : List (C.El u)} {v1 : List Value} (h : bE D w F (xs.flatMap (D.enc u)) v1) : v1.length = xs.length * C.n u := by
 rw [← h.1, aQ]
theorem gJ : ∀ (vs : List (SV C)) (n : Nat) (l : List (SV C)) (cs : List Value), iB vs n = some l → DenC D w E vs cs → DenC D w E l (cs.take n) ∧ n ≤ cs.length
 | [], 0, l, cs, h, hd => by simp [iB] at h; subst h; simp [DenC]
 | [], n + 1, l, cs, h, hd => by simp [iB] at h
 | x :: r, 0, l, cs, h, hd => by rw [Df] at h; cases h; simp [DenC]
 | x :: r, n + 1, l, cs, h, hd => by
  cases hx : x.isArr with
  | false =>
   rw [Ee hx] at h
   rw [aZ hx] at hd
   obtain ⟨v, v2, rfl, h1, h2, h3⟩ := hd
   cases ht : iB r n with
   | none => rw [ht] at h; cases h
   | some l' =>
    rw [ht] at h; cases h
    obtain ⟨h4, h5⟩ := gJ r n l' v2 ht h3
    refine ⟨?_, by simpa using h5⟩
    rw [aZ hx]
    exact ⟨v, v2.take n, by simp, h1, h2, h4⟩
  | true =>
   obtain ⟨u, N, xs, rfl⟩ := SV.arr_of hx
   simp only [iB] at h
   simp only [DenC] at hd
   obtain ⟨h0, v1, v2, rfl, h1, h3⟩ := hd
   have hl := h1.len
   cases hs : tF (n + 1) (N * C.n u) with
   | none => rw [hs] at h; cases h
   | some m =>
    rw [hs] at h
    have e := jI hs
    cases ht : iB r m with
    | none => simp [ht] at h
    | some l' =>
     simp [ht] at h; subst h
     obtain ⟨h4, h5⟩ := gJ r m l' v2 ht h3
     rw [h0] at hl
     have hcut : (v1 ++ v2).take (n + 1) = v1 ++ v2.take m := by
      rw [List.take_append, List.take_of_length_le (by omega)]
      congr 2
      omega
     refine ⟨?_, by simp; omega⟩
     simp only [DenC]
     exact ⟨h0, v1, v2.take m, hcut, h1, h4⟩
theorem eQ : ∀ (vs : List (SV C)) (n : Nat) (l : List (SV C)) (cs : List Value), iX vs n = some l → DenC D w E vs cs → DenC D w E l (cs.drop n) ∧ n ≤ cs.length
 | [], 0, l, cs, h, hd => by simp [iX] at h; subst h; simpa using hd
 | [], n + 1, l, cs, h, hd => by simp [iX] at h
 | x :: r, 0, l, cs, h, hd => by rw [Ea] at h; cases h; simpa using hd
 | x :: r, n + 1, l, cs, h, hd => by
  cases hx : x.isArr with
  | false =>
   rw [Cq hx] at h
   rw [aZ hx] at hd
   obtain ⟨v, v2, rfl, h1, h2, h3⟩ := hd
   obtain ⟨h4, h5⟩ := eQ r n l v2 h h3
   exact ⟨by simpa using h4, by simpa using h5⟩
  | true =>
   obtain ⟨u, N, xs, rfl⟩ := SV.arr_of hx
   simp only [iX] at h
   simp only [DenC] at hd
   obtain ⟨h0, v1, v2, rfl, h1, h3⟩ := hd
   have hl := h1.len
   rw [h0] at hl
   cases hs : tF (n + 1) (N * C.n u) with
   | none => simp [hs] at h
   | some m =>
    simp [hs] at h
    have e := jI hs
    obtain ⟨h4, h5⟩ := eQ r m l v2 h h3
    have hcut : (v1 ++ v2).drop (n + 1) = v2.drop m := by
     rw [List.drop_append, List.drop_of_length_le (by omega), List.nil_append]
     congr 1
     omega
    exact ⟨hcut ▸ h4, by simp; omega⟩
theorem kC : ∀ (vs ws : List (SV C)) (a b : List Value), DenC D w E vs a → DenC D w E ws b → DenC D w E (vs ++ ws) (a ++ b)
 | [], ws, a, b, ha, hb => by simp only [DenC] at ha; subst ha; simpa using hb
 | x :: r, ws, a, b, ha, hb => by
  cases hx : x.isArr with
  | false =>
   rw [aZ hx] at ha
   obtain ⟨v, v2, rfl, h1, h2, h3⟩ := ha
   rw [List.cons_append, aZ hx]
   exact ⟨v, v2 ++ b, by simp, h1, h2, kC r ws _ _ h3 hb⟩
  | true =>
   obtain ⟨u, N, xs, rfl⟩ := SV.arr_of hx
   simp only [DenC] at ha
   obtain ⟨h0, v1, v2, rfl, h1, h3⟩ := ha
   simp only [List.cons_append, DenC]
   exact ⟨h0, v1, v2 ++ b, by simp, h1, kC r ws _ _ h3 hb⟩
theorem C6 : ∀ (vs : List (SV C)) (a : List Value), DenC D w E vs a → ∀ v ∈ a, v.oneCell' = true
 | [], a, ha => by simp only [DenC] at ha; subst ha; simp
 | x :: r, a, ha => by
  cases hx : x.isArr with
  | false =>
   rw [aZ hx] at ha
   obtain ⟨v, v2, rfl, h1, h2, h3⟩ := ha
   intro u hu
   rcases List.mem_cons.1 hu with rfl | hu
   ·exact h1
   ·exact C6 r _ h3 u hu
  | true =>
   obtain ⟨u, N, xs, rfl⟩ := SV.arr_of hx
   simp only [DenC] at ha
   obtain ⟨h0, v1, v2, rfl, h1, h3⟩ := ha
   intro u hu
   rcases List.mem_append.1 hu with hu | hu
   ·exact h1.oneCell u hu
   ·exact C6 r _ h3 u hu
def Xd (D : aL C) (w : World) (E : Env) (cs : List Value) (o : Nat) : Hit C → Prop
 | .miss => True
 | .cell x => ∃ v, cs[o]? = some v ∧ v.oneCell' = true ∧ Den D w E x v
 | .elem u N xs k => xs.length = N ∧ k < N * C.n u ∧ k ≤ o ∧ (o - k) + N * C.n u ≤ cs.length ∧ bE D w E.F (xs.flatMap (D.enc u)) ((cs.drop (o - k)).take (N * C.n u))
theorem jG : ∀ (vs : List (SV C)) (o : Nat) (cs : List Value), DenC D w E vs cs → Xd D w E cs o (mM vs o)
  | [], o, cs, hd => trivial
  | x :: r, o, cs, hd => by
    cases hx : x.isArr with
    | false =>
      rw [aZ hx] at hd
      obtain ⟨v, v2, rfl, h1, h2, h3⟩ := hd
      cases o with
      | zero => rw [kT hx]; exact ⟨v, by simp, h1, h2⟩
      | succ o =>
        rw [iW hx]
        have ih := jG r o v2 h3
        cases hh : mM r o with
        | miss => trivial
        | cell y => rw [hh] at ih; obtain ⟨u, h4, h5⟩ := ih; exact ⟨u, by simpa using h4, h5⟩
        | elem u N xs k =>
          rw [hh] at ih
          obtain ⟨a1, a2, a3, a4, a5⟩ := ih
          refine ⟨a1, a2, by omega, by simp; omega, ?_⟩
          rw [show o + 1 - k = (o - k) + 1 by omega, List.drop_succ_cons]
          exact a5
    | true =>
      obtain ⟨u, N, xs, rfl⟩ := SV.arr_of hx
      simp only [DenC] at hd
      obtain ⟨h0, v1, v2, rfl, h1, h3⟩ := hd
      have hl := h1.len
      rw [h0] at hl
      simp only [mM]
      cases hs : tF o (N * C.n u) with
      | none =>
        have hlt := vT hs
        refine ⟨h0, hlt, Nat.le_refl _, by simp; omega, ?_⟩
        rw [Nat.sub_self, List.drop_zero, ← hl, List.take_left]
        exact h1
      | some o' =>
        have e := jI hs
        have ih := jG r o' v2 h3
        cases hh : mM r o' with
        | miss => simp [Xd, hh]
        | cell y =>
          rw [hh] at ih
          obtain ⟨v, h4, h5⟩ := ih
          simp only [hh]
          refine ⟨v, ?_, h5⟩
          rw [List.getElem?_append_right (by omega), hl, show o - N * C.n u = o' by omega]
          exact h4
        | elem u' N' xs' k =>
          rw [hh] at ih
          obtain ⟨a1, a2, a3, a4, a5⟩ := ih
          simp only [hh]
          refine ⟨a1, a2, by omega, by simp; omega, ?_⟩
          rw [show o - k = v1.length + (o' - k) by omega, List.drop_append, List.drop_of_length_le (by omega), List.nil_append,
            show v1.length + (o' - k) - v1.length = o' - k by omega]
          exact a5
theorem rD {vs new vs' : List (SV C)} {o n : Nat} {cs nc : List Value} (h : nF vs o n new = some vs') (hd : DenC D w E vs cs) (hn : DenC D w E new nc) :
  DenC D w E vs' (cs.take o ++ nc ++ cs.drop (o + n)) ∧ o + n ≤ cs.length := by
 unfold nF at h
 cases ha : iB vs o with
 | none => simp [ha] at h
 | some a =>
  cases hb : iX vs o with
  | none => simp [ha, hb] at h
  | some b =>
   cases hc : iX b n with
   | none => simp [ha, hb, hc] at h
   | some c =>
    simp [ha, hb, hc] at h
    subst h
    obtain ⟨h1, h2⟩ := gJ _ _ _ _ ha hd
    obtain ⟨h3, h4⟩ := eQ _ _ _ _ hb hd
    obtain ⟨h5, h6⟩ := eQ _ _ _ _ hc h3
    rw [List.drop_drop] at h5
    refine ⟨?_, by simp at h6; omega⟩
    rw [List.append_assoc]
    exact kC _ _ _ _ h1 (kC _ _ _ _ hn h5)
theorem Ed : ∀ (vs : List (SV C)) (o : Nat) (u : C.U) (N : Nat) (xs : List (C.El u)) (k : Nat), mM vs o = .elem u N xs k → k ≤ o ∧ mM vs (o - k) = .elem u N xs 0 := by
 intro vs
 induction vs with
 | nil => intro o u N xs k h; simp [mM] at h
 | cons x r ih =>
  intro o u N xs k h
  cases hx : x.isArr with
  | false =>
   cases o with
   | zero => rw [kT hx] at h; cases h
   | succ o =>
    rw [iW hx] at h
    obtain ⟨h1, h2⟩ := ih o u N xs k h
    refine ⟨by omega, ?_⟩
    rw [show o + 1 - k = (o - k) + 1 by omega, iW hx]
    exact h2
  | true =>
   obtain ⟨u', N', xs', rfl⟩ := SV.arr_of hx
   simp only [mM] at h ⊢
   cases hs : tF o (N' * C.n u') with
   | none =>
    rw [hs] at h
    simp only [Hit.elem.injEq] at h
    obtain ⟨rfl, rfl, h3, rfl⟩ := h
    cases h3
    have hlt := vT hs
    refine ⟨Nat.le_refl _, ?_⟩
    rw [Nat.sub_self]
    have : tF 0 (N' * C.n u') = none := by
     cases hz : N' * C.n u' with
     | zero => omega
     | succ z => rfl
    rw [this]
   | some o' =>
    simp only [hs] at h
    have e := jI hs
    obtain ⟨h1, h2⟩ := ih o' u N xs k h
    refine ⟨by omega, ?_⟩
    have hsub : tF (o - k) (N' * C.n u') = some (o' - k) := by
     cases hq : tF (o - k) (N' * C.n u') with
     | none => have := vT hq; omega
     | some z => have := jI hq; congr 1; omega
    simp only [hsub]
    exact h2
theorem nX : ∀ (vs : List (SV C)) (o : Nat) (u : C.U) (N : Nat) (xs ys : List (C.El u)) (vs' : List (SV C)) (cs v1 : List Value),
    mM vs o = .elem u N xs 0 → fG vs o u ys = some vs' → ys.length = xs.length → DenC D w E vs cs → bE D w E.F (ys.flatMap (D.enc u)) v1 →
    DenC D w E vs' (cs.take o ++ v1 ++ cs.drop (o + v1.length)) := by
  intro vs
  induction vs with
  | nil => intro o u N xs ys vs' cs v1 h; simp [mM] at h
  | cons x r ih =>
    intro o u N xs ys vs' cs v1 h hs hl hd hp
    cases hx : x.isArr with
    | false =>
      cases o with
      | zero => rw [kT hx] at h; cases h
      | succ o =>
        rw [iW hx] at h
        rw [nD hx] at hs
        rw [aZ hx] at hd
        obtain ⟨v, v2, rfl, h1, h2, h3⟩ := hd
        cases hq : fG r o u ys with
        | none => simp [hq] at hs
        | some l =>
          simp [hq] at hs; subst hs
          have := ih o u N xs ys l v2 v1 h hq hl h3 hp
          rw [aZ hx]
          exact ⟨v, _, by rw [show o + 1 + v1.length = (o + v1.length) + 1 by omega]; simp, h1, h2, this⟩
    | true =>
      obtain ⟨u', N', xs', rfl⟩ := SV.arr_of hx
      simp only [mM] at h
      simp only [DenC] at hd
      obtain ⟨h0, w1, w2, rfl, h1, h3⟩ := hd
      have hl1 := h1.len
      rw [h0] at hl1
      have hlv := hp.len
      cases hsb : tF o (N' * C.n u') with
      | none =>
        rw [hsb] at h
        simp only [Hit.elem.injEq] at h
        obtain ⟨rfl, rfl, h4, rfl⟩ := h
        cases h4
        simp only [fG, hsb, Option.some.injEq] at hs
        subst hs
        simp only [DenC]
        refine ⟨hl.trans h0, v1, w2, ?_, hp, h3⟩
        have e : v1.length = w1.length := by rw [hlv, hl, h0, hl1]
        simp only [List.take_zero, List.nil_append, Nat.zero_add, e, List.drop_left]
      | some o' =>
        have e := jI hsb
        simp only [hsb] at h
        simp only [fG, hsb] at hs
        cases hq : fG r o' u ys with
        | none => simp [hq] at hs
        | some l =>
          simp [hq] at hs; subst hs
          have := ih o' u N xs ys l w2 v1 h hq hl h3 hp
          simp only [DenC]
          refine ⟨h0, w1, _, ?_, h1, this⟩
          rw [List.take_append, List.take_of_length_le (show w1.length ≤ o by omega), show o - w1.length = o' by omega,
            List.drop_append, List.drop_of_length_le (show w1.length ≤ o + v1.length by omega), show o + v1.length - w1.length = o' + v1.length by omega]
          simp
end
end Go.SX
namespace Go.SX
variable {C : Cod} {D : aL C} {w : World} {E : Env}
theorem Vf {c : CK} {x y : PV C} {b : Bool} {F : Nat → Prop} {v u : Value} (h : q04 c x y = some b) (hx : eM D w F x v) (hy : eM D w F y u) : c.is v = true ∧ c.is u = true ∧ (b = true ↔ v = u) := by
 unfold q04 at h
 split at h
 ·split at h
  ·split at h
   ·rename_i h1 h2
    subst h1; subst h2
    cases hx; cases hy
    injection h with h; subst h
    simp [CK.is]
   ·cases h
  ·cases h
 ·cases hx; cases hy
  injection h with h; subst h
  simp [CK.is]
 ·cases hx; cases hy
  injection h with h; subst h
  simp [CK.is]
 ·cases h
theorem Ic : ∀ {cs l r : List CK}, Vb cs l = some r → l = cs ++ r
 | [], l, r, h => by simp [Vb] at h; simp [h]
 | _ :: _, [], r, h => by simp [Vb] at h
 | c :: cs, d :: l, r, h => by
  simp only [Vb] at h
  split at h
  ·rename_i e; subst e; simp [Ic h]
  ·cases h
theorem Kd.append : ∀ {l m : List CK} {vs ws : List Value}, Kd l vs → Kd m ws → Kd (l ++ m) (vs ++ ws)
 | [], _, [], _, _, h => h
 | [], _, _ :: _, _, h, _ => h.elim
 | _ :: _, _, [], _, h, _ => h.elim
 | _ :: l, _, _ :: vs, _, h, h' => ⟨h.1, Kd.append h.2 h'⟩
theorem q0h {F : Nat → Prop} {x : PV C} {v : Value} {c : CK} (h : eM D w F x v) (hc : Em x = some c) : c.is v = true := by
 cases h <;> simp [Em] at hc <;> subst hc <;> simp [CK.is]
theorem Yp {F F' : Nat → Prop} {x y : PV C} {v u : Value} (h : eM D w F x v) (h' : eM D w F' y u) {c d : CK} (hc : Em x = some c) (hd : Em y = some d) : v = u ↔ x = y := by
 cases h <;> simp [Em] at hc <;> cases h' <;> simp [Em] at hd <;> simp
theorem lO {F : Nat → Prop} {x : PV C} {l : List (PV C)} {vs : List Value} (h : bE D w F (x :: l) vs) : ∃ v r, vs = v :: r ∧ eM D w F x v ∧ bE D w F l r := by
 obtain ⟨h1, h2⟩ := h
 cases vs with
 | nil => simp at h1
 | cons v r => exact ⟨v, r, rfl, h2 0 x v rfl rfl, by simpa using h1, fun j pv u hp hu => h2 (j + 1) pv u (by simpa using hp) (by simpa using hu)⟩
theorem pS {F : Nat → Prop} {vs : List Value} (h : bE D w F [] vs) : vs = [] := by
 have := h.1; cases vs with
 | nil => rfl
 | cons v r => simp at this
theorem Io {F : Nat → Prop} : ∀ {l : List (PV C)} {cks : List CK} {vs : List Value}, l.map Em = cks.map some → bE D w F l vs → Kd cks vs
 | [], [], vs, _, h => by rw [pS h]; trivial
 | [], _ :: _, _, hm, _ => by simp at hm
 | _ :: _, [], _, hm, _ => by simp at hm
 | x :: l, c :: cks, vs, hm, h => by
  obtain ⟨v, r, rfl, h1, h2⟩ := lO h
  simp only [List.map_cons, List.cons.injEq] at hm
  exact ⟨q0h h1 hm.1, Io hm.2 h2⟩
theorem Gh {F : Nat → Prop} : ∀ {l m : List (PV C)} {cks dks : List CK} {vs us : List Value}, l.map Em = cks.map some → m.map Em = dks.map some → bE D w F l vs → bE D w F m us → (vs = us ↔ l = m)
 | [], [], _, _, vs, us, _, _, h, h' => by rw [pS h, pS h']; simp
 | [], y :: m, _, _, vs, us, _, _, h, h' => by
  obtain ⟨u, r, rfl, _, _⟩ := lO h'
  rw [pS h]; simp
 | x :: l, [], _, _, vs, us, _, _, h, h' => by
  obtain ⟨u, r, rfl, _, _⟩ := lO h
  rw [pS h']; simp
 | x :: l, y :: m, cks, dks, vs, us, hm, hm', h, h' => by
  obtain ⟨v, r, rfl, h1, h2⟩ := lO h
  obtain ⟨u, q, rfl, h3, h4⟩ := lO h'
  cases cks with
  | nil => simp at hm
  | cons c cks =>
   cases dks with
   | nil => simp at hm'
   | cons d dks =>
    simp only [List.map_cons, List.cons.injEq] at hm hm'
    simp only [List.cons.injEq, Yp h1 h3 hm.1 hm'.1, Gh hm.2 hm'.2 h2 h4]
theorem D5 (A : Aux C D) {u : C.U} (hu : A.ckA u ≠ []) : ∀ (xs : List (C.El u)), (xs.flatMap (D.enc u)).map Em = ((List.replicate xs.length (A.ckA u)).flatten).map some
 | [] => rfl
 | x :: xs => by
  simp only [List.flatMap_cons, List.map_append, A.ckA_ok u hu x, List.length_cons, List.replicate_succ, List.flatten_cons]
  rw [D5 A hu xs]
theorem V3 : ∀ {n : Nat} {cs l r : List CK}, Vs n cs l = some r → l = (List.replicate n cs).flatten ++ r
 | 0, cs, l, r, h => by simp [Vs] at h; simp [h]
 | n + 1, cs, l, r, h => by
  simp only [Vs] at h
  cases h1 : Vb cs l with
  | none => simp [h1] at h
  | some q =>
   simp only [h1] at h
   rw [Ic h1, V3 h, List.replicate_succ, List.flatten_cons, List.append_assoc]
theorem J8 {b : Bool} {x : Option Bool} {r : Bool} (h : Yu b x = some r) : ∃ c, x = some c ∧ r = (b && c) := by
 cases x with
 | none => simp [Yu] at h
 | some c => simp [Yu] at h; exact ⟨c, rfl, h.symm⟩
theorem Cb (A : Aux C D) (l : List CK) (vs ws : List (SV C)) : ∀ (b : Bool) (cs ds : List Value), iU A l vs ws = some b → DenC D w E vs cs → DenC D w E ws ds → Kd l cs ∧ Kd l ds ∧ (b = true ↔ cs = ds) := by
 fun_induction iU A l vs ws with
 | case1 => intro b cs ds h h1 h2; simp only [DenC] at h1 h2; subst h1; subst h2; simp at h; subst h; exact ⟨trivial, trivial, by simp⟩
 | case2 c l x vs y ws b0 hb ih =>
  intro b cs ds h h1 h2
  simp only [DenC, Den] at h1 h2
  obtain ⟨v, r, rfl, _, hv, hr⟩ := h1
  obtain ⟨u, q, rfl, _, hu, hq⟩ := h2
  obtain ⟨b1, e1, rfl⟩ := J8 h
  obtain ⟨g1, g2, g3⟩ := Vf hb hv hu
  obtain ⟨k1, k2, k3⟩ := ih b1 r q e1 hr hq
  exact ⟨⟨g1, k1⟩, ⟨g2, k2⟩, by simp [g3, k3]⟩
 | case4 l u N xs vs u' N' ys ws b0 hb r he r' he' ih =>
  intro b cs ds h h1 h2
  simp only [DenC] at h1 h2
  obtain ⟨hN, v1, v2, rfl, hv, hr⟩ := h1
  obtain ⟨hN', u1, u2, rfl, hu, hq⟩ := h2
  obtain ⟨b1, e1, rfl⟩ := J8 h
  unfold iU.eqA' at hb
  split at hb
  ·split at hb
   ·rename_i hNN hll
    obtain ⟨g1, g2, g3⟩ := A.eqA_ok _ _ _ _ _ hb
    have m1 := D5 A g1 xs
    have m2 := D5 A g2 ys
    have l1 := V3 he
    have l2 := V3 he'
    obtain ⟨k1, k2, k3⟩ := ih b1 v2 u2 e1 hr hq
    have hlen : ∀ (n : Nat) (c : List CK), (List.replicate n c).flatten.length = n * c.length := fun n c => by simp
    have hAB := List.append_inj (l1.symm.trans l2) (by rw [hlen, hlen, hNN, hll])
    subst hN; subst hN'
    have p1 : Kd ((List.replicate xs.length (A.ckA u)).flatten) v1 := Io m1 hv
    have p2 : Kd ((List.replicate ys.length (A.ckA u')).flatten) u1 := Io m2 hu
    have hvl := p1.length
    have hul := p2.length
    refine ⟨by rw [l1]; exact p1.append k1, by rw [l2, ← hAB.2]; exact p2.append k2, ?_⟩
    rw [Bool.and_eq_true, g3, k3, ← Gh m1 m2 hv hu]
    refine ⟨fun ⟨a, b⟩ => by rw [a, b], fun hcd => ?_⟩
    exact List.append_inj hcd (by rw [← hvl, ← hul, hAB.1])
   ·cases hb
  ·cases hb
 | _ => intro b cs ds h; simp at h
end Go.SX
