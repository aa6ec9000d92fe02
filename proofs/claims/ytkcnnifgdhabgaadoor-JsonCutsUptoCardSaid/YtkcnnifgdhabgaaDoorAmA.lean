/- The machine: values, runs, the relation to memory. No conditions. -/
import Derived.WalkKit
import Derived.Laws.AppendOwn
import Derived.Laws.OwnMore
import Derived.KernelRfl
import Derived.Laws.Externs
/- The abstract machine: values as trees, slices as lists, memory uniquely owned by the variable that holds it. Its run is proved sound elsewhere. No conditions. -/
namespace Go.AM

inductive PV where
  | v (x : Value)
  | agg (cs : List PV)
  | tup (cs : List PV)
  | ro (sz : Nat) (l : List PV)
  | own (sz : Nat) (l : List PV)
  | box (cs : List PV)
  | ref (s : Nat) (p : List Nat)
  | win (s : Nat) (p : List Nat) (sz lo hi : Nat)
  | addr (s : Nat) (o : Nat)
  | eaddr (s : Nat) (p : List Nat) (sz i k : Nat)
  | raddr (cs : List PV)
  | nil (sz : Nat)
  | dead
  | iter (s : ByteArray) (pos : Nat)
  | selfp
  | bld (T e : TypeId) (l : List UInt8)
  | mapc (es : List MapEntry) (clock : Nat)
  | pan (x : Value)
  | clo (f : FuncId) (cs : List PV)
  deriving Inhabited

namespace PV
/-- A value that takes one cell. -/
def one : PV → Bool
  | .v _ => true
  | .ro _ _ => true
  | .own _ _ => true
  | .box _ => true
  | .raddr _ => true
  | .clo _ _ => true
  | .nil _ => true
  | .selfp => true
  | _ => false
def isDead : PV → Bool
  | .dead => true
  | _ => false
/-- A call's answer: it ended in a panic. -/
def isPan : PV → Bool
  | .pan _ => true
  | _ => false
def int (k : IntKind) (n : Int) : PV := .v (.int k n)
def bool (b : Bool) : PV := .v (.bool b)
def str (s : ByteArray) : PV := .v (.string s)
def cells : PV → List PV
  | .agg cs => cs
  | x => [x]
def kids : PV → List PV
  | .agg cs | .tup cs | .box cs => cs
  | _ => []
/-- The value at a path. -/
def sub : PV → List Nat → PV
  | x, [] => x
  | x, o :: p => ((x.kids)[o]?.getD .dead).sub p
def setSub : PV → List Nat → PV → PV
  | _, [], y => y
  | .agg cs, o :: p, y => .agg (cs.set o ((cs[o]?.getD .dead).setSub p y))
  | .tup cs, o :: p, y => .tup (cs.set o ((cs[o]?.getD .dead).setSub p y))
  | .box cs, o :: p, y => .box (cs.set o ((cs[o]?.getD .dead).setSub p y))
  | x, _ :: _, _ => x
/-- A slice that nobody holds yet. -/
def fresh : PV → PV
  | .nil sz => .own sz []
  | x => x
def isObj : PV → Bool
  | .own _ _ => true
  | .box _ => true
  | .iter _ _ => true
  | .bld _ _ _ => true
  | .mapc _ _ => true
  | _ => false
def path : PV → List Nat → Bool
  | _, [] => true
  | x, o :: p => match x.kids[o]? with
    | some c => c.path p
    | none => false
mutual
/-- Is there nothing in it but what never changes? -/
def imm : PV → Bool
  | .v _ => true
  | .ro _ _ => true
  | .raddr _ => true
  | .clo _ _ => true
  | .nil _ => true
  | .agg cs => immL cs && cs.all one
  | _ => false
def immL : List PV → Bool
  | [] => true
  | x :: r => x.imm && immL r
end
mutual
/-- No slice of elements that a lent row may bear. -/
def noRo : PV → Bool
  | .v _ => true
  | .ro _ l => l.isEmpty
  | .own _ l => noRoL l
  | .agg cs | .tup cs | .box cs => noRoL cs
  | .dead => true
  | .nil _ => true
  | .selfp => true
  | .bld _ _ _ => true
  | .mapc _ _ => true
  | _ => false
def noRoL : List PV → Bool
  | [] => true
  | x :: r => x.noRo && noRoL r
end
mutual
/-- Is there something in it that is owned? -/
def hasObj : PV → Bool
  | .own _ _ => true
  | .box _ => true
  | .iter _ _ => true
  | .bld _ _ _ => true
  | .mapc _ _ => true
  | .agg cs | .tup cs => hasObjL cs
  | _ => false
def hasObjL : List PV → Bool
  | [] => false
  | x :: r => x.hasObj || hasObjL r
end
mutual
/-- Does a value speak of a place at slot s whose path the test takes? -/
def ment (s : Nat) (t : List Nat → Bool) : PV → Bool
  | .ref s' p => s' == s && t p
  | .win s' p _ _ _ => s' == s && t p
  | .addr s' _ => s' == s && t []
  | .eaddr s' p _ _ _ => s' == s && t p
  | .agg cs | .tup cs => mentL s t cs
  | _ => false
def mentL (s : Nat) (t : List Nat → Bool) : List PV → Bool
  | [] => false
  | x :: r => x.ment s t || mentL s t r
end
mutual
/-- How a variable's value is seen by an operation: what is owned is told by its place. -/
def view (s : Nat) (p : List Nat) : PV → PV
  | .own _ _ => .ref s p
  | .box _ => .ref s p
  | .iter _ _ => .ref s p
  | .bld _ _ _ => .ref s p
  | .mapc _ _ => .ref s p
  | .selfp => .dead
  | .agg cs => .agg (viewL s p 0 cs)
  | .tup cs => .tup (viewL s p 0 cs)
  | x => x
def viewL (s : Nat) (p : List Nat) (i : Nat) : List PV → List PV
  | [] => []
  | x :: r => x.view s (p ++ [i]) :: viewL s p (i + 1) r
end
mutual
/-- What is owned, made unchangeable. -/
def freeze : PV → PV
  | .own sz l => .ro sz l
  | .nil sz => .ro sz []
  | .agg cs => .agg (freezeL cs)
  | x => x
def freezeL : List PV → List PV
  | [] => []
  | x :: r => x.freeze :: freezeL r
end
end PV

abbrev Env := List (Nat × PV)
namespace Env
def get : Env → Nat → PV
  | [], _ => .dead
  | (k, x) :: r, s => if k = s then x else get r s
def set : Env → Nat → PV → Env
  | [], s, y => [(s, y)]
  | (k, x) :: r, s, y => if k = s then (k, y) :: r else (k, x) :: set r s y
/-- What speaks of those places is forgotten. -/
def kill (s : Nat) (t : List Nat → Bool) : Env → Env
  | [] => []
  | (k, x) :: r => (k, if x.ment s t then .dead else x) :: kill s t r
def put (e : Env) (s : Nat) (y : PV) : Env := if y.hasObj then (e.kill s fun _ => true).set s y else e.set s y
def at_ (e : Env) (s : Nat) (p : List Nat) : PV := (e.get s).sub p
def setAt (e : Env) (s : Nat) (p : List Nat) (y : PV) : Env := e.set s ((e.get s).setSub p y)
/-- A variable, forgotten. -/
def del : Env → Nat → Env
  | [], _ => []
  | (k, x) :: r, s => if k = s then del r s else (k, x) :: del r s
def forget : Env → List Nat → Env
  | e, [] => e
  | e, k :: r => forget (e.del k) r
/-- Only these variables are kept. -/
def keep (ks : List Nat) (e : Env) : Env := ks.map fun k => (k, e.get k)
end Env

/-- Where arguments that are handed over live while the callee runs. -/
def home : Nat := 100000

inductive Opd where
  | t (s : Nat)
  | c (x : Value)
  | nilS (sz : Nat)
  | f (n : FuncId)
  | g (n : Nat) (cs : List PV)
  deriving Inhabited
def Opd.ev (e : Env) : Opd → PV
  | .t s => (e.get s).view s []
  | .c x => .v x
  | .nilS sz => .nil sz
  | .f n => .v (.func (.func n) #[] #[])
  | .g _ cs => .raddr cs
def Opd.op : Opd → Operand
  | .t s => .tmp s
  | .c x => .const x
  | .nilS _ => .const (.slice none 0 0)
  | .f n => .func n
  | .g n _ => .global n

/-- What is told by its place is taken from there. -/
def settle1 (e : Env) : PV → Option (PV × Env)
  | .ref s p => match e.at_ s p with
    | .own sz l => some (.own sz l, e.setAt s p .dead)
    | .box cs => if p.isEmpty then some (.box cs, e.setAt s p .dead) else none
    | .mapc es c => if p.isEmpty then some (.mapc es c, e.setAt s p .dead) else none
    | _ => none
  | .win s p sz lo hi => match e.at_ s p with
    | .own sz' l => if lo = 0 ∧ sz' = sz then some (.own sz (l.take hi), e.setAt s p .dead) else none
    | _ => none
  | .v x => some (.v x, e)
  | .ro sz l => some (.ro sz l, e)
  | .nil sz => some (.own sz [], e)
  | .raddr cs => some (.raddr cs, e)
  | .clo f cs => some (.clo f cs, e)
  | _ => none
def settleL (e : Env) : List PV → Option (List PV × Env)
  | [] => some ([], e)
  | x :: r => do
    let (y, e) ← settle1 e x
    let (ys, e) ← settleL e r
    pure (y :: ys, e)
def settle (e : Env) : PV → Option (PV × Env)
  | .agg cs => do let (ys, e) ← settleL e cs; pure (.agg ys, e)
  | .tup cs => do let (ys, e) ← settleL e cs; pure (.tup ys, e)
  | x => settle1 e x

/-- Values, each taken from its place. -/
def settleP (e : Env) : List PV → Option (List PV × Env)
  | [] => some ([], e)
  | x :: r => do
    let (y, e) ← settle e x
    let (ys, e) ← settleP e r
    pure (y :: ys, e)
/-- The elements that a slice's view tells, and how many cells each has. -/
def elems (e : Env) : PV → Option (Nat × List PV)
  | .ro sz l => some (sz, l)
  | .nil sz => some (sz, [])
  | .ref s p => match e.at_ s p with
    | .own sz l => some (sz, l)
    | _ => none
  | .win s p sz lo hi => match e.at_ s p with
    | .own sz' l => if sz' = sz then some (sz, (l.take hi).drop lo) else none
    | _ => none
  | _ => none
/-- A view, lent: what is owned is told as unchangeable; the places that are lent. -/
def lend1 (e : Env) : PV → Option (PV × List (Nat × List Nat))
  | .v x => some (.v x, [])
  | .ro sz l => some (.ro sz l, [])
  | .nil sz => some (.ro sz [], [])
  | .raddr cs => some (.raddr cs, [])
  | .clo f cs => some (.clo f cs, [])
  | .ref s p => match e.at_ s p with
    | .own sz l => some (.ro sz l, [(s, p)])
    | _ => none
  | .win s p sz lo hi => match e.at_ s p with
    | .own sz' l => if sz' = sz then some (.ro sz ((l.take hi).drop lo), [(s, p)]) else none
    | _ => none
  | _ => none
def lendL (e : Env) : List PV → Option (List PV × List (Nat × List Nat))
  | [] => some ([], [])
  | x :: r => do
    let (y, a) ← lend1 e x
    let (ys, b) ← lendL e r
    pure (y :: ys, a ++ b)
def lend (e : Env) : PV → Option (PV × List (Nat × List Nat))
  | .agg cs => do let (ys, b) ← lendL e cs; pure (.agg ys, b)
  | x => lend1 e x
end Go.AM

/- The abstract machine's run: operations, code, calls. No conditions. -/
namespace Go.AM

/-- Scalars under an operator of two. -/
def binInt (op : BinOp) (k : IntKind) (a b : Int) : Option Value :=
  match op with
  | .add => some (.int k (k.wrap (a + b)))
  | .sub => some (.int k (k.wrap (a - b)))
  | .mul => some (.int k (k.wrap (a * b)))
  | .quo => if b = 0 then none else some (.int k (k.wrap (a.tdiv b)))
  | .rem => if b = 0 then none else some (.int k (a.tmod b))
  | .and => some (.int k (k.wrap (BitVec.ofInt k.bits a &&& BitVec.ofInt k.bits b).toNat))
  | .or => some (.int k (k.wrap (BitVec.ofInt k.bits a ||| BitVec.ofInt k.bits b).toNat))
  | .xor => some (.int k (k.wrap (BitVec.ofInt k.bits a ^^^ BitVec.ofInt k.bits b).toNat))
  | .andNot => some (.int k (k.wrap (BitVec.ofInt k.bits a &&& ~~~ BitVec.ofInt k.bits b).toNat))
  | .eql => some (.bool (a == b))
  | .neq => some (.bool (a != b))
  | .lss => some (.bool (decide (a < b)))
  | .leq => some (.bool (decide (a ≤ b)))
  | .gtr => some (.bool (decide (a > b)))
  | .geq => some (.bool (decide (a ≥ b)))
  | .shl => if b < 0 then none else some (.int k (k.wrap (a * 2 ^ (min b.toNat k.bits))))
  | .shr => if b < 0 then none else some (.int k (a.fdiv (2 ^ (min b.toNat k.bits))))
def binStr (op : BinOp) (a b : ByteArray) : Option Value :=
  match op with
  | .add => if a.size + b.size ≤ 9223372036854775807 then some (.string (a ++ b)) else none
  | .eql => some (.bool (a.toList == b.toList))
  | .neq => some (.bool (!(a.toList == b.toList)))
  | .lss => some (.bool (Op.bytesLess a.toList b.toList))
  | .leq => some (.bool (Op.bytesLess a.toList b.toList || a.toList == b.toList))
  | .gtr => some (.bool (!(Op.bytesLess a.toList b.toList || a.toList == b.toList)))
  | .geq => some (.bool (!(Op.bytesLess a.toList b.toList)))
  | _ => none
def binFloat (op : BinOp) (k : FloatKind) (x y : Nat) : Option Value :=
  match op with
  | .add => (k.format.add x y).map (.float k)
  | .sub => (k.format.sub x y).map (.float k)
  | .mul => (k.format.mul x y).map (.float k)
  | .quo => (k.format.div x y).map (.float k)
  | .eql => some (.bool (k.format.order x y == some .eq))
  | .neq => some (.bool (k.format.order x y != some .eq))
  | .lss => some (.bool (k.format.order x y == some .lt))
  | .leq => some (.bool (k.format.order x y == some .lt || k.format.order x y == some .eq))
  | .gtr => some (.bool (k.format.order x y == some .gt))
  | .geq => some (.bool (k.format.order x y == some .gt || k.format.order x y == some .eq))
  | _ => none
def BinOp.shifts : BinOp → Bool
  | .shl | .shr => true
  | _ => false
def bin (op : BinOp) : PV → PV → Option PV
  | .v (.int k a), .v (.int k' b) => if k = k' ∨ BinOp.shifts op = true then (binInt op k a b).map .v else none
  | .v (.string a), .v (.string b) => (binStr op a b).map .v
  | .v (.float k a), .v (.float k' b) => if k = k' then (binFloat op k a b).map .v else none
  | _, _ => none
inductive EqK where | int | str | bool deriving Inhabited
/-- Equality of plain values, cell by cell. -/
def eqV : EqK → PV → PV → Option Bool
  | .int, .v (.int k a), .v (.int k' b) => if k = k' then some (a == b) else none
  | .str, .v (.string a), .v (.string b) => some (a == b)
  | .bool, .v (.bool a), .v (.bool b) => some (a == b)
  | _, _, _ => none
def eqL : List EqK → List PV → List PV → Option Bool
  | [], [], [] => some true
  | k :: ks, x :: r, y :: q => do
    let b ← eqV k x y
    let c ← eqL ks r q
    pure (b && c)
  | _, _, _ => none
inductive EqT where | one (k : EqK) | st (ks : List EqK) deriving Inhabited
def eqOf : EqT → PV → PV → Option Bool
  | .st ks, .agg xs, .agg ys => eqL ks xs ys
  | .one k, x, y => eqV k x y
  | _, _, _ => none
def eqs (neg : Bool) (ks : EqT) (x y : PV) : Option PV := (eqOf ks x y).map fun b => .v (.bool (if neg then !b else b))
def un (op : UnOp) : PV → Option PV
  | .v (.int k a) => match op with
    | .neg => some (.v (.int k (k.wrap (0 - a))))
    | .xor => some (.v (.int k (k.wrap (BitVec.ofInt k.bits (if k.signed then -1 else k.max) ^^^ BitVec.ofInt k.bits a).toNat)))
    | _ => none
  | .v (.bool b) => match op with
    | .not => some (.v (.bool !b))
    | _ => none
  | .v (.float k x) => match op with
    | .neg => some (.v (.float k (Op.negFloat k x)))
    | _ => none
  | _ => none

inductive ConvK where
  | int (k : IntKind)      -- to a kind of integers
  | same                   -- a text, or what else stays
  | rune                   -- a number to a text
  | bytes                  -- bytes to a text
  | toBytes                -- a text to bytes
  | flt (k : FloatKind)    -- a whole number to a float
  | fint (k : IntKind)     -- a float to a whole number, where it fits
  deriving Inhabited
def byteOfPV : PV → Option UInt8
  | .v (.int .u8 n) => some (UInt8.ofNat n.toNat)
  | _ => none
def bytesOfPV : List PV → Option (List UInt8)
  | [] => some []
  | x :: r => do
    let b ← byteOfPV x
    let bs ← bytesOfPV r
    pure (b :: bs)
def byteList (s : ByteArray) : List PV := s.data.toList.map fun b => .v (.int .u8 b.toNat)
def conv (e : Env) (k : ConvK) (x : PV) : Option PV :=
  match k with
  | .int k => match x with
    | .v (.int _ n) => some (.v (.int k (k.wrap n)))
    | _ => none
  | .same => match x with
    | .v (.string s) => some (.v (.string s))
    | _ => none
  | .rune => match x with
    | .v (.int _ n) => some (.v (.string (Utf8.encode n)))
    | _ => none
  | .bytes => (elems e x).bind fun q => if q.1 = 1 then (bytesOfPV q.2).map fun bs => .v (.string ⟨bs.toArray⟩) else none
  | .toBytes => match x with
    | .v (.string s) => if s.size ≤ 4611686018427387904 then some (.own 1 (byteList s)) else none
    | _ => none
  | .flt k => match x with
    | .v (.int _ n) => some (.v (.float k (k.nearest n)))
    | _ => none
  | .fint k => match x with
    | .v (.float f b) => match (f.decode b).toInt .zero with
      | some n => if k.min ≤ n ∧ n ≤ k.max then some (.v (.int k n)) else none
      | none => none
    | _ => none

def idx (x : PV) (n : Nat) : Option Nat :=
  match x with
  | .v (.int _ i) => if 0 ≤ i ∧ i < n then some i.toNat else none
  | _ => none
def bound (x : PV) (n : Nat) : Option Nat :=
  match x with
  | .v (.int _ i) => if 0 ≤ i ∧ i ≤ n then some i.toNat else none
  | _ => none

def setMany (cs : List PV) (o : Nat) : List PV → List PV
  | [] => cs
  | x :: r => setMany (cs.set o x) (o + 1) r
/-- A struct's cells: each part at its field's place. -/
def fillPV (place : List (Nat × Nat)) (cs : List PV) : List (Nat × PV) → Option (List PV)
  | [] => some cs
  | (i, x) :: r => do
    let (o, n) ← place[i]?
    if x.isDead = false ∧ x.cells.length = n ∧ o + n ≤ cs.length then fillPV place (setMany cs o x.cells) r else none
def cellViews (s : Nat) (cs : List PV) : Nat → Nat → List PV
  | _, 0 => []
  | o, n + 1 => (cs[o]?.getD .dead).view s [o] :: cellViews s cs (o + 1) n
/-- One cell, or so many as a value. -/
def part (n : Option Nat) (cs : List PV) : Option PV :=
  match n with
  | none => cs[0]?
  | some n => if n ≤ cs.length then some (.agg (cs.take n)) else none

/-- Functions of the library that the model answers itself. -/
inductive ExtK where | add64 | idxByteStr | fromBits | toBits deriving Inhabited, DecidableEq
def extPV : ExtK → List PV → Option PV
  | .add64, [.v (.int .u64 x), .v (.int .u64 y), .v (.int .u64 c)] => if 0 ≤ x ∧ 0 ≤ y ∧ 0 ≤ c ∧ c ≤ 1 then some (.tup [.v (.int .u64 ((x + y + c) % 18446744073709551616)), .v (.int .u64 ((x + y + c) / 18446744073709551616))]) else none
  | .idxByteStr, [.v (.string s), .v (.int .u8 c)] => some (.v (.int .i64 (firstIdx s c.toNat.toUInt8)))
  | .fromBits, [.v (.int .u64 x)] => some (.v (.float .f64 x.toNat))
  | .toBits, [.v (.float .f64 x)] => some (.v (.int .u64 x))
  | _, _ => none
inductive SlK where | str | sl (sz : Nat) | arr (n : Nat) deriving Inhabited
inductive IxK where | str | sl (sz : Nat) | arr (n sz : Nat) deriving Inhabited

inductive IOp where
  | move (x : Opd)
  | assign (x : Opd)
  | mark (t : TypeId) (x : Opd)
  | allocB (t e : TypeId)
  | mkmap (t : TypeId)
  | mlook (t : TypeId) (kd : Option IntKind) (z : Value) (x k : Opd)
  | mput (ins : Bool) (t : TypeId) (kd : Option IntKind) (x k v : Opd)
  | throw (x : Opd)
  | mkiface (t : TypeId) (x : Opd)
  | mkclo (f : FuncId) (x : Opd)
  | tass (xt t : TypeId) (x : Opd)
  | range (t : TypeId) (x : Opd)
  | next (x : Opd)
  | pick (c a b : Opd)
  | box (t : TypeId) (x : Opd)
  | alloc (t : TypeId) (zero : List PV)
  | build (t : TypeId) (place : List (Nat × Nat)) (zero : List PV) (parts : List (Nat × Opd))
  | lit (t : TypeId) (sz : Nat) (parts : List Opd)
  | load (t : TypeId) (n : Option Nat) (a : Opd)
  | store (t : TypeId) (n : Option Nat) (a x : Opd)
  | nilck (x : Opd)
  | bin (op : BinOp) (xt : TypeId) (x y : Opd) (yt : TypeId)
  | eqs (neg : Bool) (xt : TypeId) (ks : EqT) (x y : Opd) (yt : TypeId)
  | un (op : UnOp) (xt : TypeId) (x : Opd)
  | conv (src dst : TypeId) (k : ConvK) (x : Opd)
  | mk (t : TypeId) (sz bytes : Nat) (zero : PV) (len cap : Opd)
  | slice (t : TypeId) (k : SlK) (x : Opd) (lo hi mx : Option Opd)
  | faddr (t : TypeId) (x : Opd) (f : Nat) (off : Nat)
  | field (t : TypeId) (x : Opd) (f : Nat) (off : Nat) (n : Option Nat)
  | iaddr (t : TypeId) (k : IxK) (x i : Opd)
  | index (t : TypeId) (k : IxK) (n : Option Nat) (x i : Opd)
  | extr (x : Opd) (j : Nat)
  | call (f : FuncId) (args : List Opd) (argTypes : List TypeId)
  | append (t u : TypeId) (txt : Bool) (sz bytes : Nat) (x y : Opd)
  | len (t : TypeId) (txt : Bool) (x : Opd)
  | minmax (mx : Bool) (ts : List TypeId) (x y : Opd)
  | ext (f : FuncId) (k : ExtK) (args : List Opd) (argTypes : List TypeId)
  | callv (es : List FuncId) (f : Opd) (args : List Opd) (argTypes : List TypeId)
  | other (x : Op)
  deriving Inhabited

structure GOp where
  dst : Option Nat
  op : IOp
  g : Option (Nat × Bool) := none
  kl : List Nat := []
  deriving Inhabited

/-- A statement whose order is free: the operation that is next, and the reads before it that it may also precede. -/
structure PStep where
  i : Nat
  un : List Nat
  deriving Inhabited
/-- A plan: steps; where several operations are ready of which none is free, one branch for each. -/
inductive Plan where
  | nil
  | cons (st : PStep) (r : Plan)
  | fork (ks : List Nat) (l r : Plan)
  deriving Inhabited
def Plan.length : Plan → Nat
  | .nil => 0
  | .cons _ r => r.length + 1
  | .fork _ l r => max l.length r.length
def Plan.heads : Plan → List Nat
  | .nil => []
  | .cons st _ => [st.i]
  | .fork _ l r => l.heads ++ r.heads
inductive IR where
  | skip | ret | label (l : Nat)
  | exit (id : Nat)
  | reg (id : Nat) (ops : List GOp) (plan : Option Plan) (keep : List Nat)
  | regp (id : Nat) (ops : List GOp) (plan : Option Plan) (keep : List Nat)
  | seq (a b : IR)
  | cond (keep : List Nat) (c : Opd) (t e : IR)
  | block (id : Nat) (b : IR)
  | scope (b : IR)
  | loop (keep : List Nat) (b : IR)
  | tail (keep : List Nat) (b : IR)
  | frz (ls : List (Nat × List Nat)) (b : IR)
  /-- A function is deferred that knows the variables and recovers. -/
  | gd (id d : Nat) (cf : FuncId) (caps : List Nat) (hnd : Value → Option (List (List PV))) (b : IR)
  | other
  deriving Inhabited
inductive RV where
  | tmp (s : Nat)
  | cell (s : Nat) (t : TypeId) (n : Option Nat)
  deriving Inhabited
structure AFunc where
  nt : Nat
  res : List RV
  body : IR
  deriving Inhabited

/-- What calls are answered by. -/
abbrev Oracle := FuncId → List PV → Option (PV × List PV)
structure Tab where
  fns : FuncId → Option AFunc
  ext : Oracle
  /-- The parameters that are handed over. -/
  modes : FuncId → List Bool
  glob : Nat → List PV

/-- The handing over of arguments: what is moved is taken from its place. -/
def moves (e : Env) (us : List Nat) : List Bool → List PV → Option (List (Option (PV × Option (Nat × List Nat))) × Env)
  | true :: ms, .ref s p :: xs =>
    match e.at_ s p with
    | .own sz l => do
      let (r, e') ← moves (e.setAt s p .dead) (s :: us) ms xs
      pure (some (.own sz l, some (s, p)) :: r, e')
    | .box cs => if p = [] ∧ us.contains s = false then do
        let (r, e') ← moves (e.setAt s [] .dead) (s :: us) ms xs
        pure (some (.box cs, some (s, [])) :: r, e')
      else none
    | .bld a b l => if p = [] ∧ us.contains s = false then do
        let (r, e') ← moves (e.setAt s [] .dead) (s :: us) ms xs
        pure (some (.bld a b l, some (s, [])) :: r, e')
      else none
    | _ => none
  | true :: ms, .win s p sw lo hi :: xs =>
    match e.at_ s p with
    | .own sz l => if lo = 0 ∧ sw = sz then do
        let (r, e') ← moves (e.setAt s p .dead) (s :: us) ms xs
        pure (some (.own sz (l.take hi), none) :: r, e')
      else none
    | _ => none
  | true :: ms, .nil sz :: xs => do
    let (r, e') ← moves e us ms xs
    pure (some (.nil sz, none) :: r, e')
  | _ :: ms, _ :: xs => do
    let (r, e') ← moves e us ms xs
    pure (none :: r, e')
  | [], xs => some (xs.map fun _ => none, e)
  | _ :: _, [] => some ([], e)
/-- The arguments as they are handed in; what is lent; where what was moved comes back. -/
def pass (e : Env) : List (Option (PV × Option (Nat × List Nat))) → List PV → Option (List PV × List (Nat × List Nat) × List (Option (Nat × List Nat)))
  | some (y, b) :: ms, _ :: xs => do
    let (ys, ls, bs) ← pass e ms xs
    pure (y :: ys, ls, b :: bs)
  | none :: ms, x :: xs => do
    let (y, l) ← lend e x
    let (ys, ls, bs) ← pass e ms xs
    pure (y :: ys, l ++ ls, none :: bs)
  | _, _ => some ([], [], [])
def giveBack1 (e : Env) (s : Nat) (p : List Nat) (y : PV) : Env :=
  match p with
  | [] => (e.kill s fun p => !p.isEmpty).set s y
  | o :: p => if (e.get s).path (o :: p) && y.kids.isEmpty then e.setAt s (o :: p) y else e
def giveBack (e : Env) : List (Option (Nat × List Nat)) → List PV → Env
  | some (s, p) :: bs, y :: ys => giveBack (giveBack1 e s p y) bs ys
  | none :: bs, _ :: ys => giveBack e bs ys
  | _, _ => e
def freezeAll (e : Env) : List (Nat × List Nat) → Env
  | [] => e
  | (s, p) :: r => match e.at_ s p with
    | .own sz l => freezeAll (e.setAt s p (.ro sz l)) r
    | _ => freezeAll e r
/-- A call, however it ends. -/
def callR (T : Tab) (C : Oracle) (e : Env) (f : FuncId) (xs : List PV) : Option (PV × Env) := do
  let (ms, e1) ← moves e [] (T.modes f) xs
  let (ys, lent, bs) ← pass e1 ms xs
  let (res, backs) ← C f ys
  let e2 := if lent.isEmpty || (res.noRo && PV.noRoL backs) then e1 else freezeAll e1 lent
  pure (res, giveBack e2 bs backs)
/-- A call that returns. -/
def call (T : Tab) (C : Oracle) (e : Env) (f : FuncId) (xs : List PV) : Option (PV × Env) := (callR T C e f xs).bind fun r => if r.1.isPan = true then none else some r

def loadAt (e : Env) (n : Option Nat) : PV → Option PV
  | .ref s [] => match e.get s with
    | .box cs => if n.getD 1 ≤ cs.length then part n (cellViews s cs 0 (n.getD 1)) else none
    | _ => none
  | .addr s o => match e.get s with
    | .box cs => if o + n.getD 1 ≤ cs.length then part n (cellViews s cs o (n.getD 1)) else none
    | _ => none
  | .eaddr s p sz i k => match e.at_ s p with
    | .own sz' l => if sz' = sz then match l[i]? with
      | some x => part n (x.cells.drop k)
      | none => none
      else none
    | _ => none
  | .raddr cs => part n cs
  | _ => none
/-- Cells behind k of an element written anew. -/
def setElem (z : PV) (k : Nat) (ys : List PV) : PV :=
  match z with
  | .agg cs => .agg (setMany cs k ys)
  | _ => ys[0]?.getD .dead
def storeBox (e : Env) (s o : Nat) (ys : List PV) : Option Env :=
  match e.get s with
  | .box cs => if o + ys.length ≤ cs.length then some ((e.kill s fun p => !p.isEmpty).set s (.box (setMany cs o ys))) else none
  | _ => none
def storeElem (e : Env) (s : Nat) (p : List Nat) (sz i k : Nat) (ys : List PV) : Option Env :=
  match e.at_ s p with
  | .own sz' l => match l[i]? with
    | some z => if sz' = sz ∧ k + ys.length ≤ z.cells.length ∧ 0 < ys.length ∧ PV.immL (PV.freezeL ys) = true then some (e.setAt s p (.own sz (l.set i (setElem z k (PV.freezeL ys))))) else none
    | none => none
  | _ => none
def storeAt (e : Env) (n : Option Nat) (a : PV) (ys : List PV) : Option Env :=
  if ys.length = n.getD 1 ∧ ys.all PV.one = true then
    match a with
    | .ref s [] => storeBox e s 0 ys
    | .addr s o => storeBox e s o ys
    | .eaddr s p sz i k => storeElem e s p sz i k ys
    | _ => none
  else none
/-- A bound that may not be there. -/
def boundOr (x : Option PV) (n d : Nat) : Option Nat :=
  match x with
  | some y => bound y n
  | none => some d
def sliceStr (x : PV) (lo hi : Option PV) : Option PV :=
  match x with
  | .v (.string s) => (boundOr hi s.size s.size).bind fun h => (boundOr lo h 0).map fun l => .v (.string (s.extract l h))
  | _ => none
def window (sz : Nat) (x : PV) (l h : Nat) : Option PV :=
  match x with
  | .ro sz xs => some (.ro sz ((xs.take h).drop l))
  | .nil sz => some (.nil sz)
  | .ref s p => some (.win s p sz l h)
  | .win s p sz lo _ => some (.win s p sz (lo + l) (lo + h))
  | _ => none
def sliceSl (e : Env) (sz : Nat) (x : PV) (lo hi mx : Option PV) : Option PV :=
  (elems e x).bind fun q =>
    if q.1 ≠ sz ∨ (mx.isSome && hi.isNone) = true then none else
    (boundOr mx q.2.length q.2.length).bind fun m => (boundOr hi m q.2.length).bind fun h => (boundOr lo h 0).bind fun l => window sz x l h
def indexSl (e : Env) (sz : Nat) (x i : PV) : Option PV :=
  match x with
  | .ro sz' l => if sz' = sz then (idx i l.length).bind fun j => l[j]?.map fun y => .raddr y.cells else none
  | .ref s p => match e.at_ s p with
    | .own sz' l => if sz' = sz then (idx i l.length).map fun j => .eaddr s p sz j 0 else none
    | _ => none
  | .win s p sw lo hi => match e.at_ s p with
    | .own sz' l => if sz' = sz ∧ sw = sz then (idx i (hi - lo)).bind fun j => if lo + j < l.length then some (.eaddr s p sz (lo + j) 0) else none else none
    | _ => none
  | _ => none
/-- An address, moved on by cells. -/
def offAddr (e : Env) (x : PV) (o : Nat) : Option PV :=
  match x with
  | .ref s [] => match e.get s with
    | .box _ => some (.addr s o)
    | _ => none
  | .addr s k => match e.get s with
    | .box _ => some (.addr s (k + o))
    | _ => none
  | .eaddr s p z a k => match e.at_ s p with
    | .own _ _ => some (.eaddr s p z a (k + o))
    | _ => none
  | .raddr cs => some (.raddr (cs.drop o))
  | _ => none
def indexArr (e : Env) (x i : PV) (n sz : Nat) : Option PV := (idx i n).bind fun j => offAddr e x (j * sz)
def moreOf (e : Env) (txt : Bool) (y : PV) : Option (Nat × List PV) :=
  if txt then match y with
    | .v (.string s) => some (1, byteList s)
    | _ => none
  else elems e y
def appendTo (e : Env) (sz : Nat) (l ys : List PV) : PV → Option (PV × Env)
  | .nil _ => some (.own sz ys, e)
  | .ref s p => some (.own sz (l ++ ys), e.setAt s p .dead)
  | .win s p _ lo _ => if lo = 0 then some (.own sz (l ++ ys), e.setAt s p .dead) else none
  | _ => none
def appendPV (e : Env) (txt : Bool) (sz bytes : Nat) (x y : PV) : Option (PV × Env) :=
  (elems e x).bind fun q => (moreOf e txt y).bind fun r =>
    if q.1 = sz ∧ r.1 = sz ∧ (q.2.length + r.2.length) * bytes ≤ 140737488355328 ∧ q.2.length + r.2.length ≤ 4611686018427387904 then appendTo e sz q.2 r.2 x else none
def lenPV (e : Env) (txt : Bool) (x : PV) : Option Nat :=
  if txt then match x with
    | .v (.string s) => some s.size
    | _ => none
  else (elems e x).map fun q => q.2.length
def optPV (e : Env) : Option Opd → Option PV
  | none => none
  | some x => some (x.ev e)
/-- A walk through a text, from its beginning; its next character. -/
def rangePV (e : Env) : PV → Option (PV × Env)
  | .v (.string s) => some (.iter s 0, e)
  | _ => none
def nextPV (e : Env) : PV → Option (PV × Env)
  | .ref s [] => match e.get s with
    | .iter str pos => if pos < str.size then some (.tup [.v (.bool true), .v (.int .i64 pos), .v (.int .i32 (Utf8.decode str pos).1)], e.setAt s [] (.iter str (pos + (Utf8.decode str pos).2))) else some (.tup [.v (.bool false)], e)
    | _ => none
  | _ => none
/-- A row of bytes that is told to have come from a text. -/
def markPV : Option (PV × Env) → Option (PV × Env)
  | some (.own sz (y :: l), e) => some (.own sz (y :: l), e)
  | _ => none
/-! Maps -/
def kdOf : Option IntKind → TypeDesc
  | none => .string
  | some k => .int k
def lookPV (e : Env) (kd : Option IntKind) (z : Value) (x k : PV) : Option (PV × Env) :=
  match x, k with
  | .ref s [], .v kv => match e.get s with
    | .mapc es _ => match Instr.findNow (kdOf kd) kv es 0 with
      | some (some (_, v)) => if v.oneCell' = true then some (.v v, e) else none
      | some none => if z.oneCell' = true then some (.v z, e) else none
      | none => none
    | _ => none
  | _, _ => none
def putPV (e : Env) (kd : Option IntKind) (x k v : PV) : Option (PV × Env) :=
  match x, k, v with
  | .ref s [], .v kv, .v vv => match e.get s with
    | .mapc es c => match Instr.findNow (kdOf kd) kv es 0 with
      | some (some (i, _)) => match es[i]? with
        | some en => if Instr.sameBits 0 en.key kv = true then some (.dead, e.setAt s [] (.mapc (es.modify i fun m => { m with key := kv, val := vv }) c)) else none
        | none => none
      | some none => some (.dead, e.setAt s [] (.mapc (es ++ [⟨kv, vv, c⟩]) (c + 1)))
      | none => none
    | _ => none
  | _, _, _ => none
/-- Plain values, as the real machine has them. -/
def plainL : List PV → Option (List Value)
  | [] => some []
  | .v x :: r => (plainL r).map (x :: ·)
  | _ :: _ => none
def plainV : PV → Option Value
  | .v x => some x
  | .agg cs => (plainL cs).map fun vs => .agg vs.toArray
  | _ => none
def unplain : Value → Option PV
  | .agg vs => if vs.toList.all Value.oneCell' = true then some (.agg (vs.toList.map .v)) else none
  | .tuple _ => none
  | v => some (.v v)
/-- What an interface value holds, where it is of the type. -/
def tassPV (t : TypeId) : PV → Option PV
  | .v (.iface t' v) => if t' = t then (unplain v).map fun y => .tup [y, .v (.bool true)] else none
  | _ => none
/-- A function that knows a variable: the variable is made unchangeable. -/
def cloPV (e : Env) (f : FuncId) : PV → Option (PV × Env)
  | .ref s [] => match e.get s with
    | .box cs => if (plainL cs).isSome = true then some (.clo f cs, e.setAt s [] (.raddr cs)) else none
    | _ => none
  | _ => none
/-- Whom the call of a value calls, and with what beside the arguments. -/
def calleeOf (es : List FuncId) : PV → Option (FuncId × List PV)
  | .v (.func (.func n) a b) => if a.isEmpty = true ∧ b.isEmpty = true ∧ n ∈ es then some (n, []) else none
  | .clo n cs => if n ∈ es then some (n, [.raddr cs]) else none
  | _ => none
/-- An operation: its value, and the variables behind it. -/
def ev (T : Tab) (C : Oracle) (e : Env) : IOp → Option (PV × Env)
  | .move x => some (x.ev e, e)
  | .assign x => settle e (x.ev e)
  | .mark _ x => markPV (settle1 e (x.ev e))
  | .range _ x => rangePV e (x.ev e)
  | .allocB t b => some (.bld t b [], e)
  | .mkmap _ => some (.mapc [] 0, e)
  | .mlook _ kd z x k => lookPV e kd z (x.ev e) (k.ev e)
  | .mput _ _ kd x k v => putPV e kd (x.ev e) (k.ev e) (v.ev e)
  | .throw _ => none
  | .mkclo f x => cloPV e f (x.ev e)
  | .tass _ t x => (tassPV t (x.ev e)).map (·, e)
  | .mkiface t x => (plainV (x.ev e)).map fun v => (.v (.iface t v), e)
  | .next x => nextPV e (x.ev e)
  | .pick c a b => match c.ev e with
    | .v (.bool t) => some (if t then a.ev e else b.ev e, e)
    | _ => none
  | .box _ x => do
    let (y, e') ← settle e (x.ev e)
    pure (.box y.cells, e')
  | .alloc _ zero => some (.box (zero.map PV.fresh), e)
  | .build _ place zero parts => do
    let cs ← fillPV place zero (parts.map fun p => (p.1, p.2.ev e))
    pure (.agg cs, e)
  | .lit _ sz parts => do
    let (ys, e') ← settleP e (parts.map fun p => p.ev e)
    let zs := PV.freezeL ys
    if (zs.all fun z => z.cells.length == sz) && PV.immL zs then pure (.own sz zs, e') else none
  | .load _ n a => (loadAt e n (a.ev e)).map (·, e)
  | .store _ n a x => do
    let (y, e') ← settle e (x.ev e)
    let e'' ← storeAt e' n (a.ev e) y.cells
    pure (.dead, e'')
  | .nilck x => match x.ev e with
    | .ref s [] => match e.get s with
      | .box _ => some (.ref s [], e)
      | _ => none
    | .v y => match y with
      | .func fn a b => match a.isEmpty, fn with
        | true, .func _ => some (.v (.func fn a b), e)
        | _, _ => none
      | _ => none
    | .clo f cs => some (.clo f cs, e)
    | z => (offAddr e z 0).map (·, e)
  | .bin op _ x y _ => (bin op (x.ev e) (y.ev e)).map (·, e)
  | .eqs neg _ ks x y _ => (eqs neg ks (x.ev e) (y.ev e)).map (·, e)
  | .un op _ x => (un op (x.ev e)).map (·, e)
  | .conv _ _ k x => (conv e k (x.ev e)).map (·, e)
  | .mk _ sz bytes zero len cap => match len.ev e, cap.ev e with
    | .v (.int .i64 n), .v (.int .i64 m) => if 0 ≤ n ∧ n ≤ m ∧ m * bytes ≤ 281474976710656 ∧ m ≤ 4611686018427387904 ∧ zero.cells.length = sz ∧ zero.imm = true then some (.own sz (List.replicate n.toNat zero), e) else none
    | _, _ => none
  | .slice _ k x lo hi mx => match k with
    | .str => (sliceStr (x.ev e) (optPV e lo) (optPV e hi)).map (·, e)
    | .sl sz => (sliceSl e sz (x.ev e) (optPV e lo) (optPV e hi) (optPV e mx)).map (·, e)
    | .arr _ => none
  | .faddr _ x _ off => (offAddr e (x.ev e) off).map (·, e)
  | .field _ x _ off n => match x.ev e with
    | .agg cs => (part n (cs.drop off)).map (·, e)
    | _ => none
  | .iaddr _ k x i => match k with
    | .sl sz => (indexSl e sz (x.ev e) (i.ev e)).map (·, e)
    | .arr n sz => (indexArr e (x.ev e) (i.ev e) n sz).map (·, e)
    | .str => none
  | .index _ k n x i => match k with
    | .str => match x.ev e with
      | .v (.string s) => (idx (i.ev e) s.size).map fun j => (.v (.int .u8 (s.data.toList.getD j 0).toNat), e)
      | _ => none
    | .arr m sz => match x.ev e with
      | .agg cs => (idx (i.ev e) m).bind fun j => (part n (cs.drop (j * sz))).map (·, e)
      | _ => none
    | .sl _ => none
  | .extr x j => match x.ev e with
    | .tup cs => match cs[j]? with
      | some y => some (y, e)
      | none => none
    | _ => none
  | .call f args _ => call T C e f (args.map fun a => a.ev e)
  | .append _ _ txt sz bytes x y => appendPV e txt sz bytes (x.ev e) (y.ev e)
  | .len _ txt x => (lenPV e txt (x.ev e)).map fun (n : Nat) => (PV.v (.int .i64 (n : Int)), e)
  | .minmax mx _ x y => match x.ev e, y.ev e with
    | .v (.int k a), .v (.int k' b) => if k = k' then some (.v (.int k (if mx then (if b > a then b else a) else (if b < a then b else a))), e) else none
    | _, _ => none
  | .ext _ k args _ => (extPV k (args.map fun a => a.ev e)).map (·, e)
  | .callv es f args _ => (calleeOf es (f.ev e)).bind fun q => call T C e q.1 ((args.map fun a => a.ev e) ++ q.2)
  | .other _ => none

/-- A call: whom, and with what. -/
def IOp.calls (e : Env) : IOp → Option (FuncId × List PV)
  | .call f args _ => some (f, args.map fun a => a.ev e)
  | .callv es f args _ => (calleeOf es (f.ev e)).map fun q => (q.1, (args.map fun a => a.ev e) ++ q.2)
  | _ => none
/-- The panic that an operation ends in. -/
def panOf (T : Tab) (C : Oracle) (e : Env) (op : IOp) : Option (Value × Env) :=
  match op with
  | .throw x => match x.ev e with
    | .v (.iface t v) => some (.iface t v, e)
    | _ => none
  | op => (op.calls e).bind fun q => (callR T C e q.1 q.2).bind fun r => match r.1 with
    | .pan x => some (x, r.2)
    | _ => none
def putDst (e : Env) (d : Option Nat) (y : PV) : Env :=
  match d with
  | some d => e.put d y
  | none => e
/-- Is the operation to be carried out? -/
def wantedA (all : List GOp) (e : Env) (g : Option (Nat × Bool)) : Option Bool :=
  match g with
  | none => some true
  | some (j, want) => match all[j]? with
    | some o => match o.dst with
      | some d => match e.get d with
        | .v (.bool b) => some (b == want)
        | .tup [] => some false
        | _ => none
      | none => none
    | none => none
/-- The operations of a statement, one behind the other. -/
def opsRun (T : Tab) (C : Oracle) (all : List GOp) : List GOp → Env → Option Env
  | [], e => some e
  | o :: r, e =>
    match wantedA all e o.g with
    | some true => do
      let (y, e') ← ev T C e o.op
      opsRun T C all r ((putDst e' o.dst y).forget o.kl)
    | some false => opsRun T C all r ((putDst e o.dst (.tup [])).forget o.kl)
    | none => none
/-- Where an operation reads memory that is owned. -/
def readsOf (e : Env) (i : Nat) : IOp → List (Nat × Option Nat)
  | .load _ _ a => match a.ev e with
    | .ref s [] => [(i, some s)]
    | .addr s _ => [(i, some s)]
    | .eaddr s [] _ _ _ => [(i, some s)]
    | .raddr _ => []
    | _ => [(i, none)]
  | _ => []
/-- What is handed over is no part of what stands at the variable. -/
def keepsS (s : Nat) (r : List (Option (PV × Option (Nat × List Nat)))) : Bool := r.all fun x => match x with
  | none => true
  | some (.nil _, none) => true
  | some (.box cs, some (t, [])) => !PV.hasObjL cs && t != s
  | _ => false
/-- An operation that leaves alone what stands at the variable. -/
def leaves (T : Tab) (C : Oracle) (e : Env) (s : Nat) : IOp → Bool
  | .call f args _ => match moves e [] (T.modes f) (args.map fun a => a.ev e) with
    | some (r, _) => keepsS s r
    | none => false
  | .callv es f args _ => match calleeOf es (f.ev e) with
    | some q => match moves e [] (T.modes q.1) ((args.map fun a => a.ev e) ++ q.2) with
      | some (r, _) => keepsS s r
      | none => false
    | none => false
  | o => (ev T C (e.set s .dead) o).isSome
def unOK (T : Tab) (C : Oracle) (e : Env) (rds : List (Nat × Option Nat)) (un : List Nat) (o : IOp) : Bool :=
  rds.all fun x => !(un.contains x.1) || match x.2 with
    | some s => (e.get s).isObj && leaves T C e s o
    | none => false
def dstOK (rds : List (Nat × Option Nat)) (d : Option Nat) : Bool := rds.all fun x => x.2.isNone || x.2 != d
/-! ### Sameness of what the machine holds, by running -/
def litSame : Value → Value → Bool
  | .int k a, .int k' b => decide (k = k') && decide (a = b)
  | .bool a, .bool b => decide (a = b)
  | .string a, .string b => decide (a.data = b.data)
  | .float k a, .float k' b => decide (k = k') && decide (a = b)
  | _, _ => false
theorem litSame_eq {x y : Value} (h : litSame x y = true) : x = y := by
  cases x <;> cases y <;> simp only [litSame, Bool.and_eq_true, decide_eq_true_eq, Bool.false_eq_true] at h
  · rw [h]
  · rw [h.1, h.2]
  · rw [h.1, h.2]
  · rename_i a b
    cases a
    cases b
    simp only at h
    rw [h]
mutual
def PV.same : PV → PV → Bool
  | .v x, .v y => litSame x y
  | .agg a, .agg b => PV.sameL a b
  | .tup a, .tup b => PV.sameL a b
  | .ro s a, .ro t b => decide (s = t) && PV.sameL a b
  | .own s a, .own t b => decide (s = t) && PV.sameL a b
  | .box a, .box b => PV.sameL a b
  | .ref s p, .ref t q => decide (s = t) && decide (p = q)
  | .win s p a b c, .win s' p' a' b' c' => decide (s = s' ∧ p = p' ∧ a = a' ∧ b = b' ∧ c = c')
  | .addr s o, .addr t q => decide (s = t) && decide (o = q)
  | .eaddr s p a b c, .eaddr s' p' a' b' c' => decide (s = s' ∧ p = p' ∧ a = a' ∧ b = b' ∧ c = c')
  | .raddr a, .raddr b => PV.sameL a b
  | .nil s, .nil t => decide (s = t)
  | .dead, .dead => true
  | .iter s p, .iter t q => decide (s.data = t.data) && decide (p = q)
  | .selfp, .selfp => true
  | .bld T e l, .bld T' e' l' => decide (T = T' ∧ e = e' ∧ l = l')
  | _, _ => false
def PV.sameL : List PV → List PV → Bool
  | [], [] => true
  | a :: r, b :: s => PV.same a b && PV.sameL r s
  | _, _ => false
end
theorem ba_eq {a b : ByteArray} (h : a.data = b.data) : a = b := by
  cases a
  cases b
  simp only at h
  rw [h]
mutual
theorem PV.same_eq : ∀ {x y : PV}, PV.same x y = true → x = y
  | .v x, y, h => by
    cases y <;> simp only [PV.same, Bool.false_eq_true] at h
    rw [litSame_eq h]
  | .agg a, y, h => by
    cases y <;> simp only [PV.same, Bool.false_eq_true] at h
    rw [PV.sameL_eq h]
  | .tup a, y, h => by
    cases y <;> simp only [PV.same, Bool.false_eq_true] at h
    rw [PV.sameL_eq h]
  | .ro s a, y, h => by
    cases y <;> simp only [PV.same, Bool.false_eq_true, Bool.and_eq_true, decide_eq_true_eq] at h
    rw [h.1, PV.sameL_eq h.2]
  | .own s a, y, h => by
    cases y <;> simp only [PV.same, Bool.false_eq_true, Bool.and_eq_true, decide_eq_true_eq] at h
    rw [h.1, PV.sameL_eq h.2]
  | .box a, y, h => by
    cases y <;> simp only [PV.same, Bool.false_eq_true] at h
    rw [PV.sameL_eq h]
  | .ref s p, y, h => by
    cases y <;> simp only [PV.same, Bool.false_eq_true, Bool.and_eq_true, decide_eq_true_eq] at h
    rw [h.1, h.2]
  | .win s p a b c, y, h => by
    cases y <;> simp only [PV.same, Bool.false_eq_true, decide_eq_true_eq] at h
    obtain ⟨rfl, rfl, rfl, rfl, rfl⟩ := h
    rfl
  | .addr s o, y, h => by
    cases y <;> simp only [PV.same, Bool.false_eq_true, Bool.and_eq_true, decide_eq_true_eq] at h
    rw [h.1, h.2]
  | .eaddr s p a b c, y, h => by
    cases y <;> simp only [PV.same, Bool.false_eq_true, decide_eq_true_eq] at h
    obtain ⟨rfl, rfl, rfl, rfl, rfl⟩ := h
    rfl
  | .raddr a, y, h => by
    cases y <;> simp only [PV.same, Bool.false_eq_true] at h
    rw [PV.sameL_eq h]
  | .nil s, y, h => by
    cases y <;> simp only [PV.same, Bool.false_eq_true, decide_eq_true_eq] at h
    rw [h]
  | .dead, y, h => by
    cases y <;> simp only [PV.same, Bool.false_eq_true] at h
    rfl
  | .iter s p, y, h => by
    cases y <;> simp only [PV.same, Bool.false_eq_true, Bool.and_eq_true, decide_eq_true_eq] at h
    rw [ba_eq h.1, h.2]
  | .selfp, y, h => by
    cases y <;> simp only [PV.same, Bool.false_eq_true] at h
    rfl
  | .bld T e l, y, h => by
    cases y <;> simp only [PV.same, Bool.false_eq_true, decide_eq_true_eq] at h
    obtain ⟨rfl, rfl, rfl⟩ := h
    rfl
theorem PV.sameL_eq : ∀ {x y : List PV}, PV.sameL x y = true → x = y
  | [], y, h => by
    cases y <;> simp only [PV.sameL, Bool.false_eq_true] at h
    rfl
  | a :: r, y, h => by
    cases y <;> simp only [PV.sameL, Bool.false_eq_true, Bool.and_eq_true] at h
    rw [PV.same_eq h.1, PV.sameL_eq h.2]
end
/-- Environments: the same slots in the same order. -/
def sameEnv : Env → Env → Bool
  | [], [] => true
  | a :: r, b :: s => decide (a.1 = b.1) && PV.same a.2 b.2 && sameEnv r s
  | _, _ => false
theorem sameEnv_eq : ∀ {x y : Env}, sameEnv x y = true → x = y
  | [], [], _ => rfl
  | [], _ :: _, h => by simp [sameEnv] at h
  | _ :: _, [], h => by simp [sameEnv] at h
  | a :: r, b :: s, h => by
    simp only [sameEnv, Bool.and_eq_true, decide_eq_true_eq] at h
    rw [sameEnv_eq h.2]
    congr 1
    exact Prod.ext h.1.1 (PV.same_eq h.1.2)
/-- Two branches' ends: the same where they are kept. -/
def forkEnv (ks : List Nat) : Option Env → Option Env → Option Env
  | some x, some y => if sameEnv (x.keep ks) (y.keep ks) then some (x.keep ks) else none
  | _, _ => none
theorem forkEnv_some {ks : List Nat} {x y : Option Env} {e : Env} (h : forkEnv ks x y = some e) : ∃ a b, x = some a ∧ y = some b ∧ e = a.keep ks ∧ e = b.keep ks := by
  cases x with
  | none => cases h
  | some a =>
    cases y with
    | none => cases h
    | some b =>
      simp only [forkEnv] at h
      split at h
      · rename_i hc
        cases h
        exact ⟨a, b, rfl, rfl, rfl, sameEnv_eq hc⟩
      · cases h
theorem forkEnv_of {ks : List Nat} {x y x' y' : Option Env} {e : Env} (h : forkEnv ks x y = some e) (hx : ∀ a, x = some a → x' = some a) (hy : ∀ a, y = some a → y' = some a) : forkEnv ks x' y' = some e := by
  obtain ⟨a, b, rfl, rfl, _⟩ := forkEnv_some h
  rw [hx a rfl, hy b rfl]
  exact h
def planRun (T : Tab) (C : Oracle) (all : List GOp) : List (Nat × Option Nat) → Plan → Env → Option Env
  | _, .nil, e => some e
  | rds, .cons st r, e =>
    match all[st.i]? with
    | none => none
    | some o => match wantedA all e o.g with
      | some true => do
        let (y, e') ← ev T C e o.op
        if unOK T C e rds st.un o.op && dstOK (readsOf e st.i o.op ++ rds) o.dst then planRun T C all (readsOf e st.i o.op ++ rds) r ((putDst e' o.dst y).forget o.kl) else none
      | some false => if dstOK rds o.dst then planRun T C all rds r ((putDst e o.dst (.tup [])).forget o.kl) else none
      | none => none
  | rds, .fork ks l r, e => forkEnv ks (planRun T C all rds l e) (planRun T C all rds r e)

inductive Out where | normal | ret | exit (id : Nat) | pan (x : Value) deriving Inhabited
/-- The same, where an operation may end in a panic. -/
def opsRunP (T : Tab) (C : Oracle) (all : List GOp) : List GOp → Env → Option (Out × Env)
  | [], e => some (.normal, e)
  | o :: r, e =>
    match wantedA all e o.g with
    | some true => match panOf T C e o.op with
      | some q => some (.pan q.1, q.2)
      | none => do
        let (y, e') ← ev T C e o.op
        opsRunP T C all r ((putDst e' o.dst y).forget o.kl)
    | some false => opsRunP T C all r ((putDst e o.dst (.tup [])).forget o.kl)
    | none => none
def forkOut (ks : List Nat) : Option (Out × Env) → Option (Out × Env) → Option (Out × Env)
  | some (.normal, x), some (.normal, y) => (forkEnv ks (some x) (some y)).map fun e => (.normal, e)
  | _, _ => none
def planRunP (T : Tab) (C : Oracle) (all : List GOp) : List (Nat × Option Nat) → Plan → Env → Option (Out × Env)
  | _, .nil, e => some (.normal, e)
  | rds, .cons st r, e =>
    match all[st.i]? with
    | none => none
    | some o => match wantedA all e o.g with
      | some true => match panOf T C e o.op with
        | some q => some (.pan q.1, [])
        | none => do
          let (y, e') ← ev T C e o.op
          if unOK T C e rds st.un o.op && dstOK (readsOf e st.i o.op ++ rds) o.dst then planRunP T C all (readsOf e st.i o.op ++ rds) r ((putDst e' o.dst y).forget o.kl) else none
      | some false => if dstOK rds o.dst then planRunP T C all rds r ((putDst e o.dst (.tup [])).forget o.kl) else none
      | none => none
  | rds, .fork ks l r, e => forkOut ks (planRunP T C all rds l e) (planRunP T C all rds r e)
def loopN (body : Env → Option (Out × Env)) (ks : List Nat) : Nat → Env → Option (Out × Env)
  | 0, _ => none
  | n + 1, e =>
    match body (e.keep ks) with
    | some (.normal, e') => loopN body ks n e'
    | r => r
/-- Rows stand at all these places: they may be made unchangeable. -/
def rowAt : PV → Bool
  | .own _ _ => true
  | .ro _ _ => true
  | _ => false
def frzOK (e : Env) (ls : List (Nat × List Nat)) : Bool := ls.all fun x => (e.get x.1).path x.2 && rowAt (e.at_ x.1 x.2)
/-- Variables that a deferred function knows get homes of their own. -/
def rehome (e : Env) (k : Nat) : List Nat → Option Env
  | [] => some e
  | s :: r => match e.get s with
    | .box cs => if (e.get k).isDead = true ∧ s < home then rehome (((e.setAt s [] .dead).put k (.box cs)).put s (.ref k [])) (k + 1) r else none
    | _ => none
/-- What the deferred function writes. -/
def setBoxes (e : Env) (k : Nat) : List (List PV) → Option Env
  | [] => some e
  | ys :: r => match e.get k with
    | .box cs => if ys.length = cs.length then setBoxes ((e.kill k fun p => !p.isEmpty).set k (.box (ys.map PV.fresh))) (k + 1) r else none
    | _ => none
def gdEnd (n : Nat) (hnd : Value → Option (List (List PV))) : Option (Out × Env) → Option (Out × Env)
  | some (.pan x, e) => (hnd x).bind fun news => if news.length = n then (setBoxes e 200000 news).map fun e => (.ret, e) else none
  | r => r
def exec (T : Tab) (C : Oracle) (n : Nat) : IR → Env → Option (Out × Env)
  | .skip, e => some (.normal, e)
  | .ret, e => some (.ret, e)
  | .label _, e => some (.normal, e)
  | .exit id, e => some (.exit id, e)
  | .reg _ ops plan ks, e => match plan with
    | none => (opsRun T C ops ops e).map fun e' => (.normal, e'.keep ks)
    | some p => (planRun T C ops [] p e).map fun e' => (.normal, e'.keep ks)
  | .regp _ ops plan ks, e => match plan with
    | none => (opsRunP T C ops ops e).map fun r => (r.1, r.2.keep ks)
    | some p => (planRunP T C ops [] p e).map fun r => (r.1, r.2.keep ks)
  | .seq a b, e =>
    match exec T C n a e with
    | some (.normal, e') => exec T C n b e'
    | r => r
  | .cond ks c a b, e =>
    match c.ev e with
    | .v (.bool true) => exec T C n a (e.keep ks)
    | .v (.bool false) => exec T C n b (e.keep ks)
    | _ => none
  | .block id b, e =>
    match exec T C n b e with
    | some (.exit i, e') => if i = id then some (.normal, e') else some (.exit i, e')
    | r => r
  | .scope b, e => exec T C n b e
  | .loop ks b, e => loopN (exec T C n b) ks n e
  | .tail ks b, e => exec T C n b (e.keep ks)
  | .frz ls b, e => if frzOK e ls then exec T C n b (freezeAll e ls) else none
  | .gd _ d _ caps hnd b, e => (rehome (e.put d .dead) 200000 caps).bind fun e => gdEnd caps.length hnd (exec T C n b e)
  | .other, _ => none
/-- The results, taken from their variables. -/
def results (e : Env) : List RV → Option (List PV × Env)
  | [] => some ([], e)
  | .tmp s :: r => do
    let (y, e') ← settle e ((e.get s).view s [])
    let (ys, e'') ← results e' r
    pure (y :: ys, e'')
  | .cell s _ n :: r =>
    match (e.get s).view s [] with
    | .ref s' [] => match e.get s' with
      | .box cs => if n.getD 1 ≤ cs.length then do
          let x ← part n (cellViews s' cs 0 (n.getD 1))
          let (y, e') ← settle e x
          let (ys, e'') ← results e' r
          pure (y :: ys, e'')
        else none
      | _ => none
    | _ => none
def single : List PV → PV
  | [x] => x
  | l => .tup l
def enter (i : Nat) : List PV → Env
  | [] => []
  | x :: r => if x.isObj then (i, .ref (home + i) []) :: (home + i, x) :: enter (i + 1) r else (i, x) :: enter (i + 1) r
/-- What is left in the arguments' homes. -/
def left1 : PV → PV
  | .own sz l => .own sz l
  | .box cs => .box cs
  | .bld T e l => .bld T e l
  | .ro sz l => .ro sz l
  | _ => .dead
def left (e : Env) (i : Nat) : List PV → List PV
  | [] => []
  | x :: r => (if x.isObj then left1 (e.get (home + i)) else .dead) :: left e (i + 1) r
def runFn (T : Tab) (C : Oracle) (n : Nat) (f : AFunc) (args : List PV) : Option (PV × List PV) :=
  if args.length ≤ f.nt then
    match exec T C n f.body (enter 0 args) with
    | some (.normal, e) | some (.ret, e) => do
      let (ys, e') ← results e f.res
      pure (single ys, left e' 0 args)
    | some (.pan x, _) => some (.pan x, args.map fun _ => .dead)
    | _ => none
  else none
def callN (T : Tab) : Nat → Oracle
  | 0, _, _ => none
  | n + 1, f, args =>
    match T.ext f args with
    | some r => some r
    | none => match T.fns f with
      | some a => runFn T (callN T n) n a args
      | none => none
end Go.AM

/- What the abstract machine's values mean in the real machine's memory, and how that lasts. No conditions. -/
namespace Go.AM
open Go

def unfrozen (fr : Nat × Nat) (n : Nat) : Prop := fr.1 = fr.2 ∨ n ≤ fr.1
theorem unfrozen.le {fr : Nat × Nat} {n : Nat} (h : unfrozen fr n) : fr.2 ≤ fr.1 ∨ n ≤ fr.1 := h.imp (fun h => Nat.le_of_eq h.symm) id
def CellsAt (w : World) (A : Addr) (us : List Value) : Prop := ∀ j u, us[j]? = some u → w.cell? (A.add j) = some u
def flatV (vs : List Value) : List Value := vs.flatMap fun v => v.cells.toList
def SzOk (sz : Nat) (l : List PV) : Prop := ∀ x ∈ l, x.cells.length = sz ∧ x.imm = true
/-- A row that is owned: one block, its first cells told. -/
def RowAt (w : World) (sz n : Nat) (V : Value) (g : Nat) (us : List Value) : Prop :=
  ∃ cap cur t fr, V = .slice (some ⟨g, 0, none⟩) n cap ∧ w.heap[g]? = some (.cells cur t fr) ∧ n ≤ cap ∧ cap ≤ maxLen ∧ cap * sz ≤ cur.size ∧ unfrozen fr (cap * sz) ∧ cur.toList.take (n * sz) = us
def BoxAt (w : World) (V : Value) (g : Nat) (us : List Value) : Prop :=
  ∃ cur t fr, V = .pointer (some ⟨g, 0, none⟩) ∧ w.heap[g]? = some (.cells cur t fr) ∧ unfrozen fr cur.size ∧ cur.toList = us

def nope : PV → Value → Prop := fun _ _ => False
/-- A cell that bears nothing or its own block's address. -/
def selfq (g : Nat) : PV → Value → Prop := fun x V => x = .selfp ∧ (V = .pointer none ∨ V = .pointer (some ⟨g, 0, none⟩))
/-- A builder of texts: its cell, and the row that it owns. -/
def BldAt (w : World) (T e : TypeId) (l : List UInt8) (V : Value) (bs : List Nat) : Prop :=
  ∃ (b : Nat) (p v : Value), V = .pointer (some ⟨b, 0, none⟩) ∧ bs = b :: v.ownBlock.toList ∧ (p = .pointer none ∨ p = .pointer (some ⟨b, 0, none⟩)) ∧ w.heap[b]? = some (.cells #[p, v] T (0, 0)) ∧
    w.ownsRow 0 e 1 v l.length (l.map fun x => .int .u8 x.toNat) ∧ v.ownBlock ≠ some b
theorem BldAt.mono {w w' : World} {T e : TypeId} {l : List UInt8} {V : Value} {bs : List Nat} (h : BldAt w T e l V bs) (hb : ∀ b ∈ bs, w'.heap[b]? = w.heap[b]?) : BldAt w' T e l V bs := by
  obtain ⟨b, p, v, h1, rfl, h3, h4, h5, h6⟩ := h
  refine ⟨b, p, v, h1, rfl, h3, (hb b (by simp)).trans h4, ⟨h5.1, ?_⟩, h6⟩
  rcases h5.2 with k | ⟨g, cap, cur, rfl, k1, k2, k3⟩
  · exact .inl k
  · exact .inr ⟨g, cap, cur, rfl, k1, (hb g (by simp [Value.ownBlock])).trans k2, k3⟩
theorem BldAt.one {w : World} {T e : TypeId} {l : List UInt8} {V : Value} {bs : List Nat} (h : BldAt w T e l V bs) : V.oneCell' = true := by
  obtain ⟨b, p, v, rfl, _⟩ := h
  rfl
theorem BldAt.lt {w : World} {T e : TypeId} {l : List UInt8} {V : Value} {bs : List Nat} (h : BldAt w T e l V bs) : ∀ b ∈ bs, b < w.heap.size := by
  obtain ⟨b, p, v, rfl, rfl, h3, h4, h5, h6⟩ := h
  intro k hk
  rcases List.mem_cons.1 hk with rfl | hk
  · exact (Array.getElem?_eq_some_iff.1 h4).1
  · exact (h5.lt k (by simpa using hk)).2
mutual
def R (w : World) (I : Nat → Prop) : (PV → Value → Prop) → PV → Value → List Nat → Prop
  | _, .v x, V, bs => V = x ∧ x.oneCell' = true ∧ bs = []
  | q, .agg cs, V, bs => ∃ vs : List Value, V = .agg vs.toArray ∧ Rs w I q cs vs bs
  | q, .tup cs, V, bs => ∃ vs : List Value, V = .tuple vs.toArray ∧ Rs w I q cs vs bs
  | _, .ro sz l, V, bs => bs = [] ∧ SzOk sz l ∧ ∃ a cap, V = .slice a l.length cap ∧ l.length ≤ cap ∧
      (l = [] ∨ ∃ (A : Addr) (vs : List Value), a = some A ∧ A.spot = none ∧ I A.block ∧ Rs w I nope l vs [] ∧ CellsAt w A (flatV vs))
  | _, .own sz l, V, bs => SzOk sz l ∧ ((V = .slice none 0 0 ∧ l = [] ∧ bs = []) ∨
      ∃ g vs, bs = [g] ∧ Rs w I nope l vs [] ∧ RowAt w sz l.length V g (flatV vs))
  | _, .box cs, V, bs => ∃ g us bs', bs = g :: bs' ∧ Rs w I (selfq g) cs us bs' ∧ BoxAt w V g us
  | q, .ref s p, V, bs => bs = [] ∧ q (.ref s p) V
  | q, .win s p sz lo hi, V, bs => bs = [] ∧ q (.win s p sz lo hi) V
  | q, .addr s o, V, bs => bs = [] ∧ q (.addr s o) V
  | q, .eaddr s p sz i k, V, bs => bs = [] ∧ q (.eaddr s p sz i k) V
  | _, .raddr cs, V, bs => bs = [] ∧ ∃ (A : Addr) (us : List Value), V = .pointer (some A) ∧ A.spot = none ∧ I A.block ∧ Rs w I nope cs us [] ∧ CellsAt w A us
  | _, .nil _, V, bs => V = .slice none 0 0 ∧ bs = []
  | _, .dead, _, bs => bs = []
  | _, .pan _, V, bs => bs = [] ∧ V.oneCell' = true
  | _, .clo f cs, V, bs => bs = [] ∧ ∃ (A : Addr) (us : List Value), V = .func (.func f) #[] #[.pointer (some A)] ∧ A.spot = none ∧ I A.block ∧ Rs w I nope cs us [] ∧ CellsAt w A us
  | _, .iter s pos, V, bs => ∃ g, bs = [g] ∧ V = .pointer (some ⟨g, 0, none⟩) ∧ w.heap[g]? = some (.stringIter s pos)
  | _, .selfp, V, bs => bs = [] ∧ ∃ m : Int, V = .int .i64 m
  | _, .bld T e l, V, bs => BldAt w T e l V bs
  | _, .mapc es c, V, bs => ∃ g, bs = [g] ∧ V = .map (some g) ∧ w.heap[g]? = some (.map es.toArray c)
def Rs (w : World) (I : Nat → Prop) : (PV → Value → Prop) → List PV → List Value → List Nat → Prop
  | _, [], vs, bs => vs = [] ∧ bs = []
  | q, x :: r, vs, bs => ∃ v vs' b1 b2, vs = v :: vs' ∧ bs = b1 ++ b2 ∧ R w I q x v b1 ∧ Rs w I q r vs' b2
end

section
variable {w w' : World} {I I' : Nat → Prop} {q q' : PV → Value → Prop}

mutual
theorem R.mono (hI : ∀ b, I b → I' b) (hw : ∀ b, I b → w'.heap[b]? = w.heap[b]?) :
    ∀ (x : PV) (q q' : PV → Value → Prop) (_ : ∀ x V, q x V → q' x V) (V : Value) (bs : List Nat), (∀ b ∈ bs, w'.heap[b]? = w.heap[b]?) → R w I q x V bs → R w' I' q' x V bs
  | .v x, q, q', hq, V, bs, _, h => h
  | .agg cs, q, q', hq, V, bs, hb, h => by
    obtain ⟨vs, e, h⟩ := h
    exact ⟨vs, e, Rs.mono hI hw cs q q' hq vs bs hb h⟩
  | .tup cs, q, q', hq, V, bs, hb, h => by
    obtain ⟨vs, e, h⟩ := h
    exact ⟨vs, e, Rs.mono hI hw cs q q' hq vs bs hb h⟩
  | .ro sz l, q, q', hq, V, bs, hb, h => by
    obtain ⟨e0, hs, a, cap, e, hc, h⟩ := h
    refine ⟨e0, hs, a, cap, e, hc, ?_⟩
    rcases h with h | ⟨A, vs, h1, h2, h3, h4, h5⟩
    · exact .inl h
    · refine .inr ⟨A, vs, h1, h2, hI _ h3, Rs.mono hI hw l nope nope (fun _ _ h => h) vs [] (by simp) h4, fun j u hu => ?_⟩
      have := h5 j u hu
      have hblk : (A.add j).block = A.block := by unfold Addr.add; split <;> rfl
      rw [World.cell?_of_block (w := w)]
      · exact this
      · rw [hblk]; exact hw _ h3
  | .own sz l, q, q', hq, V, bs, hb, h => by
    obtain ⟨hs, h⟩ := h
    refine ⟨hs, ?_⟩
    rcases h with h | ⟨g, vs, rfl, h1, cap, cur, t, fr, h2, h3, h4⟩
    · exact .inl h
    · exact .inr ⟨g, vs, rfl, Rs.mono hI hw l nope nope (fun _ _ h => h) vs [] (by simp) h1, cap, cur, t, fr, h2, (hb g (by simp)).trans h3, h4⟩
  | .box cs, q, q', hq, V, bs, hb, h => by
    obtain ⟨g, us, bs', rfl, h1, cur, t, fr, h2, h3, h4⟩ := h
    exact ⟨g, us, bs', rfl, Rs.mono hI hw cs (selfq g) (selfq g) (fun _ _ h => h) us bs' (fun b hb' => hb b (by simp [hb'])) h1, cur, t, fr, h2, (hb g (by simp)).trans h3, h4⟩
  | .ref s p, q, q', hq, V, bs, _, h => ⟨h.1, hq _ _ h.2⟩
  | .win s p sz lo hi, q, q', hq, V, bs, _, h => ⟨h.1, hq _ _ h.2⟩
  | .addr s o, q, q', hq, V, bs, _, h => ⟨h.1, hq _ _ h.2⟩
  | .eaddr s p sz i k, q, q', hq, V, bs, _, h => ⟨h.1, hq _ _ h.2⟩
  | .raddr cs, q, q', hq, V, bs, hb, h => by
    obtain ⟨e0, A, us, e, h1, h2, h3, h4⟩ := h
    refine ⟨e0, A, us, e, h1, hI _ h2, Rs.mono hI hw cs nope nope (fun _ _ h => h) us [] (by simp) h3, fun j u hu => ?_⟩
    have := h4 j u hu
    have hblk : (A.add j).block = A.block := by unfold Addr.add; split <;> rfl
    rw [World.cell?_of_block (w := w)]
    · exact this
    · rw [hblk]; exact hw _ h2
  | .clo f cs, q, q', hq, V, bs, hb, h => by
    obtain ⟨e0, A, us, e, h1, h2, h3, h4⟩ := h
    refine ⟨e0, A, us, e, h1, hI _ h2, Rs.mono hI hw cs nope nope (fun _ _ h => h) us [] (by simp) h3, fun j u hu => ?_⟩
    have := h4 j u hu
    have hblk : (A.add j).block = A.block := by unfold Addr.add; split <;> rfl
    rw [World.cell?_of_block (w := w)]
    · exact this
    · rw [hblk]; exact hw _ h2
  | .nil _, q, q', hq, V, bs, _, h => h
  | .dead, q, q', hq, V, bs, _, h => h
  | .pan _, q, q', hq, V, bs, _, h => h
  | .iter s pos, q, q', hq, V, bs, hb, h => by
    obtain ⟨g, rfl, e, h1⟩ := h
    exact ⟨g, rfl, e, (hb g (by simp)).trans h1⟩
  | .selfp, _, _, _, V, bs, _, h => h
  | .bld _ _ _, q, q', hq, V, bs, hb, h => BldAt.mono h hb
  | .mapc _ _, q, q', hq, V, bs, hb, h => by
    obtain ⟨g, rfl, e, h1⟩ := h
    exact ⟨g, rfl, e, (hb g (by simp)).trans h1⟩
theorem Rs.mono (hI : ∀ b, I b → I' b) (hw : ∀ b, I b → w'.heap[b]? = w.heap[b]?) :
    ∀ (l : List PV) (q q' : PV → Value → Prop) (_ : ∀ x V, q x V → q' x V) (vs : List Value) (bs : List Nat), (∀ b ∈ bs, w'.heap[b]? = w.heap[b]?) → Rs w I q l vs bs → Rs w' I' q' l vs bs
  | [], q, q', hq, vs, bs, _, h => h
  | x :: r, q, q', hq, vs, bs, hb, h => by
    obtain ⟨v, vs', b1, b2, e1, e2, h1, h2⟩ := h
    subst e2
    exact ⟨v, vs', b1, b2, e1, rfl, R.mono hI hw x q q' hq v b1 (fun b hb' => hb b (by simp [hb'])) h1, Rs.mono hI hw r q q' hq vs' b2 (fun b hb' => hb b (by simp [hb'])) h2⟩
end
theorem R.ofNope {x : PV} {V : Value} {bs : List Nat} (h : R w I nope x V bs) : R w I q x V bs :=
  R.mono (fun _ h => h) (fun _ _ => rfl) x nope q (fun _ _ h => h.elim) V bs (fun _ _ => rfl) h
theorem Rs.ofNope {x : List PV} {V : List Value} {bs : List Nat} (h : Rs w I nope x V bs) : Rs w I q x V bs :=
  Rs.mono (fun _ h => h) (fun _ _ => rfl) x nope q (fun _ _ h => h.elim) V bs (fun _ _ => rfl) h

theorem Rs.length : ∀ {l : List PV} {vs : List Value} {bs : List Nat}, Rs w I q l vs bs → vs.length = l.length
  | [], _, _, h => by rw [h.1]; rfl
  | _ :: _, _, _, h => by
    obtain ⟨v, vs', b1, b2, e1, e2, _, h2⟩ := h
    rw [e1]
    simp [Rs.length h2]
theorem Rs.append {l l' : List PV} {vs vs' : List Value} {bs bs' : List Nat} : Rs w I q l vs bs → Rs w I q l' vs' bs' → Rs w I q (l ++ l') (vs ++ vs') (bs ++ bs') := by
  induction l generalizing vs bs with
  | nil => intro h k; obtain ⟨rfl, rfl⟩ := h; exact k
  | cons x r ih =>
    intro h k
    obtain ⟨v, us, b1, b2, rfl, rfl, h1, h2⟩ := h
    exact ⟨v, us ++ vs', b1, b2 ++ bs', rfl, by simp, h1, ih h2 k⟩
theorem Rs.get {l : List PV} {vs : List Value} {bs : List Nat} (h : Rs w I q l vs bs) {i : Nat} {x : PV} (hx : l[i]? = some x) : ∃ v b, vs[i]? = some v ∧ R w I q x v b ∧ ∀ c ∈ b, c ∈ bs := by
  induction l generalizing vs bs i with
  | nil => simp at hx
  | cons y r ih =>
    obtain ⟨v, us, b1, b2, rfl, rfl, h1, h2⟩ := h
    cases i with
    | zero =>
      simp at hx
      subst hx
      exact ⟨v, b1, rfl, h1, fun c hc => by simp [hc]⟩
    | succ i =>
      simp at hx
      obtain ⟨v', b, e, h3, h4⟩ := ih h2 hx
      exact ⟨v', b, by simpa using e, h3, fun c hc => by simp [h4 c hc]⟩
theorem Rs.get0 {l : List PV} {vs : List Value} (h : Rs w I q l vs []) {i : Nat} {x : PV} (hx : l[i]? = some x) : ∃ v, vs[i]? = some v ∧ R w I q x v [] := by
  obtain ⟨v, b, e, h1, h2⟩ := h.get hx
  have : b = [] := by
    cases b with
    | nil => rfl
    | cons c _ => have := h2 c (by simp); simp at this
  subst this
  exact ⟨v, e, h1⟩
theorem Rs.take0 {l : List PV} {vs : List Value} (h : Rs w I q l vs []) (n : Nat) : Rs w I q (l.take n) (vs.take n) [] := by
  induction l generalizing vs n with
  | nil => obtain ⟨rfl, _⟩ := h; simp [Rs]
  | cons y r ih =>
    obtain ⟨v, us, b1, b2, rfl, e, h1, h2⟩ := h
    obtain ⟨rfl, rfl⟩ : b1 = [] ∧ b2 = [] := by simpa using e.symm
    cases n with
    | zero => simp [Rs]
    | succ n => exact ⟨v, _, [], [], rfl, rfl, h1, ih h2 n⟩
theorem Rs.drop0 {l : List PV} {vs : List Value} (h : Rs w I q l vs []) (n : Nat) : Rs w I q (l.drop n) (vs.drop n) [] := by
  induction l generalizing vs n with
  | nil => obtain ⟨rfl, _⟩ := h; simp [Rs]
  | cons y r ih =>
    obtain ⟨v, us, b1, b2, rfl, e, h1, h2⟩ := h
    obtain ⟨rfl, rfl⟩ : b1 = [] ∧ b2 = [] := by simpa using e.symm
    cases n with
    | zero => exact ⟨v, us, [], [], rfl, rfl, h1, h2⟩
    | succ n => exact ih h2 n
theorem Rs.set0 {l : List PV} {vs : List Value} (h : Rs w I q l vs []) (i : Nat) {y : PV} {u : Value} (hy : R w I q y u []) : Rs w I q (l.set i y) (vs.set i u) [] := by
  induction l generalizing vs i with
  | nil => obtain ⟨rfl, _⟩ := h; simp [Rs]
  | cons x r ih =>
    obtain ⟨v, us, b1, b2, rfl, e, h1, h2⟩ := h
    obtain ⟨rfl, rfl⟩ : b1 = [] ∧ b2 = [] := by simpa using e.symm
    cases i with
    | zero => exact ⟨u, us, [], [], rfl, rfl, hy, h2⟩
    | succ i => exact ⟨v, _, [], [], rfl, rfl, h1, ih h2 i⟩

/-- How many cells a value takes. -/
theorem R.cells_length : ∀ {x : PV} {V : Value} {bs : List Nat}, x ≠ .dead → (∀ y U, q y U → U.oneCell' = true) → R w I q x V bs → V.cells.size = x.cells.length := by
  intro x V bs hd hq h
  cases x with
  | v x => obtain ⟨rfl, h, _⟩ := h; cases V <;> simp_all [Value.cells, PV.cells, Value.oneCell']
  | agg cs => obtain ⟨vs, rfl, h⟩ := h; simp [Value.cells, PV.cells, h.length]
  | tup cs => obtain ⟨vs, rfl, h⟩ := h; simp [Value.cells, PV.cells]
  | ro sz l => obtain ⟨_, _, a, cap, rfl, _⟩ := h; simp [Value.cells, PV.cells]
  | own sz l => rcases h.2 with ⟨rfl, _⟩ | ⟨g, vs, _, _, cap, cur, t, fr, rfl, _⟩ <;> simp [Value.cells, PV.cells]
  | box cs => obtain ⟨g, us, bs', _, _, cur, t, fr, rfl, _⟩ := h; simp [Value.cells, PV.cells]
  | ref s p => have := hq _ _ h.2; cases V <;> simp_all [Value.cells, PV.cells, Value.oneCell']
  | win s p sz lo hi => have := hq _ _ h.2; cases V <;> simp_all [Value.cells, PV.cells, Value.oneCell']
  | addr s o => have := hq _ _ h.2; cases V <;> simp_all [Value.cells, PV.cells, Value.oneCell']
  | eaddr s p sz i k => have := hq _ _ h.2; cases V <;> simp_all [Value.cells, PV.cells, Value.oneCell']
  | raddr cs => obtain ⟨_, A, us, rfl, _⟩ := h; simp [Value.cells, PV.cells]
  | clo f cs => obtain ⟨_, A, us, rfl, _⟩ := h; simp [Value.cells, PV.cells]
  | nil sz => rw [h.1]; rfl
  | dead => exact absurd rfl hd
  | iter s pos => obtain ⟨g, _, rfl, _⟩ := h; simp [Value.cells, PV.cells]
  | selfp => obtain ⟨_, m, rfl⟩ := h; simp [Value.cells, PV.cells]
  | bld T e l => have := BldAt.one h; cases V <;> simp_all [Value.cells, PV.cells, Value.oneCell']
  | mapc es c => obtain ⟨g, _, rfl, _⟩ := h; simp [Value.cells, PV.cells]
  | pan x => have := h.2; cases V <;> simp_all [Value.cells, PV.cells, Value.oneCell']
end
end Go.AM

/- The invariant that ties the abstract machine's variables to the real machine's, and how it lasts where variables are written and taken. No conditions. -/
namespace Go.AM
open Go

def stepV (w : World) : Value → Nat → Option Value
  | .agg vs, o => vs[o]?
  | .tuple vs, o => vs[o]?
  | .pointer (some A), o => w.cell? (A.add o)
  | _, _ => none
def walk (w : World) : Value → List Nat → Option Value
  | V, [] => some V
  | V, o :: p => (stepV w V o).bind fun v => walk w v p
def place (val : Nat → Value) (w : World) (s : Nat) (p : List Nat) : Option Value := walk w (val s) p
def refOK (e : Env) (val : Nat → Value) (w : World) : PV → Value → Prop
  | .ref s p, V => V.oneCell' = true ∧ ((e.at_ s p).isObj = true → place val w s p = some V)
  | .win s p sz lo hi, V => V.oneCell' = true ∧ ((e.at_ s p).isObj = true → ∃ a n cap a' cap', place val w s p = some (.slice a n cap) ∧ V = .slice a' (hi - lo) cap' ∧ lo ≤ hi ∧ hi ≤ n ∧ lo + cap' ≤ cap ∧ hi - lo ≤ cap' ∧ (lo = 0 → a' = a) ∧ (lo < hi → a' = a.map (·.add (lo * sz))))
  | .addr s o, V => V.oneCell' = true ∧ ((e.get s).isObj = true → ∃ g, val s = .pointer (some ⟨g, 0, none⟩) ∧ V = .pointer (some ⟨g, o, none⟩))
  | .eaddr s p sz i k, V => V.oneCell' = true ∧ ((e.at_ s p).isObj = true → ∃ g n cap, place val w s p = some (.slice (some ⟨g, 0, none⟩) n cap) ∧ V = .pointer (some ⟨g, i * sz + k, none⟩))
  | _, _ => False
theorem refOK.oneCell {e : Env} {val : Nat → Value} {w : World} : ∀ x V, refOK e val w x V → V.oneCell' = true := by
  intro x V h
  cases x <;> simp only [refOK] at h <;> first | exact h.elim | exact h.1

/-- What the call found. -/
structure Base where
  w : World
  I : Nat → Prop
  S : Nat → Prop
  glob : Nat → List PV
  ds : List Deferred := []

structure Inv (B : Base) (e : Env) (q : PV → Value → Prop) (val : Nat → Value) (w : World) (I : Nat → Prop) (blk : Nat → List Nat) (fl : List Nat) : Prop where
  rel : ∀ s, R w I q (e.get s) (val s) (blk s)
  nd : ∀ s, (blk s).Nodup
  ndf : fl.Nodup
  dj : ∀ s t, s ≠ t → ∀ b, b ∈ blk s → b ∉ blk t
  djf : ∀ s b, b ∈ blk s → b ∉ fl
  notI : ∀ s b, b ∈ blk s → ¬ I b
  notIf : ∀ b, b ∈ fl → ¬ I b
  ltI : ∀ b, I b → b < w.heap.size
  ltf : ∀ b, b ∈ fl → b < w.heap.size
  keepI : ∀ b, B.I b → I b
  newI : ∀ b, I b → B.I b ∨ B.S b ∨ B.w.heap.size ≤ b
  own : ∀ s b, b ∈ blk s → B.S b ∨ B.w.heap.size ≤ b
  ownf : ∀ b, b ∈ fl → B.S b ∨ B.w.heap.size ≤ b
  os : w.os = B.w.os
  tape : w.tape = B.w.tape
  output : w.output = B.w.output
  size : B.w.heap.size ≤ w.heap.size
  same : ∀ b, b < B.w.heap.size → ¬ B.S b → w.heap[b]? = B.w.heap[b]?
  glob : ∀ n, B.glob n ≠ [] → R w I nope (.raddr (B.glob n)) (.pointer (some ⟨n, 0, none⟩)) []

/-! ### Environments -/
theorem Env.get_set (e : Env) (s t : Nat) (y : PV) : (e.set s y).get t = if s = t then y else e.get t := by
  induction e with
  | nil => simp only [Env.set, Env.get]
  | cons kx r ih =>
    obtain ⟨k, x⟩ := kx
    by_cases h : k = s
    · subst h
      by_cases h2 : k = t <;> simp [Env.set, Env.get, h2]
    · by_cases h2 : k = t
      · subst h2
        simp [Env.set, Env.get, h, Ne.symm h]
      · simp only [Env.set, if_neg h, Env.get, if_neg h2, ih]
theorem Env.get_kill (e : Env) (s : Nat) (t : List Nat → Bool) (u : Nat) : (e.kill s t).get u = if (e.get u).ment s t then .dead else e.get u := by
  induction e with
  | nil => simp [Env.kill, Env.get, PV.ment]
  | cons kx r ih =>
    obtain ⟨k, x⟩ := kx
    by_cases h : k = u <;> simp [Env.kill, Env.get, h, ih]
theorem Env.get_keep (e : Env) (ks : List Nat) (u : Nat) : (e.keep ks).get u = if u ∈ ks then e.get u else .dead := by
  unfold Env.keep
  induction ks with
  | nil => simp [Env.get]
  | cons k r ih =>
    simp only [List.map_cons, Env.get, ih, List.mem_cons]
    by_cases h : k = u
    · simp [h]
    · simp [h, Ne.symm h]
theorem PV.sub_dead (p : List Nat) : PV.dead.sub p = .dead := by
  induction p with
  | nil => rfl
  | cons o p ih => simp [PV.sub, PV.kids, ih]
theorem PV.sub_append (x : PV) (p : List Nat) (o : Nat) : x.sub (p ++ [o]) = ((x.sub p).kids)[o]?.getD .dead := by
  induction p generalizing x with
  | nil => simp [PV.sub]
  | cons a p ih => simp [PV.sub, ih]
theorem walk_append (w : World) (V : Value) (p : List Nat) (o : Nat) : walk w V (p ++ [o]) = (walk w V p).bind fun v => stepV w v o := by
  induction p generalizing V with
  | nil => simp [walk]
  | cons a p ih =>
    simp only [List.cons_append, walk]
    cases stepV w V a with
    | none => rfl
    | some v => simp [ih]
/-- What is owned no more isn't owned at any path. -/
theorem hasObjL_get {l : List PV} (h : PV.hasObjL l = false) {i : Nat} {x : PV} (hx : l[i]? = some x) : x.hasObj = false := by
  induction l generalizing i with
  | nil => simp at hx
  | cons y r ih =>
    simp only [PV.hasObjL, Bool.or_eq_false_iff] at h
    cases i with
    | zero => simp at hx; exact hx ▸ h.1
    | succ i => simp at hx; exact ih h.2 hx
theorem sub_noObj : ∀ (p : List Nat) (x : PV), x.hasObj = false → (x.sub p).isObj = false
  | [], x, h => by cases x <;> simp_all [PV.sub, PV.hasObj, PV.isObj]
  | o :: p, x, h => by
    simp only [PV.sub]
    cases hk : x.kids[o]? with
    | none => simp [PV.sub_dead, PV.isObj]
    | some y =>
      simp only [Option.getD_some]
      refine sub_noObj p y ?_
      cases x <;> simp [PV.kids] at hk <;> simp only [PV.hasObj] at h
      · exact hasObjL_get h hk
      · exact hasObjL_get h hk
      · cases h

/-! ### The view of a variable -/
section
variable {w : World} {I : Nat → Prop} {e : Env} {val : Nat → Value}
mutual
theorem view_ok {q : PV → Value → Prop} (hq : ∀ y U, q y U → refOK e val w y U ∨ y = .selfp) (s : Nat) : ∀ (x : PV) (p : List Nat) (V : Value) (bs : List Nat), e.at_ s p = x → place val w s p = some V → R w I q x V bs → R w I (refOK e val w) (x.view s p) V []
  | .v x, p, V, bs, _, _, h => ⟨h.1, h.2.1, rfl⟩
  | .agg cs, p, V, bs, ha, hp, h => by
    obtain ⟨vs, rfl, h⟩ := h
    refine ⟨vs, rfl, viewL_ok hq s cs p 0 vs bs (fun j x hx => ?_) (fun j v hv => ?_) h⟩
    · show (e.get s).sub (p ++ [0 + j]) = x
      rw [PV.sub_append]
      have : (e.get s).sub p = .agg cs := ha
      simp [this, PV.kids, hx]
    · show walk w (val s) (p ++ [0 + j]) = some v
      rw [walk_append, show walk w (val s) p = some (.agg vs.toArray) from hp]
      simpa [stepV] using hv
  | .tup cs, p, V, bs, ha, hp, h => by
    obtain ⟨vs, rfl, h⟩ := h
    refine ⟨vs, rfl, viewL_ok hq s cs p 0 vs bs (fun j x hx => ?_) (fun j v hv => ?_) h⟩
    · show (e.get s).sub (p ++ [0 + j]) = x
      rw [PV.sub_append]
      have : (e.get s).sub p = .tup cs := ha
      simp [this, PV.kids, hx]
    · show walk w (val s) (p ++ [0 + j]) = some v
      rw [walk_append, show walk w (val s) p = some (.tuple vs.toArray) from hp]
      simpa [stepV] using hv
  | .ro sz l, p, V, bs, _, _, h => ⟨rfl, h.2⟩
  | .own sz l, p, V, bs, ha, hp, h => by
    refine ⟨rfl, ?_, fun _ => hp⟩
    rcases h.2 with ⟨rfl, _⟩ | ⟨g, vs, _, _, cap, cur, t, fr, rfl, _⟩ <;> rfl
  | .box cs, p, V, bs, ha, hp, h => by
    refine ⟨rfl, ?_, fun _ => hp⟩
    obtain ⟨g, us, bs', _, _, cur, t, fr, rfl, _⟩ := h
    rfl
  | .ref s' p', p, V, bs, _, _, h => ⟨rfl, (hq _ _ h.2).elim id (fun e => nomatch e)⟩
  | .win s' p' sz lo hi, p, V, bs, _, _, h => ⟨rfl, (hq _ _ h.2).elim id (fun e => nomatch e)⟩
  | .addr s' o, p, V, bs, _, _, h => ⟨rfl, (hq _ _ h.2).elim id (fun e => nomatch e)⟩
  | .eaddr s' p' sz i k, p, V, bs, _, _, h => ⟨rfl, (hq _ _ h.2).elim id (fun e => nomatch e)⟩
  | .raddr cs, p, V, bs, _, _, h => ⟨rfl, h.2⟩
  | .clo f cs, p, V, bs, _, _, h => ⟨rfl, h.2⟩
  | .nil _, p, V, bs, _, _, h => ⟨h.1, rfl⟩
  | .dead, p, V, bs, _, _, _ => rfl
  | .iter str pos, p, V, bs, ha, hp, h => by
    refine ⟨rfl, ?_, fun _ => hp⟩
    obtain ⟨g, _, rfl, _⟩ := h
    rfl
  | .selfp, p, V, bs, _, _, _ => rfl
  | .pan _, p, V, bs, _, _, h => ⟨rfl, h.2⟩
  | .bld _ _ _, p, V, bs, ha, hp, h => ⟨rfl, BldAt.one h, fun _ => hp⟩
  | .mapc _ _, p, V, bs, ha, hp, h => by
    refine ⟨rfl, ?_, fun _ => hp⟩
    obtain ⟨g, _, rfl, _⟩ := h
    rfl
theorem viewL_ok {q : PV → Value → Prop} (hq : ∀ y U, q y U → refOK e val w y U ∨ y = .selfp) (s : Nat) : ∀ (l : List PV) (p : List Nat) (i : Nat) (vs : List Value) (bs : List Nat), (∀ j x, l[j]? = some x → e.at_ s (p ++ [i + j]) = x) → (∀ j v, vs[j]? = some v → place val w s (p ++ [i + j]) = some v) →
    Rs w I q l vs bs → Rs w I (refOK e val w) (PV.viewL s p i l) vs []
  | [], p, i, vs, bs, _, _, h => ⟨h.1, rfl⟩
  | x :: r, p, i, vs, bs, ha, hp, h => by
    obtain ⟨v, vs', b1, b2, rfl, rfl, h1, h2⟩ := h
    refine ⟨v, vs', [], [], rfl, rfl, view_ok hq s x (p ++ [i]) v b1 (by simpa using ha 0 x rfl) (by simpa using hp 0 v rfl) h1, viewL_ok hq s r p (i + 1) vs' b2 (fun j y hy => ?_) (fun j u hu => ?_) h2⟩
    · have := ha (j + 1) y (by simpa using hy)
      rwa [show i + (j + 1) = i + 1 + j by omega] at this
    · have := hp (j + 1) u (by simpa using hu)
      rwa [show i + (j + 1) = i + 1 + j by omega] at this
end
end
theorem Inv.view {B : Base} {e : Env} {val : Nat → Value} {w : World} {I : Nat → Prop} {blk : Nat → List Nat} {fl : List Nat} (h : Inv B e (refOK e val w) val w I blk fl) (s : Nat) :
    R w I (refOK e val w) ((e.get s).view s []) (val s) [] := view_ok (fun _ _ h => .inl h) s (e.get s) [] (val s) (blk s) rfl rfl (h.rel s)

/-! ### Writing a variable -/
def upd (val : Nat → Value) (d : Nat) (V : Value) : Nat → Value := fun s => if s = d then V else val s
def updB (blk : Nat → List Nat) (d : Nat) (bs : List Nat) : Nat → List Nat := fun s => if s = d then bs else blk s

mutual
theorem R.congr {w : World} {I : Nat → Prop} {q q' : PV → Value → Prop} {s : Nat} {t : List Nat → Bool} (hq : ∀ x V, x.ment s t = false → q x V → q' x V) :
    ∀ (x : PV) (V : Value) (bs : List Nat), x.ment s t = false → R w I q x V bs → R w I q' x V bs
  | .v x, V, bs, _, h => h
  | .agg cs, V, bs, m, h => by
    obtain ⟨vs, e, h⟩ := h
    exact ⟨vs, e, Rs.congr hq cs vs bs m h⟩
  | .tup cs, V, bs, m, h => by
    obtain ⟨vs, e, h⟩ := h
    exact ⟨vs, e, Rs.congr hq cs vs bs m h⟩
  | .ro sz l, V, bs, _, h => h
  | .own sz l, V, bs, _, h => h
  | .box cs, V, bs, _, h => h
  | .ref s p, V, bs, m, h => ⟨h.1, hq _ _ m h.2⟩
  | .win s p sz lo hi, V, bs, m, h => ⟨h.1, hq _ _ m h.2⟩
  | .addr s o, V, bs, m, h => ⟨h.1, hq _ _ m h.2⟩
  | .eaddr s p sz i k, V, bs, m, h => ⟨h.1, hq _ _ m h.2⟩
  | .raddr cs, V, bs, _, h => h
  | .clo f cs, V, bs, _, h => h
  | .nil _, V, bs, _, h => h
  | .dead, V, bs, _, h => h
  | .iter _ _, V, bs, _, h => h
  | .selfp, V, bs, _, h => h
  | .pan _, V, bs, _, h => h
  | .bld _ _ _, V, bs, _, h => h
  | .mapc _ _, V, bs, _, h => h
theorem Rs.congr {w : World} {I : Nat → Prop} {q q' : PV → Value → Prop} {s : Nat} {t : List Nat → Bool} (hq : ∀ x V, x.ment s t = false → q x V → q' x V) :
    ∀ (l : List PV) (vs : List Value) (bs : List Nat), PV.mentL s t l = false → Rs w I q l vs bs → Rs w I q' l vs bs
  | [], vs, bs, _, h => h
  | x :: r, vs, bs, m, h => by
    simp only [PV.mentL, Bool.or_eq_false_iff] at m
    obtain ⟨v, vs', b1, b2, e1, e2, h1, h2⟩ := h
    exact ⟨v, vs', b1, b2, e1, e2, R.congr hq x v b1 m.1 h1, Rs.congr hq r vs' b2 m.2 h2⟩
end
end Go.AM

/- Variables written, taken, given back: how the invariant lasts. No conditions. -/
namespace Go.AM
open Go

section
variable {w : World} {I : Nat → Prop} {e e' : Env} {val : Nat → Value} {B : Base} {blk : Nat → List Nat} {fl : List Nat} {q : PV → Value → Prop}

def Weak (e' e : Env) : Prop := ∀ s p, (e'.at_ s p).isObj = true → (e.at_ s p).isObj = true
theorem Weak.refl (e : Env) : Weak e e := fun _ _ h => h
theorem Weak.trans {a b c : Env} (h : Weak a b) (k : Weak b c) : Weak a c := fun s p x => k s p (h s p x)
theorem Weak.refOK (h : Weak e' e) : ∀ x V, refOK e val w x V → refOK e' val w x V := by
  intro x V k
  cases x <;> simp only [AM.refOK] at k ⊢
  · exact ⟨k.1, fun o => k.2 (h _ _ o)⟩
  · exact ⟨k.1, fun o => k.2 (h _ _ o)⟩
  · exact ⟨k.1, fun o => k.2 (h _ [] o)⟩
  · exact ⟨k.1, fun o => k.2 (h _ _ o)⟩
theorem Weak.R (h : Weak e' e) {x : PV} {V : Value} {bs : List Nat} (k : R w I (AM.refOK e val w) x V bs) : R w I (AM.refOK e' val w) x V bs :=
  R.mono (fun _ h => h) (fun _ _ => rfl) x _ _ h.refOK V bs (fun _ _ => rfl) k
theorem Weak.Rs (h : Weak e' e) {x : List PV} {V : List Value} {bs : List Nat} (k : Rs w I (AM.refOK e val w) x V bs) : Rs w I (AM.refOK e' val w) x V bs :=
  Rs.mono (fun _ h => h) (fun _ _ => rfl) x _ _ h.refOK V bs (fun _ _ => rfl) k

theorem refOK_set {d : Nat} {y : PV} (hy : y.hasObj = false) (V' : Value) : ∀ x V, refOK e val w x V → refOK (e.set d y) (upd val d V') w x V := by
  have key : ∀ s p, ((e.set d y).at_ s p).isObj = true → s ≠ d ∧ (e.at_ s p).isObj = true := by
    intro s p h
    unfold Env.at_ at h
    rw [Env.get_set] at h
    by_cases hs : d = s
    · simp [hs, sub_noObj p y hy] at h
    · exact ⟨Ne.symm hs, by simpa [hs, Env.at_] using h⟩
  intro x V k
  cases x <;> simp only [refOK] at k ⊢
  · refine ⟨k.1, fun o => ?_⟩
    obtain ⟨h1, h2⟩ := key _ _ o
    simpa [place, upd, h1] using k.2 h2
  · refine ⟨k.1, fun o => ?_⟩
    obtain ⟨h1, h2⟩ := key _ _ o
    simpa [place, upd, h1] using k.2 h2
  · refine ⟨k.1, fun o => ?_⟩
    obtain ⟨h1, h2⟩ := key _ [] o
    simpa [place, upd, h1] using k.2 h2
  · refine ⟨k.1, fun o => ?_⟩
    obtain ⟨h1, h2⟩ := key _ _ o
    simpa [place, upd, h1] using k.2 h2

mutual
theorem R.noObj_nil : ∀ (x : PV) (V : Value) (bs : List Nat), x.hasObj = false → R w I q x V bs → bs = []
  | .v x, V, bs, _, h => h.2.2
  | .agg cs, V, bs, o, h => by obtain ⟨vs, _, h⟩ := h; exact Rs.noObj_nil cs vs bs o h
  | .tup cs, V, bs, o, h => by obtain ⟨vs, _, h⟩ := h; exact Rs.noObj_nil cs vs bs o h
  | .ro sz l, V, bs, _, h => h.1
  | .own sz l, V, bs, o, _ => by simp [PV.hasObj] at o
  | .box cs, V, bs, o, _ => by simp [PV.hasObj] at o
  | .ref s p, V, bs, _, h => h.1
  | .win s p sz lo hi, V, bs, _, h => h.1
  | .addr s o, V, bs, _, h => h.1
  | .eaddr s p sz i k, V, bs, _, h => h.1
  | .raddr cs, V, bs, _, h => h.1
  | .clo f cs, V, bs, _, h => h.1
  | .nil _, V, bs, _, h => h.2
  | .dead, V, bs, _, h => h
  | .iter _ _, V, bs, o, _ => by simp [PV.hasObj] at o
  | .selfp, V, bs, _, h => h.1
  | .pan _, V, bs, _, h => h.1
  | .bld _ _ _, V, bs, o, _ => by simp [PV.hasObj] at o
  | .mapc _ _, V, bs, o, _ => by simp [PV.hasObj] at o
theorem Rs.noObj_nil : ∀ (l : List PV) (vs : List Value) (bs : List Nat), PV.hasObjL l = false → Rs w I q l vs bs → bs = []
  | [], vs, bs, _, h => h.2
  | x :: r, vs, bs, o, h => by
    simp only [PV.hasObjL, Bool.or_eq_false_iff] at o
    obtain ⟨v, vs', b1, b2, _, rfl, h1, h2⟩ := h
    rw [R.noObj_nil x v b1 o.1 h1, Rs.noObj_nil r vs' b2 o.2 h2]
    rfl
end

/-- A variable is given a value in which nothing is owned. -/
theorem Inv.putView (h : Inv B e (refOK e val w) val w I blk fl) {d : Nat} {y : PV} {V : Value} (hy : y.hasObj = false) (hR : R w I (refOK e val w) y V []) :
    Inv B (e.put d y) (refOK (e.put d y) (upd val d V) w) (upd val d V) w I (updB blk d []) fl := by
  have hput : e.put d y = e.set d y := by simp [Env.put, hy]
  rw [hput]
  have hq := refOK_set (e := e) (val := val) (w := w) (d := d) hy V
  have sub : ∀ s b, b ∈ updB blk d [] s → b ∈ blk s := by
    intro s b hb
    unfold updB at hb
    split at hb
    · simp at hb
    · exact hb
  refine { h with rel := ?_, nd := ?_, dj := ?_, djf := ?_, notI := ?_, own := ?_ }
  · intro s
    rw [Env.get_set]
    by_cases hs : d = s
    · subst hs
      simpa [upd, updB] using R.mono (fun _ h => h) (fun _ _ => rfl) y _ _ hq V [] (fun _ _ => rfl) hR
    · simpa [upd, updB, hs, Ne.symm hs] using R.mono (fun _ h => h) (fun _ _ => rfl) _ _ _ hq _ _ (fun _ _ => rfl) (h.rel s)
  · intro s
    unfold updB
    split
    · simp
    · exact h.nd s
  · exact fun s t hst b hb hb' => h.dj s t hst b (sub s b hb) (sub t b hb')
  · exact fun s b hb => h.djf s b (sub s b hb)
  · exact fun s b hb => h.notI s b (sub s b hb)
  · exact fun s b hb => h.own s b (sub s b hb)
/-- What speaks of places is forgotten. -/
theorem Inv.kill (h : Inv B e q val w I blk fl) (s0 : Nat) (t : List Nat → Bool) : ∃ blk', Inv B (e.kill s0 t) q val w I blk' fl ∧ Weak (e.kill s0 t) e ∧ ∀ s b, b ∈ blk' s → b ∈ blk s := by
  have wk : Weak (e.kill s0 t) e := by
    intro s p o
    unfold Env.at_ at o ⊢
    rw [Env.get_kill] at o
    split at o
    · simp [PV.sub_dead, PV.isObj] at o
    · exact o
  let blk' : Nat → List Nat := fun s => if (e.get s).ment s0 t then [] else blk s
  have sub : ∀ s b, b ∈ blk' s → b ∈ blk s := by
    intro s b hb
    simp only [blk'] at hb
    split at hb
    · simp at hb
    · exact hb
  refine ⟨blk', { h with rel := ?_, nd := ?_, dj := ?_, djf := ?_, notI := ?_, own := ?_ }, wk, sub⟩
  · intro s
    rw [Env.get_kill]
    simp only [blk']
    by_cases hm : (e.get s).ment s0 t = true
    · simp [hm, AM.R]
    · simp only [hm]
      exact h.rel s
  · intro s
    simp only [blk']
    split
    · simp
    · exact h.nd s
  · exact fun s t hst b hb hb' => h.dj s t hst b (sub s b hb) (sub t b hb')
  · exact fun s b hb => h.djf s b (sub s b hb)
  · exact fun s b hb => h.notI s b (sub s b hb)
  · exact fun s b hb => h.own s b (sub s b hb)
theorem Inv.fl_perm (h : Inv B e q val w I blk fl) {fl' : List Nat} (p : fl.Perm fl') : Inv B e q val w I blk fl' :=
  { h with ndf := p.nodup_iff.mp h.ndf, djf := fun s b hb hf => h.djf s b hb (p.mem_iff.mpr hf), notIf := fun b hb => h.notIf b (p.mem_iff.mpr hb), ltf := fun b hb => h.ltf b (p.mem_iff.mpr hb), ownf := fun b hb => h.ownf b (p.mem_iff.mpr hb) }
theorem Inv.fl_drop (h : Inv B e q val w I blk fl) {fl' : List Nat} (p : fl'.Sublist fl) : Inv B e q val w I blk fl' :=
  { h with ndf := h.ndf.sublist p, djf := fun s b hb hf => h.djf s b hb (p.mem hf), notIf := fun b hb => h.notIf b (p.mem hb), ltf := fun b hb => h.ltf b (p.mem hb), ownf := fun b hb => h.ownf b (p.mem hb) }
/-- A variable is given what it owns. -/
theorem Inv.weaken (h : Inv B e (refOK e' val w) val w I blk fl) (k : Weak e e') : Inv B e (refOK e val w) val w I blk fl :=
  { h with rel := fun s => k.R (h.rel s) }
theorem Inv.putClosed {bs : List Nat} (h : Inv B e (refOK e val w) val w I blk (bs ++ fl)) {d : Nat} {y : PV} {V : Value} (hR : R w I nope y V bs) :
    ∃ blk', Inv B (e.put d y) (refOK (e.put d y) (upd val d V) w) (upd val d V) w I blk' fl := by
  by_cases hy : y.hasObj = false
  · obtain rfl := R.noObj_nil y V bs hy hR
    exact ⟨_, Inv.putView (by simpa using h) hy hR.ofNope⟩
  · have hput : e.put d y = (e.kill d fun _ => true).set d y := by simp [Env.put, hy]
    rw [hput]
    obtain ⟨blk', hk0, wk, sub⟩ := h.kill d fun _ => true
    have hk := hk0.weaken wk
    have hnd := List.nodup_append.mp hk.ndf
    refine ⟨updB blk' d bs, { hk with rel := ?_, nd := ?_, ndf := hnd.2.1, dj := ?_, djf := ?_, notI := ?_, notIf := ?_, ltf := ?_, own := ?_, ownf := ?_ }⟩
    · intro s
      rw [Env.get_set]
      by_cases hs : d = s
      · subst hs
        simpa [upd, updB] using hR.ofNope
      · simp only [hs, if_false, upd, updB, Ne.symm hs]
        refine R.congr (s := d) (t := fun _ => true) ?_ _ _ _ ?_ (hk.rel s)
        · intro x V' hm k
          cases x <;> simp only [refOK, PV.ment, Bool.and_true, beq_eq_false_iff_ne] at k hm ⊢
          all_goals
            refine ⟨k.1, fun o => ?_⟩
            have h2 := k.2
            simp only [Env.at_, Env.get_set, Ne.symm hm, if_false] at o
            simpa [place, upd, hm] using h2 o
        · rw [Env.get_kill]
          by_cases hm : PV.ment d (fun _ => true) (e.get s) = true
          · simp [hm, PV.ment]
          · simp [hm]
    · intro s
      unfold updB
      split
      · exact hnd.1
      · exact hk.nd s
    · intro s t hst b hb hb'
      unfold updB at hb hb'
      split at hb <;> split at hb'
      · omega
      · exact hk.djf t b hb' (by simp [hb])
      · exact hk.djf s b hb (by simp [hb'])
      · exact hk.dj s t hst b hb hb'
    · intro s b hb hf
      unfold updB at hb
      split at hb
      · exact hnd.2.2 b hb b hf rfl
      · exact hk.djf s b hb (by simp [hf])
    · intro s b hb
      unfold updB at hb
      split at hb
      · exact hk.notIf b (by simp [hb])
      · exact hk.notI s b hb
    · exact fun b hb => hk.notIf b (by simp [hb])
    · exact fun b hb => hk.ltf b (by simp [hb])
    · intro s b hb
      unfold updB at hb
      split at hb
      · exact hk.ownf b (by simp [hb])
      · exact hk.own s b hb
    · exact fun b hb => hk.ownf b (by simp [hb])

/-! ### What stands at a path -/
theorem Rs.split {l : List PV} {vs : List Value} {bs : List Nat} (h : Rs w I q l vs bs) {o : Nat} {c : PV} (hc : l[o]? = some c) :
    ∃ u b B1 B2, vs[o]? = some u ∧ bs = B1 ++ b ++ B2 ∧ R w I q c u b ∧ ∀ c' u' b', R w I q c' u' b' → Rs w I q (l.set o c') (vs.set o u') (B1 ++ b' ++ B2) := by
  induction l generalizing vs bs o with
  | nil => simp at hc
  | cons x r ih =>
    obtain ⟨v, vs', b1, b2, rfl, rfl, h1, h2⟩ := h
    cases o with
    | zero =>
      simp at hc
      subst hc
      exact ⟨v, b1, [], b2, rfl, by simp, h1, fun c' u' b' hc' => ⟨u', vs', b', b2, rfl, by simp, hc', h2⟩⟩
    | succ o =>
      simp at hc
      obtain ⟨u, b, B1, B2, e1, rfl, h3, h4⟩ := ih h2 hc
      exact ⟨u, b, b1 ++ B1, B2, by simpa using e1, by simp, h3, fun c' u' b' hc' => ⟨v, vs'.set o u', b1, B1 ++ b' ++ B2, rfl, by simp, h1, h4 c' u' b' hc'⟩⟩
theorem set_same {α : Type} {l : List α} {o : Nat} {u : α} (h : l[o]? = some u) : l.set o u = l := by
  apply List.ext_getElem?
  intro i
  by_cases hi : o = i
  · subst hi
    have hlt : o < l.length := (List.getElem?_eq_some_iff.1 h).1
    simp [hlt, (List.getElem?_eq_some_iff.1 h).2.symm]
  · simp [List.getElem?_set_ne hi]
theorem boxCell {V : Value} {g : Nat} {us : List Value} (h : BoxAt w V g us) {o : Nat} {u : Value} (hu : us[o]? = some u) : stepV w V o = some u := by
  obtain ⟨cur, t, fr, rfl, h2, _, rfl⟩ := h
  have hadd : (⟨g, 0, none⟩ : Addr).add o = ⟨g, o, none⟩ := by unfold Addr.add; split <;> simp_all
  simp only [stepV, hadd]
  rw [cell_of_row w g o cur t fr h2]
  simpa using hu
theorem R.isObj_nope {x : PV} {V : Value} {bs : List Nat} (o : x.isObj = true) (h : R w I q x V bs) : R w I nope x V bs := by
  cases x <;> simp_all [PV.isObj]
  · exact h
  · exact h
  · exact h
  · exact h
  · exact h
theorem take_sub : ∀ (p : List Nat) (q : PV → Value → Prop) (x : PV) (V : Value) (Bk : List Nat), R w I q x V Bk → (x.sub p).isObj = true →
    ∃ U bs B', walk w V p = some U ∧ R w I nope (x.sub p) U bs ∧ Bk.Perm (bs ++ B') ∧ ∀ y' b', R w I nope y' U b' → ∃ B'', R w I q (x.setSub p y') V B'' ∧ B''.Perm (b' ++ B')
  | [], q, x, V, Bk, h, o => ⟨V, Bk, [], rfl, R.isObj_nope o h, by simp, fun y' b' h' => ⟨b', by cases x <;> exact h'.ofNope, by simp⟩⟩
  | o :: p, q, x, V, Bk, h, ob => by
    simp only [PV.sub] at ob ⊢
    cases hk : x.kids[o]? with
    | none => simp [hk, PV.sub_dead, PV.isObj] at ob
    | some c =>
      simp only [hk, Option.getD_some] at ob ⊢
      have perm3 : ∀ (B1 b B2 bs b' : List Nat), b.Perm (bs ++ b') → (B1 ++ b ++ B2).Perm (bs ++ (B1 ++ b' ++ B2)) := by
        intro B1 b B2 bs b' hp
        refine (List.Perm.append_right B2 (List.Perm.append_left B1 hp)).trans ?_
        rw [show bs ++ (B1 ++ b' ++ B2) = (bs ++ B1) ++ (b' ++ B2) by simp, show B1 ++ (bs ++ b') ++ B2 = (B1 ++ bs) ++ (b' ++ B2) by simp]
        exact List.Perm.append_right _ List.perm_append_comm
      cases x with
      | agg cs =>
        simp only [PV.kids] at hk
        obtain ⟨vs, rfl, h⟩ := h
        obtain ⟨u, b, B1, B2, hu, rfl, h1, h2⟩ := Rs.split h hk
        obtain ⟨U, bs, b', hw, hr, hp, hre⟩ := take_sub p q c u b h1 ob
        refine ⟨U, bs, B1 ++ b' ++ B2, by simp [walk, stepV, hu, hw], hr, perm3 _ _ _ _ _ hp, fun y' c' hy' => ?_⟩
        obtain ⟨B'', h3, h4⟩ := hre y' c' hy'
        refine ⟨B1 ++ B'' ++ B2, ⟨vs, rfl, ?_⟩, perm3 _ _ _ _ _ h4⟩
        have := h2 _ u _ h3
        rw [set_same hu] at this
        simpa [PV.setSub, hk] using this
      | tup cs =>
        simp only [PV.kids] at hk
        obtain ⟨vs, rfl, h⟩ := h
        obtain ⟨u, b, B1, B2, hu, rfl, h1, h2⟩ := Rs.split h hk
        obtain ⟨U, bs, b', hw, hr, hp, hre⟩ := take_sub p q c u b h1 ob
        refine ⟨U, bs, B1 ++ b' ++ B2, by simp [walk, stepV, hu, hw], hr, perm3 _ _ _ _ _ hp, fun y' c' hy' => ?_⟩
        obtain ⟨B'', h3, h4⟩ := hre y' c' hy'
        refine ⟨B1 ++ B'' ++ B2, ⟨vs, rfl, ?_⟩, perm3 _ _ _ _ _ h4⟩
        have := h2 _ u _ h3
        rw [set_same hu] at this
        simpa [PV.setSub, hk] using this
      | box cs =>
        simp only [PV.kids] at hk
        obtain ⟨g, us, bs0, rfl, h, hb⟩ := h
        obtain ⟨u, b, B1, B2, hu, rfl, h1, h2⟩ := Rs.split h hk
        obtain ⟨U, bs, b', hw, hr, hp, hre⟩ := take_sub p _ c u b h1 ob
        refine ⟨U, bs, g :: (B1 ++ b' ++ B2), by simp [walk, boxCell hb hu, hw], hr, ?_, fun y' c' hy' => ?_⟩
        · exact ((perm3 _ _ _ _ _ hp).cons g).trans List.perm_middle.symm
        · obtain ⟨B'', h3, h4⟩ := hre y' c' hy'
          refine ⟨g :: (B1 ++ B'' ++ B2), ⟨g, us, _, rfl, ?_, hb⟩, ((perm3 _ _ _ _ _ h4).cons g).trans List.perm_middle.symm⟩
          have := h2 _ u _ h3
          rw [set_same hu] at this
          simpa [PV.setSub, hk] using this
      | _ => simp [PV.kids] at hk
end
end Go.AM

/- What is taken from a place and given back; the world changed where something is owned. No conditions. -/
namespace Go.AM
open Go

theorem PV.path_of_obj : ∀ (p : List Nat) (x : PV), (x.sub p).isObj = true → x.path p = true
  | [], _, _ => rfl
  | o :: p, x, h => by
    simp only [PV.sub] at h
    simp only [PV.path]
    cases hk : x.kids[o]? with
    | none => simp [hk, PV.sub_dead, PV.isObj] at h
    | some c => simp only [hk, Option.getD_some] at h; exact PV.path_of_obj p c h
def PV.withKid (x : PV) (o : Nat) (c : PV) : PV :=
  match x with
  | .agg cs => .agg (cs.set o c)
  | .tup cs => .tup (cs.set o c)
  | .box cs => .box (cs.set o c)
  | x => x
theorem PV.setSub_cons {x : PV} {o : Nat} {c : PV} (h : x.kids[o]? = some c) (p : List Nat) (y : PV) : x.setSub (o :: p) y = x.withKid o (c.setSub p y) := by
  cases x <;> simp only [PV.kids] at h <;> first | (simp at h; done) | simp [PV.setSub, PV.withKid, h]
theorem PV.kids_withKid {x : PV} {o : Nat} {c : PV} (h : x.kids[o]? = some c) (d : PV) : (x.withKid o d).kids = x.kids.set o d := by
  cases x <;> simp only [PV.kids] at h <;> first | (simp at h; done) | simp [PV.withKid, PV.kids]
theorem PV.isObj_withKid (x : PV) (o : Nat) (d : PV) : (x.withKid o d).isObj = x.isObj := by cases x <;> rfl
theorem PV.sub_setSub : ∀ (p : List Nat) (x y : PV), x.path p = true → (x.setSub p y).sub p = y
  | [], x, y, _ => by cases x <;> rfl
  | o :: p, x, y, h => by
    simp only [PV.path] at h
    cases hk : x.kids[o]? with
    | none => simp [hk] at h
    | some c =>
      simp only [hk] at h
      have hlt : o < x.kids.length := (List.getElem?_eq_some_iff.1 hk).1
      rw [PV.setSub_cons hk, PV.sub, PV.kids_withKid hk]
      simp [hlt, PV.sub_setSub p c y h]
theorem PV.path_setSub : ∀ (p : List Nat) (x y : PV), x.path p = true → (x.setSub p y).path p = true
  | [], x, y, _ => by cases x <;> rfl
  | o :: p, x, y, h => by
    simp only [PV.path] at h
    cases hk : x.kids[o]? with
    | none => simp [hk] at h
    | some c =>
      simp only [hk] at h
      have hlt : o < x.kids.length := (List.getElem?_eq_some_iff.1 hk).1
      rw [PV.setSub_cons hk, PV.path, PV.kids_withKid hk]
      simp [hlt, PV.path_setSub p c y h]
theorem PV.setSub_setSub : ∀ (p : List Nat) (x y z : PV), x.path p = true → (x.setSub p y).setSub p z = x.setSub p z
  | [], x, y, z, _ => by cases x <;> cases y <;> rfl
  | o :: p, x, y, z, h => by
    simp only [PV.path] at h
    cases hk : x.kids[o]? with
    | none => simp [hk] at h
    | some c =>
      simp only [hk] at h
      have hlt : o < x.kids.length := (List.getElem?_eq_some_iff.1 hk).1
      have hk2 : (x.withKid o (c.setSub p y)).kids[o]? = some (c.setSub p y) := by rw [PV.kids_withKid hk]; simp [hlt]
      rw [PV.setSub_cons hk, PV.setSub_cons hk2, PV.setSub_cons hk, PV.setSub_setSub p c y z h]
      cases x <;> simp [PV.withKid]
/-- Nothing new is owned but at the place itself. -/
theorem PV.setSub_weak : ∀ (p : List Nat) (x y : PV) (p' : List Nat), y.kids = [] → (y.isObj = true → (x.sub p).isObj = true) → ((x.setSub p y).sub p').isObj = true → (x.sub p').isObj = true
  | [], x, y, p', hk, ho, h => by
    have e : x.setSub [] y = y := by cases x <;> rfl
    rw [e] at h
    cases p' with
    | nil => exact ho h
    | cons a r => simp [PV.sub, hk, PV.sub_dead, PV.isObj] at h
  | o :: p, x, y, p', hk, ho, h => by
    cases hx : x.kids[o]? with
    | none =>
      cases x with
      | agg cs => simp only [PV.kids] at hx; simp only [PV.setSub] at h; rw [List.set_eq_of_length_le (List.getElem?_eq_none_iff.1 hx)] at h; exact h
      | tup cs => simp only [PV.kids] at hx; simp only [PV.setSub] at h; rw [List.set_eq_of_length_le (List.getElem?_eq_none_iff.1 hx)] at h; exact h
      | box cs => simp only [PV.kids] at hx; simp only [PV.setSub] at h; rw [List.set_eq_of_length_le (List.getElem?_eq_none_iff.1 hx)] at h; exact h
      | _ => exact h
    | some c =>
      rw [PV.setSub_cons hx] at h
      cases p' with
      | nil => simpa [PV.sub, PV.isObj_withKid] using h
      | cons a r =>
        simp only [PV.sub, PV.kids_withKid hx] at h ⊢
        by_cases ha : o = a
        · subst ha
          have hlt : o < x.kids.length := (List.getElem?_eq_some_iff.1 hx).1
          simp only [List.getElem?_set_self hlt, Option.getD_some] at h
          simp only [hx, Option.getD_some]
          refine PV.setSub_weak p c y r hk (fun o' => ?_) h
          have := ho o'
          simpa [PV.sub, hx] using this
        · rwa [List.getElem?_set_ne ha] at h

theorem Env.set_set (e : Env) (s : Nat) (y z : PV) : (e.set s y).set s z = e.set s z := by
  induction e with
  | nil => simp [Env.set]
  | cons kx r ih =>
    obtain ⟨k, x⟩ := kx
    by_cases h : k = s <;> simp [Env.set, h, ih]
theorem Env.setAt_setAt {e : Env} {s : Nat} {p : List Nat} (h : (e.get s).path p = true) (y z : PV) : (e.setAt s p y).setAt s p z = e.setAt s p z := by
  unfold Env.setAt
  rw [Env.get_set, if_pos rfl, Env.set_set, PV.setSub_setSub p _ y z h]
theorem Env.at_setAt {e : Env} {s : Nat} {p : List Nat} (h : (e.get s).path p = true) (y : PV) : (e.setAt s p y).at_ s p = y := by
  unfold Env.at_ Env.setAt
  rw [Env.get_set, if_pos rfl, PV.sub_setSub p _ y h]
theorem Env.path_setAt {e : Env} {s : Nat} {p : List Nat} (h : (e.get s).path p = true) (y : PV) : ((e.setAt s p y).get s).path p = true := by
  unfold Env.setAt
  rw [Env.get_set, if_pos rfl, PV.path_setSub p _ y h]
theorem Weak.setAt {e : Env} {s : Nat} {p : List Nat} {y : PV} (hk : y.kids = []) (ho : y.isObj = true → (e.at_ s p).isObj = true) : Weak (e.setAt s p y) e := by
  intro s' p' h
  unfold Env.at_ Env.setAt at h
  rw [Env.get_set] at h
  by_cases hs : s = s'
  · subst hs
    simp only [if_true] at h
    exact PV.setSub_weak p _ y p' hk ho h
  · simpa [hs, Env.at_] using h

section
variable {w w' : World} {I I' : Nat → Prop} {e e' : Env} {val : Nat → Value} {B : Base} {blk : Nat → List Nat} {fl : List Nat} {q : PV → Value → Prop}

mutual
theorem R.lt : ∀ (x : PV) (q : PV → Value → Prop) (V : Value) (bs : List Nat), R w I q x V bs → ∀ b ∈ bs, b < w.heap.size
  | .v x, q, V, bs, h => by rw [h.2.2]; simp
  | .agg cs, q, V, bs, h => by obtain ⟨vs, _, h⟩ := h; exact Rs.lt cs q vs bs h
  | .tup cs, q, V, bs, h => by obtain ⟨vs, _, h⟩ := h; exact Rs.lt cs q vs bs h
  | .ro sz l, q, V, bs, h => by rw [h.1]; simp
  | .own sz l, q, V, bs, h => by
    rcases h.2 with ⟨_, _, rfl⟩ | ⟨g, vs, rfl, _, cap, cur, t, fr, _, hg, _⟩
    · simp
    · simpa using (Array.getElem?_eq_some_iff.1 hg).1
  | .box cs, q, V, bs, h => by
    obtain ⟨g, us, bs', rfl, h, cur, t, fr, _, hg, _⟩ := h
    intro b hb
    rcases List.mem_cons.1 hb with rfl | hb
    · exact (Array.getElem?_eq_some_iff.1 hg).1
    · exact Rs.lt cs _ us bs' h b hb
  | .ref s p, q, V, bs, h => by rw [h.1]; simp
  | .win s p sz lo hi, q, V, bs, h => by rw [h.1]; simp
  | .addr s o, q, V, bs, h => by rw [h.1]; simp
  | .eaddr s p sz i k, q, V, bs, h => by rw [h.1]; simp
  | .raddr cs, q, V, bs, h => by rw [h.1]; simp
  | .clo f cs, q, V, bs, h => by rw [h.1]; simp
  | .nil _, q, V, bs, h => by rw [h.2]; simp
  | .dead, q, V, bs, h => by rw [show bs = [] from h]; simp
  | .iter _ _, q, V, bs, h => by
    obtain ⟨g, rfl, _, h1⟩ := h
    simpa using (Array.getElem?_eq_some_iff.1 h1).1
  | .selfp, q, V, bs, h => by rw [h.1]; simp
  | .pan _, q, V, bs, h => by rw [h.1]; simp
  | .bld T e l, q, V, bs, h => BldAt.lt h
  | .mapc _ _, q, V, bs, h => by
    obtain ⟨g, rfl, _, h1⟩ := h
    simpa using (Array.getElem?_eq_some_iff.1 h1).1
theorem Rs.lt : ∀ (l : List PV) (q : PV → Value → Prop) (vs : List Value) (bs : List Nat), Rs w I q l vs bs → ∀ b ∈ bs, b < w.heap.size
  | [], q, vs, bs, h => by rw [h.2]; simp
  | x :: r, q, vs, bs, h => by
    obtain ⟨v, vs', b1, b2, _, rfl, h1, h2⟩ := h
    intro b hb
    rcases List.mem_append.1 hb with hb | hb
    · exact R.lt x q v b1 h1 b hb
    · exact Rs.lt r q vs' b2 h2 b hb
end
theorem Inv.lt (h : Inv B e q val w I blk fl) : ∀ s b, b ∈ blk s → b < w.heap.size := fun s b hb => R.lt _ _ _ _ (h.rel s) b hb

/-- What stands at a path that is there. -/
theorem at_path : ∀ (p : List Nat) (q : PV → Value → Prop) (x : PV) (V : Value) (Bk : List Nat), R w I q x V Bk → x.path p = true →
    ∃ U bs B', walk w V p = some U ∧ (∃ q', R w I q' (x.sub p) U bs) ∧ Bk.Perm (bs ++ B') ∧ ∀ y' b', R w I nope y' U b' → ∃ B'', R w I q (x.setSub p y') V B'' ∧ B''.Perm (b' ++ B')
  | [], q, x, V, Bk, h, _ => ⟨V, Bk, [], rfl, ⟨q, h⟩, by simp, fun y' b' h' => ⟨b', by cases x <;> exact h'.ofNope, by simp⟩⟩
  | o :: p, q, x, V, Bk, h, ob => by
    simp only [PV.path] at ob
    simp only [PV.sub]
    cases hk : x.kids[o]? with
    | none => simp [hk] at ob
    | some c =>
      simp only [hk] at ob
      simp only [Option.getD_some]
      have perm3 : ∀ (B1 b B2 bs b' : List Nat), b.Perm (bs ++ b') → (B1 ++ b ++ B2).Perm (bs ++ (B1 ++ b' ++ B2)) := by
        intro B1 b B2 bs b' hp
        refine (List.Perm.append_right B2 (List.Perm.append_left B1 hp)).trans ?_
        rw [show bs ++ (B1 ++ b' ++ B2) = (bs ++ B1) ++ (b' ++ B2) by simp, show B1 ++ (bs ++ b') ++ B2 = (B1 ++ bs) ++ (b' ++ B2) by simp]
        exact List.Perm.append_right _ List.perm_append_comm
      cases x with
      | agg cs =>
        have hk' := hk
        simp only [PV.kids] at hk
        obtain ⟨vs, rfl, h⟩ := h
        obtain ⟨u, b, B1, B2, hu, rfl, h1, h2⟩ := Rs.split h hk
        obtain ⟨U, bs, b', hw, hr, hp, hre⟩ := at_path p q c u b h1 ob
        refine ⟨U, bs, B1 ++ b' ++ B2, by simp [walk, stepV, hu, hw], hr, perm3 _ _ _ _ _ hp, fun y' c' hy' => ?_⟩
        obtain ⟨B'', h3, h4⟩ := hre y' c' hy'
        refine ⟨B1 ++ B'' ++ B2, ?_, perm3 _ _ _ _ _ h4⟩
        have := h2 _ u _ h3
        rw [set_same hu] at this
        rw [PV.setSub_cons hk']
        exact ⟨vs, rfl, this⟩
      | tup cs =>
        have hk' := hk
        simp only [PV.kids] at hk
        obtain ⟨vs, rfl, h⟩ := h
        obtain ⟨u, b, B1, B2, hu, rfl, h1, h2⟩ := Rs.split h hk
        obtain ⟨U, bs, b', hw, hr, hp, hre⟩ := at_path p q c u b h1 ob
        refine ⟨U, bs, B1 ++ b' ++ B2, by simp [walk, stepV, hu, hw], hr, perm3 _ _ _ _ _ hp, fun y' c' hy' => ?_⟩
        obtain ⟨B'', h3, h4⟩ := hre y' c' hy'
        refine ⟨B1 ++ B'' ++ B2, ?_, perm3 _ _ _ _ _ h4⟩
        have := h2 _ u _ h3
        rw [set_same hu] at this
        rw [PV.setSub_cons hk']
        exact ⟨vs, rfl, this⟩
      | box cs =>
        have hk' := hk
        simp only [PV.kids] at hk
        obtain ⟨g, us, bs0, rfl, h, hb⟩ := h
        obtain ⟨u, b, B1, B2, hu, rfl, h1, h2⟩ := Rs.split h hk
        obtain ⟨U, bs, b', hw, hr, hp, hre⟩ := at_path p _ c u b h1 ob
        refine ⟨U, bs, g :: (B1 ++ b' ++ B2), by simp [walk, boxCell hb hu, hw], hr, ?_, fun y' c' hy' => ?_⟩
        · exact ((perm3 _ _ _ _ _ hp).cons g).trans List.perm_middle.symm
        · obtain ⟨B'', h3, h4⟩ := hre y' c' hy'
          refine ⟨g :: (B1 ++ B'' ++ B2), ?_, ((perm3 _ _ _ _ _ h4).cons g).trans List.perm_middle.symm⟩
          have := h2 _ u _ h3
          rw [set_same hu] at this
          rw [PV.setSub_cons hk']
          exact ⟨g, us, _, rfl, this, hb⟩
      | _ => simp [PV.kids] at hk
/-- Where nothing changed that a variable leads to, its places hold what they held. -/
theorem walk_same : ∀ (p : List Nat) (q : PV → Value → Prop) (x : PV) (V : Value) (Bk : List Nat), R w I q x V Bk → x.path p = true → (∀ b ∈ Bk, w'.heap[b]? = w.heap[b]?) → walk w' V p = walk w V p
  | [], _, _, _, _, _, _, _ => rfl
  | o :: p, q, x, V, Bk, h, ob, hw => by
    simp only [PV.path] at ob
    cases hk : x.kids[o]? with
    | none => simp [hk] at ob
    | some c =>
      simp only [hk] at ob
      cases x with
      | agg cs =>
        simp only [PV.kids] at hk
        obtain ⟨vs, rfl, h⟩ := h
        obtain ⟨u, b, B1, B2, hu, rfl, h1, _⟩ := Rs.split h hk
        simp only [walk, stepV, List.getElem?_toArray, hu, Option.bind_some]
        exact walk_same p q c u b h1 ob fun b' hb' => hw b' (by simp [hb'])
      | tup cs =>
        simp only [PV.kids] at hk
        obtain ⟨vs, rfl, h⟩ := h
        obtain ⟨u, b, B1, B2, hu, rfl, h1, _⟩ := Rs.split h hk
        simp only [walk, stepV, List.getElem?_toArray, hu, Option.bind_some]
        exact walk_same p q c u b h1 ob fun b' hb' => hw b' (by simp [hb'])
      | box cs =>
        simp only [PV.kids] at hk
        obtain ⟨g, us, bs0, rfl, h, hb⟩ := h
        obtain ⟨u, b, B1, B2, hu, rfl, h1, _⟩ := Rs.split h hk
        have s1 : stepV w V o = some u := boxCell hb hu
        have s2 : stepV w' V o = some u := by
          obtain ⟨cur, t, fr, e, hg, h3⟩ := hb
          exact boxCell (w := w') ⟨cur, t, fr, e, (hw g (by simp)).trans hg, h3⟩ hu
        simp only [walk, s1, s2, Option.bind_some]
        exact walk_same p _ c u b h1 ob fun b' hb' => hw b' (by simp [hb'])
      | _ => simp [PV.kids] at hk

/-- A place is emptied: what stood there floats. -/
theorem Inv.take (h : Inv B e q val w I blk fl) {s : Nat} {p : List Nat} (ho : (e.at_ s p).isObj = true) :
    ∃ U bs blk', place val w s p = some U ∧ R w I nope (e.at_ s p) U bs ∧ Inv B (e.setAt s p .dead) q val w I blk' (bs ++ fl) := by
  obtain ⟨U, bs, B', hw, hr, hp, hre⟩ := take_sub p q (e.get s) (val s) (blk s) (h.rel s) ho
  obtain ⟨B'', h3, h4⟩ := hre .dead [] (by simp [AM.R])
  have hp2 : (blk s).Perm (bs ++ B'') := hp.trans (List.Perm.append_left bs h4.symm)
  have hn := List.nodup_append.1 (hp2.nodup_iff.1 (h.nd s))
  have sub : ∀ t b, b ∈ updB blk s B'' t → b ∈ blk t := by
    intro t b hb
    unfold updB at hb
    split at hb
    · rename_i e; subst e; exact hp2.mem_iff.2 (by simp [hb])
    · exact hb
  have subf : ∀ b, b ∈ bs → b ∈ blk s := fun b hb => hp2.mem_iff.2 (by simp [hb])
  refine ⟨U, bs, updB blk s B'', hw, hr, { h with rel := ?_, nd := ?_, ndf := ?_, dj := ?_, djf := ?_, notI := ?_, notIf := ?_, ltf := ?_, own := ?_, ownf := ?_ }⟩
  · intro t
    unfold Env.setAt
    rw [Env.get_set]
    by_cases ht : s = t
    · subst ht; simpa [updB] using h3
    · simpa [updB, ht, Ne.symm ht] using h.rel t
  · intro t
    unfold updB
    split
    · exact hn.2.1
    · exact h.nd t
  · refine List.nodup_append.2 ⟨hn.1, h.ndf, fun a ha b hb e => ?_⟩
    subst e
    exact h.djf s a (subf a ha) hb
  · exact fun s t hst b hb hb' => h.dj s t hst b (sub s b hb) (sub t b hb')
  · intro t b hb hf
    rcases List.mem_append.1 hf with hf | hf
    · by_cases ht : t = s
      · subst ht
        simp only [updB, if_true] at hb
        exact hn.2.2 b hf b hb rfl
      · exact h.dj t s ht b (sub t b hb) (subf b hf)
    · exact h.djf t b (sub t b hb) hf
  · exact fun t b hb => h.notI t b (sub t b hb)
  · intro b hb
    rcases List.mem_append.1 hb with hb | hb
    · exact h.notI s b (subf b hb)
    · exact h.notIf b hb
  · intro b hb
    rcases List.mem_append.1 hb with hb | hb
    · exact h.lt s b (subf b hb)
    · exact h.ltf b hb
  · exact fun t b hb => h.own t b (sub t b hb)
  · intro b hb
    rcases List.mem_append.1 hb with hb | hb
    · exact h.own s b (subf b hb)
    · exact h.ownf b hb
/-- What floats is laid into a place that holds that very value. -/
theorem Inv.lay {bs : List Nat} (h : Inv B e q val w I blk (bs ++ fl)) {s : Nat} {p : List Nat} (hpath : (e.get s).path p = true) {y : PV} {U : Value} (hU : place val w s p = some U) (hy : R w I nope y U bs) :
    ∃ blk', Inv B (e.setAt s p y) q val w I blk' fl := by
  obtain ⟨U', b0, B', hw, hr, hp, hre⟩ := at_path p q (e.get s) (val s) (blk s) (h.rel s) hpath
  obtain rfl : U' = U := by unfold place at hU; rw [hw] at hU; exact Option.some.inj hU
  obtain ⟨B'', h3, h4⟩ := hre y bs hy
  have hn := List.nodup_append.1 h.ndf
  have inB : ∀ b, b ∈ B'' → b ∈ bs ∨ b ∈ blk s := by
    intro b hb
    rcases List.mem_append.1 (h4.mem_iff.1 hb) with hb | hb
    · exact .inl hb
    · exact .inr (hp.mem_iff.2 (by simp [hb]))
  have hndB : B''.Nodup := by
    rw [h4.nodup_iff]
    refine List.nodup_append.2 ⟨hn.1, (List.nodup_append.1 (hp.nodup_iff.1 (h.nd s))).2.1, fun a ha b hb e => ?_⟩
    subst e
    exact h.djf s a (hp.mem_iff.2 (by simp [hb])) (by simp [ha])
  have cases' : ∀ t b, b ∈ updB blk s B'' t → (b ∈ bs ∧ t = s) ∨ b ∈ blk t := by
    intro t b hb
    unfold updB at hb
    split at hb
    · rename_i e; subst e
      rcases inB b hb with hb | hb
      · exact .inl ⟨hb, rfl⟩
      · exact .inr hb
    · exact .inr hb
  refine ⟨updB blk s B'', { h with rel := ?_, nd := ?_, ndf := hn.2.1, dj := ?_, djf := ?_, notI := ?_, notIf := ?_, ltf := ?_, own := ?_, ownf := ?_ }⟩
  · intro t
    unfold Env.setAt
    rw [Env.get_set]
    by_cases ht : s = t
    · subst ht; simpa [updB] using h3
    · simpa [updB, ht, Ne.symm ht] using h.rel t
  · intro t
    unfold updB
    split
    · exact hndB
    · exact h.nd t
  · intro t u htu b hb hb'
    rcases cases' t b hb with ⟨h1, rfl⟩ | h1 <;> rcases cases' u b hb' with ⟨h2, rfl⟩ | h2
    · exact htu rfl
    · exact h.djf u b h2 (by simp [h1])
    · exact h.djf t b h1 (by simp [h2])
    · exact h.dj t u htu b h1 h2
  · intro t b hb hf
    rcases cases' t b hb with ⟨h1, _⟩ | h1
    · exact hn.2.2 b h1 b hf rfl
    · exact h.djf t b h1 (by simp [hf])
  · intro t b hb
    rcases cases' t b hb with ⟨h1, _⟩ | h1
    · exact h.notIf b (by simp [h1])
    · exact h.notI t b h1
  · exact fun b hb => h.notIf b (by simp [hb])
  · exact fun b hb => h.ltf b (by simp [hb])
  · intro t b hb
    rcases cases' t b hb with ⟨h1, _⟩ | h1
    · exact h.ownf b (by simp [h1])
    · exact h.own t b h1
  · exact fun b hb => h.ownf b (by simp [hb])
/-- The world moves on: only what floats may have changed; new blocks float, too. -/
theorem Inv.world (h : Inv B e q val w I blk fl) (hos : w'.os = w.os) (htape : w'.tape = w.tape) (hout : w'.output = w.output) (hsize : w.heap.size ≤ w'.heap.size)
    (hsame : ∀ b, b < w.heap.size → b ∉ fl → w'.heap[b]? = w.heap[b]?) (new : List Nat) (hnew : ∀ b ∈ new, w.heap.size ≤ b ∧ b < w'.heap.size) (hnd : new.Nodup) :
    Inv B e q val w' I blk (new ++ fl) := by
  refine { h with rel := ?_, ndf := ?_, djf := ?_, notIf := ?_, ltI := ?_, ltf := ?_, ownf := ?_, os := hos.trans h.os, tape := htape.trans h.tape, output := hout.trans h.output, size := Nat.le_trans h.size hsize, same := ?_, glob := ?_ }
  · intro s
    refine R.mono (fun _ h => h) (fun b hb => hsame b (h.ltI b hb) fun hf => h.notIf b hf hb) _ q q (fun _ _ h => h) _ _ (fun b hb => hsame b (h.lt s b hb) (h.djf s b hb)) (h.rel s)
  · refine List.nodup_append.2 ⟨hnd, h.ndf, fun a ha b hb e => ?_⟩
    subst e
    have := (hnew a ha).1
    have := h.ltf a hb
    omega
  · intro s b hb hf
    rcases List.mem_append.1 hf with hf | hf
    · have := (hnew b hf).1
      have := h.lt s b hb
      omega
    · exact h.djf s b hb hf
  · intro b hb hI
    rcases List.mem_append.1 hb with hb | hb
    · have := (hnew b hb).1
      have := h.ltI b hI
      omega
    · exact h.notIf b hb hI
  · exact fun b hb => Nat.lt_of_lt_of_le (h.ltI b hb) hsize
  · intro b hb
    rcases List.mem_append.1 hb with hb | hb
    · exact (hnew b hb).2
    · exact Nat.lt_of_lt_of_le (h.ltf b hb) hsize
  · intro b hb
    rcases List.mem_append.1 hb with hb | hb
    · exact .inr (Nat.le_trans h.size (hnew b hb).1)
    · exact h.ownf b hb
  · intro b hb hS
    rw [hsame b (Nat.lt_of_lt_of_le hb h.size) fun hf => ?_]
    · exact h.same b hb hS
    · rcases h.ownf b hf with h1 | h1
      · exact hS h1
      · omega
  · exact fun n hn => R.mono (fun _ h => h) (fun b hb => hsame b (h.ltI b hb) fun hf => h.notIf b hf hb) _ nope nope (fun _ _ h => h) _ _ (by simp) (h.glob n hn)
/-- What floats is made unchangeable. -/
theorem Inv.frozen {bs : List Nat} (h : Inv B e q val w I blk (bs ++ fl)) : Inv B e q val w (fun b => I b ∨ b ∈ bs) blk fl := by
  have hn := List.nodup_append.1 h.ndf
  refine { h with rel := ?_, ndf := hn.2.1, djf := fun s b hb hf => h.djf s b hb (by simp [hf]), notI := ?_, notIf := ?_, ltI := ?_, ltf := fun b hb => h.ltf b (by simp [hb]), keepI := fun b hb => .inl (h.keepI b hb), newI := ?_, ownf := fun b hb => h.ownf b (by simp [hb]), glob := fun n hn => R.mono (fun b hb => .inl hb) (fun _ _ => rfl) _ nope nope (fun _ _ h => h) _ _ (fun _ _ => rfl) (h.glob n hn) }
  · exact fun s => R.mono (fun b hb => .inl hb) (fun _ _ => rfl) _ q q (fun _ _ h => h) _ _ (fun _ _ => rfl) (h.rel s)
  · rintro s b hb (hI | hf)
    · exact h.notI s b hb hI
    · exact h.djf s b hb (by simp [hf])
  · rintro b hb (hI | hf)
    · exact h.notIf b (by simp [hb]) hI
    · exact hn.2.2 b hf b hb rfl
  · rintro b (hI | hf)
    · exact h.ltI b hI
    · exact h.ltf b (by simp [hf])
  · rintro b (hI | hf)
    · exact h.newI b hI
    · exact .inr (h.ownf b (by simp [hf]))
/-- The references are told by what stands now. -/
theorem Inv.finish {e0 : Env} {w0 : World} (h : Inv B e (refOK e0 val w0) val w I blk fl) (hw : Weak e e0) (hp : ∀ s p, (e.at_ s p).isObj = true → place val w s p = place val w0 s p) : Inv B e (refOK e val w) val w I blk fl := by
  refine { h with rel := fun s => R.mono (fun _ h => h) (fun _ _ => rfl) _ _ _ ?_ _ _ (fun _ _ => rfl) (h.rel s) }
  intro x V k
  cases x <;> simp only [AM.refOK] at k ⊢
  · exact ⟨k.1, fun o => (hp _ _ o).trans (k.2 (hw _ _ o))⟩
  · refine ⟨k.1, fun o => ?_⟩
    rw [hp _ _ o]
    exact k.2 (hw _ _ o)
  · exact ⟨k.1, fun o => k.2 (hw _ [] o)⟩
  · refine ⟨k.1, fun o => ?_⟩
    rw [hp _ _ o]
    exact k.2 (hw _ _ o)
end
end Go.AM

/- Operands, and what is taken from where they point to. No conditions. -/
namespace Go.AM
open Go

/-! ### Rows of elements -/
section
variable {w : World} {I : Nat → Prop} {q : PV → Value → Prop}
theorem nope_oneCell : ∀ y U, nope y U → U.oneCell' = true := fun _ _ h => h.elim
theorem imm_ne_dead {x : PV} (h : x.imm = true) : x ≠ .dead := by rintro rfl; simp [PV.imm] at h
theorem SzOk.sizes {sz : Nat} {l : List PV} (hs : SzOk sz l) {vs : List Value} (h : Rs w I nope l vs []) : ∀ v ∈ vs, v.cells.size = sz := by
  induction l generalizing vs with
  | nil => obtain ⟨rfl, _⟩ := h; simp
  | cons x r ih =>
    obtain ⟨v, us, b1, b2, rfl, e, h1, h2⟩ := h
    obtain ⟨rfl, rfl⟩ : b1 = [] ∧ b2 = [] := by simpa using e.symm
    intro u hu
    rcases List.mem_cons.1 hu with rfl | hu
    · rw [R.cells_length (imm_ne_dead (hs x (by simp)).2) nope_oneCell h1, (hs x (by simp)).1]
    · exact ih (fun y hy => hs y (by simp [hy])) h2 u hu
theorem flatV_length {sz : Nat} {vs : List Value} (h : ∀ v ∈ vs, v.cells.size = sz) : (flatV vs).length = vs.length * sz := by
  induction vs with
  | nil => simp [flatV]
  | cons v r ih =>
    have := ih (fun u hu => h u (by simp [hu]))
    simp only [flatV, List.flatMap_cons, List.length_append, Array.length_toList, h v (by simp), List.length_cons] at this ⊢
    rw [this, Nat.add_mul]
    omega
theorem flatV_append (a b : List Value) : flatV (a ++ b) = flatV a ++ flatV b := by simp [flatV]
theorem flatV_take {sz : Nat} {vs : List Value} (h : ∀ v ∈ vs, v.cells.size = sz) (n : Nat) : (flatV vs).take (n * sz) = flatV (vs.take n) := by
  induction vs generalizing n with
  | nil => simp [flatV]
  | cons v r ih =>
    have hv := h v (by simp)
    cases n with
    | zero => simp [flatV]
    | succ n =>
      have := ih (fun u hu => h u (by simp [hu])) n
      simp only [flatV, List.flatMap_cons, List.take_succ_cons] at this ⊢
      rw [Nat.add_mul, Nat.one_mul, Nat.add_comm, List.take_append, List.take_of_length_le (by simp [hv]), ← this]
      simp [hv]
theorem flatV_drop {sz : Nat} {vs : List Value} (h : ∀ v ∈ vs, v.cells.size = sz) (n : Nat) : (flatV vs).drop (n * sz) = flatV (vs.drop n) := by
  induction vs generalizing n with
  | nil => simp [flatV]
  | cons v r ih =>
    have hv := h v (by simp)
    cases n with
    | zero => simp [flatV]
    | succ n =>
      have := ih (fun u hu => h u (by simp [hu])) n
      simp only [flatV, List.flatMap_cons, List.drop_succ_cons] at this ⊢
      rw [Nat.add_mul, Nat.one_mul, Nat.add_comm, List.drop_append, List.drop_of_length_le (by simp [hv]), List.nil_append, ← this]
      simp [hv]
theorem flatV_get {sz : Nat} {vs : List Value} (h : ∀ v ∈ vs, v.cells.size = sz) {i : Nat} {v : Value} (hv : vs[i]? = some v) {k : Nat} {u : Value} (hu : v.cells.toList[k]? = some u) : (flatV vs)[i * sz + k]? = some u := by
  have hk : k < sz := by
    have := (List.getElem?_eq_some_iff.1 hu).1
    rw [Array.length_toList, h v (List.mem_of_getElem? hv)] at this
    exact this
  have h1 : ((flatV vs).drop (i * sz))[k]? = some u := by
    rw [flatV_drop h]
    have : vs.drop i = v :: vs.drop (i + 1) := by
      have hlt := (List.getElem?_eq_some_iff.1 hv).1
      rw [List.drop_eq_getElem_cons hlt, (List.getElem?_eq_some_iff.1 hv).2]
    rw [this]
    have hkl := (List.getElem?_eq_some_iff.1 hu).1
    simp only [flatV, List.flatMap_cons]
    rw [List.getElem?_append_left hkl]
    exact hu
  simpa using h1
theorem SzOk.take {sz : Nat} {l : List PV} (h : SzOk sz l) (n : Nat) : SzOk sz (l.take n) := fun x hx => h x (List.mem_of_mem_take hx)
theorem SzOk.drop {sz : Nat} {l : List PV} (h : SzOk sz l) (n : Nat) : SzOk sz (l.drop n) := fun x hx => h x (List.mem_of_mem_drop hx)
theorem SzOk.append {sz : Nat} {l r : List PV} (h : SzOk sz l) (k : SzOk sz r) : SzOk sz (l ++ r) := fun x hx => (List.mem_append.1 hx).elim (h x) (k x)
end

section
variable {w : World} {I : Nat → Prop} {e e' : Env} {val : Nat → Value} {B : Base} {blk : Nat → List Nat} {fl : List Nat} {q : PV → Value → Prop}

/-- The beginning of an owned row, as a value of its own. -/
theorem own_take {sz : Nat} {l : List PV} {U V : Value} {bs : List Nat} {s : Nat} {p : List Nat} {hi : Nat} (h : R w I nope (.own sz l) U bs) (hp : place val w s p = some U)
    (hv : ∃ a n cap a' cap', place val w s p = some (.slice a n cap) ∧ V = .slice a' (hi - 0) cap' ∧ 0 ≤ hi ∧ hi ≤ n ∧ 0 + cap' ≤ cap ∧ hi - 0 ≤ cap' ∧ (0 = 0 → a' = a) ∧ (0 < hi → a' = a.map (·.add (0 * sz)))) :
    R w I nope (.own sz (l.take hi)) V bs := by
  obtain ⟨a, n, cap, a', cap', h1, rfl, _, h3, h4, h5, h6⟩ := hv
  rw [hp] at h1
  obtain rfl := Option.some.inj h1
  have ha : a' = a := h6.1 rfl
  subst ha
  simp only [Nat.sub_zero, Nat.zero_add] at *
  refine ⟨SzOk.take h.1 hi, ?_⟩
  rcases h.2 with ⟨e1, rfl, rfl⟩ | ⟨g, vs, rfl, h7, cap2, cur, t, fr, e1, h8, h9, h10, h11, h12, h13⟩
  · cases e1
    obtain rfl : hi = 0 := by omega
    obtain rfl : cap' = 0 := by omega
    exact .inl ⟨rfl, rfl, rfl⟩
  · cases e1
    have hl : (l.take hi).length = hi := by simp; omega
    refine .inr ⟨g, vs.take hi, rfl, h7.take0 hi, cap', cur, t, fr, by rw [hl], h8, by omega, by omega, Nat.le_trans (Nat.mul_le_mul_right _ h4) h11, ?_, ?_⟩
    · rcases h12 with h12 | h12
      · exact .inl h12
      · exact .inr (Nat.le_trans (Nat.mul_le_mul_right _ h4) h12)
    · rw [hl, ← flatV_take (SzOk.sizes h.1 h7), ← h13, List.take_take]
      congr 1
      exact (Nat.min_eq_left (Nat.mul_le_mul_right _ (by omega))).symm

theorem settle1_ok (h : Inv B e q val w I blk fl) {x : PV} {V : Value} (hx : R w I (refOK e val w) x V []) {y : PV} (hs : settle1 e x = some (y, e')) :
    ∃ blk' bs, Inv B e' q val w I blk' (bs ++ fl) ∧ R w I nope y V bs ∧ Weak e' e := by
  cases x with
  | v x =>
    simp only [settle1, Option.some.injEq, Prod.mk.injEq] at hs
    obtain ⟨rfl, rfl⟩ := hs
    exact ⟨blk, [], h, hx, Weak.refl _⟩
  | ro sz l =>
    simp only [settle1, Option.some.injEq, Prod.mk.injEq] at hs
    obtain ⟨rfl, rfl⟩ := hs
    exact ⟨blk, [], h, hx, Weak.refl _⟩
  | raddr cs =>
    simp only [settle1, Option.some.injEq, Prod.mk.injEq] at hs
    obtain ⟨rfl, rfl⟩ := hs
    exact ⟨blk, [], h, hx, Weak.refl _⟩
  | clo f cs =>
    simp only [settle1, Option.some.injEq, Prod.mk.injEq] at hs
    obtain ⟨rfl, rfl⟩ := hs
    exact ⟨blk, [], h, hx, Weak.refl _⟩
  | nil sz =>
    simp only [settle1, Option.some.injEq, Prod.mk.injEq] at hs
    obtain ⟨rfl, rfl⟩ := hs
    exact ⟨blk, [], h, ⟨fun x hx => (by cases hx), .inl ⟨hx.1, rfl, rfl⟩⟩, Weak.refl _⟩
  | ref s p =>
    have hx2 := hx.2
    simp only [refOK] at hx2
    simp only [settle1] at hs
    split at hs
    · rename_i sz l hat
      simp only [Option.some.injEq, Prod.mk.injEq] at hs
      obtain ⟨rfl, rfl⟩ := hs
      have ho : (e.at_ s p).isObj = true := by rw [hat]; rfl
      obtain ⟨U, bs, blk', h1, h2, h3⟩ := h.take ho
      rw [hx2.2 ho] at h1
      obtain rfl := Option.some.inj h1
      rw [hat] at h2
      exact ⟨blk', bs, h3, h2, Weak.setAt rfl (by simp [PV.isObj])⟩
    · rename_i cs hat
      split at hs
      · simp only [Option.some.injEq, Prod.mk.injEq] at hs
        obtain ⟨rfl, rfl⟩ := hs
        have ho : (e.at_ s p).isObj = true := by rw [hat]; rfl
        obtain ⟨U, bs, blk', h1, h2, h3⟩ := h.take ho
        rw [hx2.2 ho] at h1
        obtain rfl := Option.some.inj h1
        rw [hat] at h2
        exact ⟨blk', bs, h3, h2, Weak.setAt rfl (by simp [PV.isObj])⟩
      · simp at hs
    · rename_i es c hat
      split at hs
      · simp only [Option.some.injEq, Prod.mk.injEq] at hs
        obtain ⟨rfl, rfl⟩ := hs
        have ho : (e.at_ s p).isObj = true := by rw [hat]; rfl
        obtain ⟨U, bs, blk', h1, h2, h3⟩ := h.take ho
        rw [hx2.2 ho] at h1
        obtain rfl := Option.some.inj h1
        rw [hat] at h2
        exact ⟨blk', bs, h3, h2, Weak.setAt rfl (by simp [PV.isObj])⟩
      · simp at hs
    · simp at hs
  | win s p sz lo hi =>
    have hx2 := hx.2
    simp only [refOK] at hx2
    simp only [settle1] at hs
    split at hs
    · rename_i sz' l hat
      split at hs
      · rename_i hc
        obtain ⟨rfl, rfl⟩ := hc
        simp only [Option.some.injEq, Prod.mk.injEq] at hs
        obtain ⟨rfl, rfl⟩ := hs
        have ho : (e.at_ s p).isObj = true := by rw [hat]; rfl
        obtain ⟨U, bs, blk', h1, h2, h3⟩ := h.take ho
        rw [hat] at h2
        exact ⟨blk', bs, h3, own_take h2 h1 (hx2.2 ho), Weak.setAt rfl (by simp [PV.isObj])⟩
      · simp at hs
    · simp at hs
  | _ => simp [settle1] at hs

theorem settleL_ok {l : List PV} : ∀ {e e' : Env} {blk : Nat → List Nat} {fl : List Nat} {vs : List Value} {ys : List PV}, Inv B e q val w I blk fl → Rs w I (refOK e val w) l vs [] → settleL e l = some (ys, e') →
    ∃ blk' bs, Inv B e' q val w I blk' (bs ++ fl) ∧ Rs w I nope ys vs bs ∧ Weak e' e := by
  induction l with
  | nil =>
    intro e e' blk fl vs ys h hx hs
    simp only [settleL, Option.some.injEq, Prod.mk.injEq] at hs
    obtain ⟨rfl, rfl⟩ := hs
    exact ⟨blk, [], h, ⟨hx.1, rfl⟩, Weak.refl _⟩
  | cons x r ih =>
    intro e e' blk fl vs ys h hx hs
    obtain ⟨v, us, b1, b2, rfl, e0, h1, h2⟩ := hx
    obtain ⟨rfl, rfl⟩ : b1 = [] ∧ b2 = [] := by simpa using e0.symm
    simp only [settleL, Option.bind_eq_bind, Option.bind_eq_some_iff, Option.pure_def, Option.some.injEq, Prod.mk.injEq, Prod.exists] at hs
    obtain ⟨y, e1, hs1, ys', e2, hs2, rfl, rfl⟩ := hs
    obtain ⟨blk1, bs1, h3, h4, h5⟩ := settle1_ok h h1 hs1
    obtain ⟨blk2, bs2, h6, h7, h8⟩ := ih h3 (h5.Rs h2) hs2
    refine ⟨blk2, bs1 ++ bs2, h6.fl_perm ?_, ⟨v, us, bs1, bs2, rfl, rfl, h4, h7⟩, h8.trans h5⟩
    rw [show bs2 ++ (bs1 ++ fl) = (bs2 ++ bs1) ++ fl by simp]
    exact List.Perm.append_right _ List.perm_append_comm
theorem settle_ok (h : Inv B e q val w I blk fl) {x : PV} {V : Value} (hx : R w I (refOK e val w) x V []) {y : PV} (hs : settle e x = some (y, e')) :
    ∃ blk' bs, Inv B e' q val w I blk' (bs ++ fl) ∧ R w I nope y V bs ∧ Weak e' e := by
  unfold settle at hs
  split at hs
  · rename_i cs
    simp only [Option.bind_eq_bind, Option.bind_eq_some_iff, Option.pure_def, Option.some.injEq, Prod.mk.injEq, Prod.exists] at hs
    obtain ⟨ys, e1, hs1, rfl, rfl⟩ := hs
    obtain ⟨vs, rfl, hx⟩ := hx
    obtain ⟨blk', bs, h1, h2, h3⟩ := settleL_ok h hx hs1
    exact ⟨blk', bs, h1, ⟨vs, rfl, h2⟩, h3⟩
  · rename_i cs
    simp only [Option.bind_eq_bind, Option.bind_eq_some_iff, Option.pure_def, Option.some.injEq, Prod.mk.injEq, Prod.exists] at hs
    obtain ⟨ys, e1, hs1, rfl, rfl⟩ := hs
    obtain ⟨vs, rfl, hx⟩ := hx
    obtain ⟨blk', bs, h1, h2, h3⟩ := settleL_ok h hx hs1
    exact ⟨blk', bs, h1, ⟨vs, rfl, h2⟩, h3⟩
  · exact settle1_ok h hx hs

/-! ### The elements that a view tells -/
/-- A slice's header and its elements' cells, wherever they lie. -/
def SliceOf (w : World) (I : Nat → Prop) (sz : Nat) (l : List PV) (V : Value) : Prop :=
  SzOk sz l ∧ ∃ a cap vs, V = .slice a l.length cap ∧ l.length ≤ cap ∧ Rs w I nope l vs [] ∧ (l = [] ∨ ∃ A : Addr, a = some A ∧ A.spot = none ∧ A.block < w.heap.size ∧ CellsAt w A (flatV vs))
theorem settleP_ok {l : List PV} : ∀ {e e' : Env} {blk : Nat → List Nat} {fl : List Nat} {vs : List Value} {ys : List PV}, Inv B e q val w I blk fl → Rs w I (refOK e val w) l vs [] → settleP e l = some (ys, e') →
    ∃ blk' bs, Inv B e' q val w I blk' (bs ++ fl) ∧ Rs w I nope ys vs bs ∧ Weak e' e := by
  induction l with
  | nil =>
    intro e e' blk fl vs ys h hx hs
    simp only [settleP, Option.some.injEq, Prod.mk.injEq] at hs
    obtain ⟨rfl, rfl⟩ := hs
    exact ⟨blk, [], h, ⟨hx.1, rfl⟩, Weak.refl _⟩
  | cons x r ih =>
    intro e e' blk fl vs ys h hx hs
    obtain ⟨v, us, b1, b2, rfl, e0, h1, h2⟩ := hx
    obtain ⟨rfl, rfl⟩ : b1 = [] ∧ b2 = [] := by simpa using e0.symm
    simp only [settleP, Option.bind_eq_bind, Option.bind_eq_some_iff, Option.pure_def, Option.some.injEq, Prod.mk.injEq, Prod.exists] at hs
    obtain ⟨y, e1, hs1, ys', e2, hs2, rfl, rfl⟩ := hs
    obtain ⟨blk1, bs1, h3, h4, h5⟩ := settle_ok h h1 hs1
    obtain ⟨blk2, bs2, h6, h7, h8⟩ := ih h3 (h5.Rs h2) hs2
    refine ⟨blk2, bs1 ++ bs2, h6.fl_perm ?_, ⟨v, us, bs1, bs2, rfl, rfl, h4, h7⟩, h8.trans h5⟩
    rw [show bs2 ++ (bs1 ++ fl) = (bs2 ++ bs1) ++ fl by simp]
    exact List.Perm.append_right _ List.perm_append_comm
theorem own_slice {sz : Nat} {l : List PV} {V : Value} {bs : List Nat} (h : R w I q (.own sz l) V bs) : SliceOf w I sz l V := by
  refine ⟨h.1, ?_⟩
  rcases h.2 with ⟨rfl, rfl, rfl⟩ | ⟨g, vs, rfl, h7, cap, cur, t, fr, rfl, h8, h9, h10, h11, h12, h13⟩
  · exact ⟨none, 0, [], rfl, Nat.le_refl _, ⟨rfl, rfl⟩, .inl rfl⟩
  · refine ⟨_, cap, vs, rfl, h9, h7, .inr ⟨_, rfl, rfl, (Array.getElem?_eq_some_iff.1 h8).1, fun j u hu => ?_⟩⟩
    have hadd : (⟨g, 0, none⟩ : Addr).add j = ⟨g, j, none⟩ := by unfold Addr.add; split <;> simp_all
    rw [hadd, cell_of_row w g j cur t fr h8]
    rw [← h13, List.getElem?_take] at hu
    split at hu
    · simpa using hu
    · cases hu
theorem ro_slice (hI : ∀ b, I b → b < w.heap.size) {sz : Nat} {l : List PV} {V : Value} {bs : List Nat} (h : R w I q (.ro sz l) V bs) : SliceOf w I sz l V := by
  obtain ⟨_, hs, a, cap, rfl, hc, h⟩ := h
  refine ⟨hs, ?_⟩
  rcases h with rfl | ⟨A, vs, rfl, h2, h3, h4, h5⟩
  · exact ⟨a, cap, [], rfl, hc, ⟨rfl, rfl⟩, .inl rfl⟩
  · exact ⟨some A, cap, vs, rfl, hc, h4, .inr ⟨A, rfl, h2, hI _ h3, h5⟩⟩
theorem add_add (A : Addr) (i j : Nat) (h : A.spot = none) : (A.add i).add j = A.add (i + j) := by
  obtain ⟨b, o, s⟩ := A
  cases h
  simp only [Addr.add_lit, Nat.add_assoc]
theorem spot_add (A : Addr) (i : Nat) (h : A.spot = none) : (A.add i).spot = none := by
  unfold Addr.add
  split
  · exact h
  · rfl
theorem block_add (A : Addr) (i : Nat) : (A.add i).block = A.block := by
  unfold Addr.add
  split <;> rfl
theorem CellsAt.drop {A : Addr} {us : List Value} (h : CellsAt w A us) (hs : A.spot = none) (n : Nat) : CellsAt w (A.add n) (us.drop n) := by
  intro j u hu
  rw [add_add _ _ _ hs]
  exact h (n + j) u (by simpa using hu)
theorem CellsAt.take {A : Addr} {us : List Value} (h : CellsAt w A us) (n : Nat) : CellsAt w A (us.take n) := by
  intro j u hu
  rw [List.getElem?_take] at hu
  split at hu
  · exact h j u hu
  · cases hu
/-- A cut of a slice. -/
theorem SliceOf.cut {sz : Nat} {l : List PV} {a : Option Addr} {n cap : Nat} (h : SliceOf w I sz l (.slice a n cap)) {lo hi cap' : Nat} {a' : Option Addr} (h1 : lo ≤ hi) (h2 : hi ≤ l.length) (_h3 : lo + cap' ≤ cap) (h4 : hi - lo ≤ cap')
    (h5 : lo < hi → a' = a.map (·.add (lo * sz))) : SliceOf w I sz ((l.take hi).drop lo) (.slice a' (hi - lo) cap') := by
  obtain ⟨hs, a0, c0, vs, e, _, hr, hc⟩ := h
  cases e
  have hl : ((l.take hi).drop lo).length = hi - lo := by simp; omega
  refine ⟨(hs.take hi).drop lo, a', cap', (vs.take hi).drop lo, by rw [hl], by omega, (hr.take0 hi).drop0 lo, ?_⟩
  by_cases he : hi = lo
  · left
    apply List.eq_nil_of_length_eq_zero
    omega
  · right
    rcases hc with rfl | ⟨A, rfl, hA, hb, hcells⟩
    · simp at h2; omega
    · refine ⟨A.add (lo * sz), h5 (by omega), spot_add _ _ hA, by rw [block_add]; exact hb, ?_⟩
      have hsz := SzOk.sizes hs hr
      rw [← flatV_drop (fun v hv => hsz v (List.mem_of_mem_take hv)), ← flatV_take hsz]
      exact (hcells.take _).drop hA _
theorem elems_ok (h : Inv B e (refOK e val w) val w I blk fl) {x : PV} {V : Value} (hx : R w I (refOK e val w) x V []) {sz : Nat} {l : List PV} (he : elems e x = some (sz, l)) : SliceOf w I sz l V := by
  cases x with
  | ro sz' l' =>
    simp only [elems, Option.some.injEq, Prod.mk.injEq] at he
    obtain ⟨rfl, rfl⟩ := he
    exact ro_slice h.ltI hx
  | nil sz' =>
    simp only [elems, Option.some.injEq, Prod.mk.injEq] at he
    obtain ⟨rfl, rfl⟩ := he
    exact ⟨fun x hx => by simp at hx, none, 0, [], hx.1, Nat.le_refl _, ⟨rfl, rfl⟩, .inl rfl⟩
  | ref s p =>
    have hx2 := hx.2
    simp only [refOK] at hx2
    simp only [elems] at he
    split at he
    · rename_i sz' l' hat
      simp only [Option.some.injEq, Prod.mk.injEq] at he
      obtain ⟨rfl, rfl⟩ := he
      have ho : (e.at_ s p).isObj = true := by rw [hat]; rfl
      obtain ⟨U, bs, blk', h1, h2, _⟩ := h.take ho
      rw [hx2.2 ho] at h1
      obtain rfl := Option.some.inj h1
      rw [hat] at h2
      exact own_slice h2
    · simp at he
  | win s p sz' lo hi =>
    have hx2 := hx.2
    simp only [refOK] at hx2
    simp only [elems] at he
    split at he
    · rename_i sz2 l' hat
      split at he
      · rename_i hc
        subst hc
        simp only [Option.some.injEq, Prod.mk.injEq] at he
        obtain ⟨rfl, rfl⟩ := he
        have ho : (e.at_ s p).isObj = true := by rw [hat]; rfl
        obtain ⟨U, bs, blk', h1, h2, _⟩ := h.take ho
        obtain ⟨a, n, cap, a', cap', h3, rfl, h4, h5, h6, h7, h8⟩ := hx2.2 ho
        rw [h3] at h1
        obtain rfl := Option.some.inj h1
        rw [hat] at h2
        have hsl := own_slice h2
        have hn : n = l'.length := by obtain ⟨_, a0, c0, vs, e1, _⟩ := hsl; cases e1; rfl
        exact hsl.cut h4 (by omega) h6 h7 h8.2
      · simp at he
    · simp at he
  | _ => simp [elems] at he
end
end Go.AM
