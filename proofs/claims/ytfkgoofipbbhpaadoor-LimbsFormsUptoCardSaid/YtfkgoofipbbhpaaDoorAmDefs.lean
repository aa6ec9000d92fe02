/- The abstract machine: values as trees, slices as lists, memory uniquely owned by the variable that holds it. Its run is proved sound elsewhere. No conditions. -/
import Derived.WalkKit
import Derived.Laws.AppendOwn
import Derived.Laws.OwnMore
import Derived.KernelRfl
import Derived.Laws.Externs
namespace Go.AM

inductive PV where
  | v (x : Value)
  | agg (cs : List PV)
  | tup (cs : List PV)
  | ro (sz : Nat) (l : List PV)
  | own (sz : Nat) (l : List PV)
  | box (cs : List PV)
  | ref (s : Nat) (p : List Nat)
  | win (s : Nat) (p : List Nat) (sz lo hi : Nat)
  | addr (s : Nat) (o : Nat)
  | eaddr (s : Nat) (p : List Nat) (sz i k : Nat)
  | raddr (cs : List PV)
  | nil (sz : Nat)
  | dead
  | iter (s : ByteArray) (pos : Nat)
  | selfp
  | bld (T e : TypeId) (l : List UInt8)
  deriving Inhabited

namespace PV
/-- A value that takes one cell. -/
def one : PV → Bool
  | .v _ => true
  | .ro _ _ => true
  | .own _ _ => true
  | .box _ => true
  | .raddr _ => true
  | .nil _ => true
  | .selfp => true
  | _ => false
def isDead : PV → Bool
  | .dead => true
  | _ => false
def int (k : IntKind) (n : Int) : PV := .v (.int k n)
def bool (b : Bool) : PV := .v (.bool b)
def str (s : ByteArray) : PV := .v (.string s)
def cells : PV → List PV
  | .agg cs => cs
  | x => [x]
def kids : PV → List PV
  | .agg cs | .tup cs | .box cs => cs
  | _ => []
/-- The value at a path. -/
def sub : PV → List Nat → PV
  | x, [] => x
  | x, o :: p => ((x.kids)[o]?.getD .dead).sub p
def setSub : PV → List Nat → PV → PV
  | _, [], y => y
  | .agg cs, o :: p, y => .agg (cs.set o ((cs[o]?.getD .dead).setSub p y))
  | .tup cs, o :: p, y => .tup (cs.set o ((cs[o]?.getD .dead).setSub p y))
  | .box cs, o :: p, y => .box (cs.set o ((cs[o]?.getD .dead).setSub p y))
  | x, _ :: _, _ => x
/-- A slice that nobody holds yet. -/
def fresh : PV → PV
  | .nil sz => .own sz []
  | x => x
def isObj : PV → Bool
  | .own _ _ => true
  | .box _ => true
  | .iter _ _ => true
  | .bld _ _ _ => true
  | _ => false
def path : PV → List Nat → Bool
  | _, [] => true
  | x, o :: p => match x.kids[o]? with
    | some c => c.path p
    | none => false
mutual
/-- Is there nothing in it but what never changes? -/
def imm : PV → Bool
  | .v _ => true
  | .ro _ _ => true
  | .raddr _ => true
  | .nil _ => true
  | .agg cs => immL cs && cs.all one
  | _ => false
def immL : List PV → Bool
  | [] => true
  | x :: r => x.imm && immL r
end
mutual
/-- No slice of elements that a lent row may bear. -/
def noRo : PV → Bool
  | .v _ => true
  | .ro _ l => l.isEmpty
  | .own _ l => noRoL l
  | .agg cs | .tup cs | .box cs => noRoL cs
  | .dead => true
  | .nil _ => true
  | .selfp => true
  | .bld _ _ _ => true
  | _ => false
def noRoL : List PV → Bool
  | [] => true
  | x :: r => x.noRo && noRoL r
end
mutual
/-- Is there something in it that is owned? -/
def hasObj : PV → Bool
  | .own _ _ => true
  | .box _ => true
  | .iter _ _ => true
  | .bld _ _ _ => true
  | .agg cs | .tup cs => hasObjL cs
  | _ => false
def hasObjL : List PV → Bool
  | [] => false
  | x :: r => x.hasObj || hasObjL r
end
mutual
/-- Does a value speak of a place at slot s whose path the test takes? -/
def ment (s : Nat) (t : List Nat → Bool) : PV → Bool
  | .ref s' p => s' == s && t p
  | .win s' p _ _ _ => s' == s && t p
  | .addr s' _ => s' == s && t []
  | .eaddr s' p _ _ _ => s' == s && t p
  | .agg cs | .tup cs => mentL s t cs
  | _ => false
def mentL (s : Nat) (t : List Nat → Bool) : List PV → Bool
  | [] => false
  | x :: r => x.ment s t || mentL s t r
end
mutual
/-- How a variable's value is seen by an operation: what is owned is told by its place. -/
def view (s : Nat) (p : List Nat) : PV → PV
  | .own _ _ => .ref s p
  | .box _ => .ref s p
  | .iter _ _ => .ref s p
  | .bld _ _ _ => .ref s p
  | .selfp => .dead
  | .agg cs => .agg (viewL s p 0 cs)
  | .tup cs => .tup (viewL s p 0 cs)
  | x => x
def viewL (s : Nat) (p : List Nat) (i : Nat) : List PV → List PV
  | [] => []
  | x :: r => x.view s (p ++ [i]) :: viewL s p (i + 1) r
end
mutual
/-- What is owned, made unchangeable. -/
def freeze : PV → PV
  | .own sz l => .ro sz l
  | .nil sz => .ro sz []
  | .agg cs => .agg (freezeL cs)
  | x => x
def freezeL : List PV → List PV
  | [] => []
  | x :: r => x.freeze :: freezeL r
end
end PV

abbrev Env := List (Nat × PV)
namespace Env
def get : Env → Nat → PV
  | [], _ => .dead
  | (k, x) :: r, s => if k = s then x else get r s
def set : Env → Nat → PV → Env
  | [], s, y => [(s, y)]
  | (k, x) :: r, s, y => if k = s then (k, y) :: r else (k, x) :: set r s y
/-- What speaks of those places is forgotten. -/
def kill (s : Nat) (t : List Nat → Bool) : Env → Env
  | [] => []
  | (k, x) :: r => (k, if x.ment s t then .dead else x) :: kill s t r
def put (e : Env) (s : Nat) (y : PV) : Env := if y.hasObj then (e.kill s fun _ => true).set s y else e.set s y
def at_ (e : Env) (s : Nat) (p : List Nat) : PV := (e.get s).sub p
def setAt (e : Env) (s : Nat) (p : List Nat) (y : PV) : Env := e.set s ((e.get s).setSub p y)
/-- A variable, forgotten. -/
def del : Env → Nat → Env
  | [], _ => []
  | (k, x) :: r, s => if k = s then del r s else (k, x) :: del r s
def forget : Env → List Nat → Env
  | e, [] => e
  | e, k :: r => forget (e.del k) r
/-- Only these variables are kept. -/
def keep (ks : List Nat) (e : Env) : Env := ks.map fun k => (k, e.get k)
end Env

/-- Where arguments that are handed over live while the callee runs. -/
def home : Nat := 100000

inductive Opd where
  | t (s : Nat)
  | c (x : Value)
  | nilS (sz : Nat)
  | f (n : FuncId)
  | g (n : Nat) (cs : List PV)
  deriving Inhabited
def Opd.ev (e : Env) : Opd → PV
  | .t s => (e.get s).view s []
  | .c x => .v x
  | .nilS sz => .nil sz
  | .f n => .v (.func (.func n) #[] #[])
  | .g _ cs => .raddr cs
def Opd.op : Opd → Operand
  | .t s => .tmp s
  | .c x => .const x
  | .nilS _ => .const (.slice none 0 0)
  | .f n => .func n
  | .g n _ => .global n

/-- What is told by its place is taken from there. -/
def settle1 (e : Env) : PV → Option (PV × Env)
  | .ref s p => match e.at_ s p with
    | .own sz l => some (.own sz l, e.setAt s p .dead)
    | .box cs => if p.isEmpty then some (.box cs, e.setAt s p .dead) else none
    | _ => none
  | .win s p sz lo hi => match e.at_ s p with
    | .own sz' l => if lo = 0 ∧ sz' = sz then some (.own sz (l.take hi), e.setAt s p .dead) else none
    | _ => none
  | .v x => some (.v x, e)
  | .ro sz l => some (.ro sz l, e)
  | .nil sz => some (.own sz [], e)
  | .raddr cs => some (.raddr cs, e)
  | _ => none
def settleL (e : Env) : List PV → Option (List PV × Env)
  | [] => some ([], e)
  | x :: r => do
    let (y, e) ← settle1 e x
    let (ys, e) ← settleL e r
    pure (y :: ys, e)
def settle (e : Env) : PV → Option (PV × Env)
  | .agg cs => do let (ys, e) ← settleL e cs; pure (.agg ys, e)
  | .tup cs => do let (ys, e) ← settleL e cs; pure (.tup ys, e)
  | x => settle1 e x

/-- Values, each taken from its place. -/
def settleP (e : Env) : List PV → Option (List PV × Env)
  | [] => some ([], e)
  | x :: r => do
    let (y, e) ← settle e x
    let (ys, e) ← settleP e r
    pure (y :: ys, e)
/-- The elements that a slice's view tells, and how many cells each has. -/
def elems (e : Env) : PV → Option (Nat × List PV)
  | .ro sz l => some (sz, l)
  | .nil sz => some (sz, [])
  | .ref s p => match e.at_ s p with
    | .own sz l => some (sz, l)
    | _ => none
  | .win s p sz lo hi => match e.at_ s p with
    | .own sz' l => if sz' = sz then some (sz, (l.take hi).drop lo) else none
    | _ => none
  | _ => none
/-- A view, lent: what is owned is told as unchangeable; the places that are lent. -/
def lend1 (e : Env) : PV → Option (PV × List (Nat × List Nat))
  | .v x => some (.v x, [])
  | .ro sz l => some (.ro sz l, [])
  | .nil sz => some (.ro sz [], [])
  | .raddr cs => some (.raddr cs, [])
  | .ref s p => match e.at_ s p with
    | .own sz l => some (.ro sz l, [(s, p)])
    | _ => none
  | .win s p sz lo hi => match e.at_ s p with
    | .own sz' l => if sz' = sz then some (.ro sz ((l.take hi).drop lo), [(s, p)]) else none
    | _ => none
  | _ => none
def lendL (e : Env) : List PV → Option (List PV × List (Nat × List Nat))
  | [] => some ([], [])
  | x :: r => do
    let (y, a) ← lend1 e x
    let (ys, b) ← lendL e r
    pure (y :: ys, a ++ b)
def lend (e : Env) : PV → Option (PV × List (Nat × List Nat))
  | .agg cs => do let (ys, b) ← lendL e cs; pure (.agg ys, b)
  | x => lend1 e x
end Go.AM
