/- The abstract machine's run: operations, code, calls. No conditions. -/
import Derived.Test.YtfkgoofipbbhpaaDoorAmDefs
namespace Go.AM

/-- Scalars under an operator of two. -/
def binInt (op : BinOp) (k : IntKind) (a b : Int) : Option Value :=
  match op with
  | .add => some (.int k (k.wrap (a + b)))
  | .sub => some (.int k (k.wrap (a - b)))
  | .mul => some (.int k (k.wrap (a * b)))
  | .quo => if b = 0 then none else some (.int k (k.wrap (a.tdiv b)))
  | .rem => if b = 0 then none else some (.int k (a.tmod b))
  | .and => some (.int k (k.wrap (BitVec.ofInt k.bits a &&& BitVec.ofInt k.bits b).toNat))
  | .or => some (.int k (k.wrap (BitVec.ofInt k.bits a ||| BitVec.ofInt k.bits b).toNat))
  | .xor => some (.int k (k.wrap (BitVec.ofInt k.bits a ^^^ BitVec.ofInt k.bits b).toNat))
  | .andNot => some (.int k (k.wrap (BitVec.ofInt k.bits a &&& ~~~ BitVec.ofInt k.bits b).toNat))
  | .eql => some (.bool (a == b))
  | .neq => some (.bool (a != b))
  | .lss => some (.bool (decide (a < b)))
  | .leq => some (.bool (decide (a ≤ b)))
  | .gtr => some (.bool (decide (a > b)))
  | .geq => some (.bool (decide (a ≥ b)))
  | .shl => if b < 0 then none else some (.int k (k.wrap (a * 2 ^ (min b.toNat k.bits))))
  | .shr => if b < 0 then none else some (.int k (a.fdiv (2 ^ (min b.toNat k.bits))))
def binStr (op : BinOp) (a b : ByteArray) : Option Value :=
  match op with
  | .add => if a.size + b.size ≤ 9223372036854775807 then some (.string (a ++ b)) else none
  | .eql => some (.bool (a.toList == b.toList))
  | .neq => some (.bool (!(a.toList == b.toList)))
  | .lss => some (.bool (Op.bytesLess a.toList b.toList))
  | .leq => some (.bool (Op.bytesLess a.toList b.toList || a.toList == b.toList))
  | .gtr => some (.bool (!(Op.bytesLess a.toList b.toList || a.toList == b.toList)))
  | .geq => some (.bool (!(Op.bytesLess a.toList b.toList)))
  | _ => none
def BinOp.shifts : BinOp → Bool
  | .shl | .shr => true
  | _ => false
def bin (op : BinOp) : PV → PV → Option PV
  | .v (.int k a), .v (.int k' b) => if k = k' ∨ BinOp.shifts op = true then (binInt op k a b).map .v else none
  | .v (.string a), .v (.string b) => (binStr op a b).map .v
  | _, _ => none
inductive EqK where | int | str | bool deriving Inhabited
/-- Equality of plain values, cell by cell. -/
def eqV : EqK → PV → PV → Option Bool
  | .int, .v (.int k a), .v (.int k' b) => if k = k' then some (a == b) else none
  | .str, .v (.string a), .v (.string b) => some (a == b)
  | .bool, .v (.bool a), .v (.bool b) => some (a == b)
  | _, _, _ => none
def eqL : List EqK → List PV → List PV → Option Bool
  | [], [], [] => some true
  | k :: ks, x :: r, y :: q => do
    let b ← eqV k x y
    let c ← eqL ks r q
    pure (b && c)
  | _, _, _ => none
inductive EqT where | one (k : EqK) | st (ks : List EqK) deriving Inhabited
def eqOf : EqT → PV → PV → Option Bool
  | .st ks, .agg xs, .agg ys => eqL ks xs ys
  | .one k, x, y => eqV k x y
  | _, _, _ => none
def eqs (neg : Bool) (ks : EqT) (x y : PV) : Option PV := (eqOf ks x y).map fun b => .v (.bool (if neg then !b else b))
def un (op : UnOp) : PV → Option PV
  | .v (.int k a) => match op with
    | .neg => some (.v (.int k (k.wrap (0 - a))))
    | .xor => some (.v (.int k (k.wrap (BitVec.ofInt k.bits (if k.signed then -1 else k.max) ^^^ BitVec.ofInt k.bits a).toNat)))
    | _ => none
  | .v (.bool b) => match op with
    | .not => some (.v (.bool !b))
    | _ => none
  | _ => none

inductive ConvK where
  | int (k : IntKind)      -- to a kind of integers
  | same                   -- a text, or what else stays
  | rune                   -- a number to a text
  | bytes                  -- bytes to a text
  | toBytes                -- a text to bytes
  deriving Inhabited
def byteOfPV : PV → Option UInt8
  | .v (.int .u8 n) => some (UInt8.ofNat n.toNat)
  | _ => none
def bytesOfPV : List PV → Option (List UInt8)
  | [] => some []
  | x :: r => do
    let b ← byteOfPV x
    let bs ← bytesOfPV r
    pure (b :: bs)
def byteList (s : ByteArray) : List PV := s.data.toList.map fun b => .v (.int .u8 b.toNat)
def conv (e : Env) (k : ConvK) (x : PV) : Option PV :=
  match k with
  | .int k => match x with
    | .v (.int _ n) => some (.v (.int k (k.wrap n)))
    | _ => none
  | .same => match x with
    | .v (.string s) => some (.v (.string s))
    | _ => none
  | .rune => match x with
    | .v (.int _ n) => some (.v (.string (Utf8.encode n)))
    | _ => none
  | .bytes => (elems e x).bind fun q => if q.1 = 1 then (bytesOfPV q.2).map fun bs => .v (.string ⟨bs.toArray⟩) else none
  | .toBytes => match x with
    | .v (.string s) => if s.size ≤ 4611686018427387904 then some (.own 1 (byteList s)) else none
    | _ => none

def idx (x : PV) (n : Nat) : Option Nat :=
  match x with
  | .v (.int _ i) => if 0 ≤ i ∧ i < n then some i.toNat else none
  | _ => none
def bound (x : PV) (n : Nat) : Option Nat :=
  match x with
  | .v (.int _ i) => if 0 ≤ i ∧ i ≤ n then some i.toNat else none
  | _ => none

def setMany (cs : List PV) (o : Nat) : List PV → List PV
  | [] => cs
  | x :: r => setMany (cs.set o x) (o + 1) r
/-- A struct's cells: each part at its field's place. -/
def fillPV (place : List (Nat × Nat)) (cs : List PV) : List (Nat × PV) → Option (List PV)
  | [] => some cs
  | (i, x) :: r => do
    let (o, n) ← place[i]?
    if x.isDead = false ∧ x.cells.length = n ∧ o + n ≤ cs.length then fillPV place (setMany cs o x.cells) r else none
def cellViews (s : Nat) (cs : List PV) : Nat → Nat → List PV
  | _, 0 => []
  | o, n + 1 => (cs[o]?.getD .dead).view s [o] :: cellViews s cs (o + 1) n
/-- One cell, or so many as a value. -/
def part (n : Option Nat) (cs : List PV) : Option PV :=
  match n with
  | none => cs[0]?
  | some n => if n ≤ cs.length then some (.agg (cs.take n)) else none

/-- Functions of the library that the model answers itself. -/
inductive ExtK where | add64 | idxByteStr deriving Inhabited, DecidableEq
def extPV : ExtK → List PV → Option PV
  | .add64, [.v (.int .u64 x), .v (.int .u64 y), .v (.int .u64 c)] => if 0 ≤ x ∧ 0 ≤ y ∧ 0 ≤ c ∧ c ≤ 1 then some (.tup [.v (.int .u64 ((x + y + c) % 18446744073709551616)), .v (.int .u64 ((x + y + c) / 18446744073709551616))]) else none
  | .idxByteStr, [.v (.string s), .v (.int .u8 c)] => some (.v (.int .i64 (firstIdx s c.toNat.toUInt8)))
  | _, _ => none
inductive SlK where | str | sl (sz : Nat) | arr (n : Nat) deriving Inhabited
inductive IxK where | str | sl (sz : Nat) | arr (n sz : Nat) deriving Inhabited

inductive IOp where
  | move (x : Opd)
  | assign (x : Opd)
  | mark (t : TypeId) (x : Opd)
  | allocB (t e : TypeId)
  | range (t : TypeId) (x : Opd)
  | next (x : Opd)
  | pick (c a b : Opd)
  | box (t : TypeId) (x : Opd)
  | alloc (t : TypeId) (zero : List PV)
  | build (t : TypeId) (place : List (Nat × Nat)) (zero : List PV) (parts : List (Nat × Opd))
  | lit (t : TypeId) (sz : Nat) (parts : List Opd)
  | load (t : TypeId) (n : Option Nat) (a : Opd)
  | store (t : TypeId) (n : Option Nat) (a x : Opd)
  | nilck (x : Opd)
  | bin (op : BinOp) (xt : TypeId) (x y : Opd) (yt : TypeId)
  | eqs (neg : Bool) (xt : TypeId) (ks : EqT) (x y : Opd) (yt : TypeId)
  | un (op : UnOp) (xt : TypeId) (x : Opd)
  | conv (src dst : TypeId) (k : ConvK) (x : Opd)
  | mk (t : TypeId) (sz bytes : Nat) (zero : PV) (len cap : Opd)
  | slice (t : TypeId) (k : SlK) (x : Opd) (lo hi mx : Option Opd)
  | faddr (t : TypeId) (x : Opd) (f : Nat) (off : Nat)
  | field (t : TypeId) (x : Opd) (f : Nat) (off : Nat) (n : Option Nat)
  | iaddr (t : TypeId) (k : IxK) (x i : Opd)
  | index (t : TypeId) (k : IxK) (n : Option Nat) (x i : Opd)
  | extr (x : Opd) (j : Nat)
  | call (f : FuncId) (args : List Opd) (argTypes : List TypeId)
  | append (t u : TypeId) (txt : Bool) (sz bytes : Nat) (x y : Opd)
  | len (t : TypeId) (txt : Bool) (x : Opd)
  | minmax (mx : Bool) (ts : List TypeId) (x y : Opd)
  | ext (f : FuncId) (k : ExtK) (args : List Opd) (argTypes : List TypeId)
  | callv (es : List FuncId) (f : Opd) (args : List Opd) (argTypes : List TypeId)
  | other (x : Op)
  deriving Inhabited

structure GOp where
  dst : Option Nat
  op : IOp
  g : Option (Nat × Bool) := none
  kl : List Nat := []
  deriving Inhabited

/-- A statement whose order is free: the operation that is next, and the reads before it that it may also precede. -/
structure PStep where
  i : Nat
  un : List Nat
  deriving Inhabited
inductive IR where
  | skip | ret | label (l : Nat)
  | exit (id : Nat)
  | reg (id : Nat) (ops : List GOp) (plan : Option (List PStep)) (keep : List Nat)
  | seq (a b : IR)
  | cond (keep : List Nat) (c : Opd) (t e : IR)
  | block (id : Nat) (b : IR)
  | scope (b : IR)
  | loop (keep : List Nat) (b : IR)
  | tail (keep : List Nat) (b : IR)
  | other
  deriving Inhabited
inductive RV where
  | tmp (s : Nat)
  | cell (s : Nat) (t : TypeId) (n : Option Nat)
  deriving Inhabited
structure AFunc where
  nt : Nat
  res : List RV
  body : IR
  deriving Inhabited

/-- What calls are answered by. -/
abbrev Oracle := FuncId → List PV → Option (PV × List PV)
structure Tab where
  fns : FuncId → Option AFunc
  ext : Oracle
  /-- The parameters that are handed over. -/
  modes : FuncId → List Bool
  glob : Nat → List PV

/-- The handing over of arguments: what is moved is taken from its place. -/
def moves (e : Env) (us : List Nat) : List Bool → List PV → Option (List (Option (PV × Option (Nat × List Nat))) × Env)
  | true :: ms, .ref s p :: xs =>
    match e.at_ s p with
    | .own sz l => do
      let (r, e') ← moves (e.setAt s p .dead) (s :: us) ms xs
      pure (some (.own sz l, some (s, p)) :: r, e')
    | .box cs => if p = [] ∧ us.contains s = false then do
        let (r, e') ← moves (e.setAt s [] .dead) (s :: us) ms xs
        pure (some (.box cs, some (s, [])) :: r, e')
      else none
    | .bld a b l => if p = [] ∧ us.contains s = false then do
        let (r, e') ← moves (e.setAt s [] .dead) (s :: us) ms xs
        pure (some (.bld a b l, some (s, [])) :: r, e')
      else none
    | _ => none
  | true :: ms, .win s p sw lo hi :: xs =>
    match e.at_ s p with
    | .own sz l => if lo = 0 ∧ sw = sz then do
        let (r, e') ← moves (e.setAt s p .dead) (s :: us) ms xs
        pure (some (.own sz (l.take hi), none) :: r, e')
      else none
    | _ => none
  | true :: ms, .nil sz :: xs => do
    let (r, e') ← moves e us ms xs
    pure (some (.nil sz, none) :: r, e')
  | _ :: ms, _ :: xs => do
    let (r, e') ← moves e us ms xs
    pure (none :: r, e')
  | [], xs => some (xs.map fun _ => none, e)
  | _ :: _, [] => some ([], e)
/-- The arguments as they are handed in; what is lent; where what was moved comes back. -/
def pass (e : Env) : List (Option (PV × Option (Nat × List Nat))) → List PV → Option (List PV × List (Nat × List Nat) × List (Option (Nat × List Nat)))
  | some (y, b) :: ms, _ :: xs => do
    let (ys, ls, bs) ← pass e ms xs
    pure (y :: ys, ls, b :: bs)
  | none :: ms, x :: xs => do
    let (y, l) ← lend e x
    let (ys, ls, bs) ← pass e ms xs
    pure (y :: ys, l ++ ls, none :: bs)
  | _, _ => some ([], [], [])
def giveBack1 (e : Env) (s : Nat) (p : List Nat) (y : PV) : Env :=
  match p with
  | [] => (e.kill s fun p => !p.isEmpty).set s y
  | o :: p => if (e.get s).path (o :: p) && y.kids.isEmpty then e.setAt s (o :: p) y else e
def giveBack (e : Env) : List (Option (Nat × List Nat)) → List PV → Env
  | some (s, p) :: bs, y :: ys => giveBack (giveBack1 e s p y) bs ys
  | none :: bs, _ :: ys => giveBack e bs ys
  | _, _ => e
def freezeAll (e : Env) : List (Nat × List Nat) → Env
  | [] => e
  | (s, p) :: r => match e.at_ s p with
    | .own sz l => freezeAll (e.setAt s p (.ro sz l)) r
    | _ => freezeAll e r
def call (T : Tab) (C : Oracle) (e : Env) (f : FuncId) (xs : List PV) : Option (PV × Env) := do
  let (ms, e1) ← moves e [] (T.modes f) xs
  let (ys, lent, bs) ← pass e1 ms xs
  let (res, backs) ← C f ys
  let e2 := if lent.isEmpty || (res.noRo && PV.noRoL backs) then e1 else freezeAll e1 lent
  pure (res, giveBack e2 bs backs)

def loadAt (e : Env) (n : Option Nat) : PV → Option PV
  | .ref s [] => match e.get s with
    | .box cs => if n.getD 1 ≤ cs.length then part n (cellViews s cs 0 (n.getD 1)) else none
    | _ => none
  | .addr s o => match e.get s with
    | .box cs => if o + n.getD 1 ≤ cs.length then part n (cellViews s cs o (n.getD 1)) else none
    | _ => none
  | .eaddr s p sz i k => match e.at_ s p with
    | .own sz' l => if sz' = sz then match l[i]? with
      | some x => part n (x.cells.drop k)
      | none => none
      else none
    | _ => none
  | .raddr cs => part n cs
  | _ => none
/-- Cells behind k of an element written anew. -/
def setElem (z : PV) (k : Nat) (ys : List PV) : PV :=
  match z with
  | .agg cs => .agg (setMany cs k ys)
  | _ => ys[0]?.getD .dead
def storeBox (e : Env) (s o : Nat) (ys : List PV) : Option Env :=
  match e.get s with
  | .box cs => if o + ys.length ≤ cs.length then some ((e.kill s fun p => !p.isEmpty).set s (.box (setMany cs o ys))) else none
  | _ => none
def storeElem (e : Env) (s : Nat) (p : List Nat) (sz i k : Nat) (ys : List PV) : Option Env :=
  match e.at_ s p with
  | .own sz' l => match l[i]? with
    | some z => if sz' = sz ∧ k + ys.length ≤ z.cells.length ∧ 0 < ys.length ∧ PV.immL (PV.freezeL ys) = true then some (e.setAt s p (.own sz (l.set i (setElem z k (PV.freezeL ys))))) else none
    | none => none
  | _ => none
def storeAt (e : Env) (n : Option Nat) (a : PV) (ys : List PV) : Option Env :=
  if ys.length = n.getD 1 ∧ ys.all PV.one = true then
    match a with
    | .ref s [] => storeBox e s 0 ys
    | .addr s o => storeBox e s o ys
    | .eaddr s p sz i k => storeElem e s p sz i k ys
    | _ => none
  else none
/-- A bound that may not be there. -/
def boundOr (x : Option PV) (n d : Nat) : Option Nat :=
  match x with
  | some y => bound y n
  | none => some d
def sliceStr (x : PV) (lo hi : Option PV) : Option PV :=
  match x with
  | .v (.string s) => (boundOr hi s.size s.size).bind fun h => (boundOr lo h 0).map fun l => .v (.string (s.extract l h))
  | _ => none
def window (sz : Nat) (x : PV) (l h : Nat) : Option PV :=
  match x with
  | .ro sz xs => some (.ro sz ((xs.take h).drop l))
  | .nil sz => some (.nil sz)
  | .ref s p => some (.win s p sz l h)
  | .win s p sz lo _ => some (.win s p sz (lo + l) (lo + h))
  | _ => none
def sliceSl (e : Env) (sz : Nat) (x : PV) (lo hi mx : Option PV) : Option PV :=
  (elems e x).bind fun q =>
    if q.1 ≠ sz ∨ (mx.isSome && hi.isNone) = true then none else
    (boundOr mx q.2.length q.2.length).bind fun m => (boundOr hi m q.2.length).bind fun h => (boundOr lo h 0).bind fun l => window sz x l h
def indexSl (e : Env) (sz : Nat) (x i : PV) : Option PV :=
  match x with
  | .ro sz' l => if sz' = sz then (idx i l.length).bind fun j => l[j]?.map fun y => .raddr y.cells else none
  | .ref s p => match e.at_ s p with
    | .own sz' l => if sz' = sz then (idx i l.length).map fun j => .eaddr s p sz j 0 else none
    | _ => none
  | .win s p sw lo hi => match e.at_ s p with
    | .own sz' l => if sz' = sz ∧ sw = sz then (idx i (hi - lo)).bind fun j => if lo + j < l.length then some (.eaddr s p sz (lo + j) 0) else none else none
    | _ => none
  | _ => none
/-- An address, moved on by cells. -/
def offAddr (e : Env) (x : PV) (o : Nat) : Option PV :=
  match x with
  | .ref s [] => match e.get s with
    | .box _ => some (.addr s o)
    | _ => none
  | .addr s k => match e.get s with
    | .box _ => some (.addr s (k + o))
    | _ => none
  | .eaddr s p z a k => match e.at_ s p with
    | .own _ _ => some (.eaddr s p z a (k + o))
    | _ => none
  | .raddr cs => some (.raddr (cs.drop o))
  | _ => none
def indexArr (e : Env) (x i : PV) (n sz : Nat) : Option PV := (idx i n).bind fun j => offAddr e x (j * sz)
def moreOf (e : Env) (txt : Bool) (y : PV) : Option (Nat × List PV) :=
  if txt then match y with
    | .v (.string s) => some (1, byteList s)
    | _ => none
  else elems e y
def appendTo (e : Env) (sz : Nat) (l ys : List PV) : PV → Option (PV × Env)
  | .nil _ => some (.own sz ys, e)
  | .ref s p => some (.own sz (l ++ ys), e.setAt s p .dead)
  | .win s p _ lo _ => if lo = 0 then some (.own sz (l ++ ys), e.setAt s p .dead) else none
  | _ => none
def appendPV (e : Env) (txt : Bool) (sz bytes : Nat) (x y : PV) : Option (PV × Env) :=
  (elems e x).bind fun q => (moreOf e txt y).bind fun r =>
    if q.1 = sz ∧ r.1 = sz ∧ (q.2.length + r.2.length) * bytes ≤ 140737488355328 ∧ q.2.length + r.2.length ≤ 4611686018427387904 then appendTo e sz q.2 r.2 x else none
def lenPV (e : Env) (txt : Bool) (x : PV) : Option Nat :=
  if txt then match x with
    | .v (.string s) => some s.size
    | _ => none
  else (elems e x).map fun q => q.2.length
def optPV (e : Env) : Option Opd → Option PV
  | none => none
  | some x => some (x.ev e)
/-- A walk through a text, from its beginning; its next character. -/
def rangePV (e : Env) : PV → Option (PV × Env)
  | .v (.string s) => some (.iter s 0, e)
  | _ => none
def nextPV (e : Env) : PV → Option (PV × Env)
  | .ref s [] => match e.get s with
    | .iter str pos => if pos < str.size then some (.tup [.v (.bool true), .v (.int .i64 pos), .v (.int .i32 (Utf8.decode str pos).1)], e.setAt s [] (.iter str (pos + (Utf8.decode str pos).2))) else some (.tup [.v (.bool false)], e)
    | _ => none
  | _ => none
/-- A row of bytes that is told to have come from a text. -/
def markPV : Option (PV × Env) → Option (PV × Env)
  | some (.own sz (y :: l), e) => some (.own sz (y :: l), e)
  | _ => none
/-- An operation: its value, and the variables behind it. -/
def ev (T : Tab) (C : Oracle) (e : Env) : IOp → Option (PV × Env)
  | .move x => some (x.ev e, e)
  | .assign x => settle e (x.ev e)
  | .mark _ x => markPV (settle1 e (x.ev e))
  | .range _ x => rangePV e (x.ev e)
  | .allocB t b => some (.bld t b [], e)
  | .next x => nextPV e (x.ev e)
  | .pick c a b => match c.ev e with
    | .v (.bool t) => some (if t then a.ev e else b.ev e, e)
    | _ => none
  | .box _ x => do
    let (y, e') ← settle e (x.ev e)
    pure (.box y.cells, e')
  | .alloc _ zero => some (.box (zero.map PV.fresh), e)
  | .build _ place zero parts => do
    let cs ← fillPV place zero (parts.map fun p => (p.1, p.2.ev e))
    pure (.agg cs, e)
  | .lit _ sz parts => do
    let (ys, e') ← settleP e (parts.map fun p => p.ev e)
    let zs := PV.freezeL ys
    if (zs.all fun z => z.cells.length == sz) && PV.immL zs then pure (.own sz zs, e') else none
  | .load _ n a => (loadAt e n (a.ev e)).map (·, e)
  | .store _ n a x => do
    let (y, e') ← settle e (x.ev e)
    let e'' ← storeAt e' n (a.ev e) y.cells
    pure (.dead, e'')
  | .nilck x => match x.ev e with
    | .ref s [] => match e.get s with
      | .box _ => some (.ref s [], e)
      | _ => none
    | .v y => match y with
      | .func fn a b => match a.isEmpty, fn with
        | true, .func _ => some (.v (.func fn a b), e)
        | _, _ => none
      | _ => none
    | z => (offAddr e z 0).map (·, e)
  | .bin op _ x y _ => (bin op (x.ev e) (y.ev e)).map (·, e)
  | .eqs neg _ ks x y _ => (eqs neg ks (x.ev e) (y.ev e)).map (·, e)
  | .un op _ x => (un op (x.ev e)).map (·, e)
  | .conv _ _ k x => (conv e k (x.ev e)).map (·, e)
  | .mk _ sz bytes zero len cap => match len.ev e, cap.ev e with
    | .v (.int .i64 n), .v (.int .i64 m) => if 0 ≤ n ∧ n ≤ m ∧ m * bytes ≤ 281474976710656 ∧ m ≤ 4611686018427387904 ∧ zero.cells.length = sz ∧ zero.imm = true then some (.own sz (List.replicate n.toNat zero), e) else none
    | _, _ => none
  | .slice _ k x lo hi mx => match k with
    | .str => (sliceStr (x.ev e) (optPV e lo) (optPV e hi)).map (·, e)
    | .sl sz => (sliceSl e sz (x.ev e) (optPV e lo) (optPV e hi) (optPV e mx)).map (·, e)
    | .arr _ => none
  | .faddr _ x _ off => (offAddr e (x.ev e) off).map (·, e)
  | .field _ x _ off n => match x.ev e with
    | .agg cs => (part n (cs.drop off)).map (·, e)
    | _ => none
  | .iaddr _ k x i => match k with
    | .sl sz => (indexSl e sz (x.ev e) (i.ev e)).map (·, e)
    | .arr n sz => (indexArr e (x.ev e) (i.ev e) n sz).map (·, e)
    | .str => none
  | .index _ k n x i => match k with
    | .str => match x.ev e with
      | .v (.string s) => (idx (i.ev e) s.size).map fun j => (.v (.int .u8 (s.data.toList.getD j 0).toNat), e)
      | _ => none
    | .arr m sz => match x.ev e with
      | .agg cs => (idx (i.ev e) m).bind fun j => (part n (cs.drop (j * sz))).map (·, e)
      | _ => none
    | .sl _ => none
  | .extr x j => match x.ev e with
    | .tup cs => match cs[j]? with
      | some y => some (y, e)
      | none => none
    | _ => none
  | .call f args _ => call T C e f (args.map fun a => a.ev e)
  | .append _ _ txt sz bytes x y => appendPV e txt sz bytes (x.ev e) (y.ev e)
  | .len _ txt x => (lenPV e txt (x.ev e)).map fun (n : Nat) => (PV.v (.int .i64 (n : Int)), e)
  | .minmax mx _ x y => match x.ev e, y.ev e with
    | .v (.int k a), .v (.int k' b) => if k = k' then some (.v (.int k (if mx then (if b > a then b else a) else (if b < a then b else a))), e) else none
    | _, _ => none
  | .ext _ k args _ => (extPV k (args.map fun a => a.ev e)).map (·, e)
  | .callv es f args _ => match f.ev e with
    | .v (.func (.func n) a b) => if a.isEmpty = true ∧ b.isEmpty = true ∧ n ∈ es then call T C e n (args.map fun a => a.ev e) else none
    | _ => none
  | .other _ => none

def putDst (e : Env) (d : Option Nat) (y : PV) : Env :=
  match d with
  | some d => e.put d y
  | none => e
/-- Is the operation to be carried out? -/
def wantedA (all : List GOp) (e : Env) (g : Option (Nat × Bool)) : Option Bool :=
  match g with
  | none => some true
  | some (j, want) => match all[j]? with
    | some o => match o.dst with
      | some d => match e.get d with
        | .v (.bool b) => some (b == want)
        | .tup [] => some false
        | _ => none
      | none => none
    | none => none
/-- The operations of a statement, one behind the other. -/
def opsRun (T : Tab) (C : Oracle) (all : List GOp) : List GOp → Env → Option Env
  | [], e => some e
  | o :: r, e =>
    match wantedA all e o.g with
    | some true => do
      let (y, e') ← ev T C e o.op
      opsRun T C all r ((putDst e' o.dst y).forget o.kl)
    | some false => opsRun T C all r ((putDst e o.dst (.tup [])).forget o.kl)
    | none => none
/-- Where an operation reads memory that is owned. -/
def readsOf (e : Env) (i : Nat) : IOp → List (Nat × Option Nat)
  | .load _ _ a => match a.ev e with
    | .ref s [] => [(i, some s)]
    | .addr s _ => [(i, some s)]
    | .eaddr s [] _ _ _ => [(i, some s)]
    | .raddr _ => []
    | _ => [(i, none)]
  | _ => []
/-- An operation that leaves alone what stands at the variable. -/
def leaves (T : Tab) (C : Oracle) (e : Env) (s : Nat) : IOp → Bool
  | .call f args _ => match moves e [] (T.modes f) (args.map fun a => a.ev e) with
    | some (r, _) => r.all Option.isNone
    | none => false
  | .callv _ f args _ => match f.ev e with
    | .v (.func (.func n) _ _) => match moves e [] (T.modes n) (args.map fun a => a.ev e) with
      | some (r, _) => r.all Option.isNone
      | none => false
    | _ => false
  | o => (ev T C (e.set s .dead) o).isSome
def unOK (T : Tab) (C : Oracle) (e : Env) (rds : List (Nat × Option Nat)) (un : List Nat) (o : IOp) : Bool :=
  rds.all fun x => !(un.contains x.1) || match x.2 with
    | some s => (e.get s).isObj && leaves T C e s o
    | none => false
def dstOK (rds : List (Nat × Option Nat)) (d : Option Nat) : Bool := rds.all fun x => x.2.isNone || x.2 != d
def planRun (T : Tab) (C : Oracle) (all : List GOp) : List (Nat × Option Nat) → List PStep → Env → Option Env
  | _, [], e => some e
  | rds, st :: r, e =>
    match all[st.i]? with
    | none => none
    | some o => match wantedA all e o.g with
      | some true => do
        let (y, e') ← ev T C e o.op
        if unOK T C e rds st.un o.op && dstOK (readsOf e st.i o.op ++ rds) o.dst then planRun T C all (readsOf e st.i o.op ++ rds) r ((putDst e' o.dst y).forget o.kl) else none
      | some false => if dstOK rds o.dst then planRun T C all rds r ((putDst e o.dst (.tup [])).forget o.kl) else none
      | none => none

inductive Out where | normal | ret | exit (id : Nat) deriving Inhabited
def loopN (body : Env → Option (Out × Env)) (ks : List Nat) : Nat → Env → Option (Out × Env)
  | 0, _ => none
  | n + 1, e =>
    match body (e.keep ks) with
    | some (.normal, e') => loopN body ks n e'
    | r => r
def exec (T : Tab) (C : Oracle) (n : Nat) : IR → Env → Option (Out × Env)
  | .skip, e => some (.normal, e)
  | .ret, e => some (.ret, e)
  | .label _, e => some (.normal, e)
  | .exit id, e => some (.exit id, e)
  | .reg _ ops plan ks, e => match plan with
    | none => (opsRun T C ops ops e).map fun e' => (.normal, e'.keep ks)
    | some p => (planRun T C ops [] p e).map fun e' => (.normal, e'.keep ks)
  | .seq a b, e =>
    match exec T C n a e with
    | some (.normal, e') => exec T C n b e'
    | r => r
  | .cond ks c a b, e =>
    match c.ev e with
    | .v (.bool true) => exec T C n a (e.keep ks)
    | .v (.bool false) => exec T C n b (e.keep ks)
    | _ => none
  | .block id b, e =>
    match exec T C n b e with
    | some (.exit i, e') => if i = id then some (.normal, e') else some (.exit i, e')
    | r => r
  | .scope b, e => exec T C n b e
  | .loop ks b, e => loopN (exec T C n b) ks n e
  | .tail ks b, e => exec T C n b (e.keep ks)
  | .other, _ => none
/-- The results, taken from their variables. -/
def results (e : Env) : List RV → Option (List PV × Env)
  | [] => some ([], e)
  | .tmp s :: r => do
    let (y, e') ← settle e ((e.get s).view s [])
    let (ys, e'') ← results e' r
    pure (y :: ys, e'')
  | .cell s _ n :: r =>
    match (e.get s).view s [] with
    | .ref s' [] => match e.get s' with
      | .box cs => if n.getD 1 ≤ cs.length then do
          let x ← part n (cellViews s' cs 0 (n.getD 1))
          let (y, e') ← settle e x
          let (ys, e'') ← results e' r
          pure (y :: ys, e'')
        else none
      | _ => none
    | _ => none
def single : List PV → PV
  | [x] => x
  | l => .tup l
def enter (i : Nat) : List PV → Env
  | [] => []
  | x :: r => if x.isObj then (i, .ref (home + i) []) :: (home + i, x) :: enter (i + 1) r else (i, x) :: enter (i + 1) r
/-- What is left in the arguments' homes. -/
def left1 : PV → PV
  | .own sz l => .own sz l
  | .box cs => .box cs
  | .bld T e l => .bld T e l
  | .ro sz l => .ro sz l
  | _ => .dead
def left (e : Env) (i : Nat) : List PV → List PV
  | [] => []
  | x :: r => (if x.isObj then left1 (e.get (home + i)) else .dead) :: left e (i + 1) r
def runFn (T : Tab) (C : Oracle) (n : Nat) (f : AFunc) (args : List PV) : Option (PV × List PV) :=
  if args.length ≤ f.nt then
    match exec T C n f.body (enter 0 args) with
    | some (.normal, e) | some (.ret, e) => do
      let (ys, e') ← results e f.res
      pure (single ys, left e' 0 args)
    | _ => none
  else none
def callN (T : Tab) : Nat → Oracle
  | 0, _, _ => none
  | n + 1, f, args =>
    match T.ext f args with
    | some r => some r
    | none => match T.fns f with
      | some a => runFn T (callN T n) n a args
      | none => none
end Go.AM
