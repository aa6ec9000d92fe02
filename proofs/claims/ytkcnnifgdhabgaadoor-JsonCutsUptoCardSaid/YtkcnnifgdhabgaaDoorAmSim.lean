/- The abstract machine, step by step, as rules of rewriting. No conditions. -/
import Derived.Test.YtkcnnifgdhabgaaDoorAmLim
namespace Go.AM
open Go

variable {T : Tab} {C : Oracle}

def condK (c : PV) (x y : Option (Out × Env)) : Option (Out × Env) := match c with
  | .v (.bool true) => x
  | .v (.bool false) => y
  | _ => none
@[simp] theorem condK_bool (t : Bool) (x y : Option (Out × Env)) : condK (.v (.bool t)) x y = if t = true then x else y := by cases t <;> rfl
theorem Exec_condK (ks : List Nat) (c : Opd) (a b : IR) (e : Env) : Exec T (.cond ks c a b) e = condK (c.ev e) (Exec T a (e.keep ks)) (Exec T b (e.keep ks)) := by
  unfold condK
  split
  · rename_i h; rw [Exec_cond ks c a b e true h]; rfl
  · rename_i h; rw [Exec_cond ks c a b e false h]; rfl
  · rename_i h1 h2
    refine Option.ext fun r => ?_
    rw [Exec_iff]
    constructor
    · rintro ⟨n, h⟩
      simp only [exec] at h
      cases h
    · intro h; cases h
attribute [simp] Exec_frz frzOK rowAt
noncomputable def gdK (b : IR) (T : Tab) (n : Nat) (hnd : Value → Option (List (List PV))) (x : Option Env) : Option (Out × Env) := match x with
  | some e => gdEnd n hnd (Exec T b e)
  | none => none
@[simp] theorem gdK_some (b : IR) (n : Nat) (hnd : Value → Option (List (List PV))) (e : Env) : gdK b T n hnd (some e) = gdEnd n hnd (Exec T b e) := rfl
@[simp] theorem Exec_gd' (id d : Nat) (cf : FuncId) (caps : List Nat) (hnd : Value → Option (List (List PV))) (b : IR) (e : Env) : Exec T (.gd id d cf caps hnd b) e = gdK b T caps.length hnd (rehome (e.set d .dead) 200000 caps) := by
  rw [Exec_gd]
  have : e.put d .dead = e.set d .dead := rfl
  rw [this]
  cases rehome (e.set d .dead) 200000 caps <;> rfl
@[simp] theorem rehome_nil (e : Env) (k : Nat) : rehome e k [] = some e := rfl
def rehomeK (e : Env) (k s : Nat) (r : List Nat) (x : PV) : Option Env := match x with
  | .box cs => if (e.get k).isDead = true ∧ s < home then rehome (((e.setAt s [] .dead).put k (.box cs)).put s (.ref k [])) (k + 1) r else none
  | _ => none
@[simp] theorem rehomeK_box (e : Env) (k s : Nat) (r : List Nat) (cs : List PV) : rehomeK e k s r (.box cs) = if (e.get k).isDead = true ∧ s < home then rehome (((e.setAt s [] .dead).put k (.box cs)).put s (.ref k [])) (k + 1) r else none := rfl
@[simp] theorem rehome_cons (e : Env) (k s : Nat) (r : List Nat) : rehome e k (s :: r) = rehomeK e k s r (e.get s) := by
  simp only [rehome, rehomeK]
  cases e.get s <;> rfl
@[simp] theorem setBoxes_nil (e : Env) (k : Nat) : setBoxes e k [] = some e := rfl
def setBoxesK (e : Env) (k : Nat) (ys : List PV) (r : List (List PV)) (x : PV) : Option Env := match x with
  | .box cs => if ys.length = cs.length then setBoxes ((e.kill k fun p => !p.isEmpty).set k (.box (ys.map PV.fresh))) (k + 1) r else none
  | _ => none
@[simp] theorem setBoxesK_box (e : Env) (k : Nat) (ys : List PV) (r : List (List PV)) (cs : List PV) : setBoxesK e k ys r (.box cs) = if ys.length = cs.length then setBoxes ((e.kill k fun p => !p.isEmpty).set k (.box (ys.map PV.fresh))) (k + 1) r else none := rfl
@[simp] theorem setBoxes_cons (e : Env) (k : Nat) (ys : List PV) (r : List (List PV)) : setBoxes e k (ys :: r) = setBoxesK e k ys r (e.get k) := by
  simp only [setBoxes, setBoxesK]
  cases e.get k <;> rfl
@[simp] theorem gdEnd_normal (n : Nat) (hnd : Value → Option (List (List PV))) (e : Env) : gdEnd n hnd (some (.normal, e)) = some (.normal, e) := rfl
@[simp] theorem gdEnd_ret (n : Nat) (hnd : Value → Option (List (List PV))) (e : Env) : gdEnd n hnd (some (.ret, e)) = some (.ret, e) := rfl
@[simp] theorem gdEnd_pan (n : Nat) (hnd : Value → Option (List (List PV))) (x : Value) (e : Env) : gdEnd n hnd (some (.pan x, e)) = (hnd x).bind fun news => if news.length = n then (setBoxes e 200000 news).map fun e => (.ret, e) else none := rfl
@[simp] theorem gdEnd_ite (n : Nat) (hnd : Value → Option (List (List PV))) (c : Prop) [Decidable c] (x y : Option (Out × Env)) : gdEnd n hnd (if c then x else y) = if c then gdEnd n hnd x else gdEnd n hnd y := by split <;> rfl
attribute [simp] Exec_skip Exec_ret Exec_label Exec_exit Exec_seq Exec_condK Exec_block Exec_scope andThen_normal andThen_ret andThen_exit andThen_pan andThen_none inBlock_pan inBlock_normal inBlock_ret inBlock_exit inBlock_none
def guardK {β : Type} (x : Option Bool) (y z : Option β) : Option β := match x with
  | some true => y
  | some false => z
  | none => none
@[simp] theorem guardK_true {β : Type} (y z : Option β) : guardK (some true) y z = y := rfl
@[simp] theorem guardK_false {β : Type} (y z : Option β) : guardK (some false) y z = z := rfl
/-- Goes on behind an operation. -/
def stepO (T : Tab) (C : Oracle) (all : List GOp) (d : Option Nat) (kl : List Nat) (r : List GOp) (x : Option (PV × Env)) : Option Env := match x with
  | some (y, e) => opsRun T C all r ((putDst e d y).forget kl)
  | none => none
@[simp] theorem stepO_some (all : List GOp) (d : Option Nat) (kl : List Nat) (r : List GOp) (y : PV) (e : Env) : stepO T C all d kl r (some (y, e)) = opsRun T C all r ((putDst e d y).forget kl) := rfl
def stepG (T : Tab) (C : Oracle) (all : List GOp) (d : Option Nat) (op : IOp) (kl : List Nat) (r : List GOp) (e : Env) (x : Option Bool) : Option Env := match x with
  | some true => stepO T C all d kl r (ev T C e op)
  | some false => opsRun T C all r ((putDst e d (.tup [])).forget kl)
  | none => none
@[simp] theorem stepG_true (all : List GOp) (d : Option Nat) (op : IOp) (kl : List Nat) (r : List GOp) (e : Env) : stepG T C all d op kl r e (some true) = stepO T C all d kl r (ev T C e op) := rfl
@[simp] theorem stepG_false (all : List GOp) (d : Option Nat) (op : IOp) (kl : List Nat) (r : List GOp) (e : Env) : stepG T C all d op kl r e (some false) = opsRun T C all r ((putDst e d (.tup [])).forget kl) := rfl
@[simp] theorem opsRun_nil (all : List GOp) (e : Env) : opsRun T C all [] e = some e := rfl
@[simp] theorem opsRun_cons (all : List GOp) (d : Option Nat) (op : IOp) (kl : List Nat) (r : List GOp) (e : Env) : opsRun T C all (⟨d, op, none, kl⟩ :: r) e = stepO T C all d kl r (ev T C e op) := by
  simp only [opsRun, wantedA, stepO]
  cases ev T C e op <;> rfl
@[simp] theorem opsRun_guard (all : List GOp) (d : Option Nat) (op : IOp) (g : Nat × Bool) (kl : List Nat) (r : List GOp) (e : Env) : opsRun T C all (⟨d, op, some g, kl⟩ :: r) e = stepG T C all d op kl r e (wantedA all e (some g)) := by
  simp only [opsRun]
  cases wantedA all e (some g) with
  | none => rfl
  | some b =>
    cases b
    · rfl
    · simp only [stepG, stepO]
      cases ev T C e op <;> rfl
def wantV (x : PV) (w : Bool) : Option Bool := match x with
  | .v (.bool b) => some (b == w)
  | .tup [] => some false
  | _ => none
@[simp] theorem wantV_bool (b w : Bool) : wantV (.v (.bool b)) w = some (b == w) := rfl
@[simp] theorem wantV_skip (w : Bool) : wantV (.tup []) w = some false := rfl
def guardAt (all : List GOp) (e : Env) (j : Nat) (w : Bool) : Option Bool := match all, j with
  | [], _ => none
  | o :: _, 0 => match o.dst with
    | some d => wantV (e.get d) w
    | none => none
  | _ :: r, j + 1 => guardAt r e j w
theorem wantedA_some (all : List GOp) (e : Env) (j : Nat) (w : Bool) : wantedA all e (some (j, w)) = guardAt all e j w := by
  unfold wantedA
  simp only
  induction all generalizing j with
  | nil => cases j <;> rfl
  | cons o r ih =>
    cases j with
    | zero =>
      simp only [List.getElem?_cons_zero, guardAt]
      cases o.dst <;> rfl
    | succ j =>
      simp only [List.getElem?_cons_succ, guardAt]
      exact ih j
attribute [simp] wantedA_some
@[simp] theorem guardAt_zero (d : Nat) (op : IOp) (g : Option (Nat × Bool)) (kl : List Nat) (r : List GOp) (e : Env) (w : Bool) : guardAt (⟨some d, op, g, kl⟩ :: r) e 0 w = wantV (e.get d) w := rfl
@[simp] theorem guardAt_succ (o : GOp) (r : List GOp) (e : Env) (j : Nat) (w : Bool) : guardAt (o :: r) e (j + 1) w = guardAt r e j w := rfl
def endReg (ks : List Nat) (x : Option Env) : Option (Out × Env) := match x with
  | some e => some (.normal, e.keep ks)
  | none => none
@[simp] theorem endReg_some (ks : List Nat) (e : Env) : endReg ks (some e) = some (.normal, e.keep ks) := rfl
@[simp] theorem Exec_reg' (id : Nat) (ops : List GOp) (ks : List Nat) (e : Env) : Exec T (.reg id ops none ks) e = endReg ks (opsRun T (Cinf T) ops ops e) := by
  rw [Exec_reg]
  cases opsRun T (Cinf T) ops ops e <;> rfl
@[simp] theorem Exec_plan' (id : Nat) (ops : List GOp) (p : Plan) (ks : List Nat) (e : Env) : Exec T (.reg id ops (some p) ks) e = endReg ks (planRun T (Cinf T) ops [] p e) := by
  rw [Exec_plan]
  cases planRun T (Cinf T) ops [] p e <;> rfl
theorem guardAt_of {all : List GOp} {e : Env} {j : Nat} {w : Bool} {d : Nat} (h : (all[j]?).bind (·.dst) = some d) : guardAt all e j w = wantV (e.get d) w := by
  rw [← wantedA_some]
  unfold wantedA
  simp only
  cases ha : all[j]? with
  | none => rw [ha] at h; cases h
  | some o =>
    rw [ha] at h
    simp only [Option.bind_some] at h
    simp only [h]
    rfl
/-! ### Regions that may panic -/
/-- What an operation ends in: a value, or a panic. -/
inductive EvP where | no | pan (x : Value) (e : Env) | val (y : PV) (e : Env)
def evP (T : Tab) (C : Oracle) (e : Env) (op : IOp) : EvP := match panOf T C e op with
  | some q => .pan q.1 q.2
  | none => match ev T C e op with
    | some (y, e') => .val y e'
    | none => .no
/-- A value of an operation that never panics. -/
def evN (x : Option (PV × Env)) : EvP := match x with
  | some (y, e) => .val y e
  | none => .no
@[simp] theorem evN_some (y : PV) (e : Env) : evN (some (y, e)) = .val y e := rfl
def IOp.calm : IOp → Bool
  | .call _ _ _ => false
  | .callv _ _ _ _ => false
  | .throw _ => false
  | _ => true
theorem evP_calm {e : Env} {op : IOp} (h : op.calm = true) : evP T C e op = evN (ev T C e op) := by
  have : panOf T C e op = none := by cases op <;> first | rfl | cases h
  unfold evP
  rw [this]
  unfold evN
  simp only
@[simp] theorem evP_move (e : Env) (x : Opd) : evP T C e (.move x) = evN (ev T C e (.move x)) := evP_calm rfl
@[simp] theorem evP_assign (e : Env) (x : Opd) : evP T C e (.assign x) = evN (ev T C e (.assign x)) := evP_calm rfl
@[simp] theorem evP_mark (e : Env) (t : TypeId) (x : Opd) : evP T C e (.mark t x) = evN (ev T C e (.mark t x)) := evP_calm rfl
@[simp] theorem evP_allocB (e : Env) (t b : TypeId) : evP T C e (.allocB t b) = evN (ev T C e (.allocB t b)) := evP_calm rfl
@[simp] theorem evP_mkmap (e : Env) (t : TypeId) : evP T C e (.mkmap t) = evN (ev T C e (.mkmap t)) := evP_calm rfl
@[simp] theorem evP_mlook (e : Env) (t : TypeId) (kd : Option IntKind) (z : Value) (x k : Opd) : evP T C e (.mlook t kd z x k) = evN (ev T C e (.mlook t kd z x k)) := evP_calm rfl
@[simp] theorem evP_mput (e : Env) (ins : Bool) (t : TypeId) (kd : Option IntKind) (x k v : Opd) : evP T C e (.mput ins t kd x k v) = evN (ev T C e (.mput ins t kd x k v)) := evP_calm rfl
@[simp] theorem evP_tass (e : Env) (xt t : TypeId) (x : Opd) : evP T C e (.tass xt t x) = evN (ev T C e (.tass xt t x)) := evP_calm rfl
@[simp] theorem evP_mkclo (e : Env) (f : FuncId) (x : Opd) : evP T C e (.mkclo f x) = evN (ev T C e (.mkclo f x)) := evP_calm rfl
@[simp] theorem evP_mkiface (e : Env) (t : TypeId) (x : Opd) : evP T C e (.mkiface t x) = evN (ev T C e (.mkiface t x)) := evP_calm rfl
@[simp] theorem evP_range (e : Env) (t : TypeId) (x : Opd) : evP T C e (.range t x) = evN (ev T C e (.range t x)) := evP_calm rfl
@[simp] theorem evP_next (e : Env) (x : Opd) : evP T C e (.next x) = evN (ev T C e (.next x)) := evP_calm rfl
@[simp] theorem evP_pick (e : Env) (c a b : Opd) : evP T C e (.pick c a b) = evN (ev T C e (.pick c a b)) := evP_calm rfl
@[simp] theorem evP_box (e : Env) (t : TypeId) (x : Opd) : evP T C e (.box t x) = evN (ev T C e (.box t x)) := evP_calm rfl
@[simp] theorem evP_alloc (e : Env) (t : TypeId) (zero : List PV) : evP T C e (.alloc t zero) = evN (ev T C e (.alloc t zero)) := evP_calm rfl
@[simp] theorem evP_build (e : Env) (t : TypeId) (pl : List (Nat × Nat)) (zero : List PV) (parts : List (Nat × Opd)) : evP T C e (.build t pl zero parts) = evN (ev T C e (.build t pl zero parts)) := evP_calm rfl
@[simp] theorem evP_lit (e : Env) (t : TypeId) (sz : Nat) (parts : List Opd) : evP T C e (.lit t sz parts) = evN (ev T C e (.lit t sz parts)) := evP_calm rfl
@[simp] theorem evP_load (e : Env) (t : TypeId) (n : Option Nat) (a : Opd) : evP T C e (.load t n a) = evN (ev T C e (.load t n a)) := evP_calm rfl
@[simp] theorem evP_store (e : Env) (t : TypeId) (n : Option Nat) (a x : Opd) : evP T C e (.store t n a x) = evN (ev T C e (.store t n a x)) := evP_calm rfl
@[simp] theorem evP_nilck (e : Env) (x : Opd) : evP T C e (.nilck x) = evN (ev T C e (.nilck x)) := evP_calm rfl
@[simp] theorem evP_bin (e : Env) (op : BinOp) (xt : TypeId) (x y : Opd) (yt : TypeId) : evP T C e (.bin op xt x y yt) = evN (ev T C e (.bin op xt x y yt)) := evP_calm rfl
@[simp] theorem evP_eqs (e : Env) (neg : Bool) (xt : TypeId) (ks : EqT) (x y : Opd) (yt : TypeId) : evP T C e (.eqs neg xt ks x y yt) = evN (ev T C e (.eqs neg xt ks x y yt)) := evP_calm rfl
@[simp] theorem evP_un (e : Env) (op : UnOp) (xt : TypeId) (x : Opd) : evP T C e (.un op xt x) = evN (ev T C e (.un op xt x)) := evP_calm rfl
@[simp] theorem evP_conv (e : Env) (s d : TypeId) (k : ConvK) (x : Opd) : evP T C e (.conv s d k x) = evN (ev T C e (.conv s d k x)) := evP_calm rfl
@[simp] theorem evP_mk (e : Env) (t : TypeId) (sz bytes : Nat) (zero : PV) (l c : Opd) : evP T C e (.mk t sz bytes zero l c) = evN (ev T C e (.mk t sz bytes zero l c)) := evP_calm rfl
@[simp] theorem evP_slice (e : Env) (t : TypeId) (k : SlK) (x : Opd) (lo hi mx : Option Opd) : evP T C e (.slice t k x lo hi mx) = evN (ev T C e (.slice t k x lo hi mx)) := evP_calm rfl
@[simp] theorem evP_faddr (e : Env) (t : TypeId) (x : Opd) (f off : Nat) : evP T C e (.faddr t x f off) = evN (ev T C e (.faddr t x f off)) := evP_calm rfl
@[simp] theorem evP_field (e : Env) (t : TypeId) (x : Opd) (f off : Nat) (n : Option Nat) : evP T C e (.field t x f off n) = evN (ev T C e (.field t x f off n)) := evP_calm rfl
@[simp] theorem evP_iaddr (e : Env) (t : TypeId) (k : IxK) (x i : Opd) : evP T C e (.iaddr t k x i) = evN (ev T C e (.iaddr t k x i)) := evP_calm rfl
@[simp] theorem evP_index (e : Env) (t : TypeId) (k : IxK) (n : Option Nat) (x i : Opd) : evP T C e (.index t k n x i) = evN (ev T C e (.index t k n x i)) := evP_calm rfl
@[simp] theorem evP_extr (e : Env) (x : Opd) (j : Nat) : evP T C e (.extr x j) = evN (ev T C e (.extr x j)) := evP_calm rfl
@[simp] theorem evP_append (e : Env) (t u : TypeId) (txt : Bool) (sz bytes : Nat) (x y : Opd) : evP T C e (.append t u txt sz bytes x y) = evN (ev T C e (.append t u txt sz bytes x y)) := evP_calm rfl
@[simp] theorem evP_len (e : Env) (t : TypeId) (txt : Bool) (x : Opd) : evP T C e (.len t txt x) = evN (ev T C e (.len t txt x)) := evP_calm rfl
@[simp] theorem evP_minmax (e : Env) (mx : Bool) (ts : List TypeId) (x y : Opd) : evP T C e (.minmax mx ts x y) = evN (ev T C e (.minmax mx ts x y)) := evP_calm rfl
@[simp] theorem evP_ext (e : Env) (f : FuncId) (k : ExtK) (args : List Opd) (ts : List TypeId) : evP T C e (.ext f k args ts) = evN (ev T C e (.ext f k args ts)) := evP_calm rfl
def stepP (T : Tab) (C : Oracle) (all : List GOp) (d : Option Nat) (kl : List Nat) (r : List GOp) (x : EvP) : Option (Out × Env) := match x with
  | .val y e => opsRunP T C all r ((putDst e d y).forget kl)
  | .pan x e => some (.pan x, e)
  | .no => none
@[simp] theorem stepP_val (all : List GOp) (d : Option Nat) (kl : List Nat) (r : List GOp) (y : PV) (e : Env) : stepP T C all d kl r (.val y e) = opsRunP T C all r ((putDst e d y).forget kl) := rfl
@[simp] theorem stepP_pan (all : List GOp) (d : Option Nat) (kl : List Nat) (r : List GOp) (x : Value) (e : Env) : stepP T C all d kl r (.pan x e) = some (.pan x, e) := rfl
def stepPG (T : Tab) (C : Oracle) (all : List GOp) (d : Option Nat) (op : IOp) (kl : List Nat) (r : List GOp) (e : Env) (x : Option Bool) : Option (Out × Env) := match x with
  | some true => stepP T C all d kl r (evP T C e op)
  | some false => opsRunP T C all r ((putDst e d (.tup [])).forget kl)
  | none => none
@[simp] theorem stepPG_true (all : List GOp) (d : Option Nat) (op : IOp) (kl : List Nat) (r : List GOp) (e : Env) : stepPG T C all d op kl r e (some true) = stepP T C all d kl r (evP T C e op) := rfl
@[simp] theorem stepPG_false (all : List GOp) (d : Option Nat) (op : IOp) (kl : List Nat) (r : List GOp) (e : Env) : stepPG T C all d op kl r e (some false) = opsRunP T C all r ((putDst e d (.tup [])).forget kl) := rfl
@[simp] theorem opsRunP_nil (all : List GOp) (e : Env) : opsRunP T C all [] e = some (.normal, e) := rfl
theorem stepP_eq (all : List GOp) (d : Option Nat) (op : IOp) (kl : List Nat) (r : List GOp) (e : Env) : (match panOf T C e op with
    | some q => some (.pan q.1, q.2)
    | none => do
      let (y, e') ← ev T C e op
      opsRunP T C all r ((putDst e' d y).forget kl)) = stepP T C all d kl r (evP T C e op) := by
  unfold evP stepP
  cases panOf T C e op with
  | some x => rfl
  | none => cases ev T C e op <;> rfl
@[simp] theorem opsRunP_cons (all : List GOp) (d : Option Nat) (op : IOp) (kl : List Nat) (r : List GOp) (e : Env) : opsRunP T C all (⟨d, op, none, kl⟩ :: r) e = stepP T C all d kl r (evP T C e op) := by
  simp only [opsRunP, wantedA]
  exact stepP_eq all d op kl r e
@[simp] theorem opsRunP_guard (all : List GOp) (d : Option Nat) (op : IOp) (g : Nat × Bool) (kl : List Nat) (r : List GOp) (e : Env) : opsRunP T C all (⟨d, op, some g, kl⟩ :: r) e = stepPG T C all d op kl r e (wantedA all e (some g)) := by
  simp only [opsRunP]
  cases wantedA all e (some g) with
  | none => rfl
  | some b =>
    cases b
    · rfl
    · exact stepP_eq all d op kl r e
def endRegP (ks : List Nat) (x : Option (Out × Env)) : Option (Out × Env) := match x with
  | some (o, e) => some (o, e.keep ks)
  | none => none
@[simp] theorem endRegP_normal (ks : List Nat) (e : Env) : endRegP ks (some (.normal, e)) = some (.normal, e.keep ks) := rfl
@[simp] theorem endRegP_pan (ks : List Nat) (x : Value) (e : Env) : endRegP ks (some (.pan x, e)) = some (.pan x, e.keep ks) := rfl
@[simp] theorem endRegP_ite (ks : List Nat) (c : Prop) [Decidable c] (x y : Option (Out × Env)) : endRegP ks (if c then x else y) = if c then endRegP ks x else endRegP ks y := by split <;> rfl
@[simp] theorem Exec_regp' (id : Nat) (ops : List GOp) (ks : List Nat) (e : Env) : Exec T (.regp id ops none ks) e = endRegP ks (opsRunP T (Cinf T) ops ops e) := by
  rw [Exec_regp]
  cases opsRunP T (Cinf T) ops ops e <;> rfl
@[simp] theorem Exec_planp' (id : Nat) (ops : List GOp) (p : Plan) (ks : List Nat) (e : Env) : Exec T (.regp id ops (some p) ks) e = endRegP ks (planRunP T (Cinf T) ops [] p e) := by
  rw [Exec_planp]
  cases planRunP T (Cinf T) ops [] p e <;> rfl
/-! ### Plans -/
def opAt : List GOp → Nat → Option GOp
  | [], _ => none
  | o :: _, 0 => some o
  | _ :: r, j + 1 => opAt r j
theorem opAt_eq (all : List GOp) (j : Nat) : all[j]? = opAt all j := by
  induction all generalizing j with
  | nil => rfl
  | cons o r ih => cases j <;> simp [opAt, ih]
@[simp] theorem opAt_zero (o : GOp) (r : List GOp) : opAt (o :: r) 0 = some o := rfl
@[simp] theorem opAt_succ (o : GOp) (r : List GOp) (j : Nat) : opAt (o :: r) (j + 1) = opAt r j := rfl
/-- The test of a planned operation, then the next. -/
def planT (T : Tab) (C : Oracle) (all : List GOp) (rds : List (Nat × Option Nat)) (r : Plan) (d : Option Nat) (kl : List Nat) (t : Bool) (x : Option (PV × Env)) : Option Env := match t, x with
  | true, some (y, e) => planRun T C all rds r ((putDst e d y).forget kl)
  | _, _ => none
@[simp] theorem planT_true (all : List GOp) (rds : List (Nat × Option Nat)) (r : Plan) (d : Option Nat) (kl : List Nat) (y : PV) (e : Env) : planT T C all rds r d kl true (some (y, e)) = planRun T C all rds r ((putDst e d y).forget kl) := rfl
def planG (T : Tab) (C : Oracle) (all : List GOp) (rds : List (Nat × Option Nat)) (i : Nat) (un : List Nat) (r : Plan) (e : Env) (d : Option Nat) (op : IOp) (kl : List Nat) (x : Option Bool) : Option Env := match x with
  | some true => planT T C all (readsOf e i op ++ rds) r d kl (unOK T C e rds un op && dstOK (readsOf e i op ++ rds) d) (ev T C e op)
  | some false => planT T C all rds r d kl (dstOK rds d) (some (.tup [], e))
  | none => none
@[simp] theorem planG_true (all : List GOp) (rds : List (Nat × Option Nat)) (i : Nat) (un : List Nat) (r : Plan) (e : Env) (d : Option Nat) (op : IOp) (kl : List Nat) : planG T C all rds i un r e d op kl (some true) = planT T C all (readsOf e i op ++ rds) r d kl (unOK T C e rds un op && dstOK (readsOf e i op ++ rds) d) (ev T C e op) := rfl
@[simp] theorem planG_false (all : List GOp) (rds : List (Nat × Option Nat)) (i : Nat) (un : List Nat) (r : Plan) (e : Env) (d : Option Nat) (op : IOp) (kl : List Nat) : planG T C all rds i un r e d op kl (some false) = planT T C all rds r d kl (dstOK rds d) (some (.tup [], e)) := rfl
def planOp (T : Tab) (C : Oracle) (all : List GOp) (rds : List (Nat × Option Nat)) (i : Nat) (un : List Nat) (r : Plan) (e : Env) (x : Option GOp) : Option Env := match x with
  | none => none
  | some o => planG T C all rds i un r e o.dst o.op o.kl (wantedA all e o.g)
@[simp] theorem planOp_some (all : List GOp) (rds : List (Nat × Option Nat)) (i : Nat) (un : List Nat) (r : Plan) (e : Env) (d : Option Nat) (op : IOp) (kl : List Nat) : planOp T C all rds i un r e (some ⟨d, op, none, kl⟩) = planT T C all (readsOf e i op ++ rds) r d kl (unOK T C e rds un op && dstOK (readsOf e i op ++ rds) d) (ev T C e op) := rfl
@[simp] theorem planOp_guard (all : List GOp) (rds : List (Nat × Option Nat)) (i : Nat) (un : List Nat) (r : Plan) (e : Env) (d : Option Nat) (op : IOp) (g : Nat × Bool) (kl : List Nat) : planOp T C all rds i un r e (some ⟨d, op, some g, kl⟩) = planG T C all rds i un r e d op kl (wantedA all e (some g)) := rfl
@[simp] theorem planRun_nil (all : List GOp) (rds : List (Nat × Option Nat)) (e : Env) : planRun T C all rds .nil e = some e := rfl
@[simp] theorem planRun_cons (all : List GOp) (rds : List (Nat × Option Nat)) (i : Nat) (un : List Nat) (r : Plan) (e : Env) : planRun T C all rds (.cons ⟨i, un⟩ r) e = planOp T C all rds i un r e (opAt all i) := by
  simp only [planRun, opAt_eq]
  cases opAt all i with
  | none => rfl
  | some o =>
    simp only [planOp]
    cases wantedA all e o.g with
    | none => rfl
    | some b =>
      cases b
      · simp only [planG, planT]
        cases dstOK rds o.dst <;> rfl
      · simp only [planG, planT]
        cases ev T C e o.op with
        | none => cases (unOK T C e rds un o.op && dstOK (readsOf e i o.op ++ rds) o.dst) <;> rfl
        | some q => cases h : (unOK T C e rds un o.op && dstOK (readsOf e i o.op ++ rds) o.dst) <;> simp
def planTP (T : Tab) (C : Oracle) (all : List GOp) (rds : List (Nat × Option Nat)) (r : Plan) (d : Option Nat) (kl : List Nat) (t : Bool) (x : EvP) : Option (Out × Env) := match x with
  | .val y e => if t = true then planRunP T C all rds r ((putDst e d y).forget kl) else none
  | .pan x _ => some (.pan x, [])
  | .no => none
@[simp] theorem planTP_true (all : List GOp) (rds : List (Nat × Option Nat)) (r : Plan) (d : Option Nat) (kl : List Nat) (y : PV) (e : Env) : planTP T C all rds r d kl true (.val y e) = planRunP T C all rds r ((putDst e d y).forget kl) := rfl
@[simp] theorem planTP_pan (all : List GOp) (rds : List (Nat × Option Nat)) (r : Plan) (d : Option Nat) (kl : List Nat) (t : Bool) (x : Value) (e : Env) : planTP T C all rds r d kl t (.pan x e) = some (.pan x, []) := rfl
def planGP (T : Tab) (C : Oracle) (all : List GOp) (rds : List (Nat × Option Nat)) (i : Nat) (un : List Nat) (r : Plan) (e : Env) (d : Option Nat) (op : IOp) (kl : List Nat) (x : Option Bool) : Option (Out × Env) := match x with
  | some true => planTP T C all (readsOf e i op ++ rds) r d kl (unOK T C e rds un op && dstOK (readsOf e i op ++ rds) d) (evP T C e op)
  | some false => planTP T C all rds r d kl (dstOK rds d) (.val (.tup []) e)
  | none => none
@[simp] theorem planGP_true (all : List GOp) (rds : List (Nat × Option Nat)) (i : Nat) (un : List Nat) (r : Plan) (e : Env) (d : Option Nat) (op : IOp) (kl : List Nat) : planGP T C all rds i un r e d op kl (some true) = planTP T C all (readsOf e i op ++ rds) r d kl (unOK T C e rds un op && dstOK (readsOf e i op ++ rds) d) (evP T C e op) := rfl
@[simp] theorem planGP_false (all : List GOp) (rds : List (Nat × Option Nat)) (i : Nat) (un : List Nat) (r : Plan) (e : Env) (d : Option Nat) (op : IOp) (kl : List Nat) : planGP T C all rds i un r e d op kl (some false) = planTP T C all rds r d kl (dstOK rds d) (.val (.tup []) e) := rfl
def planOpP (T : Tab) (C : Oracle) (all : List GOp) (rds : List (Nat × Option Nat)) (i : Nat) (un : List Nat) (r : Plan) (e : Env) (x : Option GOp) : Option (Out × Env) := match x with
  | none => none
  | some o => planGP T C all rds i un r e o.dst o.op o.kl (wantedA all e o.g)
@[simp] theorem planOpP_some (all : List GOp) (rds : List (Nat × Option Nat)) (i : Nat) (un : List Nat) (r : Plan) (e : Env) (d : Option Nat) (op : IOp) (kl : List Nat) : planOpP T C all rds i un r e (some ⟨d, op, none, kl⟩) = planTP T C all (readsOf e i op ++ rds) r d kl (unOK T C e rds un op && dstOK (readsOf e i op ++ rds) d) (evP T C e op) := rfl
@[simp] theorem planOpP_guard (all : List GOp) (rds : List (Nat × Option Nat)) (i : Nat) (un : List Nat) (r : Plan) (e : Env) (d : Option Nat) (op : IOp) (g : Nat × Bool) (kl : List Nat) : planOpP T C all rds i un r e (some ⟨d, op, some g, kl⟩) = planGP T C all rds i un r e d op kl (wantedA all e (some g)) := rfl
@[simp] theorem planRunP_nil (all : List GOp) (rds : List (Nat × Option Nat)) (e : Env) : planRunP T C all rds .nil e = some (.normal, e) := rfl
@[simp] theorem planRunP_cons (all : List GOp) (rds : List (Nat × Option Nat)) (i : Nat) (un : List Nat) (r : Plan) (e : Env) : planRunP T C all rds (.cons ⟨i, un⟩ r) e = planOpP T C all rds i un r e (opAt all i) := by
  simp only [planRunP, opAt_eq]
  cases opAt all i with
  | none => rfl
  | some o =>
    simp only [planOpP]
    cases wantedA all e o.g with
    | none => rfl
    | some b =>
      cases b
      · rfl
      · simp only [planGP, evP, planTP]
        cases panOf T C e o.op with
        | some x => rfl
        | none =>
          simp only
          cases ev T C e o.op <;> rfl
@[simp] theorem planRunP_fork (all : List GOp) (rds : List (Nat × Option Nat)) (ks : List Nat) (l r : Plan) (e : Env) : planRunP T C all rds (.fork ks l r) e = forkOut ks (planRunP T C all rds l e) (planRunP T C all rds r e) := rfl
@[simp] theorem forkOut_both (ks : List Nat) (x y : Env) : forkOut ks (some (.normal, x)) (some (.normal, y)) = if sameEnv (x.keep ks) (y.keep ks) then some (.normal, x.keep ks) else none := by
  simp only [forkOut, forkEnv]
  split <;> rfl
@[simp] theorem planRun_fork (all : List GOp) (rds : List (Nat × Option Nat)) (ks : List Nat) (l r : Plan) (e : Env) : planRun T C all rds (.fork ks l r) e = forkEnv ks (planRun T C all rds l e) (planRun T C all rds r e) := rfl
@[simp] theorem forkEnv_both (ks : List Nat) (x y : Env) : forkEnv ks (some x) (some y) = if sameEnv (x.keep ks) (y.keep ks) then some (x.keep ks) else none := rfl
attribute [simp] sameEnv PV.same PV.sameL litSame
@[simp] theorem dstOK_nil (d : Option Nat) : dstOK [] d = true := rfl
@[simp] theorem dstOK_none (i : Nat) (r : List (Nat × Option Nat)) (d : Option Nat) : dstOK ((i, none) :: r) d = dstOK r d := by simp [dstOK]
@[simp] theorem dstOK_some (i s d : Nat) (r : List (Nat × Option Nat)) : dstOK ((i, some s) :: r) (some d) = (!decide (s = d) && dstOK r (some d)) := by
  by_cases h : s = d <;> simp [dstOK, h]
@[simp] theorem dstOK_some_none (i s : Nat) (r : List (Nat × Option Nat)) : dstOK ((i, some s) :: r) none = dstOK r none := by simp [dstOK]
@[simp] theorem unOK_nil (e : Env) (un : List Nat) (o : IOp) : unOK T C e [] un o = true := rfl
@[simp] theorem unOK_none (e : Env) (i : Nat) (r : List (Nat × Option Nat)) (un : List Nat) (o : IOp) : unOK T C e ((i, none) :: r) un o = (!un.contains i && unOK T C e r un o) := by simp [unOK]
@[simp] theorem unOK_some (e : Env) (i s : Nat) (r : List (Nat × Option Nat)) (un : List Nat) (o : IOp) : unOK T C e ((i, some s) :: r) un o = ((!un.contains i || ((e.get s).isObj && leaves T C e s o)) && unOK T C e r un o) := by simp [unOK]
/-! ### Variables -/
@[simp] theorem put_v (e : Env) (s : Nat) (x : Value) : e.put s (.v x) = e.set s (.v x) := rfl
@[simp] theorem put_ro (e : Env) (s sz : Nat) (l : List PV) : e.put s (.ro sz l) = e.set s (.ro sz l) := rfl
@[simp] theorem put_nil (e : Env) (s sz : Nat) : e.put s (.nil sz) = e.set s (.nil sz) := rfl
@[simp] theorem put_ref (e : Env) (s t : Nat) (p : List Nat) : e.put s (.ref t p) = e.set s (.ref t p) := rfl
@[simp] theorem put_win (e : Env) (s t : Nat) (p : List Nat) (sz lo hi : Nat) : e.put s (.win t p sz lo hi) = e.set s (.win t p sz lo hi) := rfl
@[simp] theorem put_addr (e : Env) (s t o : Nat) : e.put s (.addr t o) = e.set s (.addr t o) := rfl
@[simp] theorem put_eaddr (e : Env) (s t : Nat) (p : List Nat) (sz i k : Nat) : e.put s (.eaddr t p sz i k) = e.set s (.eaddr t p sz i k) := rfl
@[simp] theorem put_raddr (e : Env) (s : Nat) (cs : List PV) : e.put s (.raddr cs) = e.set s (.raddr cs) := rfl
@[simp] theorem put_dead (e : Env) (s : Nat) : e.put s .dead = e.set s .dead := rfl
@[simp] theorem put_own (e : Env) (s sz : Nat) (l : List PV) : e.put s (.own sz l) = (e.kill s fun _ => true).set s (.own sz l) := rfl
@[simp] theorem put_box (e : Env) (s : Nat) (l : List PV) : e.put s (.box l) = (e.kill s fun _ => true).set s (.box l) := rfl
@[simp] theorem put_bld (e : Env) (s : Nat) (a b : TypeId) (l : List UInt8) : e.put s (.bld a b l) = (e.kill s fun _ => true).set s (.bld a b l) := rfl
@[simp] theorem put_iter (e : Env) (s : Nat) (t : ByteArray) (p : Nat) : e.put s (.iter t p) = (e.kill s fun _ => true).set s (.iter t p) := rfl
@[simp] theorem put_agg (e : Env) (s : Nat) (l : List PV) : e.put s (.agg l) = if PV.hasObjL l = true then (e.kill s fun _ => true).set s (.agg l) else e.set s (.agg l) := rfl
@[simp] theorem put_tup (e : Env) (s : Nat) (l : List PV) : e.put s (.tup l) = if PV.hasObjL l = true then (e.kill s fun _ => true).set s (.tup l) else e.set s (.tup l) := rfl
@[simp] theorem ev_t (e : Env) (s : Nat) : Opd.ev e (.t s) = (e.get s).view s [] := rfl
@[simp] theorem ev_c (e : Env) (x : Value) : Opd.ev e (.c x) = .v x := rfl
@[simp] theorem ev_nilS (e : Env) (sz : Nat) : Opd.ev e (.nilS sz) = .nil sz := rfl
@[simp] theorem ev_f (e : Env) (n : FuncId) : Opd.ev e (.f n) = .v (.func (.func n) #[] #[]) := rfl
@[simp] theorem ev_g (e : Env) (n : Nat) (cs : List PV) : Opd.ev e (.g n cs) = .raddr cs := rfl
@[simp] theorem settle_v (e : Env) (x : Value) : settle e (.v x) = some (.v x, e) := rfl
@[simp] theorem settle_ro (e : Env) (sz : Nat) (l : List PV) : settle e (.ro sz l) = some (.ro sz l, e) := rfl
@[simp] theorem settle_nil (e : Env) (sz : Nat) : settle e (.nil sz) = some (.own sz [], e) := rfl
@[simp] theorem settle_raddr (e : Env) (cs : List PV) : settle e (.raddr cs) = some (.raddr cs, e) := rfl
@[simp] theorem settle_agg (e : Env) (cs : List PV) : settle e (.agg cs) = (settleL e cs).map fun q => (.agg q.1, q.2) := by
  simp only [settle]
  cases settleL e cs <;> rfl
@[simp] theorem settle_tup (e : Env) (cs : List PV) : settle e (.tup cs) = (settleL e cs).map fun q => (.tup q.1, q.2) := by
  simp only [settle]
  cases settleL e cs <;> rfl
@[simp] theorem settle_ref (e : Env) (s : Nat) (p : List Nat) : settle e (.ref s p) = settle1 e (.ref s p) := rfl
@[simp] theorem settle_win (e : Env) (s : Nat) (p : List Nat) (sz lo hi : Nat) : settle e (.win s p sz lo hi) = settle1 e (.win s p sz lo hi) := rfl
@[simp] theorem elems_ro (e : Env) (sz : Nat) (l : List PV) : elems e (.ro sz l) = some (sz, l) := rfl
@[simp] theorem elems_nil (e : Env) (sz : Nat) : elems e (.nil sz) = some (sz, []) := rfl
/-! ### Operations -/
@[simp] theorem ev_move (e : Env) (x : Opd) : ev T C e (.move x) = some (x.ev e, e) := rfl
@[simp] theorem ev_allocB (e : Env) (t b : TypeId) : ev T C e (.allocB t b) = some (.bld t b [], e) := rfl
@[simp] theorem ev_mkmap (e : Env) (t : TypeId) : ev T C e (.mkmap t) = some (.mapc [] 0, e) := rfl
def lookK2 (e : Env) (z : Value) (x : Option (Option (Nat × Value))) : Option (PV × Env) := match x with
  | some (some (_, v)) => if v.oneCell' = true then some (.v v, e) else none
  | some none => if z.oneCell' = true then some (.v z, e) else none
  | none => none
@[simp] theorem lookK2_found (e : Env) (z : Value) (i : Nat) (v : Value) : lookK2 e z (some (some (i, v))) = if v.oneCell' = true then some (.v v, e) else none := rfl
@[simp] theorem lookK2_none (e : Env) (z : Value) : lookK2 e z (some none) = if z.oneCell' = true then some (.v z, e) else none := rfl
def lookK (e : Env) (kd : Option IntKind) (z kv : Value) (x : PV) : Option (PV × Env) := match x with
  | .mapc es _ => lookK2 e z (Instr.findNow (kdOf kd) kv es 0)
  | _ => none
@[simp] theorem lookK_map (e : Env) (kd : Option IntKind) (z kv : Value) (es : List MapEntry) (c : Nat) : lookK e kd z kv (.mapc es c) = lookK2 e z (Instr.findNow (kdOf kd) kv es 0) := rfl
@[simp] theorem lookPV_ref (e : Env) (kd : Option IntKind) (z kv : Value) (s : Nat) : lookPV e kd z (.ref s []) (.v kv) = lookK e kd z kv (e.get s) := by
  simp only [lookPV, lookK]
  cases e.get s <;> rfl
@[simp] theorem ev_mlook (e : Env) (t : TypeId) (kd : Option IntKind) (z : Value) (x k : Opd) : ev T C e (.mlook t kd z x k) = lookPV e kd z (x.ev e) (k.ev e) := rfl
def putK3 (e : Env) (s : Nat) (es : List MapEntry) (c : Nat) (kv vv : Value) (i : Nat) (x : Option MapEntry) : Option (PV × Env) := match x with
  | some en => if Instr.sameBits 0 en.key kv = true then some (.dead, e.setAt s [] (.mapc (es.modify i fun m => { m with key := kv, val := vv }) c)) else none
  | none => none
@[simp] theorem putK3_some (e : Env) (s : Nat) (es : List MapEntry) (c : Nat) (kv vv : Value) (i : Nat) (en : MapEntry) : putK3 e s es c kv vv i (some en) = if Instr.sameBits 0 en.key kv = true then some (.dead, e.setAt s [] (.mapc (es.modify i fun m => { m with key := kv, val := vv }) c)) else none := rfl
def putK2 (e : Env) (s : Nat) (es : List MapEntry) (c : Nat) (kv vv : Value) (x : Option (Option (Nat × Value))) : Option (PV × Env) := match x with
  | some (some (i, _)) => putK3 e s es c kv vv i es[i]?
  | some none => some (.dead, e.setAt s [] (.mapc (es ++ [⟨kv, vv, c⟩]) (c + 1)))
  | none => none
@[simp] theorem putK2_found (e : Env) (s : Nat) (es : List MapEntry) (c : Nat) (kv vv : Value) (i : Nat) (v : Value) : putK2 e s es c kv vv (some (some (i, v))) = putK3 e s es c kv vv i es[i]? := rfl
@[simp] theorem putK2_none (e : Env) (s : Nat) (es : List MapEntry) (c : Nat) (kv vv : Value) : putK2 e s es c kv vv (some none) = some (.dead, e.setAt s [] (.mapc (es ++ [⟨kv, vv, c⟩]) (c + 1))) := rfl
def putK (e : Env) (s : Nat) (kd : Option IntKind) (kv vv : Value) (x : PV) : Option (PV × Env) := match x with
  | .mapc es c => putK2 e s es c kv vv (Instr.findNow (kdOf kd) kv es 0)
  | _ => none
@[simp] theorem putK_map (e : Env) (s : Nat) (kd : Option IntKind) (kv vv : Value) (es : List MapEntry) (c : Nat) : putK e s kd kv vv (.mapc es c) = putK2 e s es c kv vv (Instr.findNow (kdOf kd) kv es 0) := rfl
@[simp] theorem putPV_ref (e : Env) (kd : Option IntKind) (kv vv : Value) (s : Nat) : putPV e kd (.ref s []) (.v kv) (.v vv) = putK e s kd kv vv (e.get s) := by
  simp only [putPV, putK]
  cases e.get s <;> rfl
@[simp] theorem ev_mput (e : Env) (ins : Bool) (t : TypeId) (kd : Option IntKind) (x k v : Opd) : ev T C e (.mput ins t kd x k v) = putPV e kd (x.ev e) (k.ev e) (v.ev e) := rfl
attribute [simp] plainL plainV
@[simp] theorem ev_mkiface (e : Env) (t : TypeId) (x : Opd) : ev T C e (.mkiface t x) = (plainV (x.ev e)).map fun v => (.v (.iface t v), e) := rfl
@[simp] theorem put_mapc (e : Env) (s : Nat) (es : List MapEntry) (c : Nat) : e.put s (.mapc es c) = (e.kill s fun _ => true).set s (.mapc es c) := rfl
@[simp] theorem ev_range (e : Env) (t : TypeId) (x : Opd) : ev T C e (.range t x) = rangePV e (x.ev e) := rfl
@[simp] theorem ev_next (e : Env) (x : Opd) : ev T C e (.next x) = nextPV e (x.ev e) := rfl
@[simp] theorem rangePV_str (e : Env) (s : ByteArray) : rangePV e (.v (.string s)) = some (.iter s 0, e) := rfl
@[simp] theorem ev_mark (e : Env) (t : TypeId) (x : Opd) : ev T C e (.mark t x) = markPV (settle1 e (x.ev e)) := rfl
@[simp] theorem markPV_own (sz : Nat) (y : PV) (l : List PV) (e : Env) : markPV (some (.own sz (y :: l), e)) = some (.own sz (y :: l), e) := rfl
@[simp] theorem ev_assign (e : Env) (x : Opd) : ev T C e (.assign x) = settle e (x.ev e) := rfl
def pickK (c a b : PV) (e : Env) : Option (PV × Env) := match c with
  | .v (.bool t) => some (if t then a else b, e)
  | _ => none
@[simp] theorem pickK_bool (t : Bool) (a b : PV) (e : Env) : pickK (.v (.bool t)) a b e = some (if t then a else b, e) := rfl
@[simp] theorem ev_pick (e : Env) (c a b : Opd) : ev T C e (.pick c a b) = pickK (c.ev e) (a.ev e) (b.ev e) e := by
  simp only [ev, pickK]
  split <;> simp_all
@[simp] theorem ev_box (e : Env) (t : TypeId) (x : Opd) : ev T C e (.box t x) = (settle e (x.ev e)).map fun q => (.box q.1.cells, q.2) := by
  simp only [ev]
  cases settle e (x.ev e) <;> rfl
@[simp] theorem ev_alloc (e : Env) (t : TypeId) (zero : List PV) : ev T C e (.alloc t zero) = some (.box (zero.map PV.fresh), e) := rfl
@[simp] theorem ev_build (e : Env) (t : TypeId) (pl : List (Nat × Nat)) (zero : List PV) (parts : List (Nat × Opd)) : ev T C e (.build t pl zero parts) = (fillPV pl zero (parts.map fun p => (p.1, p.2.ev e))).map fun cs => (.agg cs, e) := by
  simp only [ev]
  cases fillPV pl zero (parts.map fun p => (p.1, p.2.ev e)) <;> rfl
def consP (y : PV) (x : Option (List PV × Env)) : Option (List PV × Env) := match x with
  | some (ys, e) => some (y :: ys, e)
  | none => none
@[simp] theorem consP_some (y : PV) (ys : List PV) (e : Env) : consP y (some (ys, e)) = some (y :: ys, e) := rfl
def nextP (r : List PV) (x : Option (PV × Env)) : Option (List PV × Env) := match x with
  | some (y, e) => consP y (settleP e r)
  | none => none
@[simp] theorem nextP_some (r : List PV) (y : PV) (e : Env) : nextP r (some (y, e)) = consP y (settleP e r) := rfl
@[simp] theorem settleP_nil (e : Env) : settleP e [] = some ([], e) := rfl
@[simp] theorem settleP_cons (e : Env) (x : PV) (r : List PV) : settleP e (x :: r) = nextP r (settle e x) := by
  simp only [settleP, nextP]
  cases settle e x with
  | none => rfl
  | some q =>
    obtain ⟨y, e'⟩ := q
    simp only [Option.bind_eq_bind, Option.bind_some, consP]
    cases settleP e' r <;> rfl
def litK (sz : Nat) (x : Option (List PV × Env)) : Option (PV × Env) := match x with
  | some (ys, e) => if ((PV.freezeL ys).all fun z => z.cells.length == sz) && PV.immL (PV.freezeL ys) then some (.own sz (PV.freezeL ys), e) else none
  | none => none
@[simp] theorem litK_some (sz : Nat) (ys : List PV) (e : Env) : litK sz (some (ys, e)) = if ((PV.freezeL ys).all fun z => z.cells.length == sz) && PV.immL (PV.freezeL ys) then some (.own sz (PV.freezeL ys), e) else none := rfl
@[simp] theorem ev_lit (e : Env) (t : TypeId) (sz : Nat) (parts : List Opd) : ev T C e (.lit t sz parts) = litK sz (settleP e (parts.map fun p => p.ev e)) := by
  simp only [ev, litK]
  cases settleP e (parts.map fun p => p.ev e) <;> rfl
@[simp] theorem ev_load (e : Env) (t : TypeId) (n : Option Nat) (a : Opd) : ev T C e (.load t n a) = (loadAt e n (a.ev e)).map (·, e) := rfl
def deadE (x : Option Env) : Option (PV × Env) := match x with
  | some e => some (.dead, e)
  | none => none
@[simp] theorem deadE_some (e : Env) : deadE (some e) = some (.dead, e) := rfl
def storeK (n : Option Nat) (a : PV) (x : Option (PV × Env)) : Option (PV × Env) := match x with
  | some (y, e) => deadE (storeAt e n a y.cells)
  | none => none
@[simp] theorem storeK_some (n : Option Nat) (a y : PV) (e : Env) : storeK n a (some (y, e)) = deadE (storeAt e n a y.cells) := rfl
@[simp] theorem ev_store (e : Env) (t : TypeId) (n : Option Nat) (a x : Opd) : ev T C e (.store t n a x) = storeK n (a.ev e) (settle e (x.ev e)) := by
  simp only [ev]
  cases settle e (x.ev e) with
  | none => rfl
  | some q =>
    obtain ⟨y, e'⟩ := q
    simp only [storeK, deadE]
    cases h : storeAt e' n (a.ev e) y.cells <;> simp [h]
@[simp] theorem ev_bin (e : Env) (op : BinOp) (xt yt : TypeId) (x y : Opd) : ev T C e (.bin op xt x y yt) = (bin op (x.ev e) (y.ev e)).map (·, e) := rfl
@[simp] theorem ev_eqs (e : Env) (neg : Bool) (xt yt : TypeId) (ks : EqT) (x y : Opd) : ev T C e (.eqs neg xt ks x y yt) = (eqs neg ks (x.ev e) (y.ev e)).map (·, e) := rfl
@[simp] theorem ev_un (e : Env) (op : UnOp) (xt : TypeId) (x : Opd) : ev T C e (.un op xt x) = (un op (x.ev e)).map (·, e) := rfl
@[simp] theorem ev_conv (e : Env) (s d : TypeId) (k : ConvK) (x : Opd) : ev T C e (.conv s d k x) = (conv e k (x.ev e)).map (·, e) := rfl
def mkK (sz bytes : Nat) (zero l c : PV) (e : Env) : Option (PV × Env) := match l, c with
  | .v (.int .i64 n), .v (.int .i64 m) => if 0 ≤ n ∧ n ≤ m ∧ m * bytes ≤ 281474976710656 ∧ m ≤ 4611686018427387904 ∧ zero.cells.length = sz ∧ zero.imm = true then some (.own sz (List.replicate n.toNat zero), e) else none
  | _, _ => none
@[simp] theorem mkK_int (sz bytes : Nat) (zero : PV) (n m : Int) (e : Env) : mkK sz bytes zero (.v (.int .i64 n)) (.v (.int .i64 m)) e = if 0 ≤ n ∧ n ≤ m ∧ m * bytes ≤ 281474976710656 ∧ m ≤ 4611686018427387904 ∧ zero.cells.length = sz ∧ zero.imm = true then some (.own sz (List.replicate n.toNat zero), e) else none := rfl
@[simp] theorem ev_mk (e : Env) (t : TypeId) (sz bytes : Nat) (zero : PV) (l c : Opd) : ev T C e (.mk t sz bytes zero l c) = mkK sz bytes zero (l.ev e) (c.ev e) e := rfl
@[simp] theorem ev_sliceStr (e : Env) (t : TypeId) (x : Opd) (lo hi mx : Option Opd) : ev T C e (.slice t .str x lo hi mx) = (sliceStr (x.ev e) (optPV e lo) (optPV e hi)).map (·, e) := rfl
@[simp] theorem ev_sliceSl (e : Env) (t : TypeId) (sz : Nat) (x : Opd) (lo hi mx : Option Opd) : ev T C e (.slice t (.sl sz) x lo hi mx) = (sliceSl e sz (x.ev e) (optPV e lo) (optPV e hi) (optPV e mx)).map (·, e) := rfl
@[simp] theorem ev_faddr (e : Env) (t : TypeId) (x : Opd) (f off : Nat) : ev T C e (.faddr t x f off) = (offAddr e (x.ev e) off).map (·, e) := rfl
def fieldK (off : Nat) (n : Option Nat) (x : PV) (e : Env) : Option (PV × Env) := match x with
  | .agg cs => (part n (cs.drop off)).map (·, e)
  | _ => none
@[simp] theorem fieldK_agg (off : Nat) (n : Option Nat) (cs : List PV) (e : Env) : fieldK off n (.agg cs) e = (part n (cs.drop off)).map (·, e) := rfl
@[simp] theorem ev_field (e : Env) (t : TypeId) (x : Opd) (f off : Nat) (n : Option Nat) : ev T C e (.field t x f off n) = fieldK off n (x.ev e) e := rfl
@[simp] theorem ev_iaddrSl (e : Env) (t : TypeId) (sz : Nat) (x i : Opd) : ev T C e (.iaddr t (.sl sz) x i) = (indexSl e sz (x.ev e) (i.ev e)).map (·, e) := rfl
@[simp] theorem ev_iaddrArr (e : Env) (t : TypeId) (n sz : Nat) (x i : Opd) : ev T C e (.iaddr t (.arr n sz) x i) = (indexArr e (x.ev e) (i.ev e) n sz).map (·, e) := rfl
def indexStrK (x i : PV) (e : Env) : Option (PV × Env) := match x with
  | .v (.string s) => (idx i s.size).map fun j => (.v (.int .u8 (s.data.toList.getD j 0).toNat), e)
  | _ => none
@[simp] theorem indexStrK_str (s : ByteArray) (i : PV) (e : Env) : indexStrK (.v (.string s)) i e = (idx i s.size).map fun j => (.v (.int .u8 (s.data.toList.getD j 0).toNat), e) := rfl
@[simp] theorem ev_indexStr (e : Env) (t : TypeId) (n : Option Nat) (x i : Opd) : ev T C e (.index t .str n x i) = indexStrK (x.ev e) (i.ev e) e := rfl
def indexAggK (m sz : Nat) (n : Option Nat) (x i : PV) (e : Env) : Option (PV × Env) := match x with
  | .agg cs => (idx i m).bind fun j => (part n (cs.drop (j * sz))).map (·, e)
  | _ => none
@[simp] theorem indexAggK_agg (m sz : Nat) (n : Option Nat) (cs : List PV) (i : PV) (e : Env) : indexAggK m sz n (.agg cs) i e = (idx i m).bind fun j => (part n (cs.drop (j * sz))).map (·, e) := rfl
@[simp] theorem ev_indexAgg (e : Env) (t : TypeId) (m sz : Nat) (n : Option Nat) (x i : Opd) : ev T C e (.index t (.arr m sz) n x i) = indexAggK m sz n (x.ev e) (i.ev e) e := rfl
def extrK (x : PV) (j : Nat) (e : Env) : Option (PV × Env) := match x with
  | .tup cs => (cs[j]?).map (·, e)
  | _ => none
@[simp] theorem extrK_tup (cs : List PV) (j : Nat) (e : Env) : extrK (.tup cs) j e = (cs[j]?).map (·, e) := rfl
@[simp] theorem ev_extr (e : Env) (x : Opd) (j : Nat) : ev T C e (.extr x j) = extrK (x.ev e) j e := by
  simp only [ev]
  generalize x.ev e = z
  cases z <;> first | rfl | skip
  rename_i cs
  simp only [extrK]
  cases cs[j]? <;> rfl
@[simp] theorem ev_call (e : Env) (f : FuncId) (args : List Opd) (ts : List TypeId) : ev T C e (.call f args ts) = call T C e f (args.map fun a => a.ev e) := rfl
def callvK (T : Tab) (C : Oracle) (e : Env) (xs : List PV) (q : Option (FuncId × List PV)) : Option (PV × Env) := match q with
  | some (n, r) => call T C e n (xs ++ r)
  | none => none
@[simp] theorem callvK_some (e : Env) (xs r : List PV) (n : FuncId) : callvK T C e xs (some (n, r)) = call T C e n (xs ++ r) := rfl
@[simp] theorem calleeOf_func (es : List FuncId) (n : FuncId) : calleeOf es (.v (.func (.func n) #[] #[])) = if n ∈ es then some (n, []) else none := by simp [calleeOf]
@[simp] theorem calleeOf_clo (es : List FuncId) (n : FuncId) (cs : List PV) : calleeOf es (.clo n cs) = if n ∈ es then some (n, [.raddr cs]) else none := rfl
@[simp] theorem ev_callv (e : Env) (es : List FuncId) (f : Opd) (args : List Opd) (ts : List TypeId) : ev T C e (.callv es f args ts) = callvK T C e (args.map fun a => a.ev e) (calleeOf es (f.ev e)) := by
  simp only [ev]
  cases calleeOf es (f.ev e) <;> rfl
def cloK (e : Env) (f : FuncId) (s : Nat) (x : PV) : Option (PV × Env) := match x with
  | .box cs => if (plainL cs).isSome = true then some (.clo f cs, e.setAt s [] (.raddr cs)) else none
  | _ => none
@[simp] theorem cloK_box (e : Env) (f : FuncId) (s : Nat) (cs : List PV) : cloK e f s (.box cs) = if (plainL cs).isSome = true then some (.clo f cs, e.setAt s [] (.raddr cs)) else none := rfl
@[simp] theorem ev_mkclo (e : Env) (f : FuncId) (x : Opd) : ev T C e (.mkclo f x) = cloPV e f (x.ev e) := rfl
@[simp] theorem cloPV_ref (e : Env) (f : FuncId) (s : Nat) : cloPV e f (.ref s []) = cloK e f s (e.get s) := by
  simp only [cloPV, cloK]
  cases e.get s <;> rfl
@[simp] theorem ev_tass (e : Env) (xt t : TypeId) (x : Opd) : ev T C e (.tass xt t x) = (tassPV t (x.ev e)).map (·, e) := rfl
attribute [simp] tassPV unplain
@[simp] theorem put_clo (e : Env) (s : Nat) (f : FuncId) (cs : List PV) : e.put s (.clo f cs) = e.set s (.clo f cs) := rfl
@[simp] theorem ev_ext (e : Env) (f : FuncId) (k : ExtK) (args : List Opd) (ts : List TypeId) : ev T C e (.ext f k args ts) = (extPV k (args.map fun a => a.ev e)).map (·, e) := rfl
@[simp] theorem ev_append (e : Env) (t u : TypeId) (txt : Bool) (sz bytes : Nat) (x y : Opd) : ev T C e (.append t u txt sz bytes x y) = appendPV e txt sz bytes (x.ev e) (y.ev e) := rfl
@[simp] theorem ev_len (e : Env) (t : TypeId) (txt : Bool) (x : Opd) : ev T C e (.len t txt x) = (lenPV e txt (x.ev e)).map fun (n : Nat) => (PV.v (.int .i64 (n : Int)), e) := rfl
def minmaxK (mx : Bool) (x y : PV) (e : Env) : Option (PV × Env) := match x, y with
  | .v (.int k a), .v (.int k' b) => if k = k' then some (.v (.int k (if mx then (if b > a then b else a) else (if b < a then b else a))), e) else none
  | _, _ => none
@[simp] theorem minmaxK_int (mx : Bool) (k : IntKind) (a b : Int) (e : Env) : minmaxK mx (.v (.int k a)) (.v (.int k b)) e = some (.v (.int k (if mx then (if b > a then b else a) else (if b < a then b else a))), e) := by simp [minmaxK]
@[simp] theorem ev_minmax (e : Env) (mx : Bool) (ts : List TypeId) (x y : Opd) : ev T C e (.minmax mx ts x y) = minmaxK mx (x.ev e) (y.ev e) e := rfl
def nilckK (x : PV) (e : Env) : Option (PV × Env) := match x with
  | .ref s [] => match e.get s with
    | .box _ => some (.ref s [], e)
    | _ => none
  | .v y => match y with
    | .func fn a b => match a.isEmpty, fn with
      | true, .func _ => some (.v (.func fn a b), e)
      | _, _ => none
    | _ => none
  | .clo f cs => some (.clo f cs, e)
  | z => (offAddr e z 0).map (·, e)
@[simp] theorem ev_nilck (e : Env) (x : Opd) : ev T C e (.nilck x) = nilckK (x.ev e) e := rfl
/-! ### Values -/
@[simp] theorem bin_int (op : BinOp) (k : IntKind) (a b : Int) : bin op (.v (.int k a)) (.v (.int k b)) = (binInt op k a b).map .v := by simp [bin]
theorem bin_shift (op : BinOp) (h : BinOp.shifts op = true) (k k' : IntKind) (a b : Int) : bin op (.v (.int k a)) (.v (.int k' b)) = (binInt op k a b).map .v := by simp [bin, h]
@[simp] theorem bin_shl (k k' : IntKind) (a b : Int) : bin .shl (.v (.int k a)) (.v (.int k' b)) = (binInt .shl k a b).map .v := bin_shift .shl rfl k k' a b
@[simp] theorem bin_shr (k k' : IntKind) (a b : Int) : bin .shr (.v (.int k a)) (.v (.int k' b)) = (binInt .shr k a b).map .v := bin_shift .shr rfl k k' a b
@[simp] theorem binInt_add (k : IntKind) (a b : Int) : binInt .add k a b = some (.int k (k.wrap (a + b))) := rfl
@[simp] theorem binInt_sub (k : IntKind) (a b : Int) : binInt .sub k a b = some (.int k (k.wrap (a - b))) := rfl
@[simp] theorem binInt_mul (k : IntKind) (a b : Int) : binInt .mul k a b = some (.int k (k.wrap (a * b))) := rfl
@[simp] theorem binInt_quo (k : IntKind) (a b : Int) : binInt .quo k a b = if b = 0 then none else some (.int k (k.wrap (a.tdiv b))) := rfl
@[simp] theorem binInt_rem (k : IntKind) (a b : Int) : binInt .rem k a b = if b = 0 then none else some (.int k (a.tmod b)) := rfl
@[simp] theorem binInt_and (k : IntKind) (a b : Int) : binInt .and k a b = some (.int k (k.wrap (BitVec.ofInt k.bits a &&& BitVec.ofInt k.bits b).toNat)) := rfl
@[simp] theorem binInt_or (k : IntKind) (a b : Int) : binInt .or k a b = some (.int k (k.wrap (BitVec.ofInt k.bits a ||| BitVec.ofInt k.bits b).toNat)) := rfl
@[simp] theorem binInt_xor (k : IntKind) (a b : Int) : binInt .xor k a b = some (.int k (k.wrap (BitVec.ofInt k.bits a ^^^ BitVec.ofInt k.bits b).toNat)) := rfl
@[simp] theorem binInt_andNot (k : IntKind) (a b : Int) : binInt .andNot k a b = some (.int k (k.wrap (BitVec.ofInt k.bits a &&& ~~~ BitVec.ofInt k.bits b).toNat)) := rfl
@[simp] theorem binInt_eql (k : IntKind) (a b : Int) : binInt .eql k a b = some (.bool (decide (a = b))) := by
  simp only [binInt]
  by_cases h : a = b <;> simp [h]
@[simp] theorem binInt_neq (k : IntKind) (a b : Int) : binInt .neq k a b = some (.bool (!decide (a = b))) := by
  simp only [binInt]
  by_cases h : a = b <;> simp [h]
@[simp] theorem binInt_lss (k : IntKind) (a b : Int) : binInt .lss k a b = some (.bool (decide (a < b))) := rfl
@[simp] theorem binInt_leq (k : IntKind) (a b : Int) : binInt .leq k a b = some (.bool (decide (a ≤ b))) := rfl
@[simp] theorem binInt_gtr (k : IntKind) (a b : Int) : binInt .gtr k a b = some (.bool (decide (b < a))) := rfl
@[simp] theorem binInt_geq (k : IntKind) (a b : Int) : binInt .geq k a b = some (.bool (decide (b ≤ a))) := rfl
@[simp] theorem binInt_shl (k : IntKind) (a b : Int) : binInt .shl k a b = if b < 0 then none else some (.int k (k.wrap (a * 2 ^ (min b.toNat k.bits)))) := rfl
@[simp] theorem binInt_shr (k : IntKind) (a b : Int) : binInt .shr k a b = if b < 0 then none else some (.int k (a.fdiv (2 ^ (min b.toNat k.bits)))) := rfl
theorem bytesL_eq_iff (a b : ByteArray) : (a.toList == b.toList) = decide (a = b) := by
  rw [ByteArray.toList_eq, ByteArray.toList_eq]
  obtain ⟨⟨x⟩⟩ := a
  obtain ⟨⟨y⟩⟩ := b
  by_cases h : x = y
  · subst h; simp
  · simp [h]
theorem bytes_eq_iff (a b : ByteArray) : (a == b) = decide (a = b) := by rw [beq_toListBytes, bytesL_eq_iff]
@[simp] theorem binStr_add (a b : ByteArray) : binStr .add a b = if a.size + b.size ≤ 9223372036854775807 then some (.string (a ++ b)) else none := rfl
@[simp] theorem binStr_eql (a b : ByteArray) : binStr .eql a b = some (.bool (decide (a = b))) := by
  simp only [binStr]
  rw [bytesL_eq_iff]
@[simp] theorem binStr_neq (a b : ByteArray) : binStr .neq a b = some (.bool (!decide (a = b))) := by
  simp only [binStr]
  rw [bytesL_eq_iff]
@[simp] theorem eqV_int (k : IntKind) (a b : Int) : eqV .int (.v (.int k a)) (.v (.int k b)) = some (decide (a = b)) := by
  simp only [eqV, if_true]
  by_cases h : a = b <;> simp [h]
@[simp] theorem eqV_str (a b : ByteArray) : eqV .str (.v (.string a)) (.v (.string b)) = some (decide (a = b)) := by
  simp only [eqV]
  rw [bytes_eq_iff]
@[simp] theorem eqV_bool (a b : Bool) : eqV .bool (.v (.bool a)) (.v (.bool b)) = some (decide (a = b)) := by
  simp only [eqV]
  cases a <;> cases b <;> rfl
@[simp] theorem bin_str (op : BinOp) (a b : ByteArray) : bin op (.v (.string a)) (.v (.string b)) = (binStr op a b).map .v := rfl
/-! ### Calls -/
def passN (x : Option (PV × List (Nat × List Nat))) (r : Option (List PV × List (Nat × List Nat) × List (Option (Nat × List Nat)))) : Option (List PV × List (Nat × List Nat) × List (Option (Nat × List Nat))) := match x, r with
  | some (y, l), some (ys, ls, bs) => some (y :: ys, l ++ ls, none :: bs)
  | _, _ => none
@[simp] theorem passN_some (y : PV) (l ls : List (Nat × List Nat)) (ys : List PV) (bs : List (Option (Nat × List Nat))) : passN (some (y, l)) (some (ys, ls, bs)) = some (y :: ys, l ++ ls, none :: bs) := rfl
def passS (y : PV) (b : Option (Nat × List Nat)) (r : Option (List PV × List (Nat × List Nat) × List (Option (Nat × List Nat)))) : Option (List PV × List (Nat × List Nat) × List (Option (Nat × List Nat))) := match r with
  | some (ys, ls, bs) => some (y :: ys, ls, b :: bs)
  | none => none
@[simp] theorem passS_some (y : PV) (b : Option (Nat × List Nat)) (ls : List (Nat × List Nat)) (ys : List PV) (bs : List (Option (Nat × List Nat))) : passS y b (some (ys, ls, bs)) = some (y :: ys, ls, b :: bs) := rfl
@[simp] theorem pass_nil (e : Env) (xs : List PV) : pass e [] xs = some ([], [], []) := by cases xs <;> rfl
@[simp] theorem pass_none (e : Env) (ms : List (Option (PV × Option (Nat × List Nat)))) (x : PV) (xs : List PV) : pass e (none :: ms) (x :: xs) = passN (lend e x) (pass e ms xs) := by
  simp only [pass, passN]
  cases lend e x with
  | none => rfl
  | some q => cases pass e ms xs <;> rfl
@[simp] theorem pass_some (e : Env) (y : PV) (b : Option (Nat × List Nat)) (ms : List (Option (PV × Option (Nat × List Nat)))) (x : PV) (xs : List PV) : pass e (some (y, b) :: ms) (x :: xs) = passS y b (pass e ms xs) := by
  simp only [pass, passS]
  cases pass e ms xs <;> rfl
def movesS (y : PV) (b : Option (Nat × List Nat)) (r : Option (List (Option (PV × Option (Nat × List Nat))) × Env)) : Option (List (Option (PV × Option (Nat × List Nat))) × Env) := match r with
  | some (l, e) => some (some (y, b) :: l, e)
  | none => none
@[simp] theorem movesS_some (y : PV) (b : Option (Nat × List Nat)) (l : List (Option (PV × Option (Nat × List Nat)))) (e : Env) : movesS y b (some (l, e)) = some (some (y, b) :: l, e) := rfl
def movesN (r : Option (List (Option (PV × Option (Nat × List Nat))) × Env)) : Option (List (Option (PV × Option (Nat × List Nat))) × Env) := match r with
  | some (l, e) => some (none :: l, e)
  | none => none
@[simp] theorem movesN_some (l : List (Option (PV × Option (Nat × List Nat)))) (e : Env) : movesN (some (l, e)) = some (none :: l, e) := rfl
@[simp] theorem moves_false (e : Env) (us : List Nat) (ms : List Bool) (x : PV) (xs : List PV) : moves e us (false :: ms) (x :: xs) = movesN (moves e us ms xs) := by
  simp only [moves]
  cases moves e us ms xs <;> rfl
@[simp] theorem moves_ro (e : Env) (us : List Nat) (ms : List Bool) (sz : Nat) (l : List PV) (xs : List PV) : moves e us (true :: ms) (.ro sz l :: xs) = movesN (moves e us ms xs) := by
  simp only [moves]
  cases moves e us ms xs <;> rfl
@[simp] theorem moves_nil (e : Env) (us : List Nat) (ms : List Bool) (sz : Nat) (xs : List PV) : moves e us (true :: ms) (.nil sz :: xs) = movesS (.nil sz) none (moves e us ms xs) := by
  simp only [moves]
  cases moves e us ms xs <;> rfl
@[simp] theorem moves_raddr (e : Env) (us : List Nat) (ms : List Bool) (cs : List PV) (xs : List PV) : moves e us (true :: ms) (.raddr cs :: xs) = movesN (moves e us ms xs) := by
  simp only [moves]
  cases moves e us ms xs <;> rfl
def moveRef (e : Env) (us : List Nat) (ms : List Bool) (s : Nat) (p : List Nat) (xs : List PV) (x : PV) : Option (List (Option (PV × Option (Nat × List Nat))) × Env) := match x with
  | .own sz l => movesS (.own sz l) (some (s, p)) (moves (e.setAt s p .dead) (s :: us) ms xs)
  | .box cs => if p = [] ∧ us.contains s = false then movesS (.box cs) (some (s, [])) (moves (e.setAt s [] .dead) (s :: us) ms xs) else none
  | .bld a b l => if p = [] ∧ us.contains s = false then movesS (.bld a b l) (some (s, [])) (moves (e.setAt s [] .dead) (s :: us) ms xs) else none
  | _ => none
@[simp] theorem moveRef_own (e : Env) (us : List Nat) (ms : List Bool) (s : Nat) (p : List Nat) (xs : List PV) (sz : Nat) (l : List PV) : moveRef e us ms s p xs (.own sz l) = movesS (.own sz l) (some (s, p)) (moves (e.setAt s p .dead) (s :: us) ms xs) := rfl
@[simp] theorem moveRef_box (e : Env) (us : List Nat) (ms : List Bool) (s : Nat) (p : List Nat) (xs : List PV) (l : List PV) : moveRef e us ms s p xs (.box l) = if p = [] ∧ us.contains s = false then movesS (.box l) (some (s, [])) (moves (e.setAt s [] .dead) (s :: us) ms xs) else none := rfl
@[simp] theorem moveRef_bld (e : Env) (us : List Nat) (ms : List Bool) (s : Nat) (p : List Nat) (xs : List PV) (a b : TypeId) (l : List UInt8) : moveRef e us ms s p xs (.bld a b l) = if p = [] ∧ us.contains s = false then movesS (.bld a b l) (some (s, [])) (moves (e.setAt s [] .dead) (s :: us) ms xs) else none := rfl
@[simp] theorem moves_ref (e : Env) (us : List Nat) (ms : List Bool) (s : Nat) (p : List Nat) (xs : List PV) : moves e us (true :: ms) (.ref s p :: xs) = moveRef e us ms s p xs (e.at_ s p) := by
  simp only [moves]
  generalize e.at_ s p = x
  cases x <;> simp only [moveRef, movesS] <;> first | rfl | skip
  · cases moves (e.setAt s p .dead) (s :: us) ms xs <;> rfl
  · split
    · cases moves (e.setAt s [] .dead) (s :: us) ms xs <;> rfl
    · rfl
  · split
    · cases moves (e.setAt s [] .dead) (s :: us) ms xs <;> rfl
    · rfl
def moveWin (e : Env) (us : List Nat) (ms : List Bool) (s : Nat) (p : List Nat) (sw lo hi : Nat) (xs : List PV) (x : PV) : Option (List (Option (PV × Option (Nat × List Nat))) × Env) := match x with
  | .own sz l => if lo = 0 ∧ sw = sz then movesS (.own sz (l.take hi)) none (moves (e.setAt s p .dead) (s :: us) ms xs) else none
  | _ => none
@[simp] theorem moveWin_own (e : Env) (us : List Nat) (ms : List Bool) (s : Nat) (p : List Nat) (sw lo hi : Nat) (xs : List PV) (sz : Nat) (l : List PV) : moveWin e us ms s p sw lo hi xs (.own sz l) = if lo = 0 ∧ sw = sz then movesS (.own sz (l.take hi)) none (moves (e.setAt s p .dead) (s :: us) ms xs) else none := rfl
@[simp] theorem moves_win (e : Env) (us : List Nat) (ms : List Bool) (s : Nat) (p : List Nat) (sw lo hi : Nat) (xs : List PV) : moves e us (true :: ms) (.win s p sw lo hi :: xs) = moveWin e us ms s p sw lo hi xs (e.at_ s p) := by
  simp only [moves]
  generalize e.at_ s p = x
  cases x <;> simp only [moveWin, movesS] <;> first | rfl | skip
  split
  · cases moves (e.setAt s p .dead) (s :: us) ms xs <;> rfl
  · rfl
def callK3 (e : Env) (lent : List (Nat × List Nat)) (bs : List (Option (Nat × List Nat))) (x : Option (PV × List PV)) : Option (PV × Env) := match x with
  | some (res, backs) => some (res, giveBack (if lent.isEmpty || (res.noRo && PV.noRoL backs) then e else freezeAll e lent) bs backs)
  | none => none
@[simp] theorem callK3_some (e : Env) (lent : List (Nat × List Nat)) (bs : List (Option (Nat × List Nat))) (res : PV) (backs : List PV) : callK3 e lent bs (some (res, backs)) = some (res, giveBack (if lent.isEmpty || (res.noRo && PV.noRoL backs) then e else freezeAll e lent) bs backs) := rfl
def callK2 (C : Oracle) (f : FuncId) (e : Env) (x : Option (List PV × List (Nat × List Nat) × List (Option (Nat × List Nat)))) : Option (PV × Env) := match x with
  | some (ys, lent, bs) => callK3 e lent bs (C f ys)
  | none => none
@[simp] theorem callK2_some (f : FuncId) (e : Env) (ys : List PV) (lent : List (Nat × List Nat)) (bs : List (Option (Nat × List Nat))) : callK2 C f e (some (ys, lent, bs)) = callK3 e lent bs (C f ys) := rfl
def callK1 (C : Oracle) (f : FuncId) (xs : List PV) (x : Option (List (Option (PV × Option (Nat × List Nat))) × Env)) : Option (PV × Env) := match x with
  | some (ms, e) => callK2 C f e (pass e ms xs)
  | none => none
@[simp] theorem callK1_some (f : FuncId) (xs : List PV) (ms : List (Option (PV × Option (Nat × List Nat)))) (e : Env) : callK1 C f xs (some (ms, e)) = callK2 C f e (pass e ms xs) := rfl
theorem callR_modes {e : Env} {f : FuncId} {xs : List PV} {ms : List Bool} (hm : T.modes f = ms) : callR T C e f xs = callK1 C f xs (moves e [] ms xs) := by
  unfold callR callK1
  rw [hm]
  cases moves e [] ms xs with
  | none => rfl
  | some q =>
    obtain ⟨m, e1⟩ := q
    simp only [Option.bind_eq_bind, Option.bind_some, callK2]
    cases pass e1 m xs with
    | none => rfl
    | some r =>
      obtain ⟨ys, lent, bs⟩ := r
      simp only [Option.bind_some, callK3]
      cases C f ys <;> rfl
/-- A call's end: a value. -/
def callV (x : Option (PV × Env)) : Option (PV × Env) := x.bind fun r => if r.1.isPan = true then none else some r
@[simp] theorem callV_some (y : PV) (e : Env) : callV (some (y, e)) = if y.isPan = true then none else some (y, e) := rfl
theorem call_modes {e : Env} {f : FuncId} {xs : List PV} {ms : List Bool} (hm : T.modes f = ms) : call T C e f xs = callV (callK1 C f xs (moves e [] ms xs)) := by
  unfold call callV
  rw [callR_modes hm]
/-- A call's end: a value or a panic. -/
def callP (x : Option (PV × Env)) : EvP := match x with
  | some (y, e) => match y with
    | .pan x => .pan x e
    | y => .val y e
  | none => .no
def valP (y : PV) (e : Env) : EvP := if y.isPan = true then callP (some (y, e)) else .val y e
theorem callP_some (y : PV) (e : Env) (h : y.isPan = false) : callP (some (y, e)) = .val y e := by
  cases y <;> first | rfl | cases h
@[simp] theorem callP_pan (x : Value) (e : Env) : callP (some (.pan x, e)) = .pan x e := rfl
@[simp] theorem callP_v (x : Value) (e : Env) : callP (some (.v x, e)) = .val (.v x) e := rfl
@[simp] theorem callP_agg (l : List PV) (e : Env) : callP (some (.agg l, e)) = .val (.agg l) e := rfl
@[simp] theorem callP_tup (l : List PV) (e : Env) : callP (some (.tup l, e)) = .val (.tup l) e := rfl
@[simp] theorem callP_own (sz : Nat) (l : List PV) (e : Env) : callP (some (.own sz l, e)) = .val (.own sz l) e := rfl
@[simp] theorem callP_ro (sz : Nat) (l : List PV) (e : Env) : callP (some (.ro sz l, e)) = .val (.ro sz l) e := rfl
@[simp] theorem callP_box (l : List PV) (e : Env) : callP (some (.box l, e)) = .val (.box l) e := rfl
@[simp] theorem callP_raddr (l : List PV) (e : Env) : callP (some (.raddr l, e)) = .val (.raddr l) e := rfl
theorem callP_eq (x : Option (PV × Env)) : callP x = match (x.bind fun r => match r.1 with | .pan x => some (x, r.2) | _ => none) with
    | some q => .pan q.1 q.2
    | none => match callV x with
      | some (y, e') => .val y e'
      | none => .no := by
  rcases x with _ | ⟨y, e⟩
  · rfl
  · cases y <;> rfl
theorem evP_call_modes {e : Env} {f : FuncId} {args : List Opd} {ts : List TypeId} {ms : List Bool} (hm : T.modes f = ms) : evP T C e (.call f args ts) = callP (callK1 C f (args.map fun a => a.ev e) (moves e [] ms (args.map fun a => a.ev e))) := by
  rw [callP_eq]
  unfold evP
  simp only [ev, panOf, IOp.calls, Option.bind_some, callR_modes hm, call_modes hm]
  rfl
def throwK (x : PV) (e : Env) : EvP := match x with
  | .v (.iface t v) => .pan (.iface t v) e
  | _ => .no
@[simp] theorem throwK_iface (t : TypeId) (v : Value) (e : Env) : throwK (.v (.iface t v)) e = .pan (.iface t v) e := rfl
@[simp] theorem evP_throw (e : Env) (x : Opd) : evP T C e (.throw x) = throwK (x.ev e) e := by
  simp only [evP, panOf, ev]
  generalize x.ev e = z
  cases z <;> first | rfl | skip
  rename_i y
  cases y <;> rfl
@[simp] theorem moves_clo (e : Env) (us : List Nat) (ms : List Bool) (f : FuncId) (cs : List PV) (xs : List PV) : moves e us (true :: ms) (.clo f cs :: xs) = movesN (moves e us ms xs) := by
  simp only [moves]
  cases moves e us ms xs <;> rfl
@[simp] theorem moves_none (e : Env) (us : List Nat) (xs : List PV) : moves e us [] xs = some (xs.map fun _ => none, e) := rfl
attribute [simp] readsOf leaves keepsS
attribute [simp] Env.del Env.forget Env.get Env.set Env.kill Env.at_ Env.setAt Env.keep putDst
attribute [simp] PV.fresh PV.sub PV.setSub PV.kids PV.isObj PV.path PV.cells PV.one PV.isDead PV.hasObj PV.hasObjL PV.ment PV.mentL PV.view PV.viewL PV.freeze PV.freezeL PV.imm PV.immL PV.noRo PV.noRoL
attribute [simp] settle1 settleL lend lend1 lendL elems
attribute [simp] nilckK
attribute [simp] eqL eqOf eqs un conv extPV
attribute [simp] idx bound fillPV setMany cellViews part loadAt setElem storeBox storeElem storeAt boundOr sliceStr window sliceSl indexSl offAddr indexArr moreOf appendTo appendPV lenPV optPV
attribute [simp] giveBack1 giveBack freezeAll
attribute [simp] results single enter left1 left
@[simp] theorem finish_normal (f : AFunc) (xs : List PV) (e : Env) : finish f xs (some (.normal, e)) = (results e f.res).map fun r => (single r.1, left r.2 0 xs) := rfl
@[simp] theorem finish_ret (f : AFunc) (xs : List PV) (e : Env) : finish f xs (some (.ret, e)) = (results e f.res).map fun r => (single r.1, left r.2 0 xs) := rfl
@[simp] theorem finish_pan (f : AFunc) (xs : List PV) (x : Value) (e : Env) : finish f xs (some (.pan x, e)) = some (.pan x, xs.map fun _ => .dead) := rfl
attribute [simp] PV.isPan
/-! ### Branches -/
@[simp] theorem andThen_ite (c : Prop) [Decidable c] (x y : Option (Out × Env)) (k : Env → Option (Out × Env)) : andThen (if c then x else y) k = if c then andThen x k else andThen y k := by split <;> rfl
@[simp] theorem inBlock_ite (c : Prop) [Decidable c] (i : Nat) (x y : Option (Out × Env)) : inBlock i (if c then x else y) = if c then inBlock i x else inBlock i y := by split <;> rfl
@[simp] theorem finish_ite (c : Prop) [Decidable c] (f : AFunc) (xs : List PV) (x y : Option (Out × Env)) : finish f xs (if c then x else y) = if c then finish f xs x else finish f xs y := by split <;> rfl
@[simp] theorem map_ite' {α β : Type} (c : Prop) [Decidable c] (x y : Option α) (k : α → β) : Option.map k (if c then x else y) = if c then Option.map k x else Option.map k y := by split <;> rfl
@[simp] theorem bind_ite' {α β : Type} (c : Prop) [Decidable c] (x y : Option α) (k : α → Option β) : (if c then x else y).bind k = if c then x.bind k else y.bind k := by split <;> rfl
end Go.AM
