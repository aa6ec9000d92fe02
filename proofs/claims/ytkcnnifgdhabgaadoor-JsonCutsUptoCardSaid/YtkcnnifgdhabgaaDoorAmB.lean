/- The machine's operations. No conditions. -/
import Derived.Test.YtkcnnifgdhabgaaDoorAmA
import Derived.Lib.FrozenHead
import Derived.Lib.AppendStr
import Derived.Lib.ConvBytes
import Derived.Great.BuildSlice
import Derived.Laws.BytesArg
/- The operations: what the real machine does is what the abstract one does (reckoning, variables, memory that is made). No conditions. -/
namespace Go.AM
open Go

def IOp.toOp : IOp → Op
  | .move x => .move x.op
  | .assign x => .assign x.op
  | .mark t x => .convert t t x.op
  | .range t x => .range t x.op
  | .allocB t _ => .alloc t
  | .mkmap t => .makeMap t none
  | .mlook t _ _ x k => .lookup t x.op k.op false
  | .mput ins t _ x k v => if ins then .insert t x.op k.op v.op else .mapUpdate t x.op k.op v.op
  | .throw x => .panic x.op
  | .mkiface t x => .makeInterface t x.op
  | .mkclo f x => .makeFunc (.func f) #[] #[x.op]
  | .tass xt t x => .typeAssert x.op xt t true
  | .next x => .next x.op true
  | .pick c a b => .pick c.op a.op b.op
  | .box t x => .box t x.op
  | .alloc t _ => .alloc t
  | .build t _ _ parts => .build t (parts.map fun p => (p.1, p.2.op)).toArray
  | .lit t _ parts => .buildSlice t parts.length (parts.zipIdx.map fun p => (p.2, p.1.op)).toArray
  | .load t _ a => .load t a.op
  | .store t _ a x => .store t a.op x.op
  | .nilck x => .nilCheck x.op
  | .bin op xt x y yt => .binOp op xt x.op y.op yt
  | .eqs neg xt _ x y yt => .binOp (if neg then .neq else .eql) xt x.op y.op yt
  | .un op xt x => .unOp op xt x.op
  | .conv src dst _ x => .convert src dst x.op
  | .mk t _ _ _ l c => .makeSlice t l.op c.op
  | .slice t _ x lo hi mx => .slice t x.op (lo.map (·.op)) (hi.map (·.op)) (mx.map (·.op))
  | .faddr t x f _ => .fieldAddr t x.op f
  | .field t x f _ _ => .field t x.op f
  | .iaddr t _ x i => .indexAddr t x.op i.op
  | .index t _ _ x i => .index t x.op i.op
  | .extr x j => .extract x.op j
  | .call f args ats => .call { callee := .value (.func f), args := (args.map (·.op)).toArray, argTypes := ats.toArray }
  | .append t u _ _ _ x y => .call { callee := .builtin .append, args := #[x.op, y.op], argTypes := #[t, u] }
  | .len t _ x => .call { callee := .builtin .len, args := #[x.op], argTypes := #[t] }
  | .minmax mx ts x y => .call { callee := .builtin (if mx then .max else .min), args := #[x.op, y.op], argTypes := ts.toArray }
  | .ext f _ args ats => .call { callee := .value (.func f), args := (args.map (·.op)).toArray, argTypes := ats.toArray }
  | .callv _ f args ats => .call { callee := .value f.op, args := (args.map (·.op)).toArray, argTypes := ats.toArray }
  | .other x => x
def Opd.ok (G : Nat → List PV) : Opd → Prop
  | .t s => s < home
  | .c x => x.oneCell' = true
  | .nilS _ => True
  | .f _ => True
  | .g n cs => cs = G n ∧ cs ≠ []

/-- The variables of a call: its own and its arguments' homes. -/
def valOf (a : Act) (H : Nat → Value) : Nat → Value := fun s => if s < home then a.tmps.getD s undef else H s

section
variable {P : Program} {B : Base} {a : Act} {H : Nat → Value} {e e' : Env} {w w' : World} {I : Nat → Prop} {blk : Nat → List Nat} {fl : List Nat}

theorem nil_R (w : World) (I : Nat → Prop) (q : PV → Value → Prop) (sz : Nat) : R w I q (.nil sz) (.slice none 0 0) [] := ⟨rfl, rfl⟩
theorem ev_ok (h : Inv B e (refOK e (valOf a H) w) (valOf a H) w I blk fl) {x : Opd} (hx : x.ok B.glob) : R w I (refOK e (valOf a H) w) (x.ev e) (a.eval x.op) [] := by
  cases x with
  | t s =>
    have := h.view s
    have hs : s < home := hx
    have hv : valOf a H s = a.eval (.tmp s) := by simp [valOf, hs, Act.eval]
    rw [hv] at this
    exact this
  | c x => exact ⟨rfl, hx, rfl⟩
  | nilS sz => exact nil_R _ _ _ _
  | f n => exact ⟨rfl, rfl, rfl⟩
  | g n cs =>
    obtain ⟨rfl, hne⟩ := hx
    exact h.glob n hne
theorem evL_ok (h : Inv B e (refOK e (valOf a H) w) (valOf a H) w I blk fl) {l : List Opd} (hl : ∀ x ∈ l, x.ok B.glob) : Rs w I (refOK e (valOf a H) w) (l.map fun x => x.ev e) (l.map fun x => a.eval x.op) [] := by
  induction l with
  | nil => exact ⟨rfl, rfl⟩
  | cons x r ih => exact ⟨_, _, [], [], rfl, rfl, ev_ok h (hl x (by simp)), ih fun y hy => hl y (by simp [hy])⟩
mutual
theorem view_noObj (s : Nat) : ∀ (x : PV) (p : List Nat), (x.view s p).hasObj = false
  | .v _, _ => rfl
  | .agg cs, p => by simp only [PV.view, PV.hasObj]; exact viewL_noObj s cs p 0
  | .tup cs, p => by simp only [PV.view, PV.hasObj]; exact viewL_noObj s cs p 0
  | .ro _ _, _ => rfl
  | .own _ _, _ => rfl
  | .box _, _ => rfl
  | .ref _ _, _ => rfl
  | .win _ _ _ _ _, _ => rfl
  | .addr _ _, _ => rfl
  | .eaddr _ _ _ _ _, _ => rfl
  | .raddr _, _ => rfl
  | .clo _ _, _ => rfl
  | .nil _, _ => rfl
  | .dead, _ => rfl
  | .iter _ _, _ => rfl
  | .selfp, _ => rfl
  | .bld _ _ _, _ => rfl
  | .mapc _ _, _ => rfl
  | .pan _, _ => rfl
theorem viewL_noObj (s : Nat) : ∀ (l : List PV) (p : List Nat) (i : Nat), PV.hasObjL (PV.viewL s p i l) = false
  | [], _, _ => rfl
  | x :: r, p, i => by simp only [PV.viewL, PV.hasObjL, view_noObj s x, viewL_noObj s r, Bool.or_self]
end
theorem ev_noObj (x : Opd) : (x.ev e).hasObj = false := by
  cases x with
  | t s => exact view_noObj s _ _
  | _ => rfl

/-- What an operation leaves: the variables, its value, what that owns. -/
def Yields (B : Base) (val : Nat → Value) (e' : Env) (y : PV) (V : Value) (w' : World) : Prop :=
  ∃ I' blk' bs, Inv B e' (refOK e' val w') val w' I' blk' bs ∧ (R w' I' nope y V bs ∨ (bs = [] ∧ y.hasObj = false ∧ R w' I' (refOK e' val w') y V []))
def RunsTo (P : Program) (o : Oper) (a : Act) (w : World) (V : Value) (w' : World) : Prop :=
  (execOp a.eval o).run P w = .ok (.value V) w' ∨ ((execOp a.eval o).run P w = .ok .skip w' ∧ V = undef)

/-- It does so in every world. -/
def RunsF (P : Program) (o : Oper) (a : Act) (V : Value) : Prop := ∀ w, (execOp a.eval o).run P w = .ok (.value V) w
theorem RunsF.to {o : Oper} {V : Value} (h : RunsF P o a V) (w : World) : RunsTo P o a w V w := .inl (h w)

theorem Yields.view (h : Inv B e (refOK e (valOf a H) w) (valOf a H) w I blk []) {x : Opd} (hx : x.ok B.glob) : Yields B (valOf a H) e (x.ev e) (a.eval x.op) w := by
  exact ⟨I, blk, [], h, .inr ⟨rfl, ev_noObj x, ev_ok h hx⟩⟩
theorem Yields.plain (h : Inv B e (refOK e (valOf a H) w) (valOf a H) w I blk []) {V : Value} (hV : V.oneCell' = true) : Yields B (valOf a H) e (.v V) V w :=
  ⟨I, blk, [], h, .inl ⟨rfl, hV, rfl⟩⟩

theorem run_move (h : Inv B e (refOK e (valOf a H) w) (valOf a H) w I blk []) {o : Oper} {x : Opd} (hx : x.ok B.glob) (ho : o.op = .move x.op) : RunsF P o a (a.eval x.op) ∧ Yields B (valOf a H) e (x.ev e) (a.eval x.op) w :=
  ⟨fun _ => by simp [execOp, ho], Yields.view h hx⟩
theorem run_assign (h : Inv B e (refOK e (valOf a H) w) (valOf a H) w I blk []) {o : Oper} {x : Opd} (hx : x.ok B.glob) (ho : o.op = .assign x.op) {y : PV} (hs : settle e (x.ev e) = some (y, e')) :
    RunsTo P o a w (a.eval x.op) w ∧ Yields B (valOf a H) e' y (a.eval x.op) w := by
  refine ⟨.inl (by simp [execOp, ho]), ?_⟩
  obtain ⟨blk', bs, h1, h2, h3⟩ := settle_ok h (ev_ok h hx) hs
  exact ⟨I, blk', bs, by simpa using h1.weaken h3, .inl h2⟩
theorem run_pick (h : Inv B e (refOK e (valOf a H) w) (valOf a H) w I blk []) {o : Oper} {c x y : Opd} (hc : c.ok B.glob) (hx : x.ok B.glob) (hy : y.ok B.glob) (ho : o.op = .pick c.op x.op y.op) {t : Bool} (ht : c.ev e = .v (.bool t)) :
    RunsF P o a (if t then a.eval x.op else a.eval y.op) ∧ Yields B (valOf a H) e (if t then x.ev e else y.ev e) (if t then a.eval x.op else a.eval y.op) w := by
  have hR := ev_ok h hc
  rw [ht] at hR
  have he : a.eval c.op = .bool t := hR.1
  refine ⟨fun _ => ?_, ?_⟩
  · cases t <;> simp [execOp, ho, he, asBool]
  · cases t
    · exact Yields.view h hy
    · exact Yields.view h hx

/-! ### Values as cells -/
theorem one_cells {V : Value} (h : V.oneCell' = true) : V.cells = #[V] := by cases V <;> first | rfl | cases h
theorem alloc_keeps (w : World) (o : Obj) (k : Nat) (h : k < w.heap.size) : (w.alloc o).heap[k]? = w.heap[k]? := heap_alloc_old w o h

theorem cells_Rs {q : PV → Value → Prop} {y : PV} {V : Value} {bs : List Nat} (hy : y ≠ .dead) (h : R w I q y V bs) (hq : ∀ y U, q y U → U.oneCell' = true) : Rs w I q y.cells V.cells.toList bs := by
  have one : ∀ (y : PV), y.cells = [y] → V.cells = #[V] → R w I q y V bs → Rs w I q y.cells V.cells.toList bs := by
    intro y h1 h2 h3
    rw [h1, h2]
    exact ⟨V, [], bs, [], rfl, by simp, h3, rfl, rfl⟩
  cases y with
  | agg cs => obtain ⟨vs, rfl, h⟩ := h; simpa [PV.cells, Value.cells] using h
  | dead => exact absurd rfl hy
  | v x => exact one _ rfl (by obtain ⟨rfl, h, _⟩ := h; exact one_cells h) h
  | tup cs => exact one _ rfl (by obtain ⟨vs, rfl, _⟩ := h; rfl) h
  | ro sz l => exact one _ rfl (by obtain ⟨_, _, a, cap, rfl, _⟩ := h; rfl) h
  | own sz l => exact one _ rfl (by rcases h.2 with ⟨rfl, _⟩ | ⟨g, vs, _, _, cap, cur, t, fr, rfl, _⟩ <;> rfl) h
  | box cs => exact one _ rfl (by obtain ⟨g, us, bs', _, _, cur, t, fr, rfl, _⟩ := h; rfl) h
  | ref s p => exact one _ rfl (one_cells (hq _ _ h.2)) h
  | win s p sz lo hi => exact one _ rfl (one_cells (hq _ _ h.2)) h
  | addr s o => exact one _ rfl (one_cells (hq _ _ h.2)) h
  | eaddr s p sz i k => exact one _ rfl (one_cells (hq _ _ h.2)) h
  | raddr cs => exact one _ rfl (by obtain ⟨_, A, us, rfl, _⟩ := h; rfl) h
  | clo f cs => exact one _ rfl (by obtain ⟨_, A, us, rfl, _⟩ := h; rfl) h
  | nil sz => exact one _ rfl (by rw [h.1]; rfl) h
  | iter s pos => exact one _ rfl (by obtain ⟨g, _, rfl, _⟩ := h; rfl) h
  | selfp => exact one _ rfl (by obtain ⟨_, m, rfl⟩ := h; rfl) h
  | bld T e l => exact one _ rfl (one_cells (BldAt.one h)) h
  | mapc es c => exact one _ rfl (by obtain ⟨g, _, rfl, _⟩ := h; rfl) h
  | pan x => exact one _ rfl (one_cells h.2) h
theorem settle1_ne_dead {x y : PV} (h : settle1 e x = some (y, e')) : y ≠ .dead := by
  rintro rfl
  cases x with
  | ref s p =>
    simp only [settle1] at h
    split at h
    · simp at h
    · split at h <;> simp at h
    · split at h <;> simp at h
    · simp at h
  | win s p sz lo hi =>
    simp only [settle1] at h
    split at h
    · split at h <;> simp at h
    · simp at h
  | _ => simp [settle1] at h
theorem settle_ne_dead {x y : PV} (h : settle e x = some (y, e')) : y ≠ .dead := by
  unfold settle at h
  split at h
  · simp only [Option.bind_eq_bind, Option.bind_eq_some_iff, Option.pure_def, Option.some.injEq, Prod.mk.injEq, Prod.exists] at h
    obtain ⟨_, _, _, rfl, _⟩ := h
    simp
  · simp only [Option.bind_eq_bind, Option.bind_eq_some_iff, Option.pure_def, Option.some.injEq, Prod.mk.injEq, Prod.exists] at h
    obtain ⟨_, _, _, rfl, _⟩ := h
    simp
  · exact settle1_ne_dead h

/-! ### A new variable in memory -/
/-- A block laid at the heap's end: what floated floats on, and the block. -/
theorem Inv.alloc {q : PV → Value → Prop} {val : Nat → Value} (h : Inv B e q val w I blk fl) (o : Obj) : Inv B e q val (w.alloc o) I blk (w.heap.size :: fl) :=
  h.world (w' := w.alloc o) rfl rfl rfl (by simp) (fun b hb _ => alloc_keeps w o b hb) [w.heap.size] (by simp) (by simp)
theorem Inv.drew {q : PV → Value → Prop} {val : Nat → Value} (h : Inv B e q val w I blk fl) : Inv B e q val w.drew I blk fl :=
  h.world (w' := w.drew) rfl rfl rfl (Nat.le_refl _) (fun _ _ _ => rfl) [] (by simp) (by simp)
theorem place_same {val : Nat → Value} {q : PV → Value → Prop} (h : Inv B e q val w I blk fl) (hw : ∀ b, b < w.heap.size → b ∉ fl → w'.heap[b]? = w.heap[b]?) {s : Nat} {p : List Nat} (hp : (e.get s).path p = true) : place val w' s p = place val w s p :=
  walk_same p q (e.get s) (val s) (blk s) (h.rel s) hp fun b hb => hw b (h.lt s b hb) (h.djf s b hb)
/-- Where only blocks that float changed, the references are as they were. -/
theorem Inv.fresh {e0 : Env} {w0 : World} {val : Nat → Value} (h : Inv B e (refOK e0 val w0) val w' I blk fl) (hw : Weak e e0) {q0 : PV → Value → Prop} {I0 : Nat → Prop} {blk0 : Nat → List Nat} {fl0 : List Nat} (h0 : Inv B e q0 val w0 I0 blk0 fl0)
    (hs : ∀ b, b < w0.heap.size → b ∉ fl0 → w'.heap[b]? = w0.heap[b]?) : Inv B e (refOK e val w') val w' I blk fl :=
  h.finish hw fun _ p ho => place_same h0 hs (PV.path_of_obj p _ ho)
theorem alloc_eq (w : World) (o : Obj) : ({ w with heap := w.heap.push o } : World) = w.alloc o := rfl
theorem run_newVar (t : TypeId) (V : Value) : (newVar t V).run P w = .ok ⟨w.heap.size, 0, none⟩ (w.alloc (.cells V.cells t)) := by
  simp [newVar, newRow]

theorem run_box (h : Inv B e (refOK e (valOf a H) w) (valOf a H) w I blk []) {o : Oper} {t : TypeId} {x : Opd} (hx : x.ok B.glob) (ho : o.op = .box t x.op) {y : PV} (hs : settle e (x.ev e) = some (y, e')) :
    ∃ V w', RunsTo P o a w V w' ∧ Yields B (valOf a H) e' (.box y.cells) V w' := by
  obtain ⟨blk', bs, h1, h2, h3⟩ := settle_ok h (ev_ok h hx) hs
  refine ⟨.pointer (some ⟨w.heap.size, 0, none⟩), w.alloc (.cells (a.eval x.op).cells t), .inl ?_, I, blk', w.heap.size :: (bs ++ []), ?_, .inl ?_⟩
  · simp [execOp, ho, Instr.box, run_newVar]
  · exact (h1.alloc _).fresh h3 h1 fun b hb _ => alloc_keeps w _ b hb
  · refine ⟨w.heap.size, (a.eval x.op).cells.toList, bs, by simp, ?_, _, t, (0, 0), rfl, heap_alloc_new w _, .inl rfl, rfl⟩
    refine Rs.mono (fun _ h => h) (fun b hb => alloc_keeps w _ b (h1.ltI b hb)) _ nope _ (fun _ _ h => h.elim) _ _ (fun b hb => alloc_keeps w _ b (h1.ltf b (by simp [hb]))) (cells_Rs (settle_ne_dead hs) h2 nope_oneCell)

/-- A value of which the initial memory is made. -/
def PV.zv : PV → Option Value
  | .v x => if x.oneCell' then some x else none
  | .nil _ => some (.slice none 0 0)
  | _ => none
def zvL : List PV → Option (List Value)
  | [] => some []
  | x :: r => do
    let v ← x.zv
    let vs ← zvL r
    pure (v :: vs)
theorem zv_R {x : PV} {V : Value} (h : x.zv = some V) : R w I nope x V [] := by
  cases x with
  | v x =>
    simp only [PV.zv] at h
    split at h
    · rename_i h1
      exact ⟨(Option.some.inj h).symm, h1, rfl⟩
    · simp at h
  | nil sz => simp only [PV.zv, Option.some.injEq] at h; rw [← h]; exact nil_R _ _ _ _
  | _ => simp [PV.zv] at h
theorem zvL_Rs {l : List PV} : ∀ {vs : List Value}, zvL l = some vs → Rs w I nope l vs [] := by
  induction l with
  | nil => intro vs h; simp only [zvL, Option.some.injEq] at h; exact ⟨h.symm, rfl⟩
  | cons x r ih =>
    intro vs h
    simp only [zvL, Option.bind_eq_bind, Option.bind_eq_some_iff, Option.pure_def, Option.some.injEq] at h
    obtain ⟨v, hv, vs', hvs, rfl⟩ := h
    exact ⟨v, vs', [], [], rfl, rfl, zv_R hv, ih hvs⟩
theorem R.freshened {x : PV} {V : Value} (h : R w I nope x V []) : R w I nope x.fresh V [] := by
  cases x <;> first | exact h | skip
  exact ⟨fun x hx => (by cases hx), .inl ⟨h.1, rfl, rfl⟩⟩
theorem Rs.freshened {l : List PV} : ∀ {vs : List Value}, Rs w I nope l vs [] → Rs w I nope (l.map PV.fresh) vs [] := by
  induction l with
  | nil => intro vs h; exact h
  | cons x r ih =>
    rintro vs ⟨v, us, b1, b2, rfl, e, h1, h2⟩
    obtain ⟨rfl, rfl⟩ : b1 = [] ∧ b2 = [] := by simpa using e.symm
    exact ⟨v, us, [], [], rfl, rfl, h1.freshened, ih h2⟩
/-- The same, and cells that may bear their own block's address. -/
def PV.za : PV → Option Value
  | x => x.zv
def zaL : List PV → Option (List Value)
  | [] => some []
  | x :: r => do
    let v ← x.za
    let vs ← zaL r
    pure (v :: vs)
theorem za_R {x : PV} {V : Value} (g : Nat) (h : x.za = some V) : R w I (selfq g) x.fresh V [] := by
  unfold PV.za at h
  exact (zv_R h).freshened.ofNope
theorem zaL_Rs (g : Nat) {l : List PV} : ∀ {vs : List Value}, zaL l = some vs → Rs w I (selfq g) (l.map PV.fresh) vs [] := by
  induction l with
  | nil => intro vs h; simp only [zaL, Option.some.injEq] at h; exact ⟨h.symm, rfl⟩
  | cons x r ih =>
    intro vs h
    simp only [zaL, Option.bind_eq_bind, Option.bind_eq_some_iff, Option.pure_def, Option.some.injEq] at h
    obtain ⟨v, hv, vs', hvs, rfl⟩ := h
    exact ⟨v, vs', [], [], rfl, rfl, za_R g hv, ih hvs⟩
theorem run_alloc (h : Inv B e (refOK e (valOf a H) w) (valOf a H) w I blk []) {o : Oper} {t : TypeId} (ho : o.op = .alloc t) {zero : List PV} {i : TypeInfo} {z : Value} (hi : P.info? t = some i) (hz : i.zero = some z) (hv : zaL zero = some z.cells.toList) :
    ∃ V w', RunsTo P o a w V w' ∧ Yields B (valOf a H) e (.box (zero.map PV.fresh)) V w' := by
  refine ⟨.pointer (some ⟨w.heap.size, 0, none⟩), w.alloc (.cells z.cells t), .inl ?_, I, blk, [w.heap.size], ?_, .inl ?_⟩
  · simp [execOp, ho, Instr.alloc, zeroValue, typeInfo, hi, hz, run_newVar]
  · exact (h.alloc _).fresh (Weak.refl _) h fun b hb _ => alloc_keeps w _ b hb
  · exact ⟨w.heap.size, z.cells.toList, [], rfl, zaL_Rs _ hv, _, t, (0, 0), rfl, heap_alloc_new w _, .inl rfl, rfl⟩

/-! ### Reckoning -/
theorem run_binV {op : BinOp} {xt : TypeId} {x y : Operand} {u v r : Value} (h : bin op (.v u) (.v v) = some (.v r)) : (do eqGuard op xt x y u v; binOp op xt u v).run P w = .ok r w ∧ r.oneCell' = true := by
  unfold bin at h
  split at h
  · rename_i k n k' m e1 e2
    cases e1
    cases e2
    split at h
    · rename_i hc
      simp only [Option.map_eq_some_iff, PV.v.injEq] at h
      obtain ⟨r', h, rfl⟩ := h
      have hg : eqGuard op xt x y (.int k n) (.int k' m) = pure () := by cases op <;> rfl
      simp only [hg, Sem.run_bind, Sem.run_pure, Result.andThen_ok]
      cases op <;> simp only [binInt] at h
      case shl =>
        split at h
        · simp at h
        · rename_i hm; cases h; simp [binOp, Op.shift, hm, Value.oneCell']
      case shr =>
        split at h
        · simp at h
        · rename_i hm; cases h; simp [binOp, Op.shift, hm, Value.oneCell']
      all_goals
        have hk : k = k' := by simpa [BinOp.shifts] using hc
        subst hk
      case quo =>
        split at h
        · simp at h
        · rename_i hm; cases h; simp [binOp, Op.intDiv, hm, Value.oneCell']
      case rem =>
        split at h
        · simp at h
        · rename_i hm; cases h; simp [binOp, Op.intDiv, hm, Value.oneCell']
      all_goals
        cases h
        simp [binOp, Op.intArith, Op.intBits, Op.intCmp, Value.oneCell']
    · simp at h
  · rename_i s t e1 e2
    cases e1
    cases e2
    simp only [Option.map_eq_some_iff, PV.v.injEq] at h
    obtain ⟨r', h, rfl⟩ := h
    have hg : eqGuard op xt x y (.string s) (.string t) = pure () := by cases op <;> rfl
    simp only [hg, Sem.run_bind, Sem.run_pure, Result.andThen_ok]
    cases op <;> simp only [binStr] at h
    case add =>
      split at h
      · rename_i hm
        cases h
        have : ¬ (((s.size + t.size : Nat) : Int) > IntKind.i64.max) := by simp [IntKind.max, IntKind.signed, IntKind.bits]; omega
        simp only [binOp, Op.stringOp]
        rw [if_neg this]
        exact ⟨rfl, rfl⟩
      · simp at h
    all_goals
      first
        | (simp at h; done)
        | (cases h; simp [binOp, Op.stringOp, Value.oneCell'])
  · rename_i k n k' m e1 e2
    cases e1
    cases e2
    split at h
    · rename_i hk
      subst hk
      simp only [Option.map_eq_some_iff, PV.v.injEq] at h
      obtain ⟨r', h, rfl⟩ := h
      have hg : eqGuard op xt x y (.float k n) (.float k m) = pure () := by cases op <;> rfl
      simp only [hg, Sem.run_bind, Sem.run_pure, Result.andThen_ok]
      cases op <;> simp only [binFloat] at h
      all_goals
        first
          | (simp at h; done)
          | (cases h; simp [binOp, Op.floatCmp, Value.oneCell']; done)
          | (simp only [Option.map_eq_some_iff] at h; obtain ⟨z, hz, rfl⟩ := h; simp [binOp, Op.floatArith, hz, Value.oneCell'])
    · simp at h
  · simp at h
theorem run_bin (h : Inv B e (refOK e (valOf a H) w) (valOf a H) w I blk []) {o : Oper} {op : BinOp} {xt yt : TypeId} {x y : Opd} (hx : x.ok B.glob) (hy : y.ok B.glob) (ho : o.op = .binOp op xt x.op y.op yt) {r : PV} (hr : bin op (x.ev e) (y.ev e) = some r) :
    ∃ V, RunsF P o a V ∧ Yields B (valOf a H) e r V w := by
  have h1 := ev_ok h hx
  have h2 := ev_ok h hy
  have : ∃ u v z, x.ev e = .v u ∧ y.ev e = .v v ∧ r = .v z := by
    unfold bin at hr
    split at hr
    · split at hr
      · simp only [Option.map_eq_some_iff] at hr
        obtain ⟨z, _, rfl⟩ := hr
        exact ⟨_, _, z, by assumption, by assumption, rfl⟩
      · simp at hr
    · simp only [Option.map_eq_some_iff] at hr
      obtain ⟨z, _, rfl⟩ := hr
      exact ⟨_, _, z, by assumption, by assumption, rfl⟩
    · split at hr
      · simp only [Option.map_eq_some_iff] at hr
        obtain ⟨z, _, rfl⟩ := hr
        exact ⟨_, _, z, by assumption, by assumption, rfl⟩
      · simp at hr
    · simp at hr
  obtain ⟨u, v, z, e1, e2, rfl⟩ := this
  rw [e1] at h1 hr
  rw [e2] at h2 hr
  have hu : a.eval x.op = u := h1.1
  have hv : a.eval y.op = v := h2.1
  refine ⟨z, fun w2 => ?_, Yields.plain h (run_binV (P := P) (w := w) (xt := xt) (x := x.op) (y := y.op) hr).2⟩
  have h3 := (run_binV (P := P) (w := w2) (xt := xt) (x := x.op) (y := y.op) hr).1
  simp only [execOp, ho, hu, hv, Sem.run_bind] at h3 ⊢
  simp only [h3, Result.andThen_ok, Sem.run_pure]
theorem run_un (h : Inv B e (refOK e (valOf a H) w) (valOf a H) w I blk []) {o : Oper} {op : UnOp} {xt : TypeId} {x : Opd} (hx : x.ok B.glob) (ho : o.op = .unOp op xt x.op) {r : PV} (hr : un op (x.ev e) = some r) :
    ∃ V, RunsF P o a V ∧ Yields B (valOf a H) e r V w := by
  have h1 := ev_ok h hx
  unfold un at hr
  split at hr
  · rename_i k n e1
    rw [e1] at h1
    have hu : a.eval x.op = .int k n := h1.1
    cases op <;> simp at hr
    · subst hr
      exact ⟨_, fun _ => (by simp [execOp, ho, hu, Op.unary, Op.intArith]), Yields.plain h rfl⟩
    · subst hr
      exact ⟨_, fun _ => (by simp [execOp, ho, hu, Op.unary, Op.intBits]), Yields.plain h rfl⟩
  · rename_i b e1
    rw [e1] at h1
    have hu : a.eval x.op = .bool b := h1.1
    cases op <;> simp at hr
    subst hr
    exact ⟨_, fun _ => (by simp [execOp, ho, hu, Op.unary]), Yields.plain h rfl⟩
  · rename_i k n e1
    rw [e1] at h1
    have hu : a.eval x.op = .float k n := h1.1
    cases op <;> simp at hr
    subst hr
    exact ⟨_, fun _ => (by simp [execOp, ho, hu, Op.unary]), Yields.plain h rfl⟩
  · simp at hr
theorem run_extr (h : Inv B e (refOK e (valOf a H) w) (valOf a H) w I blk []) {o : Oper} {x : Opd} {j : Nat} (hx : x.ok B.glob) (ho : o.op = .extract x.op j) {cs : List PV} (hc : x.ev e = .tup cs) {y : PV} (hy : cs[j]? = some y) :
    ∃ V, RunsF P o a V ∧ Yields B (valOf a H) e y V w := by
  have h1 := ev_ok h hx
  have hno : (x.ev e).hasObj = false := ev_noObj x
  rw [hc] at h1 hno
  obtain ⟨vs, e1, h2⟩ := h1
  obtain ⟨v, e2, h3⟩ := h2.get0 hy
  refine ⟨v, fun _ => ?_, I, blk, [], h, .inr ⟨rfl, hasObjL_get hno hy, h3⟩⟩
  simp [execOp, ho, e1, Instr.extract, e2]
end
end Go.AM

/- The operations, continued: rows read, cut, made, grown; texts. No conditions. -/
namespace Go.AM
open Go

section
variable {P : Program} {B : Base} {a : Act} {H : Nat → Value} {e e' : Env} {w w' : World} {I : Nat → Prop} {blk : Nat → List Nat} {fl : List Nat}

theorem Yields.of (h : Inv B e (refOK e (valOf a H) w) (valOf a H) w I blk []) {y : PV} {V : Value} (hy : y.hasObj = false) (hR : R w I (refOK e (valOf a H) w) y V []) : Yields B (valOf a H) e y V w := ⟨I, blk, [], h, .inr ⟨rfl, hy, hR⟩⟩

/-! ### Lengths, indexes, bounds -/
theorem run_len (h : Inv B e (refOK e (valOf a H) w) (valOf a H) w I blk []) {o : Oper} {t : TypeId} {txt : Bool} {x : Opd} (hx : x.ok B.glob) (ho : o.op = .call { callee := .builtin .len, args := #[x.op], argTypes := #[t] })
    (ht : if txt then P.underlying t = some .string else ∃ el, P.underlying t = some (.slice el)) {n : Nat} (hn : lenPV e txt (x.ev e) = some n) :
    ∃ V, RunsF P o a V ∧ Yields B (valOf a H) e (.v (.int .i64 n)) V w := by
  have h1 := ev_ok h hx
  refine ⟨.int .i64 n, fun w2 => ?_, Yields.plain h rfl⟩
  unfold lenPV at hn
  split at hn
  · rename_i hc
    rw [if_pos hc] at ht
    split at hn
    · rename_i s e1
      rw [e1] at h1
      have hu : a.eval x.op = .string s := h1.1
      cases hn
      simp [execOp, ho, resolve, invoke, builtin, Builtin.len_, run_underlying ht, hu, goInt]
    · simp at hn
  · rename_i hc
    rw [if_neg hc] at ht
    obtain ⟨el, ht⟩ := ht
    simp only [Option.map_eq_some_iff, Prod.exists] at hn
    obtain ⟨sz, l, hl, rfl⟩ := hn
    obtain ⟨_, ad, cap, vs, hu, _⟩ := elems_ok h h1 hl
    simp [execOp, ho, resolve, invoke, builtin, Builtin.len_, run_underlying ht, hu, goInt]
theorem idx_ok {x : PV} {n j : Nat} {V : Value} {q : PV → Value → Prop} {bs : List Nat} (hR : R w I q x V bs) (h : idx x n = some j) : ∃ k i, V = .int k i ∧ 0 ≤ i ∧ i < n ∧ i.toNat = j := by
  unfold idx at h
  split at h
  · rename_i k i
    split at h
    · rename_i hc
      exact ⟨k, i, hR.1, hc.1, hc.2, Option.some.inj h⟩
    · simp at h
  · simp at h
theorem bound_ok {x : PV} {n j : Nat} {V : Value} {q : PV → Value → Prop} {bs : List Nat} (hR : R w I q x V bs) (h : bound x n = some j) (y : Nat) (hy : n ≤ y) (c : BoundsCode) {w2 : World} : (Instr.sliceBound V y c).run P w2 = .ok j w2 ∧ j ≤ n := by
  unfold bound at h
  split at h
  · rename_i k i
    split at h
    · rename_i hc
      have e1 : V = .int k i := hR.1
      have e2 := Option.some.inj h
      subst e1
      subst e2
      have : i ≤ (y : Int) := by omega
      refine ⟨?_, by omega⟩
      simp [Instr.sliceBound, asIntOf, hc.1, this]
    · simp at h
  · simp at h

theorem run_indexSl (h : Inv B e (refOK e (valOf a H) w) (valOf a H) w I blk []) {o : Oper} {t el : TypeId} {sz : Nat} {x i : Opd} (hx : x.ok B.glob) (hi : i.ok B.glob) (ho : o.op = .indexAddr t x.op i.op)
    (ht : P.underlying t = some (.slice el)) {ti : TypeInfo} (hti : P.info? el = some ti) (hsz : ti.size = sz) {y : PV} (hy : indexSl e sz (x.ev e) (i.ev e) = some y) :
    ∃ V, RunsF P o a V ∧ Yields B (valOf a H) e y V w := by
  have h1 := ev_ok h hx
  have h2 := ev_ok h hi
  have run : ∀ (A : Addr) (n cap j : Nat) (k : IntKind) (m : Int), a.eval x.op = .slice (some A) n cap → a.eval i.op = .int k m → 0 ≤ m → m < n → m.toNat = j → RunsF P o a (.pointer (some (A.add (j * sz)))) := by
    intro A n cap j k m e1 e2 h3 h4 h5 w2
    subst hsz
    subst h5
    simp [execOp, ho, e1, e2, Instr.indexAt, asIntOf, run_underlying ht, h3, h4, sizeOf, typeInfo, hti]
  unfold indexSl at hy
  split at hy
  · rename_i sz' l e1
    split at hy
    · rename_i hc
      subst hc
      simp only [Option.bind_eq_some_iff, Option.map_eq_some_iff] at hy
      obtain ⟨j, hj, z, hz, rfl⟩ := hy
      obtain ⟨k, m, hm, h3, h4, h5⟩ := idx_ok h2 hj
      rw [e1] at h1
      obtain ⟨_, hs, ad, cap, hV, hc2, h6⟩ := h1
      rcases h6 with rfl | ⟨A, vs, rfl, hA, hIA, hr, hcells⟩
      · simp at hz
      · obtain ⟨v, hv, hRz⟩ := hr.get0 hz
        refine ⟨_, run A _ cap j k m hV hm h3 h4 h5, Yields.of h rfl ⟨rfl, A.add (j * sz'), v.cells.toList, rfl, spot_add _ _ hA, by rw [block_add]; exact hIA, cells_Rs (imm_ne_dead (hs z (List.mem_of_getElem? hz)).2) hRz nope_oneCell, ?_⟩⟩
        intro c u hu
        rw [add_add _ _ _ hA]
        exact hcells _ u (flatV_get (SzOk.sizes hs hr) hv hu)
    · simp at hy
  · rename_i s p e1
    rw [e1] at h1
    have h1' := h1.2
    simp only [refOK] at h1'
    split at hy
    · rename_i sz' l hat
      split at hy
      · rename_i hc
        subst hc
        simp only [Option.map_eq_some_iff] at hy
        obtain ⟨j, hj, rfl⟩ := hy
        obtain ⟨k, m, hm, h3, h4, h5⟩ := idx_ok h2 hj
        have hob : (e.at_ s p).isObj = true := by rw [hat]; rfl
        obtain ⟨U, bs, blk', h6, h7, _⟩ := h.take hob
        have hpl := h1'.2 hob
        rw [hpl] at h6
        obtain rfl := Option.some.inj h6
        rw [hat] at h7
        rcases h7.2 with ⟨_, rfl, _⟩ | ⟨g, vs, _, _, cap, cur, t', fr, hV, _⟩
        · simp at h4; omega
        · refine ⟨_, run ⟨g, 0, none⟩ _ cap j k m hV hm h3 h4 h5, Yields.of h rfl ⟨rfl, rfl, fun _ => ⟨g, _, cap, by rw [hpl, hV], ?_⟩⟩⟩
          simp [Addr.add_lit]
      · simp at hy
    · simp at hy
  · rename_i s p sw lo hi' e1
    rw [e1] at h1
    have h1' := h1.2
    simp only [refOK] at h1'
    split at hy
    · rename_i sz' l hat
      split at hy
      · rename_i hc
        obtain ⟨rfl, rfl⟩ := hc
        simp only [Option.bind_eq_some_iff] at hy
        obtain ⟨j, hj, hy⟩ := hy
        split at hy
        · rename_i hlt
          simp only [Option.some.injEq] at hy
          subst hy
          obtain ⟨k, m, hm, h3, h4, h5⟩ := idx_ok h2 hj
          have hob : (e.at_ s p).isObj = true := by rw [hat]; rfl
          obtain ⟨U, bs, blk', h6, h7, _⟩ := h.take hob
          obtain ⟨ad, n, cap, ad', cap', hpl, hV, g1, g2, g3, g4, g5⟩ := h1'.2 hob
          rw [hpl] at h6
          obtain rfl := Option.some.inj h6
          rw [hat] at h7
          rcases h7.2 with ⟨_, rfl, _⟩ | ⟨g, vs, _, _, cap0, cur, t', fr, hV', _⟩
          · simp at hlt
          · cases hV'
            obtain rfl := g5.2 (by omega)
            refine ⟨_, run _ _ _ j k m hV hm h3 h4 h5, Yields.of h rfl ⟨rfl, rfl, fun _ => ⟨g, _, _, hpl, ?_⟩⟩⟩
            simp [Addr.add_lit, Nat.add_mul]
        · simp at hy
      · simp at hy
    · simp at hy
  · simp at hy

/-! ### Addresses moved on -/
theorem offAddr_ok (h : Inv B e (refOK e (valOf a H) w) (valOf a H) w I blk []) {x : PV} {V : Value} (hx : R w I (refOK e (valOf a H) w) x V []) {n : Nat} {y : PV} (hy : offAddr e x n = some y) :
    ∃ A : Addr, V = .pointer (some A) ∧ A.spot = none ∧ y.hasObj = false ∧ R w I (refOK e (valOf a H) w) y (.pointer (some (A.add n))) [] := by
  unfold offAddr at hy
  split at hy
  · rename_i s
    split at hy
    · rename_i cs hg
      cases hy
      have hob : (e.at_ s []).isObj = true := by simp [Env.at_, PV.sub, hg, PV.isObj]
      obtain ⟨U, bs, blk', h6, h7, _⟩ := h.take hob
      have hx2 := hx.2
      simp only [refOK] at hx2
      rw [hx2.2 hob] at h6
      obtain rfl := Option.some.inj h6
      simp only [Env.at_, PV.sub, hg] at h7
      obtain ⟨g, us, bs', _, _, cur, t, fr, rfl, _⟩ := h7
      have hv : valOf a H s = .pointer (some ⟨g, 0, none⟩) := by
        have := hx2.2 hob
        simpa [place, walk] using this
      refine ⟨⟨g, 0, none⟩, rfl, rfl, rfl, rfl, rfl, fun _ => ⟨g, hv, ?_⟩⟩
      simp [Addr.add_lit]
    · simp at hy
  · rename_i s k
    split at hy
    · rename_i cs hg
      cases hy
      have hx2 := hx.2
      simp only [refOK] at hx2
      obtain ⟨g, h1, rfl⟩ := hx2.2 (by rw [hg]; rfl)
      refine ⟨⟨g, k, none⟩, rfl, rfl, rfl, rfl, rfl, fun _ => ⟨g, h1, ?_⟩⟩
      simp [Addr.add_lit]
    · simp at hy
  · rename_i s p z i k
    split at hy
    · rename_i sz' l hg
      cases hy
      have hx2 := hx.2
      simp only [refOK] at hx2
      obtain ⟨g, m, cap, h1, rfl⟩ := hx2.2 (by rw [hg]; rfl)
      refine ⟨⟨g, i * z + k, none⟩, rfl, rfl, rfl, rfl, rfl, fun _ => ⟨g, m, cap, h1, ?_⟩⟩
      simp [Addr.add_lit, Nat.add_assoc]
    · simp at hy
  · rename_i cs
    cases hy
    obtain ⟨_, A, us, rfl, h2, h3, h4, h5⟩ := hx
    exact ⟨A, rfl, h2, rfl, rfl, A.add n, us.drop n, rfl, spot_add _ _ h2, by rw [block_add]; exact h3, h4.drop0 n, h5.drop h2 n⟩
  · simp at hy
theorem run_faddr (h : Inv B e (refOK e (valOf a H) w) (valOf a H) w I blk []) {o : Oper} {t : TypeId} {x : Opd} {f off : Nat} (hx : x.ok B.glob) (ho : o.op = .fieldAddr t x.op f)
    {fs : Array Field} (ht : P.underlying t = some (.struct fs)) {fd : Field} (hf : fs[f]? = some fd) (hoff : fd.offset = off) {ti : TypeInfo} (hti : P.info? fd.type = some ti) (hsz : ti.size ≠ 0) {y : PV} (hy : offAddr e (x.ev e) off = some y) :
    ∃ V, RunsF P o a V ∧ Yields B (valOf a H) e y V w := by
  obtain ⟨A, e1, hA, hno, hR⟩ := offAddr_ok h (ev_ok h hx) hy
  refine ⟨_, fun w2 => ?_, Yields.of h hno hR⟩
  subst hoff
  simp [execOp, ho, e1, Instr.fieldAt, run_underlying ht, hf, Instr.sureAddr, fieldPlace, sizeOf, typeInfo, hti, hsz]
theorem run_nilck (h : Inv B e (refOK e (valOf a H) w) (valOf a H) w I blk []) {o : Oper} {x : Opd} (hx : x.ok B.glob) (ho : o.op = .nilCheck x.op) {y : PV} (hy : offAddr e (x.ev e) 0 = some y) :
    ∃ V, RunsF P o a V ∧ Yields B (valOf a H) e y V w := by
  obtain ⟨A, e1, hA, hno, hR⟩ := offAddr_ok h (ev_ok h hx) hy
  have hA0 : A.add 0 = A := by simp [Addr.add]
  rw [hA0] at hR
  refine ⟨_, fun w2 => ?_, Yields.of h hno hR⟩
  simp [execOp, ho, e1]
theorem run_nilck_view (h : Inv B e (refOK e (valOf a H) w) (valOf a H) w I blk []) {o : Oper} {x : Opd} (hx : x.ok B.glob) (ho : o.op = .nilCheck x.op) {y : PV} (hy : offAddr e (x.ev e) 0 = some y) :
    ∃ V, RunsF P o a V ∧ Yields B (valOf a H) e (x.ev e) V w := by
  obtain ⟨A, e1, hA, hno, hR⟩ := offAddr_ok h (ev_ok h hx) hy
  refine ⟨_, fun w2 => ?_, Yields.view h hx⟩
  simp [execOp, ho, e1]
theorem run_indexArr (h : Inv B e (refOK e (valOf a H) w) (valOf a H) w I blk []) {o : Oper} {t el : TypeId} {n sz : Nat} {x i : Opd} (hx : x.ok B.glob) (hi : i.ok B.glob) (ho : o.op = .indexAddr t x.op i.op)
    (ht : P.underlying t = some (.array n el)) {ti : TypeInfo} (hti : P.info? el = some ti) (hsz : ti.size = sz) {y : PV} (hy : indexArr e (x.ev e) (i.ev e) n sz = some y) :
    ∃ V, RunsF P o a V ∧ Yields B (valOf a H) e y V w := by
  unfold indexArr at hy
  simp only [Option.bind_eq_some_iff] at hy
  obtain ⟨j, hj, hy⟩ := hy
  obtain ⟨k, m, hm, h3, h4, h5⟩ := idx_ok (ev_ok h hi) hj
  obtain ⟨A, e1, hA, hno, hR⟩ := offAddr_ok h (ev_ok h hx) hy
  refine ⟨_, fun w2 => ?_, Yields.of h hno hR⟩
  subst hsz
  subst h5
  simp [execOp, ho, e1, hm, Instr.indexAt, asIntOf, run_underlying ht, Instr.sureAddr, h3, h4, sizeOf, typeInfo, hti]

/-! ### Cuts -/
theorem run_sliceStr (h : Inv B e (refOK e (valOf a H) w) (valOf a H) w I blk []) {o : Oper} {t : TypeId} {x : Opd} {lo hi : Option Opd} (hx : x.ok B.glob) (hlo : ∀ z ∈ lo, z.ok B.glob) (hhi : ∀ z ∈ hi, z.ok B.glob)
    (ho : o.op = .slice t x.op (lo.map (·.op)) (hi.map (·.op)) none) (ht : P.underlying t = some .string) {y : PV} (hy : sliceStr (x.ev e) (optPV e lo) (optPV e hi) = some y) :
    ∃ V, RunsF P o a V ∧ Yields B (valOf a H) e y V w := by
  unfold sliceStr at hy
  split at hy
  · rename_i s e1
    have h1 := ev_ok h hx
    rw [e1] at h1
    have hu : a.eval x.op = .string s := h1.1
    simp only [Option.bind_eq_some_iff, Option.map_eq_some_iff] at hy
    obtain ⟨m, hm, l, hl, rfl⟩ := hy
    refine ⟨_, fun w2 => ?_, Yields.plain h (V := .string (s.extract l m)) rfl⟩
    have bh : ∀ z, hi = some z → (Instr.sliceBound (a.eval z.op) s.size .sliceAlen).run P w2 = .ok m w2 := by
      intro z e2
      subst e2
      exact (bound_ok (ev_ok h (hhi z rfl)) hm s.size (Nat.le_refl _) _).1
    have bl : ∀ z, lo = some z → (Instr.sliceBound (a.eval z.op) m .sliceB).run P w2 = .ok l w2 := by
      intro z e2
      subst e2
      exact (bound_ok (ev_ok h (hlo z rfl)) hl m (Nat.le_refl _) _).1
    cases hi with
    | none =>
      simp only [optPV, boundOr, Option.some.injEq] at hm
      cases lo with
      | none =>
        simp only [optPV, boundOr, Option.some.injEq] at hl
        subst hm hl
        simp [execOp, ho, hu, Instr.sliceAt, Instr.slice, run_underlying ht, Instr.sliceBounds]
      | some z =>
        have := bl z rfl
        subst hm
        simp [execOp, ho, hu, Instr.sliceAt, Instr.slice, run_underlying ht, Instr.sliceBounds, this]
    | some z' =>
      have hb := bh z' rfl
      cases lo with
      | none =>
        simp only [optPV, boundOr, Option.some.injEq] at hl
        subst hl
        simp [execOp, ho, hu, Instr.sliceAt, Instr.slice, run_underlying ht, Instr.sliceBounds, hb]
      | some z =>
        have := bl z rfl
        simp [execOp, ho, hu, Instr.sliceAt, Instr.slice, run_underlying ht, Instr.sliceBounds, hb, this]
  · simp at hy
end
end Go.AM

/- The operations, continued: cuts of rows, loads, literals, rows made and grown. No conditions. -/
namespace Go.AM
open Go

section
variable {P : Program} {B : Base} {a : Act} {H : Nat → Value} {e e' : Env} {w w' : World} {I : Nat → Prop} {blk : Nat → List Nat} {fl : List Nat}

/-! ### Cuts of rows -/
theorem bound_all {x : PV} {n j : Nat} {V : Value} {q : PV → Value → Prop} {bs : List Nat} (hR : R w I q x V bs) (h : bound x n = some j) (y : Nat) (hy : n ≤ y) (c : BoundsCode) : (∀ w2, (Instr.sliceBound V y c).run P w2 = .ok j w2) ∧ j ≤ n :=
  ⟨fun w2 => (bound_ok (P := P) (w2 := w2) hR h y hy c).1, (bound_ok (P := P) (w2 := w) hR h y hy c).2⟩
theorem run_sliceSl (h : Inv B e (refOK e (valOf a H) w) (valOf a H) w I blk []) {o : Oper} {t el : TypeId} {sz : Nat} {x : Opd} {lo hi mx : Option Opd} (hx : x.ok B.glob) (hlo : ∀ z ∈ lo, z.ok B.glob) (hhi : ∀ z ∈ hi, z.ok B.glob) (hmx : ∀ z ∈ mx, z.ok B.glob)
    (ho : o.op = .slice t x.op (lo.map (·.op)) (hi.map (·.op)) (mx.map (·.op))) (ht : P.underlying t = some (.slice el)) {ti : TypeInfo} (hti : P.info? el = some ti) (hsz : ti.size = sz)
    {y : PV} (hy : sliceSl e sz (x.ev e) (optPV e lo) (optPV e hi) (optPV e mx) = some y) :
    ∃ V, RunsF P o a V ∧ Yields B (valOf a H) e y V w := by
  have h1 := ev_ok h hx
  unfold sliceSl at hy
  simp only [Option.bind_eq_some_iff] at hy
  obtain ⟨⟨sz', l0⟩, hel, hy⟩ := hy
  simp only at hy
  split at hy
  · simp at hy
  · rename_i hc
    simp only [not_or, Decidable.not_not] at hc
    obtain ⟨rfl, hc⟩ := hc
    simp only [Option.bind_eq_some_iff] at hy
    obtain ⟨m, hm, hh, hhh, l, hl, hw⟩ := hy
    have hsl := elems_ok h h1 hel
    obtain ⟨hs, ad, cap, vs, hV, hcap, hr, hcells⟩ := id hsl
    -- the bounds
    obtain ⟨M, hM, hmM, hMcap⟩ : ∃ M, (∀ w2, (Instr.sliceBounds true l0.length cap ((lo.map (·.op)).map a.eval) ((hi.map (·.op)).map a.eval) ((mx.map (·.op)).map a.eval)).run P w2 = .ok (l, hh, M) w2) ∧ hh ≤ l0.length ∧ (l ≤ hh ∧ hh ≤ M ∧ M ≤ cap) := by
      have bl : ∀ z c, lo = some z → (∀ w2, (Instr.sliceBound (a.eval z.op) hh c).run P w2 = .ok l w2) ∧ l ≤ hh := by
        intro z c e2
        subst e2
        exact bound_all (ev_ok h (hlo z rfl)) hl hh (Nat.le_refl _) _
      have l0' : lo = none → l = 0 := by
        intro e2
        subst e2
        simpa [optPV, boundOr] using hl.symm
      cases mx with
      | none =>
        simp only [optPV, boundOr, Option.some.injEq] at hm
        subst hm
        cases hi with
        | none =>
          simp only [optPV, boundOr, Option.some.injEq] at hhh
          subst hhh
          cases lo with
          | none => obtain rfl := l0' rfl; exact ⟨cap, fun _ => by simp [Instr.sliceBounds], Nat.le_refl _, Nat.zero_le _, hcap, Nat.le_refl _⟩
          | some z =>
            obtain ⟨b1, b2⟩ := bl z .sliceB rfl
            exact ⟨cap, fun _ => by simp [Instr.sliceBounds, b1], Nat.le_refl _, b2, hcap, Nat.le_refl _⟩
        | some z' =>
          obtain ⟨c1, c2⟩ := bound_all (P := P) (ev_ok h (hhi z' rfl)) hhh cap hcap .sliceAcap
          cases lo with
          | none => obtain rfl := l0' rfl; exact ⟨cap, fun _ => by simp [Instr.sliceBounds, c1], c2, Nat.zero_le _, by omega, Nat.le_refl _⟩
          | some z =>
            obtain ⟨b1, b2⟩ := bl z .sliceB rfl
            exact ⟨cap, fun _ => by simp [Instr.sliceBounds, c1, b1], c2, b2, by omega, Nat.le_refl _⟩
      | some zm =>
        obtain ⟨d1, d2⟩ := bound_all (P := P) (ev_ok h (hmx zm rfl)) hm cap hcap .slice3Acap
        cases hi with
        | none => simp [optPV] at hc
        | some z' =>
          obtain ⟨c1, c2⟩ := bound_all (P := P) (ev_ok h (hhi z' rfl)) hhh m (Nat.le_refl _) .slice3B
          cases lo with
          | none => obtain rfl := l0' rfl; exact ⟨m, fun _ => by simp [Instr.sliceBounds, d1, c1], by omega, Nat.zero_le _, c2, by omega⟩
          | some z =>
            obtain ⟨b1, b2⟩ := bl z .slice3C rfl
            exact ⟨m, fun _ => by simp [Instr.sliceBounds, d1, c1, b1], by omega, b2, c2, by omega⟩
    have hrun : RunsF P o a (.slice (if M = l then ad else ad.map (·.add (l * sz'))) (hh - l) (M - l)) := by
      intro w2
      subst hsz
      simp only [execOp, ho, Instr.sliceAt, Instr.slice, hV, Sem.run_bind, run_underlying ht, Result.andThen_ok, hM, sizeOf, typeInfo, run_program, hti, Sem.run_pure]
    have hrel : (l = 0 → (if M = l then ad else ad.map (·.add (l * sz'))) = ad) ∧ (l < hh → (if M = l then ad else ad.map (·.add (l * sz'))) = ad.map (·.add (l * sz'))) := by
      by_cases e2 : M = l
      · exact ⟨fun _ => if_pos e2, fun g => by omega⟩
      · refine ⟨fun g => ?_, fun _ => if_neg e2⟩
        rw [if_neg e2, g]
        cases ad <;> simp [Addr.add]
    generalize (if M = l then ad else ad.map (·.add (l * sz'))) = ad' at hrun hrel
    refine ⟨_, hrun, ?_⟩
    have hlen : ((l0.take hh).drop l).length = hh - l := by simp; omega
    unfold window at hw
    split at hw
    · rename_i sz2 xs e1
      cases hw
      rw [e1] at hel h1
      simp only [elems, Option.some.injEq, Prod.mk.injEq] at hel
      obtain ⟨rfl, rfl⟩ := hel
      obtain ⟨_, _, ad2, cap2, hV2, _, h6⟩ := h1
      rw [hV] at hV2
      cases hV2
      refine Yields.of h rfl ⟨rfl, (hs.take hh).drop l, ad', M - l, by rw [hlen], by omega, ?_⟩
      by_cases he : hh = l
      · left
        apply List.eq_nil_of_length_eq_zero
        omega
      · right
        rcases h6 with rfl | ⟨A, vs2, rfl, hA, hIA, hr2, hcells2⟩
        · simp at hmM; omega
        · refine ⟨A.add (l * sz2), (vs2.take hh).drop l, hrel.2 (by omega), spot_add _ _ hA, by rw [block_add]; exact hIA, (hr2.take0 hh).drop0 l, ?_⟩
          have hsz2 := SzOk.sizes hs hr2
          rw [← flatV_drop (fun v hv => hsz2 v (List.mem_of_mem_take hv)), ← flatV_take hsz2]
          exact (hcells2.take _).drop hA _
    · rename_i sz2 e1
      cases hw
      rw [e1] at hel h1
      simp only [elems, Option.some.injEq, Prod.mk.injEq] at hel
      obtain ⟨rfl, rfl⟩ := hel
      simp only [List.length_nil] at hmM
      have h1' := h1.1
      rw [hV] at h1'
      simp only [Value.slice.injEq] at h1'
      obtain ⟨rfl, _, rfl⟩ := h1'
      refine Yields.of h rfl ⟨?_, rfl⟩
      rw [hrel.1 (by omega)]
      congr 1 <;> omega
    · rename_i s p e1
      cases hw
      rw [e1] at h1
      have h1' := h1.2
      simp only [refOK] at h1'
      refine Yields.of h rfl ⟨rfl, rfl, fun ob => ⟨ad, l0.length, cap, ad', M - l, ?_, rfl, hMcap.1, hmM, by omega, by omega, hrel⟩⟩
      rw [h1'.2 ob, hV]
    · rename_i s p sw lo' hi' e1
      cases hw
      rw [e1] at h1 hel
      have h1' := h1.2
      simp only [refOK] at h1'
      simp only [elems] at hel
      split at hel
      · rename_i sz3 l3 hat
        split at hel
        · rename_i hc3
          subst hc3
          simp only [Option.some.injEq, Prod.mk.injEq] at hel
          obtain ⟨rfl, hl0⟩ := hel
          refine Yields.of h rfl ⟨rfl, rfl, fun ob => ?_⟩
          obtain ⟨ad0, n0, cap0, ad1, cap1, g1, g2, g3, g4, g5, g6, g7⟩ := h1'.2 ob
          rw [hV] at g2
          simp only [Value.slice.injEq] at g2
          obtain ⟨rfl, g2, rfl⟩ := g2
          refine ⟨ad0, n0, cap0, ad', M - l, g1, by congr 1; omega, by omega, by omega, by omega, by omega, fun k => ?_, fun k => ?_⟩
          · rw [hrel.1 (by omega), g7.1 (by omega)]
          · rw [hrel.2 (by omega), g7.2 (by omega)]
            cases ad0 with
            | none => rfl
            | some A0 =>
              simp only [Option.map_some]
              congr 1
              unfold Addr.add
              repeat' split
              all_goals simp_all [Nat.add_mul, Nat.add_assoc]
              all_goals omega
        · simp at hel
      · simp at hel
    · simp at hw
end
end Go.AM

/- The operations, continued: loads and stores. No conditions. -/
namespace Go.AM
open Go

def LoadOK (P : Program) (t : TypeId) (n : Option Nat) : Prop :=
  ∃ d, P.underlying t = some d ∧ match n with
    | none => (match d with | .struct _ | .array _ _ => False | _ => True) ∧ ∃ ti, P.info? t = some ti ∧ ti.size = 1
    | some k => (match d with | .struct _ | .array _ _ => True | _ => False) ∧ ∃ ti, P.info? t = some ti ∧ ti.size = k

section
variable {P : Program} {B : Base} {a : Act} {H : Nat → Value} {e e' : Env} {w w' : World} {I : Nat → Prop} {blk : Nat → List Nat} {fl : List Nat}

theorem run_loadVar {t : TypeId} {n : Option Nat} (ht : LoadOK P t n) {A : Addr} {us : List Value} (hc : CellsAt w A us) :
    (n = none → ∀ u, us[0]? = some u → (loadVar t A).run P w = .ok u w) ∧ (∀ k, n = some k → k ≤ us.length → (loadVar t A).run P w = .ok (.agg (us.take k).toArray) w) := by
  obtain ⟨d, hd, hn⟩ := ht
  have hA0 : A.add 0 = A := by simp [Addr.add]
  constructor
  · rintro rfl u hu
    have hcell := hc 0 u hu
    rw [hA0] at hcell
    have hagg : (isAgg t).run P w = .ok false w := by
      unfold isAgg
      cases d <;> simp_all [run_underlying hd]
    simp [loadVar, hagg, hcell]
  · rintro k rfl hk
    obtain ⟨hd2, ti, hti, hsz⟩ := hn
    have hagg : (isAgg t).run P w = .ok true w := by
      unfold isAgg
      cases d <;> simp_all [run_underlying hd]
    have hl := run_loadCells_list (P := P) w A (us.take k) (hc.take k)
    have hlen : (us.take k).length = k := by simp; omega
    rw [hlen] at hl
    simp [loadVar, hagg, sizeOf, typeInfo, hti, hsz, hl]
theorem part_R {q : PV → Value → Prop} {n : Option Nat} {cs : List PV} {us : List Value} (hr : Rs w I q cs us []) {y : PV} (hy : part n cs = some y) :
    (n = none ∧ ∃ u, us[0]? = some u ∧ R w I q y u []) ∨ (∃ k, n = some k ∧ k ≤ us.length ∧ R w I q y (.agg (us.take k).toArray) []) := by
  unfold part at hy
  split at hy
  · obtain ⟨u, hu, hR⟩ := hr.get0 hy
    exact .inl ⟨rfl, u, hu, hR⟩
  · rename_i k
    split at hy
    · rename_i hk
      cases hy
      exact .inr ⟨k, rfl, by rw [hr.length]; exact hk, us.take k, rfl, hr.take0 k⟩
    · simp at hy
theorem CellsAt.moved {w w2 : World} {A : Addr} {us : List Value} (h : CellsAt w A us) (hw : w2.heap[A.block]? = w.heap[A.block]?) : CellsAt w2 A us := by
  intro j u hu
  have hblk : (A.add j).block = A.block := by unfold Addr.add; split <;> rfl
  rw [World.cell?_of_block (w := w)]
  · exact h j u hu
  · rw [hblk]; exact hw
/-- The block that a variable's value tells. -/
def headV : Value → Option Nat
  | .pointer (some A) => some A.block
  | .slice (some A) _ _ => some A.block
  | _ => none
/-- Where a load reads. -/
def locOK (I : Nat → Prop) (val : Nat → Value) (g : Nat) : PV → Prop
  | .ref s [] => headV (val s) = some g
  | .addr s _ => headV (val s) = some g
  | .eaddr s [] _ _ _ => headV (val s) = some g
  | .raddr _ => I g
  | _ => True
/-- It does so in every world in which the block is as it is here. -/
def RunsR (P : Program) (o : Oper) (a : Act) (w : World) (V : Value) (g : Nat) : Prop := ∀ w2 : World, w2.heap[g]? = w.heap[g]? → (execOp a.eval o).run P w2 = .ok (.value V) w2
theorem RunsR.to {o : Oper} {V : Value} {g : Nat} (h : RunsR P o a w V g) : RunsTo P o a w V w := .inl (h w rfl)
theorem loaded {q : PV → Value → Prop} {o : Oper} {t : TypeId} {n : Option Nat} {x : Opd} (ho : o.op = .load t x.op) (ht : LoadOK P t n) {A : Addr} (hA : a.eval x.op = .pointer (some A)) {us : List Value} (hc : CellsAt w A us) {cs : List PV} (hr : Rs w I q cs us []) {y : PV} (hy : part n cs = some y) :
    ∃ V, RunsR P o a w V A.block ∧ R w I q y V [] := by
  rcases part_R hr hy with ⟨hn, u, hu, hR⟩ | ⟨k, hn, hk, hR⟩
  · refine ⟨u, fun w2 hw => ?_, hR⟩
    obtain ⟨l1, l2⟩ := run_loadVar ht (hc.moved hw)
    simp [execOp, ho, Instr.loadAt, hA, Instr.sureAddr, l1 hn u hu]
  · refine ⟨_, fun w2 hw => ?_, hR⟩
    obtain ⟨l1, l2⟩ := run_loadVar ht (hc.moved hw)
    simp [execOp, ho, Instr.loadAt, hA, Instr.sureAddr, l2 k hn hk]
/-- The cells of a variable in memory, as an operation sees them. -/
theorem cellViews_ok (h : Inv B e (refOK e (valOf a H) w) (valOf a H) w I blk fl) {s : Nat} {cs : List PV} (hg : e.get s = .box cs) :
    ∃ (g : Nat) (us : List Value), valOf a H s = .pointer (some ⟨g, 0, none⟩) ∧ us.length = cs.length ∧ ∀ o n, o + n ≤ cs.length → CellsAt w ⟨g, o, none⟩ ((us.drop o).take n) ∧ Rs w I (refOK e (valOf a H) w) (cellViews s cs o n) ((us.drop o).take n) [] := by
  have hR := h.rel s
  rw [hg] at hR
  obtain ⟨g, us, bs', _, hr, hb⟩ := hR
  have hb' := hb
  obtain ⟨cur, t, fr, hv, h2, _, rfl⟩ := hb'
  refine ⟨g, cur.toList, hv, hr.length, fun o n hon => ⟨?_, ?_⟩⟩
  · refine CellsAt.take ?_ n
    intro j u hu
    have hadd : (⟨g, o, none⟩ : Addr).add j = ⟨g, o + j, none⟩ := by unfold Addr.add; split <;> simp_all
    rw [hadd, cell_of_row w g (o + j) cur t fr h2]
    simpa using hu
  · induction n generalizing o with
    | zero => simp [cellViews, Rs]
    | succ n ih =>
      have hlt : o < cs.length := by omega
      have hx : cs[o]? = some cs[o] := List.getElem?_eq_getElem hlt
      obtain ⟨u, b, hu, hRu, _⟩ := hr.get hx
      have hlt2 : o < cur.toList.length := (List.getElem?_eq_some_iff.1 hu).1
      have hdrop : cur.toList.drop o = u :: cur.toList.drop (o + 1) := by
        rw [List.drop_eq_getElem_cons hlt2, (List.getElem?_eq_some_iff.1 hu).2]
      rw [hdrop, List.take_succ_cons]
      simp only [cellViews, hx, Option.getD_some]
      refine ⟨u, _, [], [], rfl, rfl, view_ok (q := selfq g) (fun _ _ h => .inr h.1) s cs[o] [o] u b ?_ ?_ hRu, ih (o + 1) (by omega)⟩
      · simp [Env.at_, PV.sub, hg, PV.kids, hx]
      · simp [place, walk, boxCell hb hu]
theorem viewPart_noObj {s : Nat} {cs : List PV} {o m : Nat} {n : Option Nat} {y : PV} (hy : part n (cellViews s cs o m) = some y) : y.hasObj = false := by
  have hall : ∀ m o, PV.hasObjL (cellViews s cs o m) = false := by
    intro m
    induction m with
    | zero => intro o; rfl
    | succ m ih => intro o; simp [cellViews, PV.hasObjL, view_noObj, ih]
  have htake : ∀ (l : List PV) (k : Nat), PV.hasObjL l = false → PV.hasObjL (l.take k) = false := by
    intro l
    induction l with
    | nil => intro k _; simp [PV.hasObjL]
    | cons x r ih =>
      intro k hk
      simp only [PV.hasObjL, Bool.or_eq_false_iff] at hk
      cases k with
      | zero => rfl
      | succ k => simp [PV.hasObjL, hk.1, ih k hk.2]
  unfold part at hy
  split at hy
  · exact hasObjL_get (hall m o) hy
  · split at hy
    · cases hy
      simpa [PV.hasObj] using htake _ _ (hall m o)
    · simp at hy
theorem elem_cells {g sz : Nat} {l : List PV} {vs : List Value} {V : Value} (hs : SzOk sz l) (hr : Rs w I nope l vs []) (hrow : RowAt w sz l.length V g (flatV vs)) {i : Nat} {x : PV} (hx : l[i]? = some x) :
    ∃ v, vs[i]? = some v ∧ R w I nope x v [] ∧ CellsAt w ⟨g, i * sz, none⟩ v.cells.toList := by
  obtain ⟨v, hv, hR⟩ := hr.get0 hx
  refine ⟨v, hv, hR, fun j u hu => ?_⟩
  obtain ⟨cap, cur, t, fr, _, h2, _, _, _, _, h6⟩ := hrow
  have hadd : (⟨g, i * sz, none⟩ : Addr).add j = ⟨g, i * sz + j, none⟩ := by unfold Addr.add; split <;> simp_all
  rw [hadd, cell_of_row w g _ cur t fr h2]
  have := flatV_get (SzOk.sizes hs hr) hv hu
  rw [← h6, List.getElem?_take] at this
  split at this
  · simpa using this
  · cases this

theorem run_loadR (h : Inv B e (refOK e (valOf a H) w) (valOf a H) w I blk []) {o : Oper} {t : TypeId} {n : Option Nat} {x : Opd} (hx : x.ok B.glob) (ho : o.op = .load t x.op) (ht : LoadOK P t n) {y : PV} (hy : loadAt e n (x.ev e) = some y) :
    ∃ V g, RunsR P o a w V g ∧ locOK I (valOf a H) g (x.ev e) ∧ Yields B (valOf a H) e y V w := by
  have h1 := ev_ok h hx
  unfold loadAt at hy
  split at hy
  · rename_i s e1
    rw [e1] at h1
    split at hy
    · rename_i cs hg
      split at hy
      · rename_i hlen
        obtain ⟨g, us, hv, hul, hcv⟩ := cellViews_ok h hg
        obtain ⟨c1, c2⟩ := hcv 0 (n.getD 1) (by omega)
        have h1' := h1.2
        simp only [refOK] at h1'
        have hp := h1'.2 (by simp [Env.at_, PV.sub, hg, PV.isObj])
        have hA : a.eval x.op = .pointer (some ⟨g, 0, none⟩) := by
          simp only [place, walk, Option.some.injEq] at hp
          rw [← hp, hv]
        obtain ⟨V, hV, hR⟩ := loaded ho ht hA c1 c2 hy
        exact ⟨V, g, hV, by rw [e1]; simp only [locOK, hv, headV], Yields.of h (viewPart_noObj hy) hR⟩
      · simp at hy
    · simp at hy
  · rename_i s off e1
    rw [e1] at h1
    split at hy
    · rename_i cs hg
      split at hy
      · rename_i hlen
        obtain ⟨g, us, hv, hul, hcv⟩ := cellViews_ok h hg
        obtain ⟨c1, c2⟩ := hcv off (n.getD 1) hlen
        have h1' := h1.2
        simp only [refOK] at h1'
        obtain ⟨g', hv', hA⟩ := h1'.2 (by rw [hg]; rfl)
        rw [hv] at hv'
        simp only [Value.pointer.injEq, Option.some.injEq, Addr.mk.injEq, and_true] at hv'
        subst hv'
        obtain ⟨V, hV, hR⟩ := loaded ho ht hA c1 c2 hy
        exact ⟨V, g, hV, by rw [e1]; simp only [locOK, hv, headV], Yields.of h (viewPart_noObj hy) hR⟩
      · simp at hy
    · simp at hy
  · rename_i s p sz i k e1
    rw [e1] at h1
    have h1' := h1.2
    simp only [refOK] at h1'
    split at hy
    · rename_i sz' l hat
      split at hy
      · rename_i hc
        subst hc
        split at hy
        · rename_i z hz
          have hob : (e.at_ s p).isObj = true := by rw [hat]; rfl
          obtain ⟨U, bs, blk', h6, h7, _⟩ := h.take hob
          obtain ⟨g, m, cap, hpl, hA⟩ := h1'.2 hob
          rw [hpl] at h6
          obtain rfl := Option.some.inj h6
          rw [hat] at h7
          rcases h7.2 with ⟨hcon, _⟩ | ⟨g', vs, _, hr, hrow⟩
          · cases hcon
          · have hgg : g' = g := by
              obtain ⟨_, _, _, _, hV, _⟩ := id hrow
              cases hV
              rfl
            subst hgg
            obtain ⟨v, hv, hRz, hcells⟩ := elem_cells h7.1 hr hrow hz
            have hcs := cells_Rs (imm_ne_dead (h7.1 z (List.mem_of_getElem? hz)).2) hRz nope_oneCell
            have hc2 : CellsAt w ⟨g', i * sz' + k, none⟩ (v.cells.toList.drop k) := by
              have := hcells.drop rfl k
              have hadd : (⟨g', i * sz', none⟩ : Addr).add k = ⟨g', i * sz' + k, none⟩ := by unfold Addr.add; split <;> simp_all
              rwa [hadd] at this
            obtain ⟨V, hV, hR⟩ := loaded ho ht hA hc2 (hcs.drop0 k) hy
            refine ⟨V, g', hV, ?_, I, blk, [], h, .inl hR⟩
            rw [e1]
            cases p with
            | nil =>
              simp only [place, walk, Option.some.injEq] at hpl
              simp only [locOK, hpl, headV]
            | cons _ _ => trivial
        · simp at hy
      · simp at hy
    · simp at hy
  · rename_i cs e1
    rw [e1] at h1
    obtain ⟨_, A, us, hA, _, hIA, hr, hc⟩ := h1
    obtain ⟨V, hV, hR⟩ := loaded ho ht hA hc hr hy
    exact ⟨V, A.block, hV, by rw [e1]; exact hIA, I, blk, [], h, .inl hR⟩
  · simp at hy
theorem run_load (h : Inv B e (refOK e (valOf a H) w) (valOf a H) w I blk []) {o : Oper} {t : TypeId} {n : Option Nat} {x : Opd} (hx : x.ok B.glob) (ho : o.op = .load t x.op) (ht : LoadOK P t n) {y : PV} (hy : loadAt e n (x.ev e) = some y) :
    ∃ V, RunsTo P o a w V w ∧ Yields B (valOf a H) e y V w := by
  obtain ⟨V, g, h1, _, h2⟩ := run_loadR h hx ho ht hy
  exact ⟨V, h1.to, h2⟩

/-! ### Stores -/
def setManyV (us : List Value) (o : Nat) : List Value → List Value
  | [] => us
  | u :: r => setManyV (us.set o u) (o + 1) r
theorem setManyV_length (us : List Value) (o : Nat) (vs : List Value) : (setManyV us o vs).length = us.length := by
  induction vs generalizing us o with
  | nil => rfl
  | cons v r ih => simp [setManyV, ih]
theorem setMany_length (us : List PV) (o : Nat) (vs : List PV) : (setMany us o vs).length = us.length := by
  induction vs generalizing us o with
  | nil => rfl
  | cons v r ih => simp [setMany, ih]
theorem Rs.setMany {q : PV → Value → Prop} : ∀ {ys : List PV} {vs : List Value} {bs : List Nat} {cs : List PV} {us : List Value} {bs' : List Nat} {o : Nat}, Rs w I q cs us bs' → Rs w I q ys vs bs → o + ys.length ≤ cs.length →
    ∃ bs'' dropped, Rs w I q (AM.setMany cs o ys) (setManyV us o vs) bs'' ∧ (bs' ++ bs).Perm (bs'' ++ dropped) := by
  intro ys
  induction ys with
  | nil =>
    intro vs bs cs us bs' o h k _
    obtain ⟨rfl, rfl⟩ := k
    exact ⟨bs', [], h, by simp⟩
  | cons y r ih =>
    intro vs bs cs us bs' o h k hle
    obtain ⟨v, vs', b1, b2, rfl, rfl, k1, k2⟩ := k
    simp only [List.length_cons] at hle
    have hlt : o < cs.length := by omega
    obtain ⟨u, b, B1, B2, hu, rfl, hR, hset⟩ := Rs.split h (List.getElem?_eq_getElem hlt)
    have h2 := hset y v b1 k1
    obtain ⟨bs'', dropped, h3, h4⟩ := ih (o := o + 1) h2 k2 (by simp; omega)
    refine ⟨bs'', b ++ dropped, h3, ?_⟩
    have p1 : (B1 ++ b ++ B2 ++ (b1 ++ b2)).Perm (b ++ (B1 ++ b1 ++ B2 ++ b2)) := by
      rw [List.perm_iff_count]
      intro x
      simp only [List.count_append]
      omega
    refine p1.trans ((h4.append_left b).trans ?_)
    rw [List.perm_iff_count]
    intro x
    simp only [List.count_append]
    omega
/-- Cells written one by one into a block that may be written there. -/
theorem run_storeCells_free (g o : Nat) (t : TypeId) (fr : Nat × Nat) : ∀ (vs : List Value) (i : Nat) (cur : Array Value) (w : World), w.heap[g]? = some (.cells cur t fr) → o + i + vs.length ≤ cur.size → (fr.2 ≤ fr.1 ∨ o + i + vs.length ≤ fr.1) → (∀ v ∈ vs, v.oneCell' = true) →
    ∃ w', (storeCells ⟨g, o, none⟩ vs i).run P w = .ok () w' ∧ w'.heap[g]? = some (.cells (setManyV cur.toList (o + i) vs).toArray t fr) ∧ w'.heap.size = w.heap.size ∧ (∀ k, k ≠ g → w'.heap[k]? = w.heap[k]?) ∧ w'.os = w.os ∧ w'.tape = w.tape ∧ w'.output = w.output
  | [], i, cur, w, hg, _, _, _ => ⟨w, rfl, by simpa [setManyV] using hg, rfl, fun _ _ => rfl, rfl, rfl, rfl⟩
  | v :: r, i, cur, w, hg, hl, hfr, h1 => by
    simp only [List.length_cons] at hl hfr
    have hi : o + i < cur.size := by omega
    have hadd : (⟨g, o, none⟩ : Addr).add i = ⟨g, o + i, none⟩ := by unfold Addr.add; split <;> simp_all
    have hcell : w.cell? ⟨g, o + i, none⟩ = some cur[o + i] := by simp [World.cell?, hg, hi]
    have hfro : w.frozen? ⟨g, o + i, none⟩ = false := by
      obtain ⟨lo, hi'⟩ := fr
      simp only [World.frozen?, hg, Bool.and_eq_false_iff, decide_eq_false_iff_not]
      simp only at hfr
      omega
    have hst : (store ((⟨g, o, none⟩ : Addr).add i) v).run P w = .ok () (w.setCell ⟨g, o + i, none⟩ v) := by
      rw [hadd, run_store P w _ v .plain (h1 v (by simp)), hcell]
      simp [hfro]
    have hg2 : (w.setCell ⟨g, o + i, none⟩ v).heap[g]? = some (.cells (cur.setIfInBounds (o + i) v) t fr) := by
      simp [World.setCell, Array.getElem?_modify, hg]
    have hsize2 : (w.setCell ⟨g, o + i, none⟩ v).heap.size = w.heap.size := by simp [World.setCell]
    have hoth : ∀ k, k ≠ g → (w.setCell ⟨g, o + i, none⟩ v).heap[k]? = w.heap[k]? := fun k hk => heap_setCell_other w ⟨g, o + i, none⟩ k v hk
    obtain ⟨w', k1, k2, k3, k4, k5, k6, k7⟩ := run_storeCells_free g o t fr r (i + 1) (cur.setIfInBounds (o + i) v) _ hg2 (by simp; omega) (by omega) (fun u hu => h1 u (by simp [hu]))
    refine ⟨w', ?_, ?_, k3.trans hsize2, fun k hk => (k4 k hk).trans (hoth k hk), k5, k6, k7⟩
    · simp only [storeCells, Sem.run_bind, hst, Result.andThen_ok, k1]
    · rw [k2]
      simp [setManyV, Nat.add_assoc]
theorem R.one_cell {x : PV} {V : Value} {bs : List Nat} (h1 : x.one = true) (h : R w I nope x V bs) : V.oneCell' = true := by
  cases x with
  | v x => rw [h.1]; exact h.2.1
  | ro sz l => obtain ⟨_, _, a, cap, rfl, _⟩ := h; rfl
  | own sz l => rcases h.2 with ⟨rfl, _⟩ | ⟨g, vs, _, _, cap, cur, t, fr, rfl, _⟩ <;> rfl
  | box cs => obtain ⟨g, us, bs', _, _, cur, t, fr, rfl, _⟩ := h; rfl
  | raddr cs => obtain ⟨_, A, us, rfl, _⟩ := h; rfl
  | clo f cs => obtain ⟨_, A, us, rfl, _⟩ := h; rfl
  | nil sz => rw [h.1]; rfl
  | selfp => obtain ⟨_, m, rfl⟩ := h; rfl
  | _ => simp [PV.one] at h1
theorem Rs.one_cells {l : List PV} {vs : List Value} {bs : List Nat} (h1 : l.all PV.one = true) (h : Rs w I nope l vs bs) : ∀ v ∈ vs, v.oneCell' = true := by
  induction l generalizing vs bs with
  | nil => obtain ⟨rfl, _⟩ := h; simp
  | cons x r ih =>
    obtain ⟨v, us, b1, b2, rfl, rfl, k1, k2⟩ := h
    simp only [List.all_cons, Bool.and_eq_true] at h1
    intro u hu
    rcases List.mem_cons.1 hu with rfl | hu
    · exact R.one_cell h1.1 k1
    · exact ih h1.2 k2 u hu

/-- A store into a variable's cells. -/
theorem storeVar_run {t : TypeId} {n : Option Nat} (ht : LoadOK P t n) {g o : Nat} {V : Value} {cur : Array Value} {tt : TypeId} {fr : Nat × Nat} (hg : w.heap[g]? = some (.cells cur tt fr)) (hlen : V.cells.size = n.getD 1) (hfit : o + V.cells.size ≤ cur.size) (hfr : fr.2 ≤ fr.1 ∨ o + V.cells.size ≤ fr.1) (h1 : ∀ v ∈ V.cells.toList, v.oneCell' = true) :
    ∃ w', (storeVar t ⟨g, o, none⟩ V).run P w = .ok () w' ∧ w'.heap[g]? = some (.cells (setManyV cur.toList o V.cells.toList).toArray tt fr) ∧ w'.heap.size = w.heap.size ∧ (∀ k, k ≠ g → w'.heap[k]? = w.heap[k]?) ∧ w'.os = w.os ∧ w'.tape = w.tape ∧ w'.output = w.output := by
  obtain ⟨w', k1, k2, k3⟩ := run_storeCells_free (P := P) g o tt fr V.cells.toList 0 cur w hg (by simpa using hfit) (by simpa using hfr) h1
  refine ⟨w', ?_, by simpa using k2, k3⟩
  obtain ⟨d, hd, hn⟩ := ht
  have hsz : (sizeOf t).run P w = .ok V.cells.size w := by
    cases n with
    | none =>
      obtain ⟨_, ti, hti, hs⟩ := hn
      simp [sizeOf, typeInfo, hti, hs, hlen]
    | some k =>
      obtain ⟨_, ti, hti, hs⟩ := hn
      simp [sizeOf, typeInfo, hti, hs, hlen]
  simp [storeVar, hsz, k1]

mutual
/-- What was owned, made unchangeable. -/
theorem R.frozen {I' : Nat → Prop} (hI : ∀ b, I b → I' b) : ∀ (x : PV) (V : Value) (bs : List Nat), x.freeze.imm = true → (∀ b ∈ bs, I' b) → R w I nope x V bs → R w I' nope x.freeze V []
  | .v x, V, bs, _, _, h => ⟨h.1, h.2.1, rfl⟩
  | .agg cs, V, bs, hi, hb, h => by
    obtain ⟨vs, e, h⟩ := h
    exact ⟨vs, e, Rs.frozen hI cs vs bs (by simp only [PV.freeze, PV.imm, Bool.and_eq_true] at hi; exact hi.1) hb h⟩
  | .tup cs, V, bs, hi, _, _ => by simp [PV.freeze, PV.imm] at hi
  | .ro sz l, V, bs, _, _, h => by
    obtain ⟨_, hs, a, cap, e, hc, h⟩ := h
    refine ⟨rfl, hs, a, cap, e, hc, ?_⟩
    rcases h with h | ⟨A, vs, h1, h2, h3, h4, h5⟩
    · exact .inl h
    · exact .inr ⟨A, vs, h1, h2, hI _ h3, Rs.mono hI (fun _ _ => rfl) l nope nope (fun _ _ h => h) vs [] (by simp) h4, h5⟩
  | .own sz l, V, bs, _, hb, h => by
    refine ⟨rfl, h.1, ?_⟩
    have hsl := own_slice h
    rcases h.2 with ⟨rfl, rfl, rfl⟩ | ⟨g, vs, rfl, h7, cap, cur, t, fr, rfl, h8, h9, h10, h11, h12, h13⟩
    · exact ⟨none, 0, rfl, Nat.le_refl _, .inl rfl⟩
    · refine ⟨_, cap, rfl, h9, .inr ⟨_, vs, rfl, rfl, hb g (by simp), Rs.mono hI (fun _ _ => rfl) l nope nope (fun _ _ h => h) vs [] (by simp) h7, fun j u hu => ?_⟩⟩
      have hadd : (⟨g, 0, none⟩ : Addr).add j = ⟨g, j, none⟩ := by unfold Addr.add; split <;> simp_all
      rw [hadd, cell_of_row w g j cur t fr h8]
      rw [← h13, List.getElem?_take] at hu
      split at hu
      · simpa using hu
      · cases hu
  | .box cs, V, bs, hi, _, _ => by simp [PV.freeze, PV.imm] at hi
  | .ref s p, V, bs, _, _, h => h.2.elim
  | .win s p sz lo hi, V, bs, _, _, h => h.2.elim
  | .addr s o, V, bs, _, _, h => h.2.elim
  | .eaddr s p sz i k, V, bs, _, _, h => h.2.elim
  | .raddr cs, V, bs, _, _, h => by
    obtain ⟨_, A, us, e, h1, h2, h3, h4⟩ := h
    exact ⟨rfl, A, us, e, h1, hI _ h2, Rs.mono hI (fun _ _ => rfl) cs nope nope (fun _ _ h => h) us [] (by simp) h3, h4⟩
  | .clo f cs, V, bs, _, _, h => by
    obtain ⟨_, A, us, e, h1, h2, h3, h4⟩ := h
    exact ⟨rfl, A, us, e, h1, hI _ h2, Rs.mono hI (fun _ _ => rfl) cs nope nope (fun _ _ h => h) us [] (by simp) h3, h4⟩
  | .nil _, V, bs, _, _, h => ⟨rfl, fun x hx => (by cases hx), none, 0, h.1, Nat.le_refl _, .inl rfl⟩
  | .dead, V, bs, hi, _, _ => by simp [PV.freeze, PV.imm] at hi
theorem Rs.frozen {I' : Nat → Prop} (hI : ∀ b, I b → I' b) : ∀ (l : List PV) (vs : List Value) (bs : List Nat), PV.immL (PV.freezeL l) = true → (∀ b ∈ bs, I' b) → Rs w I nope l vs bs → Rs w I' nope (PV.freezeL l) vs []
  | [], vs, bs, _, _, h => ⟨h.1, rfl⟩
  | x :: r, vs, bs, hi, hb, h => by
    simp only [PV.freezeL, PV.immL, Bool.and_eq_true] at hi
    obtain ⟨v, us, b1, b2, rfl, rfl, h1, h2⟩ := h
    exact ⟨v, us, [], [], rfl, rfl, R.frozen hI x v b1 hi.1 (fun b hb' => hb b (by simp [hb'])) h1, Rs.frozen hI r us b2 hi.2 (fun b hb' => hb b (by simp [hb'])) h2⟩
end
end
end Go.AM

/- The operations, continued: stores into variables in memory and into rows. No conditions. -/
namespace Go.AM
open Go

theorem setManyV_append (X : List Value) : ∀ (vs Y Z : List Value) (k : Nat), k + vs.length ≤ Y.length → setManyV (X ++ (Y ++ Z)) (X.length + k) vs = X ++ (setManyV Y k vs ++ Z)
  | [], Y, Z, k, _ => rfl
  | v :: r, Y, Z, k, h => by
    simp only [List.length_cons] at h
    simp only [setManyV]
    have h1 : (X ++ (Y ++ Z)).set (X.length + k) v = X ++ (Y.set k v ++ Z) := by
      rw [List.set_append_right _ _ (by omega), Nat.add_sub_cancel_left, List.set_append_left _ _ (by omega)]
    rw [h1, Nat.add_assoc, setManyV_append X r (Y.set k v) Z (k + 1) (by simp; omega)]
theorem setManyV_take : ∀ (vs us : List Value) (o n : Nat), o + vs.length ≤ n → (setManyV us o vs).take n = setManyV (us.take n) o vs
  | [], _, _, _, _ => rfl
  | v :: r, us, o, n, h => by
    simp only [List.length_cons] at h
    simp only [setManyV]
    rw [setManyV_take r _ _ _ (by omega), List.take_set]
theorem flatV_set {sz : Nat} {vs : List Value} (h : ∀ v ∈ vs, v.cells.size = sz) {i : Nat} {v v' : Value} (hv : vs[i]? = some v) {k : Nat} {us : List Value} (hk : k + us.length ≤ v.cells.size) (hv' : v'.cells.toList = setManyV v.cells.toList k us) :
    flatV (vs.set i v') = setManyV (flatV vs) (i * sz + k) us := by
  have hlt := (List.getElem?_eq_some_iff.1 hv).1
  have e1 : vs = vs.take i ++ v :: vs.drop (i + 1) := by
    rw [← (List.getElem?_eq_some_iff.1 hv).2, List.getElem_cons_drop, List.take_append_drop]
  have e2 : vs.set i v' = vs.take i ++ v' :: vs.drop (i + 1) := by
    conv => lhs; rw [e1]
    have hl : (vs.take i).length = i := by simp; omega
    rw [List.set_append_right _ _ (by omega), hl, Nat.sub_self, List.set_cons_zero]
  have e3 : flatV vs = flatV (vs.take i) ++ (v.cells.toList ++ flatV (vs.drop (i + 1))) := by
    conv => lhs; rw [e1]
    simp [flatV]
  have hX : (flatV (vs.take i)).length = i * sz := by
    rw [flatV_length (sz := sz) (fun u hu => h u (List.mem_of_mem_take hu)), List.length_take, Nat.min_eq_left (by omega)]
  rw [e2, e3, ← hX, setManyV_append _ _ _ _ _ (by simpa using hk), ← hv']
  simp [flatV]
theorem PV.path_setSub_leaf : ∀ (p : List Nat) (x y z : PV) (p' : List Nat), y.kids = [] → z.kids = [] → (x.setSub p y).path p' = (x.setSub p z).path p'
  | [], x, y, z, p', hy, hz => by
    have e1 : x.setSub [] y = y := by cases x <;> rfl
    have e2 : x.setSub [] z = z := by cases x <;> rfl
    rw [e1, e2]
    cases p' with
    | nil => rfl
    | cons o r => simp [PV.path, hy, hz]
  | o :: p, x, y, z, p', hy, hz => by
    cases hx : x.kids[o]? with
    | none =>
      have hs : ∀ u, x.setSub (o :: p) u = x := by
        intro u
        cases x with
        | agg cs => simp only [PV.kids] at hx; simp only [PV.setSub]; rw [List.set_eq_of_length_le (List.getElem?_eq_none_iff.1 hx)]
        | tup cs => simp only [PV.kids] at hx; simp only [PV.setSub]; rw [List.set_eq_of_length_le (List.getElem?_eq_none_iff.1 hx)]
        | box cs => simp only [PV.kids] at hx; simp only [PV.setSub]; rw [List.set_eq_of_length_le (List.getElem?_eq_none_iff.1 hx)]
        | _ => rfl
      rw [hs, hs]
    | some c =>
      rw [PV.setSub_cons hx, PV.setSub_cons hx]
      cases p' with
      | nil => rfl
      | cons b r =>
        simp only [PV.path, PV.kids_withKid hx]
        by_cases hb : o = b
        · subst hb
          have hlt : o < x.kids.length := (List.getElem?_eq_some_iff.1 hx).1
          simp only [List.getElem?_set_self hlt]
          exact PV.path_setSub_leaf p c y z r hy hz
        · simp only [List.getElem?_set_ne hb]
theorem Env.setAt_nil (e : Env) (s : Nat) (y : PV) : e.setAt s [] y = e.set s y := by
  unfold Env.setAt
  cases e.get s <;> rfl

section
variable {P : Program} {B : Base} {a : Act} {H : Nat → Value} {e e1 e2 : Env} {w w' : World} {I : Nat → Prop} {blk : Nat → List Nat} {val : Nat → Value}

theorem storeBox_inv {bs : List Nat} (h : Inv B e1 (refOK e val w) val w I blk bs) (hw : Weak e1 e) {s : Nat} {cs : List PV} (hg : e1.get s = .box cs) {ys : List PV} {vs : List Value} (hys : Rs w I nope ys vs bs) {o : Nat} (hfit : o + ys.length ≤ cs.length) :
    ∃ g cur t fr, val s = .pointer (some ⟨g, 0, none⟩) ∧ w.heap[g]? = some (.cells cur t fr) ∧ unfrozen fr cur.size ∧ cur.size = cs.length ∧
      ∀ (w' : World) (t' : TypeId) (fr' : Nat × Nat), w'.heap[g]? = some (.cells (setManyV cur.toList o vs).toArray t' fr') → unfrozen fr' cur.size → w'.heap.size = w.heap.size → (∀ k, k ≠ g → w'.heap[k]? = w.heap[k]?) → w'.os = w.os → w'.tape = w.tape → w'.output = w.output →
        ∃ I' blk', Inv B ((e1.kill s fun p => !p.isEmpty).set s (.box (AM.setMany cs o ys))) (refOK ((e1.kill s fun p => !p.isEmpty).set s (.box (AM.setMany cs o ys))) val w') val w' I' blk' [] := by
  obtain ⟨blk2, k2, wk2, _⟩ := h.kill s fun p => !p.isEmpty
  have hg2 : (e1.kill s fun p => !p.isEmpty).get s = .box cs := by rw [Env.get_kill, hg]; rfl
  have hob : ((e1.kill s fun p => !p.isEmpty).at_ s []).isObj = true := by simp [Env.at_, PV.sub, hg2, PV.isObj]
  obtain ⟨U, bsb, blk3, hU, hRb, k3⟩ := k2.take hob
  obtain rfl : val s = U := by simpa [place, walk] using hU
  simp only [Env.at_, PV.sub, hg2] at hRb
  obtain ⟨g, us, bs', rfl, hr, cur, t, fr, hv, hcur, hunf, rfl⟩ := hRb
  have hgblk : g ∈ blk2 s := by
    have := k2.rel s
    rw [hg2] at this
    obtain ⟨g', us', bs'', e0, _, cur', t', fr', hv', _⟩ := this
    rw [hv] at hv'
    cases hv'
    rw [e0]
    simp
  refine ⟨g, cur, t, fr, hv, hcur, hunf, by simpa using hr.length, fun w' t' fr' c1 hunf' c2 c3 c4 c5 c6 => ?_⟩
  have k4 := k3.world (w' := w') c4 c5 c6 (by omega) (fun b _ hb => c3 b (by rintro rfl; simp at hb)) [] (by simp) (by simp)
  obtain ⟨bs'', dropped, hset, hperm⟩ := Rs.setMany hr hys.ofNope hfit
  have hnd := k3.ndf
  have hgnot : g ∉ bs' ++ bs := by
    simp only [List.cons_append, List.nodup_cons] at hnd
    exact hnd.1
  have hset' : Rs w' I (selfq g) (AM.setMany cs o ys) (setManyV cur.toList o vs) bs'' := by
    refine Rs.mono (fun _ h => h) (fun b hb => c3 b ?_) _ _ _ (fun _ _ h => h) _ _ (fun b hb => c3 b ?_) hset
    · rintro rfl
      exact k3.notIf b (by simp) hb
    · rintro rfl
      exact hgnot (hperm.mem_iff.2 (by simp [hb]))
  have hbox : R w' I nope (.box (AM.setMany cs o ys)) (val s) (g :: bs'') := ⟨g, _, bs'', rfl, hset', (setManyV cur.toList o vs).toArray, t', fr', hv, c1, by simpa [setManyV_length] using hunf', by simp⟩
  have k5 : Inv B _ _ val w' I blk3 ((g :: bs'') ++ dropped) := k4.fl_perm (by simpa using hperm.cons g)
  obtain ⟨blk5, k6⟩ := k5.lay (s := s) (p := []) rfl (U := val s) rfl hbox
  rw [Env.setAt_nil, Env.setAt_nil, Env.set_set] at k6
  refine ⟨I, blk5, { k6.fl_drop (List.nil_sublist _) with rel := fun t' => ?_ }⟩
  have key : ∀ s' p', (s' ≠ s ∨ p' = []) → (((e1.kill s fun p => !p.isEmpty).set s (.box (AM.setMany cs o ys))).at_ s' p').isObj = true → (e.at_ s' p').isObj = true ∧ place val w' s' p' = place val w s' p' := by
    intro s' p' hc ho
    by_cases hs : s' = s
    · subst hs
      obtain rfl := hc.resolve_left (by simp)
      exact ⟨hw s' [] (by simp [Env.at_, PV.sub, hg, PV.isObj]), rfl⟩
    · unfold Env.at_ at ho
      rw [Env.get_set, if_neg (Ne.symm hs)] at ho
      refine ⟨hw s' p' (wk2 s' p' ho), walk_same p' _ _ (val s') (blk2 s') (k2.rel s') (PV.path_of_obj p' _ ho) fun b hb => c3 b ?_⟩
      rintro rfl
      exact k2.dj s' s hs b hb hgblk
  refine R.congr (s := s) (t := fun p => !p.isEmpty) ?_ _ _ _ ?_ (k6.rel t')
  · intro x V hm k
    cases x <;> simp only [refOK, PV.ment, Bool.and_eq_false_iff, beq_eq_false_iff_ne, Bool.not_eq_false', List.isEmpty_iff] at k hm ⊢
    · refine ⟨k.1, fun ho => ?_⟩
      obtain ⟨h1, h2⟩ := key _ _ hm ho
      exact h2.trans (k.2 h1)
    · refine ⟨k.1, fun ho => ?_⟩
      obtain ⟨h1, h2⟩ := key _ _ hm ho
      rw [h2]
      exact k.2 h1
    · refine ⟨k.1, fun ho => ?_⟩
      obtain ⟨h1, _⟩ := key _ [] (.inr rfl) ho
      exact k.2 h1
    · refine ⟨k.1, fun ho => ?_⟩
      obtain ⟨h1, h2⟩ := key _ _ hm ho
      rw [h2]
      exact k.2 h1
  · rw [Env.get_set]
    by_cases hs : s = t'
    · simp [hs, PV.ment]
    · rw [if_neg hs, Env.get_kill]
      by_cases hm : PV.ment s (fun p => !p.isEmpty) (e1.get t') = true
      · simp [hm, PV.ment]
      · simp [hm]

theorem immL_iff {l : List PV} : PV.immL l = true ↔ ∀ x ∈ l, x.imm = true := by
  induction l with
  | nil => simp [PV.immL]
  | cons x r ih => simp [PV.immL, ih]
theorem immL_setMany {ys : List PV} : ∀ {cs : List PV} {k : Nat}, PV.immL cs = true → PV.immL ys = true → PV.immL (AM.setMany cs k ys) = true := by
  induction ys with
  | nil => intro cs k h _; exact h
  | cons y r ih =>
    intro cs k h1 h2
    simp only [PV.immL, Bool.and_eq_true] at h2
    refine ih (immL_iff.2 fun x hx => ?_) h2.2
    rcases List.mem_or_eq_of_mem_set hx with hx | rfl
    · exact immL_iff.1 h1 x hx
    · exact h2.1
theorem one_setMany {ys : List PV} : ∀ {cs : List PV} {k : Nat}, cs.all PV.one = true → ys.all PV.one = true → (AM.setMany cs k ys).all PV.one = true := by
  induction ys with
  | nil => intro cs k h _; exact h
  | cons y r ih =>
    intro cs k h1 h2
    simp only [List.all_cons, Bool.and_eq_true] at h2
    refine ih (List.all_eq_true.2 fun x hx => ?_) h2.2
    rcases List.mem_or_eq_of_mem_set hx with hx | rfl
    · exact List.all_eq_true.1 h1 x hx
    · exact h2.1
theorem freezeL_length (l : List PV) : (PV.freezeL l).length = l.length := by
  induction l with
  | nil => rfl
  | cons x r ih => simp [PV.freezeL, ih]
theorem one_cells_pv {y : PV} (h : y.one = true) : y.cells = [y] := by cases y <;> first | rfl | cases h
/-- An element written anew. -/
theorem setElem_ok {z : PV} {v : Value} (hz : z.imm = true) (hR : R w I nope z v []) {ys : List PV} {vs : List Value} (hys : Rs w I nope ys vs []) (hi : PV.immL ys = true) (hone : ∀ u ∈ vs, u.oneCell' = true) (hones : ys.all PV.one = true) {k : Nat} (hk : k + ys.length ≤ z.cells.length) (hpos : 0 < ys.length) :
    ∃ v', R w I nope (setElem z k ys) v' [] ∧ v'.cells.toList = setManyV v.cells.toList k vs ∧ (setElem z k ys).cells.length = z.cells.length ∧ (setElem z k ys).imm = true := by
  have single : z.cells = [z] → setElem z k ys = ys[0]?.getD .dead → v.cells = #[v] → ∃ v', R w I nope (setElem z k ys) v' [] ∧ v'.cells.toList = setManyV v.cells.toList k vs ∧ (setElem z k ys).cells.length = z.cells.length ∧ (setElem z k ys).imm = true := by
    intro h1 h2 h3
    rw [h1] at hk
    simp only [List.length_singleton] at hk
    obtain rfl : k = 0 := by omega
    match ys, hys, hi, hk, hpos, h2, hones with
    | [y], hys, hi, _, _, h2, hones =>
      obtain ⟨u, us, b1, b2, rfl, e0, g1, g2⟩ := hys
      obtain ⟨rfl, rfl⟩ : b1 = [] ∧ b2 = [] := by simpa using e0.symm
      obtain ⟨rfl, _⟩ := g2
      rw [h2]
      simp only [List.getElem?_cons_zero, Option.getD_some]
      refine ⟨u, g1, ?_, ?_, ?_⟩
      · rw [h3, one_cells (hone u (by simp))]
        rfl
      · have hy : y.one = true := by simpa using hones
        rw [h1, one_cells_pv hy]
        rfl
      · simpa [PV.immL] using hi
  cases z with
  | agg cs =>
    obtain ⟨us, rfl, hr⟩ := hR
    simp only [PV.cells] at hk
    obtain ⟨bs'', dropped, h3, h4⟩ := Rs.setMany hr hys hk
    obtain ⟨rfl, _⟩ : bs'' = [] ∧ dropped = [] := by
      have := h4.symm.eq_nil
      simpa using this
    refine ⟨.agg (setManyV us k vs).toArray, ⟨_, rfl, h3⟩, by simp [Value.cells], by simp [setElem, PV.cells, setMany_length], ?_⟩
    simp only [setElem, PV.imm, Bool.and_eq_true] at hz ⊢
    exact ⟨immL_setMany hz.1 hi, one_setMany hz.2 hones⟩
  | v x => exact single rfl rfl (by rw [hR.1]; exact one_cells hR.2.1)
  | ro sz l => exact single rfl rfl (by obtain ⟨_, _, a, cap, rfl, _⟩ := hR; rfl)
  | raddr cs => exact single rfl rfl (by obtain ⟨_, A, us, rfl, _⟩ := hR; rfl)
  | clo f cs => exact single rfl rfl (by obtain ⟨_, A, us, rfl, _⟩ := hR; rfl)
  | nil sz => exact single rfl rfl (by rw [hR.1]; rfl)
  | _ => simp [PV.imm] at hz

theorem storeElem_inv {bs : List Nat} (h : Inv B e1 (refOK e val w) val w I blk bs) (hw : Weak e1 e) {s : Nat} {p : List Nat} {sz : Nat} {l : List PV} (hat : e1.at_ s p = .own sz l) {i : Nat} {z : PV} (hz : l[i]? = some z) {k : Nat} {ys : List PV} {vs : List Value} (hys : Rs w I nope ys vs bs) (hone : ys.all PV.one = true)
    (hi : PV.immL (PV.freezeL ys) = true) (hk : k + ys.length ≤ z.cells.length) (hpos : 0 < ys.length) {g n cap : Nat} (hpl : place val w s p = some (.slice (some ⟨g, 0, none⟩) n cap)) :
    ∃ cur t fr, w.heap[g]? = some (.cells cur t fr) ∧ i * sz + k + ys.length ≤ cur.size ∧ (fr.2 ≤ fr.1 ∨ i * sz + k + ys.length ≤ fr.1) ∧
      ∀ w' : World, w'.heap[g]? = some (.cells (setManyV cur.toList (i * sz + k) vs).toArray t fr) → w'.heap.size = w.heap.size → (∀ k, k ≠ g → w'.heap[k]? = w.heap[k]?) → w'.os = w.os → w'.tape = w.tape → w'.output = w.output →
        ∃ I' blk', Inv B (e1.setAt s p (.own sz (l.set i (setElem z k (PV.freezeL ys))))) (refOK (e1.setAt s p (.own sz (l.set i (setElem z k (PV.freezeL ys))))) val w') val w' I' blk' [] := by
  have k1 := Inv.frozen (fl := []) (bs := bs) (by simpa using h)
  have hob : (e1.at_ s p).isObj = true := by rw [hat]; rfl
  obtain ⟨U, bsb, blk2, hU, hRU, k2⟩ := k1.take hob
  rw [hpl] at hU
  obtain rfl := Option.some.inj hU
  rw [hat] at hRU
  have hys1 : Rs w (fun b => I b ∨ b ∈ bs) nope (PV.freezeL ys) vs [] := Rs.frozen (fun b hb => .inl hb) ys vs bs hi (fun b hb => .inr hb) hys
  obtain ⟨hs, hRU⟩ := hRU
  rcases hRU with ⟨hcon, _⟩ | ⟨g', vsl, rfl, hr, cap', cur, t, fr, hV, hcur, hn, hcap, hfit, hunf, htake⟩
  · cases hcon
  · cases hV
    have hzi := hs z (List.mem_of_getElem? hz)
    obtain ⟨v, hv, hRz⟩ := hr.get0 hz
    have hsizes := SzOk.sizes hs hr
    have hvsz : v.cells.size = sz := hsizes v (List.mem_of_getElem? hv)
    have hil : i < l.length := (List.getElem?_eq_some_iff.1 hz).1
    have hvl : vs.length = ys.length := hys.length
    have hbnd : i * sz + k + ys.length ≤ l.length * sz := by
      have h1 : (i + 1) * sz ≤ l.length * sz := Nat.mul_le_mul_right sz hil
      rw [Nat.add_mul, Nat.one_mul] at h1
      have := hzi.1
      omega
    have hbnd2 : l.length * sz ≤ cap * sz := Nat.mul_le_mul_right sz hn
    obtain ⟨v', hRv', hv'c, hzl, hzimm⟩ := setElem_ok (k := k) hzi.2 hRz hys1 hi (Rs.one_cells hone hys) (ys := PV.freezeL ys) (by
      have : ∀ l : List PV, l.all PV.one = true → (PV.freezeL l).all PV.one = true := by
        intro l
        induction l with
        | nil => intro _; rfl
        | cons x r ih =>
          intro hx
          simp only [List.all_cons, Bool.and_eq_true] at hx
          simp only [PV.freezeL, List.all_cons, Bool.and_eq_true]
          exact ⟨by cases x <;> simp_all [PV.freeze, PV.one], ih hx.2⟩
      exact this ys hone) (by rw [freezeL_length]; exact hk) (by rw [freezeL_length]; exact hpos)
    refine ⟨cur, t, fr, hcur, by omega, by rcases hunf with h1 | h1 <;> omega, fun w' c1 c2 c3 c4 c5 c6 => ?_⟩
    have k3 := k2.world (w' := w') c4 c5 c6 (by omega) (fun b _ hb => c3 b (by rintro rfl; simp at hb)) [] (by simp) (by simp)
    have hI : ∀ b, (I b ∨ b ∈ bs) → w'.heap[b]? = w.heap[b]? := by
      intro b hb
      refine c3 b ?_
      rintro rfl
      exact k2.notIf b (by simp) hb
    have hnew : R w' (fun b => I b ∨ b ∈ bs) nope (.own sz (l.set i (setElem z k (PV.freezeL ys)))) (.slice (some ⟨g, 0, none⟩) l.length cap) [g] := by
      refine ⟨fun x hx => ?_, .inr ⟨g, vsl.set i v', rfl, Rs.mono (fun _ h => h) hI _ nope nope (fun _ _ h => h) _ _ (by simp) (hr.set0 i hRv'), cap, (setManyV cur.toList (i * sz + k) vs).toArray, t, fr, by simp, c1, by simpa using hn, hcap, by simpa [setManyV_length] using hfit, hunf, ?_⟩⟩
      · rcases List.mem_or_eq_of_mem_set hx with hx | rfl
        · exact hs x hx
        · exact ⟨by rw [hzl]; exact hzi.1, hzimm⟩
      · simp only [List.length_set]
        rw [flatV_set hsizes hv (by rw [hvsz, hvl]; have := hzi.1; omega) hv'c, ← htake, setManyV_take _ _ _ _ (by omega)]
    obtain ⟨blk4, k4⟩ := Inv.lay (bs := [g]) (fl := []) (by simpa using k3) (s := s) (p := p) (Env.path_setAt (PV.path_of_obj p _ hob) _) (U := .slice (some ⟨g, 0, none⟩) l.length cap) (by
      rw [show place val w' s p = place val w s p from ?_, hpl]
      exact place_same k2 (fun b _ hb => c3 b (by rintro rfl; simp at hb)) (Env.path_setAt (PV.path_of_obj p _ hob) _)) hnew
    rw [Env.setAt_setAt (PV.path_of_obj p _ hob)] at k4
    refine ⟨_, blk4, k4.finish ((Weak.setAt rfl fun _ => hob).trans hw) fun s' p' ho => ?_⟩
    refine place_same k2 (fun b _ hb => c3 b (by rintro rfl; simp at hb)) ?_
    have hpo := PV.path_of_obj p' _ ho
    unfold Env.setAt at hpo ⊢
    rw [Env.get_set] at hpo ⊢
    by_cases hss : s = s'
    · subst hss
      simp only [if_true] at hpo ⊢
      rw [PV.path_setSub_leaf p (e1.get s) .dead (.own sz (l.set i (setElem z k (PV.freezeL ys)))) p' rfl rfl]
      exact hpo
    · simpa [hss] using hpo

theorem run_store (h : Inv B e (refOK e (valOf a H) w) (valOf a H) w I blk []) {o : Oper} {t : TypeId} {n : Option Nat} {ad x : Opd} (had : ad.ok B.glob) (hx : x.ok B.glob) (ho : o.op = .store t ad.op x.op) (ht : LoadOK P t n)
    {y : PV} (hs : settle e (x.ev e) = some (y, e1)) (hst : storeAt e1 n (ad.ev e) y.cells = some e2) :
    ∃ w', RunsTo P o a w undef w' ∧ Yields B (valOf a H) e2 .dead undef w' := by
  obtain ⟨blk1, bs, h1, h2, h3⟩ := settle_ok h (ev_ok h hx) hs
  simp only [List.append_nil] at h1
  have hcells := cells_Rs (settle_ne_dead hs) h2 nope_oneCell
  have hA := ev_ok h had
  have done : ∀ w', (∃ I' blk', Inv B e2 (refOK e2 (valOf a H) w') (valOf a H) w' I' blk' []) → Yields B (valOf a H) e2 .dead undef w' := by
    rintro w' ⟨I', blk', hI⟩
    exact ⟨I', blk', [], hI, .inl rfl⟩
  unfold storeAt at hst
  split at hst
  · rename_i hc
    obtain ⟨hlen, hone⟩ := hc
    have hvl : (a.eval x.op).cells.size = n.getD 1 := by
      have := hcells.length
      rw [Array.length_toList] at this
      omega
    have hones := Rs.one_cells hone hcells
    have boxed : ∀ s off, storeBox e1 s off y.cells = some e2 → (∀ g, valOf a H s = .pointer (some ⟨g, 0, none⟩) → (e1.get s).isObj = true → a.eval ad.op = .pointer (some ⟨g, off, none⟩)) → ∃ w', RunsTo P o a w undef w' ∧ Yields B (valOf a H) e2 .dead undef w' := by
      intro s off hsb hadr
      unfold storeBox at hsb
      split at hsb
      · rename_i cs hg
        split at hsb
        · rename_i hfit
          cases hsb
          obtain ⟨g, cur, tt, fr, hv, hcur, hunf, hcsz, hrest⟩ := storeBox_inv h1 h3 hg hcells hfit
          have hvsz : (a.eval x.op).cells.size = y.cells.length := by omega
          obtain ⟨w', r1, r2, r3, r4, r5, r6, r7⟩ := storeVar_run (P := P) ht (o := off) hcur hvl (by omega) (by rcases hunf with h4 | h4 <;> omega) hones
          refine ⟨w', .inr ⟨?_, rfl⟩, done w' (hrest w' _ _ r2 hunf r3 r4 r5 r6 r7)⟩
          simp [execOp, ho, Instr.storeAt, hadr g hv (by rw [hg]; rfl), Instr.sureAddr, r1]
        · simp at hsb
      · simp at hsb
    split at hst
    · rename_i s e0
      rw [e0] at hA
      refine boxed s 0 hst fun g hv hob => ?_
      have hA2 := hA.2
      simp only [refOK] at hA2
      have := hA2.2 (h3 s [] hob)
      simp only [place, walk, Option.some.injEq] at this
      rw [← this, hv]
    · rename_i s off e0
      rw [e0] at hA
      refine boxed s off hst fun g hv hob => ?_
      have hA2 := hA.2
      simp only [refOK] at hA2
      obtain ⟨g', hv', hr⟩ := hA2.2 (h3 s [] hob)
      rw [hv] at hv'
      cases hv'
      exact hr
    · rename_i s p sz i k e0
      rw [e0] at hA
      unfold storeElem at hst
      split at hst
      · rename_i sz' l hat
        split at hst
        · rename_i z hz
          split at hst
          · rename_i hc2
            obtain ⟨rfl, hk, hpos, himm⟩ := hc2
            cases hst
            have hA2 := hA.2
            simp only [refOK] at hA2
            have hob : (e1.at_ s p).isObj = true := by rw [hat]; rfl
            obtain ⟨g, m, cap, hpl, hr⟩ := hA2.2 (h3 s p hob)
            obtain ⟨cur, tt, fr, hcur, hfit, hunf, hrest⟩ := storeElem_inv h1 h3 hat hz hcells hone himm hk hpos hpl
            have hvsz : (a.eval x.op).cells.size = y.cells.length := by omega
            obtain ⟨w', r1, r2, r3, r4, r5, r6, r7⟩ := storeVar_run (P := P) ht (o := i * sz' + k) hcur hvl (by omega) (by omega) hones
            refine ⟨w', .inr ⟨?_, rfl⟩, done w' (hrest w' r2 r3 r4 r5 r6 r7)⟩
            simp [execOp, ho, Instr.storeAt, hr, Instr.sureAddr, r1]
          · simp at hst
        · simp at hst
      · simp at hst
    · simp at hst
  · simp at hst
end
end Go.AM

/- The operations, continued: literals, rows made and grown, texts, comparisons. No conditions. -/
namespace Go.AM
open Go

/-- What the table of types must say of a struct's or an array's literal. -/
def BuildOK (P : Program) (t : TypeId) (pl : List (Nat × Nat)) (zero : List PV) : Prop :=
  ∃ it z, P.info? t = some it ∧ it.zero = some z ∧ zvL zero = some z.cells.toList ∧
    ((∃ fs, P.underlying t = some (.struct fs) ∧ fs.toList.mapM (fun f => (P.info? f.type).map fun i => (f.offset, i.size)) = some pl) ∨
     (∃ n el ie, P.underlying t = some (.array n el) ∧ P.info? el = some ie ∧ ∀ i o m, pl[i]? = some (o, m) → o = i * ie.size ∧ m = ie.size))

section
variable {P : Program} {B : Base} {a : Act} {H : Nat → Value} {e e' e1 e2 : Env} {w w' : World} {I : Nat → Prop} {blk : Nat → List Nat} {val : Nat → Value}

theorem hasObjL_iff {l : List PV} : PV.hasObjL l = false ↔ ∀ x ∈ l, x.hasObj = false := by
  induction l with
  | nil => simp [PV.hasObjL]
  | cons x r ih => simp [PV.hasObjL, ih]
theorem cells_noObj {x : PV} (h : x.hasObj = false) : ∀ y ∈ x.cells, y.hasObj = false := by
  cases x <;> simp_all [PV.cells, PV.hasObj]
  exact hasObjL_iff.1 h
theorem zvL_noObj {l : List PV} : ∀ {vs : List Value}, zvL l = some vs → ∀ x ∈ l, x.hasObj = false := by
  induction l with
  | nil => intro vs _ x hx; simp at hx
  | cons y r ih =>
    intro vs h x hx
    simp only [zvL, Option.bind_eq_bind, Option.bind_eq_some_iff, Option.pure_def, Option.some.injEq] at h
    obtain ⟨v, hv, vs', hvs, _⟩ := h
    rcases List.mem_cons.1 hx with rfl | hx
    · cases x <;> simp [PV.zv] at hv <;> rfl
    · exact ih hvs x hx
theorem setMany_all (p : PV → Prop) : ∀ (ys cs : List PV) (o : Nat), (∀ x ∈ cs, p x) → (∀ y ∈ ys, p y) → ∀ x ∈ AM.setMany cs o ys, p x
  | [], cs, o, h, _ => h
  | y :: r, cs, o, h, k => setMany_all p r _ _ (fun x hx => (List.mem_or_eq_of_mem_set hx).elim (h x) fun e => e ▸ k y (by simp)) fun z hz => k z (by simp [hz])
theorem fillPV_all (p : PV → Prop) (pl : List (Nat × Nat)) : ∀ (parts : List (Nat × PV)) (cs cs' : List PV), (∀ x ∈ cs, p x) → (∀ q ∈ parts, ∀ y ∈ q.2.cells, p y) → fillPV pl cs parts = some cs' → ∀ x ∈ cs', p x
  | [], cs, cs', h, _, hf => by simp only [fillPV, Option.some.injEq] at hf; subst hf; exact h
  | (i, y) :: r, cs, cs', h, k, hf => by
    simp only [fillPV, Option.bind_eq_bind, Option.bind_eq_some_iff, Prod.exists] at hf
    obtain ⟨o, m, _, hf⟩ := hf
    split at hf
    · exact fillPV_all p pl r _ cs' (setMany_all p _ _ _ h fun z hz => k (i, y) (by simp) z hz) (fun q hq => k q (by simp [hq])) hf
    · simp at hf
theorem foldl_setMany (off : Nat) : ∀ (l : List Value) (k : Nat) (arr : Array Value), ((l.zipIdx k).foldl (fun cs (x : Value × Nat) => cs.setIfInBounds (off + x.2) x.1) arr).toList = setManyV arr.toList (off + k) l
  | [], _, _ => rfl
  | v :: r, k, arr => by
    simp only [List.zipIdx_cons, List.foldl_cons]
    rw [foldl_setMany off r (k + 1)]
    simp [setManyV, Nat.add_assoc]
theorem fill_step (pf : Nat → Option (Nat × Nat)) (cells : Array Value) (i : Nat) (v : Value) (rest : List (Nat × Value)) {o m : Nat} (hp : pf i = some (o, m)) (hv : v.cells.size = m) (hfit : o + m ≤ cells.size) :
    Instr.fill pf cells ((i, v) :: rest) = Instr.fill pf (setManyV cells.toList o v.cells.toList).toArray rest := by
  have h1 : ¬ (v.cells.size ≠ m ∨ o + v.cells.size > cells.size) := by omega
  simp only [Instr.fill, hp]
  have h2 : (v.cells.size ≠ m || decide (o + v.cells.size > cells.size)) = false := by simp [hv]; omega
  simp only [h2, Bool.false_eq_true, if_false]
  congr 1
  apply Array.ext'
  rw [← Array.foldl_toList, Array.toList_zipIdx]
  simpa using foldl_setMany o v.cells.toList 0 cells
theorem fillPV_ok {q : PV → Value → Prop} (hq : ∀ y U, q y U → U.oneCell' = true) (pf : Nat → Option (Nat × Nat)) (pl : List (Nat × Nat)) (hpf : ∀ i o m, pl[i]? = some (o, m) → pf i = some (o, m)) :
    ∀ (parts : List (Nat × PV)) (vparts : List (Nat × Value)) (cs cs' : List PV) (us : List Value), Rs w I q cs us [] → Rs w I q (parts.map (·.2)) (vparts.map (·.2)) [] → parts.map (·.1) = vparts.map (·.1) → fillPV pl cs parts = some cs' →
      ∃ us', Instr.fill pf us.toArray vparts = some us'.toArray ∧ Rs w I q cs' us' []
  | [], vparts, cs, cs', us, h, _, hm, hf => by
    simp only [fillPV, Option.some.injEq] at hf
    subst hf
    have : vparts = [] := by simpa using hm.symm
    subst this
    exact ⟨us, rfl, h⟩
  | (i, x) :: r, vparts, cs, cs', us, h, hp, hm, hf => by
    match vparts, hp, hm with
    | (i', v) :: vr, hp, hm =>
      simp only [List.map_cons, List.cons.injEq] at hm
      obtain ⟨rfl, hm⟩ := hm
      obtain ⟨v0, vs', b1, b2, e0, e1, hx, hr⟩ := hp
      simp only [List.map_cons, List.cons.injEq] at e0
      obtain ⟨rfl, rfl⟩ := e0
      obtain ⟨rfl, rfl⟩ : b1 = [] ∧ b2 = [] := by simpa using e1.symm
      simp only [fillPV, Option.bind_eq_bind, Option.bind_eq_some_iff, Prod.exists] at hf
      obtain ⟨o, m, hpl, hf⟩ := hf
      split at hf
      · rename_i hc
        have hcs := cells_Rs (by rintro rfl; simp [PV.isDead] at hc) hx hq
        have hsz : v.cells.size = m := by
          have : v.cells.size = x.cells.length := by simpa using hcs.length
          omega
        obtain ⟨bs'', dropped, h3, h4⟩ := Rs.setMany (o := o) h hcs (by simp only; omega)
        obtain ⟨rfl, _⟩ : bs'' = [] ∧ dropped = [] := by simpa using h4.symm.eq_nil
        obtain ⟨us', h5, h6⟩ := fillPV_ok hq pf pl hpf r vr _ cs' _ h3 hr hm hf
        refine ⟨us', ?_, h6⟩
        rw [fill_step pf us.toArray i v vr (hpf i o m hpl) hsz (by have := h.length; simp; omega)]
        exact h5
      · simp at hf
theorem run_buildOp (h : Inv B e (refOK e (valOf a H) w) (valOf a H) w I blk []) {o : Oper} {t : TypeId} {pl : List (Nat × Nat)} {zero : List PV} {parts : List (Nat × Opd)} (hx : ∀ p ∈ parts, p.2.ok B.glob) (ho : o.op = .build t (parts.map fun p => (p.1, p.2.op)).toArray) (ht : BuildOK P t pl zero)
    {cs : List PV} (hcs : fillPV pl zero (parts.map fun p => (p.1, p.2.ev e)) = some cs) :
    ∃ V, RunsF P o a V ∧ Yields B (valOf a H) e (.agg cs) V w := by
  obtain ⟨it, z, hit, hz, hzv, hty⟩ := ht
  have hR := evL_ok h (l := parts.map (·.2)) (fun x hx' => by obtain ⟨p, hp, rfl⟩ := List.mem_map.1 hx'; exact hx p hp)
  have key : ∀ pf : Nat → Option (Nat × Nat), (∀ i o m, pl[i]? = some (o, m) → pf i = some (o, m)) → ∃ us, Instr.fill pf z.cells (parts.map fun p => (p.1, a.eval p.2.op)) = some us.toArray ∧ Rs w I (refOK e (valOf a H) w) cs us [] := by
    intro pf hpf
    have := fillPV_ok refOK.oneCell pf pl hpf (parts.map fun p => (p.1, p.2.ev e)) (parts.map fun p => (p.1, a.eval p.2.op)) zero cs z.cells.toList (Rs.ofNope (zvL_Rs hzv)) (by simpa [List.map_map, Function.comp_def] using hR) (by simp [List.map_map, Function.comp_def]) hcs
    simpa using this
  have fin : ∀ us : List Value, P.built t (parts.map fun p => (p.1, a.eval p.2.op)) = some us.toArray → Rs w I (refOK e (valOf a H) w) cs us [] → ∃ V, RunsF P o a V ∧ Yields B (valOf a H) e (.agg cs) V w := by
    intro us h1 h2
    refine ⟨.agg us.toArray, fun w2 => ?_, ?_⟩
    · have hpm : ((parts.map fun p => (p.1, p.2.op)).toArray.map fun (i, x) => (i, a.eval x)) = (parts.map fun p => (p.1, a.eval p.2.op)).toArray := by simp
      simp only [execOp, ho, Sem.run_bind, hpm, run_build w2 t _ _ (by simpa using h1), Result.andThen_ok, Sem.run_pure]
    · refine Yields.of h ?_ ⟨us, rfl, h2⟩
      simp only [PV.hasObj]
      refine hasObjL_iff.2 fun x hx' => ?_
      have hall := fillPV_all (fun x => x.hasObj = false) _ _ _ _ (fun x hx2 => zvL_noObj hzv x hx2) (fun p hp y hy => ?_) hcs
      · exact hall x hx'
      · obtain ⟨p', hp', rfl⟩ := List.mem_map.1 hp
        exact cells_noObj (ev_noObj p'.2) y hy
  rcases hty with ⟨fs, hu, hpl⟩ | ⟨n, el, ie, hu, hie, hpl⟩
  · obtain ⟨us, h1, h2⟩ := key (pl.toArray[·]?) (fun i o m hp => by simpa using hp)
    exact fin us (by unfold Program.built; rw [hit, hu]; simp only [hz, hpl]; exact h1) h2
  · obtain ⟨us, h1, h2⟩ := key (fun i => some (i * ie.size, ie.size)) (fun i o m hp => by obtain ⟨rfl, rfl⟩ := hpl i o m hp; rfl)
    exact fin us (by simp [Program.built, hit, hu, hz, hie, h1]) h2
end
end Go.AM

/- The operations, continued: rows made by literals and make, rows grown. No conditions. -/
namespace Go.AM
open Go

section
variable {P : Program} {B : Base} {a : Act} {H : Nat → Value} {e e' e1 e2 : Env} {w w' : World} {I : Nat → Prop} {blk : Nat → List Nat} {val : Nat → Value}

theorem freeze_cells {x : PV} : x.freeze.cells.length = x.cells.length := by
  cases x <;> simp [PV.freeze, PV.cells, freezeL_length]
theorem freeze_dead {x : PV} (h : x.freeze.imm = true) : x ≠ .dead := by rintro rfl; simp [PV.freeze, PV.imm] at h
theorem frozen_sizes {sz : Nat} : ∀ {ys : List PV} {vs : List Value} {bs : List Nat}, Rs w I nope ys vs bs → PV.immL (PV.freezeL ys) = true → (∀ z ∈ PV.freezeL ys, z.cells.length = sz) → ∀ v ∈ vs, v.cells.size = sz
  | [], _, _, h, _, _ => by rw [h.1]; simp
  | y :: r, _, _, h, hi, hs => by
    obtain ⟨v, us, b1, b2, rfl, rfl, h1, h2⟩ := h
    simp only [PV.freezeL, PV.immL, Bool.and_eq_true] at hi
    intro u hu
    rcases List.mem_cons.1 hu with rfl | hu
    · rw [R.cells_length (freeze_dead hi.1) nope_oneCell h1, ← freeze_cells]
      exact hs _ (by simp [PV.freezeL])
    · exact frozen_sizes h2 hi.2 (fun z hz => hs z (by simp [PV.freezeL, hz])) u hu
theorem run_lit (h : Inv B e (refOK e (valOf a H) w) (valOf a H) w I blk []) {o : Oper} {t el : TypeId} {sz : Nat} {parts : List Opd} (hx : ∀ p ∈ parts, p.ok B.glob) (ho : o.op = .buildSlice t parts.length (parts.zipIdx.map fun p => (p.2, p.1.op)).toArray)
    (ht : P.underlying t = some (.slice el)) {ie : TypeInfo} {z : Value} (hie : P.info? el = some ie) (hz : ie.zero = some z) (hsz : ie.size = sz) (hpos : 0 < sz) (hsmall : parts.length * sz ≤ 2 ^ 24)
    {ys : List PV} (hs : settleP e (parts.map fun p => p.ev e) = some (ys, e1)) (hall : ∀ x ∈ PV.freezeL ys, x.cells.length = sz) (himm : PV.immL (PV.freezeL ys) = true) :
    ∃ V w', RunsTo P o a w V w' ∧ Yields B (valOf a H) e1 (.own sz (PV.freezeL ys)) V w' := by
  obtain ⟨blk1, bs, h1, h2, h3⟩ := settleP_ok h (evL_ok h hx) hs
  have k1 := Inv.frozen (fl := []) (bs := bs) h1
  have hys := Rs.frozen (I' := fun b => I b ∨ b ∈ bs) (fun b hb => .inl hb) ys _ bs himm (fun b hb => .inr hb) h2
  have hsizes := frozen_sizes h2 himm hall
  have hlen : (PV.freezeL ys).length = parts.length := by
    have := hys.length
    simp at this
    omega
  generalize hvs : (parts.map fun x => a.eval x.op) = vs at h2 hys hsizes
  have hvl : vs.length = parts.length := by rw [← hvs]; simp
  have hval : ((parts.zipIdx.map fun p => (p.2, p.1.op)).toArray.map fun (i, x) => (i, a.eval x)).toList = (vs.zipIdx 0).map fun x => (x.2, x.1) := by
    rw [← hvs]
    simp [List.zipIdx_map, Function.comp_def]
  have hbuild : (Instr.buildSlice t parts.length ((parts.zipIdx.map fun p => (p.2, p.1.op)).toArray.map fun (i, x) => (i, a.eval x))).run P w = .ok (.slice (some ⟨w.heap.size, 0, none⟩) parts.length parts.length) (w.alloc (.cells (flatV vs).toArray el)) := by
    by_cases hn : parts.length = 0
    · have hv0 : vs = [] := List.eq_nil_of_length_eq_zero (by omega)
      have hp0 : parts = [] := List.eq_nil_of_length_eq_zero hn
      subst hv0 hp0
      simp [Instr.buildSlice, run_underlying ht, sizeOf, typeInfo, hie, newRow, Instr.fill, flatV, Array.range_zero']
    · have hfill := Great.fill_whole hpos vs ((Array.range (parts.length * sz)).map (z.cells[· % z.cells.size]!)) hsizes (by simp [hvl])
      refine run_buildSlice w t el parts.length _ _ ie z ht hie hz (by rw [hsz]; omega) (by rw [hsz]; exact Nat.mul_ne_zero hn (by omega)) ?_
      rw [hsz, hval]
      exact hfill
  refine ⟨.slice (some ⟨w.heap.size, 0, none⟩) parts.length parts.length, w.alloc (.cells (flatV vs).toArray el), .inl (by simp only [execOp, ho, Sem.run_bind, hbuild, Result.andThen_ok, Sem.run_pure]), _, blk1, [w.heap.size], (k1.alloc _).fresh h3 k1 fun b hb _ => alloc_keeps w _ b hb, .inl ?_⟩
  have hI : ∀ b, (I b ∨ b ∈ bs) → (w.alloc (.cells (flatV vs).toArray el)).heap[b]? = w.heap[b]? := fun b hb => alloc_keeps w _ b (k1.ltI b hb)
  have hfl := flatV_length hsizes
  refine ⟨fun x hx' => ⟨hall x hx', immL_iff.1 himm x hx'⟩, .inr ⟨w.heap.size, vs, rfl, Rs.mono (fun _ h => h) hI _ nope nope (fun _ _ h => h) _ _ (by simp) hys, parts.length, _, el, (0, 0), by rw [hlen], heap_alloc_new w _, by omega, ?_, ?_, .inl rfl, ?_⟩⟩
  · have : parts.length ≤ parts.length * sz := Nat.le_mul_of_pos_right _ hpos
    simp only [maxLen]
    omega
  · simp [hfl, hvl]
  · rw [hlen, ← hvl, ← hfl]
    simp

def ZeroV (zero : PV) (z : Value) : Prop := zero.zv = some z ∨ ∃ cs arr, zero = .agg cs ∧ z = .agg arr ∧ zvL cs = some arr.toList
theorem ZeroV.R {zero : PV} {z : Value} (h : ZeroV zero z) : AM.R w I nope zero z [] := by
  rcases h with h | ⟨cs, arr, rfl, rfl, h⟩
  · exact zv_R h
  · exact ⟨arr.toList, by simp, zvL_Rs h⟩
theorem Rs_replicate {x : PV} {V : Value} (h : R w I nope x V []) (n : Nat) : Rs w I nope (List.replicate n x) (List.replicate n V) [] := by
  induction n with
  | zero => exact ⟨rfl, rfl⟩
  | succ n ih => exact ⟨V, _, [], [], rfl, rfl, h, ih⟩
theorem madeCells_flat (z : Value) (n : Nat) : (madeCells z.cells (n * z.cells.size)).toList = flatV (List.replicate n z) := by
  have hs : ∀ v ∈ List.replicate n z, v.cells.size = z.cells.size := fun v hv => by rw [(List.mem_replicate.1 hv).2]
  apply List.ext_getElem?
  intro j
  by_cases hj : j < n * z.cells.size
  · have hpos : 0 < z.cells.size := by
      rcases Nat.eq_zero_or_pos z.cells.size with h0 | h0
      · rw [h0] at hj; omega
      · exact h0
    have h1 : j / z.cells.size < n := (Nat.div_lt_iff_lt_mul hpos).2 hj
    have h2 : j % z.cells.size < z.cells.size := Nat.mod_lt _ hpos
    have h3 := flatV_get hs (i := j / z.cells.size) (v := z) (by simp [h1]) (k := j % z.cells.size) (u := z.cells[j % z.cells.size]) (by simp)
    rw [Nat.div_add_mod' j z.cells.size] at h3
    rw [h3]
    simp [madeCells, hj, h2]
  · rw [List.getElem?_eq_none (by simp [madeCells]; omega), List.getElem?_eq_none (by rw [flatV_length hs]; simp; omega)]
theorem run_mk (h : Inv B e (refOK e (valOf a H) w) (valOf a H) w I blk []) {o : Oper} {t el : TypeId} {sz bytes : Nat} {zero : PV} {l c : Opd} (hl : l.ok B.glob) (hc : c.ok B.glob) (ho : o.op = .makeSlice t l.op c.op)
    (ht : P.underlying t = some (.slice el)) {ie : TypeInfo} {z : Value} (hie : P.info? el = some ie) (hz : ie.zero = some z) (hsz : ie.size = sz) (hby : ie.bytes = bytes) (hzero : ZeroV zero z) (hzs : zero.cells.length = sz) (himm : zero.imm = true)
    {n m : Int} (el1 : l.ev e = .v (.int .i64 n)) (el2 : c.ev e = .v (.int .i64 m)) (h0 : 0 ≤ n) (hnm : n ≤ m) (hb : m * bytes ≤ 281474976710656) (hn : m ≤ 4611686018427387904) :
    ∃ V w', RunsTo P o a w V w' ∧ Yields B (valOf a H) e (.own sz (List.replicate n.toNat zero)) V w' := by
  have e1 : a.eval l.op = .int .i64 n := by have := ev_ok h hl; rw [el1] at this; exact this.1
  have e2 : a.eval c.op = .int .i64 m := by have := ev_ok h hc; rw [el2] at this; exact this.1
  have hr := run_make (P := P) w t el ie z ht hie hz .i64 .i64 n m h0 hnm (by rw [hby, Int.mul_comm]; exact hb) (by omega)
  have hzR : ∀ (w : World) (I : Nat → Prop), R w I nope zero z [] := fun w I => hzero.R
  have hzsz : z.cells.size = sz := by rw [R.cells_length (imm_ne_dead himm) nope_oneCell (hzR w I), hzs]
  refine ⟨.slice (some ⟨w.heap.size, 0, none⟩) n.toNat m.toNat, w.alloc (.cells (madeCells z.cells (m.toNat * ie.size)) el), .inl (by simp only [execOp, ho, e1, e2, Sem.run_bind, hr, Result.andThen_ok, Sem.run_pure]), I, blk, [w.heap.size], (h.alloc _).fresh (Weak.refl _) h fun b hb _ => alloc_keeps w _ b hb, .inl ?_⟩
  rw [hsz, ← hzsz]
  refine ⟨fun x hx => ?_, .inr ⟨w.heap.size, List.replicate n.toNat z, rfl, Rs_replicate (hzR _ _) _, m.toNat, _, el, (0, 0), by simp, heap_alloc_new w _, by simp; omega, ?_, ?_, .inl rfl, ?_⟩⟩
  · rw [(List.mem_replicate.1 hx).2]
    exact ⟨by omega, himm⟩
  · simp only [maxLen]
    omega
  · simp [size_madeCells]
  · rw [← madeCells_flat]
    simp only [List.length_replicate]
    have hnm' : n.toNat ≤ m.toNat := by omega
    rw [madeCells_flat, madeCells_flat]
    have hs : ∀ k, ∀ v ∈ List.replicate k z, v.cells.size = z.cells.size := fun k v hv => by rw [(List.mem_replicate.1 hv).2]
    rw [flatV_take (hs _), List.take_replicate, Nat.min_eq_left hnm']

/-! ### Rows grown -/
/-- Appending to what is owned. -/
theorem append_own {sz bytes : Nat} {t u ty el : TypeId} {ie : TypeInfo} {z : Value} (ht : P.underlying t = some (.slice el)) (hu : P.underlying u = some (.slice el) ∨ P.underlying u = some .string) (hie : P.info? el = some ie) (hz : ie.zero = some z) (hsz : ie.size = sz) (hby : ie.bytes = bytes) (hzs : z.cells.size = sz)
    {l ys : List PV} {V Y : Value} {bs : List Nat} (hV : R w I nope (.own sz l) V bs) {vy : List Value} (hys : SzOk sz ys) (hry : Rs w I nope ys vy []) (hlen : (Builtin.lenOf Y).run P w = .ok ys.length w)
    (hfirst : ∀ w' : World, w'.heap = w.heap → (Builtin.firstCells sz ys.length Y).run P w' = .ok (flatV vy).toArray w') (hone : ∀ v ∈ flatV vy, v.oneCell' = true)
    (hroom : (l.length + ys.length) * bytes ≤ 140737488355328) (h62 : l.length + ys.length ≤ 4611686018427387904) (hIb : ∀ b, I b → b ∉ bs) (hIlt : ∀ b, I b → b < w.heap.size) :
    ∃ V' w' bs', (Builtin.append_ #[t, u] ty #[V, Y]).run P w = .ok V' w' ∧ (∀ b, b < w.heap.size → b ∉ bs → w'.heap[b]? = w.heap[b]?) ∧ w.heap.size ≤ w'.heap.size ∧ w'.os = w.os ∧ w'.tape = w.tape ∧ w'.output = w.output ∧
      ((bs' = bs) ∨ (bs' = [w.heap.size] ∧ w.heap.size < w'.heap.size)) ∧ R w' I nope (.own sz (l ++ ys)) V' bs' := by
  have hysz := SzOk.sizes hys hry
  have hfl := flatV_length hysz
  have hvyl : vy.length = ys.length := hry.length
  have hboth : SzOk sz (l ++ ys) := hV.1.append hys
  have grow : ∀ (ad : Option Addr) (cap : Nat) (vl : List Value), V = .slice ad l.length cap → Rs w I nope l vl [] → cap < l.length + ys.length → (∀ w' : World, w'.heap = w.heap → (Builtin.firstCells sz l.length V).run P w' = .ok (flatV vl).toArray w') →
      ∃ V' w' bs', (Builtin.append_ #[t, u] ty #[V, Y]).run P w = .ok V' w' ∧ (∀ b, b < w.heap.size → b ∉ bs → w'.heap[b]? = w.heap[b]?) ∧ w.heap.size ≤ w'.heap.size ∧ w'.os = w.os ∧ w'.tape = w.tape ∧ w'.output = w.output ∧
        ((bs' = bs) ∨ (bs' = [w.heap.size] ∧ w.heap.size < w'.heap.size)) ∧ R w' I nope (.own sz (l ++ ys)) V' bs' := by
    intro ad cap vl hVe hrl hcap hfo
    subst hVe
    have hn : ¬ (l.length + ys.length ≤ cap) := by omega
    have h63' : ¬ (9223372036854775807 < ((l.length : Int) + (ys.length : Int))) := by omega
    have hfit : Builtin.nextslicecap (l.length + ys.length) cap * bytes ≤ 281474976710656 := growslice_fits (by omega) hroom
    have h48' : ¬ (281474976710656 < Builtin.nextslicecap (l.length + ys.length) cap * bytes) := by omega
    have hge := grownCap_ge w (l.length + ys.length) cap el
    have hcm : grownCap w (l.length + ys.length) cap el ≤ maxLen := grownCap_le_maxLen w _ cap el (by simp only [maxLen]; omega)
    have hvlsz := SzOk.sizes hV.1 hrl
    have hfl2 := flatV_length hvlsz
    have hvll : vl.length = l.length := hrl.length
    have h1 := hfo w.drew rfl
    have h2 := hfirst w.drew rfl
    refine ⟨.slice (some ⟨w.heap.size, 0, none⟩) (l.length + ys.length) (grownCap w (l.length + ys.length) cap el), w.drew.alloc (.cells ((flatV vl).toArray ++ (flatV vy).toArray ++ Builtin.zeroCells z.cells (grownCap w (l.length + ys.length) cap el - (l.length + ys.length))) el), [w.heap.size], ?_, fun b hb _ => heap_alloc_old w.drew _ hb, by simp, rfl, rfl, rfl, .inr ⟨rfl, by simp⟩, ?_⟩
    · subst hsz hby
      rcases hu with hu | hu <;>
      simp [Builtin.append_, run_underlying ht, run_underlying hu, sizeOf, typeInfo, hie, hlen, hn, h63', h48', Question.forced, h1, h2, zeroValue, hz, newRow, grownCap] <;>
      (congr 2; apply Array.ext'; simp [List.append_assoc])
    · refine ⟨hboth, .inr ⟨w.heap.size, vl ++ vy, rfl, ?_, grownCap w (l.length + ys.length) cap el, _, el, (0, 0), by simp, heap_alloc_new w.drew _, by simpa using hge, hcm, ?_, .inl rfl, ?_⟩⟩
      · exact Rs.mono (w := w) (fun _ h => h) (fun b hb => heap_alloc_old w.drew _ (hIlt b hb)) _ nope nope (fun _ _ h => h) _ _ (by simp) (show Rs w I nope (l ++ ys) (vl ++ vy) [] from hrl.append hry)
      · simp only [Array.size_append, List.size_toArray, size_zeroCells, hzs, hfl, hfl2, hvll, hvyl, ← Nat.add_mul]
        refine Nat.mul_le_mul_right _ ?_
        omega
      · rw [flatV_append]
        simp only [Array.toList_append, List.length_append]
        rw [List.take_append_of_le_length (by simp [hfl, hfl2, hvll, hvyl, Nat.add_mul])]
        rw [List.take_of_length_le (by simp [hfl, hfl2, hvll, hvyl, Nat.add_mul])]
  rcases id hV with ⟨hs, ⟨rfl, rfl, rfl⟩ | ⟨g, vl, rfl, hrl, cap, cur, tt, fr, rfl, hcur, hnc, hcm, hfit, hunf, htake⟩⟩
  · by_cases hy0 : ys.length = 0
    · have hy : ys = [] := List.eq_nil_of_length_eq_zero hy0
      subst hy
      refine ⟨.slice none 0 0, w, [], ?_, fun _ _ _ => rfl, Nat.le_refl _, rfl, rfl, rfl, .inl rfl, hV⟩
      have h2 := hfirst w rfl
      simp only [List.length_nil] at hlen h2
      rcases hu with hu | hu <;>
      simp [Builtin.append_, run_underlying ht, run_underlying hu, sizeOf, typeInfo, hie, hlen, hsz, h2]
    · exact grow none 0 [] rfl ⟨rfl, rfl⟩ (by simp; omega) (fun w' _ => by simp [Builtin.firstCells, flatV])
  · have hcells : ∀ w' : World, w'.heap = w.heap → CellsAt w' ⟨g, 0, none⟩ (flatV vl) := by
      intro w' hw j u hu
      have hadd : (⟨g, 0, none⟩ : Addr).add j = ⟨g, j, none⟩ := by unfold Addr.add; split <;> simp_all
      rw [hadd, cell_of_row w' g j cur tt fr (by rw [hw]; exact hcur)]
      rw [← htake, List.getElem?_take] at hu
      split at hu
      · simpa using hu
      · cases hu
    have hvlsz := SzOk.sizes hs hrl
    have hfl2 := flatV_length hvlsz
    have hvll : vl.length = l.length := hrl.length
    by_cases hroom2 : l.length + ys.length ≤ cap
    · have hle : (l.length + ys.length) * sz ≤ cap * sz := Nat.mul_le_mul_right _ hroom2
      rw [Nat.add_mul] at hle
      obtain ⟨w', r1, r2, r3, r4, r5, r6, r7⟩ := run_storeCells_free (P := P) g (l.length * sz) tt fr (flatV vy) 0 cur w hcur (by rw [hfl, hvyl]; omega) (by rw [hfl, hvyl]; rcases hunf with h1 | h1 <;> omega) hone
      refine ⟨.slice (some ⟨g, 0, none⟩) (l.length + ys.length) cap, w', [g], ?_, fun b _ hb => r4 b (by simpa using hb), by omega, r5, r6, r7, .inl rfl, hboth, .inr ⟨g, vl ++ vy, rfl, ?_, cap, _, tt, fr, by simp, r2, by simpa using hroom2, hcm, ?_, hunf, ?_⟩⟩
      · have h2 := hfirst w rfl
        subst hsz
        rcases hu with hu | hu <;>
        simp [Builtin.append_, run_underlying ht, run_underlying hu, sizeOf, typeInfo, hie, hlen, hroom2, h2, Addr.add_lit, r1]
      · refine Rs.mono (fun _ h => h) (fun b hb => r4 b (fun e => hIb b hb (by simp [e]))) _ nope nope (fun _ _ h => h) _ _ (by simp) (show Rs w I nope (l ++ ys) (vl ++ vy) [] from hrl.append hry)
      · simpa [setManyV_length] using hfit
      · rw [flatV_append]
        have hX : cur.toList = flatV vl ++ (cur.toList.drop (l.length * sz)) := by rw [← htake, List.take_append_drop]
        have hXl : (flatV vl).length = l.length * sz := by rw [hfl2, hvll]
        rw [hX]
        simp only [Nat.add_zero]
        have := setManyV_append (flatV vl) (flatV vy) (cur.toList.drop (l.length * sz)) [] 0 (by simp [hfl, hvyl]; omega)
        simp only [List.append_nil, Nat.add_zero] at this
        rw [← hXl] at this ⊢
        rw [this]
        have hset : ∀ (vs us : List Value), vs.length ≤ us.length → setManyV us 0 vs = vs ++ us.drop vs.length := by
          intro vs us hle2
          have key : ∀ (vs us pre : List Value), vs.length ≤ us.length → setManyV (pre ++ us) pre.length vs = pre ++ (vs ++ us.drop vs.length) := by
            intro vs
            induction vs with
            | nil => intro us pre _; simp [setManyV]
            | cons v r ih =>
              intro us pre hle3
              match us, hle3 with
              | u :: ur, hle3 =>
                simp only [setManyV, List.length_cons] at hle3 ⊢
                have h1 : (pre ++ u :: ur).set pre.length v = (pre ++ [v]) ++ ur := by
                  rw [List.set_append_right _ _ (Nat.le_refl _), Nat.sub_self]
                  simp
                have h2 := ih ur (pre ++ [v]) (by omega)
                simp only [List.length_append, List.length_singleton] at h2
                rw [h1, h2]
                simp
          simpa using key vs us [] hle2
        rw [hset _ _ (by simp [hfl, hvyl]; omega)]
        simp only [List.length_append, Nat.add_mul]
        rw [show l.length * sz + ys.length * sz = (flatV vl).length + (flatV vy).length by rw [hXl, hfl, hvyl], ← List.append_assoc, ← List.length_append]
        exact List.take_left
    · exact grow _ cap vl rfl hrl (by omega) (fun w' hw => run_firstCells_some w' sz l.length _ l.length cap (flatV vl) (by rw [hfl2, hvll]) (hcells w' hw))
end
end Go.AM

/- The operations, continued: append, conversions, parts of values. No conditions. -/
namespace Go.AM
open Go

section
variable {P : Program} {B : Base} {a : Act} {H : Nat → Value} {e e' e1 e2 : Env} {w w' : World} {I : Nat → Prop} {blk : Nat → List Nat} {fl : List Nat} {val : Nat → Value}

/-- What floats was changed by an operation, and is the operation's value. -/
theorem Yields.grown (h : Inv B e1 (refOK e val w) val w I blk fl) (hw : Weak e1 e) {w' : World} (hsame : ∀ b, b < w.heap.size → b ∉ fl → w'.heap[b]? = w.heap[b]?) (hsize : w.heap.size ≤ w'.heap.size) (hos : w'.os = w.os) (htape : w'.tape = w.tape) (hout : w'.output = w.output)
    {bs' : List Nat} (hbs : bs' = fl ∨ (bs' = [w.heap.size] ∧ w.heap.size < w'.heap.size)) {y : PV} {V : Value} (hR : R w' I nope y V bs') : Yields B val e1 y V w' := by
  rcases hbs with rfl | ⟨rfl, hlt⟩
  · have k := h.world (w' := w') hos htape hout hsize hsame [] (by simp) (by simp)
    refine ⟨I, blk, bs', k.finish hw fun s p ho => place_same h hsame (PV.path_of_obj p _ ho), .inl hR⟩
  · have k := h.world (w' := w') hos htape hout hsize hsame [w.heap.size] (by simpa using hlt) (by simp)
    exact ⟨I, blk, [w.heap.size], (k.finish hw fun s p ho => place_same h hsame (PV.path_of_obj p _ ho)).fl_drop (by simp), .inl hR⟩

theorem freeze_os (w : World) (a : Addr) (n : Nat) : (w.freeze a n).os = w.os := by unfold World.freeze; split <;> rfl
theorem freeze_tape (w : World) (a : Addr) (n : Nat) : (w.freeze a n).tape = w.tape := by unfold World.freeze; split <;> rfl
theorem freeze_output (w : World) (a : Addr) (n : Nat) : (w.freeze a n).output = w.output := by unfold World.freeze; split <;> rfl
theorem byteList_length (s : ByteArray) : (byteList s).length = s.size := by simp [byteList]
theorem byteList_Rs (s : ByteArray) : Rs w I nope (byteList s) (Lib.strCells s) [] := by
  unfold byteList Lib.strCells
  induction s.data.toList with
  | nil => exact ⟨rfl, rfl⟩
  | cons b r ih => exact ⟨_, _, [], [], rfl, rfl, ⟨rfl, rfl, rfl⟩, ih⟩
theorem byteList_sz (s : ByteArray) : SzOk 1 (byteList s) := by
  intro x hx
  simp only [byteList, List.mem_map] at hx
  obtain ⟨b, _, rfl⟩ := hx
  exact ⟨rfl, rfl⟩
theorem flat_strCells (s : ByteArray) : flatV (Lib.strCells s) = Lib.strCells s := by
  unfold flatV Lib.strCells
  induction s.data.toList with
  | nil => rfl
  | cons b r ih => simp only [List.map_cons, List.flatMap_cons, ih]; rfl
/-- What is appended. -/
theorem more_ok (h : Inv B e (refOK e (valOf a H) w) (valOf a H) w I blk []) {txt : Bool} {y : Opd} (hy : y.ok B.glob) {sz : Nat} {ys : List PV} (hm : moreOf e txt (y.ev e) = some (sz, ys)) :
    ∃ vy, SzOk sz ys ∧ Rs w I nope ys vy [] ∧ (Builtin.lenOf (a.eval y.op)).run P w = .ok ys.length w ∧ (∀ w' : World, w'.heap = w.heap → (Builtin.firstCells sz ys.length (a.eval y.op)).run P w' = .ok (flatV vy).toArray w') := by
  have h1 := ev_ok h hy
  unfold moreOf at hm
  split at hm
  · split at hm
    · rename_i s e0
      cases hm
      rw [e0] at h1
      rw [h1.1]
      refine ⟨Lib.strCells s, byteList_sz s, byteList_Rs s, by simp [Builtin.lenOf, byteList_length], fun w' _ => ?_⟩
      rw [byteList_length, flat_strCells]
      exact Lib.run_firstCells_string w' 1 s
    · simp at hm
  · obtain ⟨hs, ad, cap, vs, hV, _, hr, hc⟩ := elems_ok h h1 hm
    rw [hV]
    refine ⟨vs, hs, hr, by simp [Builtin.lenOf], fun w' hw => ?_⟩
    have hfl := flatV_length (SzOk.sizes hs hr)
    rcases hc with rfl | ⟨A, rfl, hA, hb, hcells⟩
    · obtain ⟨rfl, _⟩ := hr
      cases ad with
      | none => simp [Builtin.firstCells, flatV]
      | some A => simp [Builtin.firstCells, flatV, loadCells, loadCellsFrom]
    · refine run_firstCells_some w' sz ys.length A ys.length cap (flatV vs) (by rw [hfl, hr.length]) fun j v hj => ?_
      rw [World.cell?_of_block (w := w) (by rw [hw])]
      exact hcells j v hj
theorem run_append (h : Inv B e (refOK e (valOf a H) w) (valOf a H) w I blk []) {o : Oper} {t u el : TypeId} {txt : Bool} {sz bytes : Nat} {x y : Opd} (hx : x.ok B.glob) (hy : y.ok B.glob) (ho : o.op = .call { callee := .builtin .append, args := #[x.op, y.op], argTypes := #[t, u] })
    (ht : P.underlying t = some (.slice el)) (hu : P.underlying u = some (.slice el) ∨ P.underlying u = some .string) {ie : TypeInfo} {z : Value} (hie : P.info? el = some ie) (hz : ie.zero = some z) (hsz : ie.size = sz) (hby : ie.bytes = bytes) (hzs : z.cells.size = sz)
    {r : PV} (hr : appendPV e txt sz bytes (x.ev e) (y.ev e) = some (r, e1)) (hone : ∀ ys vy, moreOf e txt (y.ev e) = some (sz, ys) → Rs w I nope ys vy [] → ∀ v ∈ flatV vy, v.oneCell' = true) :
    ∃ V w', RunsTo P o a w V w' ∧ Yields B (valOf a H) e1 r V w' := by
  unfold appendPV at hr
  simp only [Option.bind_eq_some_iff] at hr
  obtain ⟨⟨s1, l⟩, hel, ⟨s2, ys⟩, hmore, hr⟩ := hr
  simp only at hr
  split at hr
  · rename_i hc
    obtain ⟨rfl, rfl, hroom, h62⟩ := hc
    obtain ⟨vy, hys, hry, hlen, hfirst⟩ := more_ok (P := P) h hy hmore
    have hX := ev_ok h hx
    have fin : ∀ (e1' : Env) (blk1 : Nat → List Nat) (bs : List Nat), Inv B e1' (refOK e (valOf a H) w) (valOf a H) w I blk1 (bs ++ []) → Weak e1' e → R w I nope (.own s2 l) (a.eval x.op) bs → ∃ V w', RunsTo P o a w V w' ∧ Yields B (valOf a H) e1' (.own s2 (l ++ ys)) V w' := by
      intro e1' blk1 bs k1 k2 k3
      simp only [List.append_nil] at k1
      obtain ⟨V', w', bs', r1, r2, r3, r4, r5, r6, r7, r8⟩ := append_own (P := P) (ty := o.type) ht hu hie hz hsz hby hzs k3 hys hry hlen hfirst (hone ys vy hmore hry) hroom h62 (fun b hb hb' => k1.notIf b hb' hb) k1.ltI
      refine ⟨V', w', .inl ?_, Yields.grown k1 k2 r2 r3 r4 r5 r6 r7 r8⟩
      simp only [execOp, ho, resolve, invoke, builtin, Sem.run_bind, Sem.run_pure, Result.andThen_ok, List.map_toArray, List.map_cons, List.map_nil, r1]
    unfold appendTo at hr
    split at hr
    · rename_i sz0 e0
      cases hr
      rw [e0] at hel hX
      simp only [elems, Option.some.injEq, Prod.mk.injEq] at hel
      obtain ⟨rfl, rfl⟩ := hel
      have := fin e blk [] (by simpa using h) (Weak.refl _) (by rw [hX.1]; exact ⟨fun x hx => by simp at hx, .inl ⟨rfl, rfl, rfl⟩⟩)
      simpa using this
    · rename_i s p e0
      cases hr
      rw [e0] at hel hX
      simp only [elems] at hel
      split at hel
      · rename_i sz' l' hat
        simp only [Option.some.injEq, Prod.mk.injEq] at hel
        obtain ⟨rfl, rfl⟩ := hel
        obtain ⟨blk1, bs, k1, k2, k3⟩ := settle1_ok h (y := .own sz' l') (e' := e.setAt s p .dead) hX (by simp [settle1, hat])
        exact fin _ blk1 bs k1 k3 k2
      · simp at hel
    · rename_i s p sw lo hi e0
      split at hr
      · rename_i hlo
        cases hr
        subst hlo
        rw [e0] at hel hX
        simp only [elems] at hel
        split at hel
        · rename_i sz' l' hat
          split at hel
          · rename_i hsw
            subst hsw
            simp only [Option.some.injEq, Prod.mk.injEq, List.drop_zero] at hel
            obtain ⟨rfl, rfl⟩ := hel
            obtain ⟨blk1, bs, k1, k2, k3⟩ := settle1_ok h (y := .own sz' (l'.take hi)) (e' := e.setAt s p .dead) hX (by simp [settle1, hat])
            exact fin _ blk1 bs k1 k3 k2
          · simp at hel
        · simp at hel
      · simp at hr
    · simp at hr
  · simp at hr
/-- Elements' cells are cells. -/
theorem imm_cells_one : ∀ {x : PV} {V : Value}, x.imm = true → R w I nope x V [] → ∀ v ∈ V.cells.toList, v.oneCell' = true := by
  intro x V hi h
  refine Rs.one_cells ?_ (cells_Rs (imm_ne_dead hi) h nope_oneCell)
  cases x <;> simp_all [PV.imm, PV.cells, PV.one]
theorem flat_one {ys : List PV} : ∀ {vy : List Value}, Rs w I nope ys vy [] → (∀ x ∈ ys, x.imm = true) → ∀ v ∈ flatV vy, v.oneCell' = true := by
  induction ys with
  | nil => intro vy h _ v hv; rw [h.1] at hv; simp [flatV] at hv
  | cons x r ih =>
    intro vy h ho v hv
    obtain ⟨u, us, b1, b2, rfl, e0, h1, h2⟩ := h
    obtain ⟨rfl, rfl⟩ : b1 = [] ∧ b2 = [] := by simpa using e0.symm
    simp only [flatV, List.flatMap_cons, List.mem_append] at hv
    rcases hv with hv | hv
    · exact imm_cells_one (ho x (by simp)) h1 v hv
    · exact ih h2 (fun y hy => ho y (by simp [hy])) v hv

/-! ### Conversions -/
theorem bytesOf_ok : ∀ {l : List PV} {bs : List UInt8} {vs : List Value}, bytesOfPV l = some bs → Rs w I nope l vs [] → ∃ ns : List Int, vs = ns.map (Value.int .u8) ∧ bs = ns.map fun n => UInt8.ofNat n.toNat
  | [], bs, vs, h, hr => by
    simp only [bytesOfPV, Option.some.injEq] at h
    exact ⟨[], hr.1, h.symm⟩
  | x :: r, bs, vs, h, hr => by
    simp only [bytesOfPV, Option.bind_eq_bind, Option.bind_eq_some_iff, Option.pure_def, Option.some.injEq] at h
    obtain ⟨b, hb, bs', hbs, rfl⟩ := h
    obtain ⟨v, us, b1, b2, rfl, e0, h1, h2⟩ := hr
    obtain ⟨rfl, rfl⟩ : b1 = [] ∧ b2 = [] := by simpa using e0.symm
    obtain ⟨ns, rfl, rfl⟩ := bytesOf_ok hbs h2
    unfold byteOfPV at hb
    split at hb
    · rename_i n
      cases hb
      rw [h1.1]
      exact ⟨n :: ns, rfl, rfl⟩
    · simp at hb
def ConvOK (P : Program) (src dst : TypeId) : ConvK → Prop
  | .int k => (∃ d, P.underlying src = some d) ∧ P.underlying dst = some (.int k)
  | .same => (∃ d, P.underlying src = some d) ∧ P.underlying dst = some .string
  | .rune => (∃ d, P.underlying src = some d) ∧ P.underlying dst = some .string
  | .bytes => ∃ el, P.underlying src = some (.slice el) ∧ P.underlying el = some (.int .u8) ∧ P.underlying dst = some .string
  | .toBytes => (∃ d, P.underlying src = some d) ∧ ∃ el, P.underlying dst = some (.slice el) ∧ P.underlying el = some (.int .u8)
  | .flt k => (∃ d, P.underlying src = some d) ∧ P.underlying dst = some (.float k)
  | .fint k => (∃ d, P.underlying src = some d) ∧ P.underlying dst = some (.int k)
theorem run_conv (h : Inv B e (refOK e (valOf a H) w) (valOf a H) w I blk []) {o : Oper} {src dst : TypeId} {k : ConvK} {x : Opd} (hx : x.ok B.glob) (ho : o.op = .convert src dst x.op) (ht : ConvOK P src dst k) {r : PV} (hr : conv e k (x.ev e) = some r) :
    ∃ V w', RunsTo P o a w V w' ∧ Yields B (valOf a H) e r V w' := by
  have h1 := ev_ok h hx
  unfold conv at hr
  split at hr
  · rename_i k
    obtain ⟨⟨d, hd⟩, hdst⟩ := ht
    split at hr
    · rename_i k' n e0
      cases hr
      rw [e0] at h1
      exact ⟨_, w, .inl (by simp [execOp, ho, h1.1, convert, run_underlying hd, run_underlying hdst, Conv.intToInt]), Yields.plain h (V := .int k (k.wrap n)) rfl⟩
    · simp at hr
  · obtain ⟨⟨d, hd⟩, hdst⟩ := ht
    split at hr
    · rename_i s e0
      cases hr
      rw [e0] at h1
      exact ⟨_, w, .inl (by simp [execOp, ho, h1.1, convert, run_underlying hd, run_underlying hdst]), Yields.plain h (V := .string s) rfl⟩
    · simp at hr
  · obtain ⟨⟨d, hd⟩, hdst⟩ := ht
    split at hr
    · rename_i k' n e0
      cases hr
      rw [e0] at h1
      exact ⟨_, w, .inl (by simp [execOp, ho, h1.1, convert, run_underlying hd, run_underlying hdst, Conv.intToString]), Yields.plain h (V := .string (Utf8.encode n)) rfl⟩
    · simp at hr
  · obtain ⟨el, hsrc, hel, hdst⟩ := ht
    simp only [Option.bind_eq_some_iff] at hr
    obtain ⟨⟨sz, l⟩, hl, hr⟩ := hr
    simp only at hr
    split at hr
    · rename_i hsz
      subst hsz
      simp only [Option.map_eq_some_iff] at hr
      obtain ⟨bs, hbs, rfl⟩ := hr
      obtain ⟨hs, ad, cap, vs, hV, _, hrr, hc⟩ := elems_ok h h1 hl
      obtain ⟨ns, rfl, rfl⟩ := bytesOf_ok hbs hrr
      have hfl : flatV (ns.map (Value.int .u8)) = ns.map (Value.int .u8) := by
        unfold flatV
        clear hrr hV hc hbs hl
        induction ns with
        | nil => rfl
        | cons n r ih => simp only [List.map_cons, List.flatMap_cons, ih]; rfl
      have hlen : l.length = ns.length := by have := hrr.length; simpa using this.symm
      refine ⟨.string ⟨(ns.map fun n => UInt8.ofNat n.toNat).toArray⟩, w, .inl ?_, Yields.plain h rfl⟩
      have hconv : (convert src dst (.slice ad l.length cap)).run P w = .ok (.string ⟨(ns.map fun n => UInt8.ofNat n.toNat).toArray⟩) w := by
        rw [run_convert_bytes_string w src dst el ad _ cap hsrc hel hdst]
        cases ad with
        | none =>
          rcases hc with rfl | ⟨A, hA, _⟩
          · obtain rfl : ns = [] := List.eq_nil_of_length_eq_zero (by simpa using hlen.symm)
            simp [Conv.bytesToString]
            rfl
          · cases hA
        | some A =>
          have hload : (loadCells A l.length).run P w = .ok (ns.map (Value.int .u8)).toArray w := by
            rcases hc with rfl | ⟨A', hA', hA, hb, hcells⟩
            · obtain rfl : ns = [] := List.eq_nil_of_length_eq_zero (by simpa using hlen.symm)
              simp [loadCells, loadCellsFrom]
            · cases hA'
              rw [hfl] at hcells
              have := run_loadCells_list (P := P) w A (ns.map (Value.int .u8)) hcells
              simpa [hlen] using this
          rw [run_bytesToString w A _ cap ns hload, foldl_push_bytes]
          simp [ByteArray.empty, ByteArray.emptyWithCapacity]
          rfl
      simp only [execOp, ho, hV, Sem.run_bind, hconv, Result.andThen_ok, Sem.run_pure]
    · simp at hr
  · obtain ⟨⟨d, hd⟩, el, hdst, hel⟩ := ht
    split at hr
    · rename_i s e0
      split at hr
      · rename_i hsmall
        cases hr
        rw [e0] at h1
        have hcv := Lib.run_convert_string_bytes (P := P) w src dst el s hd hdst hel
        have hge := grownCap_ge w s.size 0 el
        have hle : grownCap w s.size 0 el ≤ maxLen := grownCap_le_maxLen w _ 0 el (by simp only [maxLen]; omega)
        have hsz : (Lib.bytesCells w el s).size = grownCap w s.size 0 el := by
          simp only [Lib.bytesCells, Array.size_append, Array.size_map, Array.size_replicate]
          have : s.data.size = s.size := rfl
          omega
        refine ⟨_, _, .inl (by simp only [execOp, ho, h1.1, Sem.run_bind, hcv, Result.andThen_ok, Sem.run_pure]; rfl), Yields.grown (fl := []) (e := e) h (Weak.refl _) (fun b hb _ => Lib.bytesWorld_at_old w el s b hb) (by rw [Lib.bytesWorld_size]; omega) ?_ ?_ ?_ (.inr ⟨rfl, by rw [Lib.bytesWorld_size]; omega⟩) ?_⟩
        · exact freeze_os _ _ _
        · exact freeze_tape _ _ _
        · exact freeze_output _ _ _
        · refine ⟨byteList_sz s, .inr ⟨w.heap.size, Lib.strCells s, rfl, byteList_Rs s, grownCap w s.size 0 el, _, el, _, by rw [byteList_length], Lib.bytesWorld_at_new w el s, by rw [byteList_length]; exact hge, hle, by rw [hsz, Nat.mul_one]; exact Nat.le_refl _, .inr (by rw [hsz, Nat.mul_one]; exact Nat.le_refl _), ?_⟩⟩
          rw [byteList_length, flat_strCells, Nat.mul_one]
          simp only [Lib.bytesCells, Array.toList_append, Array.toList_map, Lib.strCells]
          rw [List.take_append_of_le_length (by simp)]
          rw [List.take_of_length_le (by simp)]
      · simp at hr
    · simp at hr
  · rename_i k
    obtain ⟨⟨d, hd⟩, hdst⟩ := ht
    split at hr
    · rename_i k' n e0
      cases hr
      rw [e0] at h1
      exact ⟨_, w, .inl (by simp [execOp, ho, h1.1, convert, run_underlying hd, run_underlying hdst, Conv.intToFloat]), Yields.plain h (V := .float k (k.nearest n)) rfl⟩
    · simp at hr
  · rename_i k
    obtain ⟨⟨d, hd⟩, hdst⟩ := ht
    split at hr
    · rename_i f b e0
      split at hr
      · rename_i n hn
        split at hr
        · rename_i hc
          cases hr
          rw [e0] at h1
          exact ⟨_, w, .inl (by simp [execOp, ho, h1.1, convert, run_underlying hd, run_underlying hdst, Conv.floatToInt, hn, hc]), Yields.plain h (V := .int k n) rfl⟩
        · simp at hr
      · simp at hr
    · simp at hr
/-- A conversion that reads no memory. -/
def ConvK.pure : ConvK → Bool
  | .int _ | .same | .rune | .flt _ | .fint _ => true
  | _ => false
theorem run_convF (h : Inv B e (refOK e (valOf a H) w) (valOf a H) w I blk []) {o : Oper} {src dst : TypeId} {k : ConvK} {x : Opd} (hx : x.ok B.glob) (ho : o.op = .convert src dst x.op) (ht : ConvOK P src dst k) (hk : k.pure = true) {r : PV} (hr : conv e k (x.ev e) = some r) :
    ∃ V, RunsF P o a V ∧ Yields B (valOf a H) e r V w := by
  have h1 := ev_ok h hx
  unfold conv at hr
  split at hr
  · rename_i k
    obtain ⟨⟨d, hd⟩, hdst⟩ := ht
    split at hr
    · rename_i k' n e0
      cases hr
      rw [e0] at h1
      exact ⟨_, fun w2 => (by simp [execOp, ho, h1.1, convert, run_underlying hd, run_underlying hdst, Conv.intToInt]), Yields.plain h (V := .int k (k.wrap n)) rfl⟩
    · simp at hr
  · obtain ⟨⟨d, hd⟩, hdst⟩ := ht
    split at hr
    · rename_i s e0
      cases hr
      rw [e0] at h1
      exact ⟨_, fun w2 => (by simp [execOp, ho, h1.1, convert, run_underlying hd, run_underlying hdst]), Yields.plain h (V := .string s) rfl⟩
    · simp at hr
  · obtain ⟨⟨d, hd⟩, hdst⟩ := ht
    split at hr
    · rename_i k' n e0
      cases hr
      rw [e0] at h1
      exact ⟨_, fun w2 => (by simp [execOp, ho, h1.1, convert, run_underlying hd, run_underlying hdst, Conv.intToString]), Yields.plain h (V := .string (Utf8.encode n)) rfl⟩
    · simp at hr
  · simp [ConvK.pure] at hk
  · simp [ConvK.pure] at hk
  · rename_i k
    obtain ⟨⟨d, hd⟩, hdst⟩ := ht
    split at hr
    · rename_i k' n e0
      cases hr
      rw [e0] at h1
      exact ⟨_, fun w2 => (by simp [execOp, ho, h1.1, convert, run_underlying hd, run_underlying hdst, Conv.intToFloat]), Yields.plain h (V := .float k (k.nearest n)) rfl⟩
    · simp at hr
  · rename_i k
    obtain ⟨⟨d, hd⟩, hdst⟩ := ht
    split at hr
    · rename_i f b e0
      split at hr
      · rename_i n hn
        split at hr
        · rename_i hc
          cases hr
          rw [e0] at h1
          exact ⟨_, fun w2 => (by simp [execOp, ho, h1.1, convert, run_underlying hd, run_underlying hdst, Conv.floatToInt, hn, hc]), Yields.plain h (V := .int k n) rfl⟩
        · simp at hr
      · simp at hr
    · simp at hr
theorem run_mark (h : Inv B e (refOK e (valOf a H) w) (valOf a H) w I blk []) {o : Oper} {t el : TypeId} {x : Opd} (hx : x.ok B.glob) (ho : o.op = .convert t t x.op) (ht : P.underlying t = some (.slice el)) (hel : P.underlying el = some (.int .u8)) {y : PV} (hs : markPV (settle1 e (x.ev e)) = some (y, e')) :
    ∃ V w', RunsTo P o a w V w' ∧ Yields B (valOf a H) e' y V w' := by
  unfold markPV at hs
  split at hs
  · rename_i sz z l e2 hs2
    cases hs
    obtain ⟨blk', bs, k1, k2, k3⟩ := settle1_ok h (ev_ok h hx) hs2
    obtain ⟨hz, k2⟩ := k2
    rcases k2 with ⟨_, e0, _⟩ | ⟨g, vs, rfl, h7, cap, cur, tt, fr, hV, h8, h9, h10, h11, h12, h13⟩
    · cases e0
    · have hsh : w.shape? g = some (tt, cur.size) := by unfold World.shape?; rw [h8]
      have hlt : g < w.heap.size := (Array.getElem?_eq_some_iff.1 h8).1
      have hold : ∀ b, b ≠ g → (w.freeze ⟨g, cur.size, none⟩ 1).heap[b]? = w.heap[b]? := by
        intro b hb
        unfold World.freeze
        rw [if_neg (by decide)]
        simp only [Array.getElem?_modify, if_neg (Ne.symm hb)]
      have hnew : ∃ fr', (w.freeze ⟨g, cur.size, none⟩ 1).heap[g]? = some (.cells cur tt fr') ∧ unfrozen fr' (cap * sz) := by
        unfold World.freeze
        rw [if_neg (by decide)]
        simp only [Array.getElem?_modify, if_pos, h8, Option.map_some]
        obtain ⟨lo, hi⟩ := fr
        refine ⟨_, rfl, ?_⟩
        unfold unfrozen at h12 ⊢
        simp only at h12 ⊢
        split
        · right; exact h11
        · rename_i hne
          have hne : lo ≠ hi := by simpa using hne
          simp only
          omega
      obtain ⟨fr', hn1, hn2⟩ := hnew
      refine ⟨_, w.freeze ⟨g, cur.size, none⟩ 1, .inl ?_, Yields.grown (fl := [g]) (bs' := [g]) k1 k3 (fun b _ hb => hold b (by simpa using hb)) ?_ (freeze_os _ _ _) (freeze_tape _ _ _) (freeze_output _ _ _) (.inl rfl) ⟨hz, .inr ⟨g, vs, rfl, ?_, cap, cur, tt, fr', hV, hn1, h9, h10, h11, hn2, h13⟩⟩⟩
      · simp only [execOp, ho, Sem.run_bind]
        rw [hV]
        simp [convert, run_underlying ht, run_underlying hel, markStringish, hsh, Result.andThen]
      · unfold World.freeze
        rw [if_neg (by decide)]
        simp
      · exact Rs.mono (fun _ h => h) (fun b hb => hold b fun e => k1.notIf g (by simp) (e ▸ hb)) _ nope nope (fun _ _ h => h) vs [] (by simp) h7
  · cases hs
theorem run_range (h : Inv B e (refOK e (valOf a H) w) (valOf a H) w I blk []) {o : Oper} {t : TypeId} {x : Opd} (hx : x.ok B.glob) (ho : o.op = .range t x.op) (ht : P.underlying t = some .string) {y : PV} (hs : rangePV e (x.ev e) = some (y, e')) :
    ∃ V w', RunsTo P o a w V w' ∧ Yields B (valOf a H) e' y V w' := by
  unfold rangePV at hs
  split at hs
  · rename_i s e0
    cases hs
    have hR := ev_ok h hx
    rw [e0] at hR
    refine ⟨.pointer (some ⟨w.heap.size, 0, none⟩), w.alloc (.stringIter s 0), .inl ?_, I, blk, [w.heap.size], (h.alloc _).fresh (Weak.refl _) h fun b hb _ => alloc_keeps w _ b hb, .inl ⟨w.heap.size, rfl, rfl, heap_alloc_new w _⟩⟩
    simp [execOp, ho, hR.1, Instr.range, run_underlying ht, Result.andThen]
  · cases hs
theorem run_next (h : Inv B e (refOK e (valOf a H) w) (valOf a H) w I blk []) {o : Oper} {x : Opd} (hx : x.ok B.glob) (ho : o.op = .next x.op true) {y : PV} (hs : nextPV e (x.ev e) = some (y, e')) :
    ∃ V w', RunsTo P o a w V w' ∧ Yields B (valOf a H) e' y V w' := by
  unfold nextPV at hs
  split at hs
  · rename_i s e0
    split at hs
    · rename_i str pos e1
      have hR := ev_ok h hx
      rw [e0] at hR
      have hat : e.at_ s [] = .iter str pos := e1
      have hob : (e.at_ s []).isObj = true := by rw [hat]; rfl
      obtain ⟨U, bs, blk', h1, h2, h3⟩ := h.take hob
      have hV := hR.2.2 hob
      rw [h1] at hV
      obtain rfl := Option.some.inj hV
      rw [hat] at h2
      obtain ⟨g, rfl, hg, hobj⟩ := h2
      split at hs
      · rename_i hlt
        cases hs
        have hgl : g < w.heap.size := (Array.getElem?_eq_some_iff.1 hobj).1
        let w' : World := { w with heap := w.heap.setIfInBounds g (.stringIter str (pos + (Utf8.decode str pos).2)) }
        have hold : ∀ b, b ≠ g → w'.heap[b]? = w.heap[b]? := fun b hb => by simp only [w', Array.getElem?_setIfInBounds, if_neg (Ne.symm hb)]
        have hnew : w'.heap[g]? = some (.stringIter str (pos + (Utf8.decode str pos).2)) := by simp only [w', Array.getElem?_setIfInBounds, if_pos hgl, if_true]
        have hsz : w'.heap.size = w.heap.size := by simp [w']
        have k1 := h3.world (w' := w') rfl rfl rfl (by omega) (fun b _ hb => hold b (by simpa using hb)) [] (by simp) (by simp)
        simp only [List.nil_append] at k1
        have hpl : place (valOf a H) w' s [] = some (a.eval x.op) := by
          have : place (valOf a H) w s [] = some (valOf a H s) := rfl
          rw [this] at h1
          exact h1
        obtain ⟨blk2, k2⟩ := k1.lay (s := s) (p := []) rfl (U := a.eval x.op) hpl (y := .iter str (pos + (Utf8.decode str pos).2)) ⟨g, rfl, hg, hnew⟩
        rw [Env.setAt_nil, Env.setAt_nil, Env.set_set, ← Env.setAt_nil] at k2
        have hw : Weak (e.setAt s [] (.iter str (pos + (Utf8.decode str pos).2))) e := Weak.setAt rfl fun _ => hob
        refine ⟨_, w', .inl ?_, I, blk2, [], k2.finish hw fun s' p' ho' => ?_, .inl ⟨_, rfl, _, _, [], [], rfl, rfl, ⟨rfl, rfl, rfl⟩, _, _, [], [], rfl, rfl, ⟨rfl, rfl, rfl⟩, _, _, [], [], rfl, rfl, ⟨rfl, rfl, rfl⟩, rfl, rfl⟩⟩
        · simp [execOp, ho, hg, Instr.next, getObj, setObj, Sem.run, hobj, hlt, Result.andThen, goInt, w']
        · by_cases hs' : s' = s
          · subst hs'
            cases p' with
            | nil => rfl
            | cons o p' =>
              rw [Env.setAt_nil] at ho'
              simp [Env.at_, Env.get_set, PV.sub, PV.kids, PV.sub_dead, PV.isObj] at ho'
          · refine place_same h3 (fun b hb hb' => hold b (by simpa using hb')) (PV.path_of_obj p' _ ?_)
            unfold Env.at_ at ho'
            rw [Env.setAt_nil, Env.get_set, if_neg (Ne.symm hs')] at ho' ⊢
            exact ho'
      · rename_i hlt
        cases hs
        refine ⟨_, w, .inl ?_, I, blk, [], h, .inl ⟨_, rfl, _, _, [], [], rfl, rfl, ⟨rfl, rfl, rfl⟩, rfl, rfl⟩⟩
        simp [execOp, ho, hg, Instr.next, getObj, Sem.run, hobj, hlt, Result.andThen]
    · cases hs
  · cases hs
theorem run_mkmap (h : Inv B e (refOK e (valOf a H) w) (valOf a H) w I blk []) {o : Oper} {t : TypeId} (ho : o.op = .makeMap t none) :
    ∃ V w', RunsTo P o a w V w' ∧ Yields B (valOf a H) e (.mapc [] 0) V w' := by
  refine ⟨.map (some w.heap.size), w.alloc (.map #[] 0), .inl ?_, I, blk, [w.heap.size], (h.alloc _).fresh (Weak.refl _) h fun b hb _ => alloc_keeps w _ b hb, .inl ⟨w.heap.size, rfl, rfl, heap_alloc_new w _⟩⟩
  simp [execOp, ho, Instr.makeMap, Result.andThen]
theorem run_mlook (h : Inv B e (refOK e (valOf a H) w) (valOf a H) w I blk []) {o : Oper} {t kt el : TypeId} {kd : Option IntKind} {z : Value} {x k : Opd} (hx : x.ok B.glob) (hk : k.ok B.glob) (ho : o.op = .lookup t x.op k.op false) (ht : P.underlying t = some (.map kt el)) (hkt : P.underlying kt = some (kdOf kd))
    {i : TypeInfo} (hi : P.info? el = some i) (hz : i.zero = some z) {y : PV} (hs : lookPV e kd z (x.ev e) (k.ev e) = some (y, e')) :
    ∃ V w', RunsTo P o a w V w' ∧ Yields B (valOf a H) e' y V w' := by
  unfold lookPV at hs
  split at hs
  · rename_i s kv e0 e2
    split at hs
    · rename_i es c e1
      have hR := ev_ok h hx
      rw [e0] at hR
      have hK := ev_ok h hk
      rw [e2] at hK
      have hat : e.at_ s [] = .mapc es c := e1
      have hob : (e.at_ s []).isObj = true := by rw [hat]; rfl
      obtain ⟨U, bs, blk', h1, h2, h3⟩ := h.take hob
      have hV := hR.2.2 hob
      rw [h1] at hV
      obtain rfl := Option.some.inj hV
      rw [hat] at h2
      obtain ⟨g, rfl, hg, hobj⟩ := h2
      have hk1 := hK.1
      have hck0 : ∀ b n, (Instr.checkKey b (n + 1) kt (a.eval k.op)).run P w = .ok () w := by
        intro b n
        cases kd with
        | none => simp [Instr.checkKey, run_underlying hkt, kdOf, Result.andThen]
        | some kk => simp [Instr.checkKey, run_underlying hkt, kdOf, Result.andThen]
      have hck : ∀ b, (Instr.checkKey b 10000 kt (a.eval k.op)).run P w = .ok () w := fun b => hck0 b 9999
      have hfk : ∀ r, Instr.findNow (kdOf kd) kv es 0 = some r → (Instr.findKey kt (a.eval k.op) es).run P w = .ok r w := by
        intro r hr
        rw [hk1]
        simp [Instr.findKey, run_underlying hkt, hr, Result.andThen]
      split at hs
      · rename_i j v hf
        split at hs
        case isFalse => cases hs
        rename_i hone
        cases hs
        refine ⟨v, w, .inl ?_, I, blk, [], h, .inl ⟨rfl, hone, rfl⟩⟩
        simp [execOp, ho, hg, Instr.lookup, getObj, Sem.run, hobj, run_underlying ht, hck, hfk _ hf, Result.andThen]
      · rename_i hf
        split at hs
        case isFalse => cases hs
        rename_i hone
        cases hs
        refine ⟨z, w, .inl ?_, I, blk, [], h, .inl ⟨rfl, hone, rfl⟩⟩
        simp [execOp, ho, hg, Instr.lookup, getObj, Sem.run, hobj, run_underlying ht, hck, hfk _ hf, zeroValue, typeInfo, hi, hz, Result.andThen]
      · cases hs
    · cases hs
  · cases hs
theorem sameBits_up {x y : Value} (h : Instr.sameBits 0 x y = true) (n : Nat) : Instr.sameBits n x y = true := by
  cases x <;> cases y <;> simp_all [Instr.sameBits]
/-- A map's block is changed. -/
theorem map_change (h : Inv B e (refOK e (valOf a H) w) (valOf a H) w I blk []) {x : Opd} (hx : x.ok B.glob) {s : Nat} {es : List MapEntry} {c : Nat} (e0 : x.ev e = .ref s []) (e1 : e.get s = .mapc es c) (es' : List MapEntry) (c' : Nat) :
    ∃ g, a.eval x.op = .map (some g) ∧ w.heap[g]? = some (.map es.toArray c) ∧ Yields B (valOf a H) (e.setAt s [] (.mapc es' c')) .dead undef { w with heap := w.heap.setIfInBounds g (.map es'.toArray c') } := by
  have hR := ev_ok h hx
  rw [e0] at hR
  have hat : e.at_ s [] = .mapc es c := e1
  have hob : (e.at_ s []).isObj = true := by rw [hat]; rfl
  obtain ⟨U, bs, blk', h1, h2, h3⟩ := h.take hob
  have hV := hR.2.2 hob
  rw [h1] at hV
  obtain rfl := Option.some.inj hV
  rw [hat] at h2
  obtain ⟨g, rfl, hg, hobj⟩ := h2
  refine ⟨g, hg, hobj, ?_⟩
  have hgl : g < w.heap.size := (Array.getElem?_eq_some_iff.1 hobj).1
  let w' : World := { w with heap := w.heap.setIfInBounds g (.map es'.toArray c') }
  have hold : ∀ b, b ≠ g → w'.heap[b]? = w.heap[b]? := fun b hb => by simp only [w', Array.getElem?_setIfInBounds, if_neg (Ne.symm hb)]
  have hnew : w'.heap[g]? = some (.map es'.toArray c') := by simp only [w', Array.getElem?_setIfInBounds, if_pos hgl, if_true]
  have hsz : w'.heap.size = w.heap.size := by simp [w']
  have k1 := h3.world (w' := w') rfl rfl rfl (by omega) (fun b _ hb => hold b (by simpa using hb)) [] (by simp) (by simp)
  simp only [List.nil_append] at k1
  have hpl : place (valOf a H) w' s [] = some (a.eval x.op) := by
    have : place (valOf a H) w s [] = some (valOf a H s) := rfl
    rw [this] at h1
    exact h1
  obtain ⟨blk2, k2⟩ := k1.lay (s := s) (p := []) rfl (U := a.eval x.op) hpl (y := .mapc es' c') ⟨g, rfl, hg, hnew⟩
  rw [Env.setAt_nil, Env.setAt_nil, Env.set_set, ← Env.setAt_nil] at k2
  have hw : Weak (e.setAt s [] (.mapc es' c')) e := Weak.setAt rfl fun _ => hob
  refine ⟨I, blk2, [], k2.finish hw fun s' p' ho' => ?_, .inl rfl⟩
  by_cases hs' : s' = s
  · subst hs'
    cases p' with
    | nil => rfl
    | cons o p' =>
      rw [Env.setAt_nil] at ho'
      simp [Env.at_, Env.get_set, PV.sub, PV.kids, PV.sub_dead, PV.isObj] at ho'
  · refine place_same h3 (fun b hb hb' => hold b (by simpa using hb')) (PV.path_of_obj p' _ ?_)
    unfold Env.at_ at ho'
    rw [Env.setAt_nil, Env.get_set, if_neg (Ne.symm hs')] at ho' ⊢
    exact ho'
theorem run_mput (h : Inv B e (refOK e (valOf a H) w) (valOf a H) w I blk []) {o : Oper} {t kt el : TypeId} {kd : Option IntKind} {x k v : Opd} (hx : x.ok B.glob) (hk : k.ok B.glob) (hv : v.ok B.glob) (ho : o.op = .mapUpdate t x.op k.op v.op ∨ o.op = .insert t x.op k.op v.op) (ht : P.underlying t = some (.map kt el)) (hkt : P.underlying kt = some (kdOf kd))
    {y : PV} (hs : putPV e kd (x.ev e) (k.ev e) (v.ev e) = some (y, e')) : ∃ V w', RunsTo P o a w V w' ∧ Yields B (valOf a H) e' y V w' := by
  unfold putPV at hs
  split at hs
  · rename_i s kv vv e0 e2 e3
    split at hs
    · rename_i es c e1
      have hK := ev_ok h hk
      rw [e2] at hK
      have hk1 := hK.1
      have hVv := ev_ok h hv
      rw [e3] at hVv
      have hv1 := hVv.1
      have hck0 : ∀ b n, (Instr.checkKey b (n + 1) kt (a.eval k.op)).run P w = .ok () w := by
        intro b n
        cases kd with
        | none => simp [Instr.checkKey, run_underlying hkt, kdOf, Result.andThen]
        | some kk => simp [Instr.checkKey, run_underlying hkt, kdOf, Result.andThen]
      have hck : ∀ b, (Instr.checkKey b 10000 kt (a.eval k.op)).run P w = .ok () w := fun b => hck0 b 9999
      have hfk : ∀ r, Instr.findNow (kdOf kd) kv es 0 = some r → (Instr.findKey kt (a.eval k.op) es).run P w = .ok r w := by
        intro r hr
        rw [hk1]
        simp [Instr.findKey, run_underlying hkt, hr, Result.andThen]
      rw [hk1] at hck hfk
      split at hs
      · rename_i j u hf
        split at hs
        · rename_i en hen
          split at hs
          case isFalse => cases hs
          rename_i hsb
          cases hs
          obtain ⟨g, hg, hobj, hY⟩ := map_change h hx e0 e1 (es.modify j fun m => { m with key := kv, val := vv }) c
          refine ⟨undef, _, .inr ⟨?_, rfl⟩, hY⟩
          have hks : (Instr.keyThatStays (((es[j]?).map (·.key)).getD (a.eval k.op)) (a.eval k.op)).run P w = .ok (a.eval k.op) w := by
            rw [hen]
            simp [Instr.keyThatStays, hk1, sameBits_up hsb]
          rw [hk1] at hks
          rcases ho with ho | ho <;>
          simp [execOp, ho, hg, Instr.mapUpdate, getObj, setObj, Sem.run, hobj, run_underlying ht, hck, hfk _ hf, hks, hk1, hv1, Result.andThen]
        · cases hs
      · rename_i hf
        cases hs
        obtain ⟨g, hg, hobj, hY⟩ := map_change h hx e0 e1 (es ++ [⟨kv, vv, c⟩]) (c + 1)
        refine ⟨undef, _, .inr ⟨?_, rfl⟩, hY⟩
        rcases ho with ho | ho <;>
        simp [execOp, ho, hg, Instr.mapUpdate, getObj, setObj, Sem.run, hobj, run_underlying ht, hck, hfk _ hf, hk1, hv1, Result.andThen]
      · cases hs
    · cases hs
  · cases hs
theorem plainL_Rs {q : PV → Value → Prop} : ∀ {l : List PV} {vs us : List Value} {bs : List Nat}, plainL l = some vs → Rs w I q l us bs → us = vs
  | [], vs, us, bs, h, k => by
    simp only [plainL, Option.some.injEq] at h
    rw [k.1, h]
  | x :: r, vs, us, bs, h, k => by
    obtain ⟨v, us', b1, b2, rfl, rfl, k1, k2⟩ := k
    cases x <;> simp only [plainL] at h <;> first | (cases h; done) | skip
    simp only [Option.map_eq_some_iff] at h
    obtain ⟨ws, h1, rfl⟩ := h
    rw [k1.1, plainL_Rs h1 k2]
theorem plainV_R {q : PV → Value → Prop} {x : PV} {v V : Value} {bs : List Nat} (h : plainV x = some v) (k : R w I q x V bs) : V = v := by
  cases x <;> simp only [plainV] at h <;> first | (cases h; done) | skip
  · cases h; exact k.1
  · simp only [Option.map_eq_some_iff] at h
    obtain ⟨vs, h1, rfl⟩ := h
    obtain ⟨us, rfl, k1⟩ := k
    rw [plainL_Rs h1 k1]
theorem run_mkiface (h : Inv B e (refOK e (valOf a H) w) (valOf a H) w I blk []) {o : Oper} {t : TypeId} {x : Opd} (hx : x.ok B.glob) (ho : o.op = .makeInterface t x.op) (ht : P.concrete t = true) {v : Value} (hv : plainV (x.ev e) = some v) :
    ∃ V, RunsF P o a V ∧ Yields B (valOf a H) e (.v (.iface t v)) V w := by
  refine ⟨.iface t v, fun w2 => ?_, I, blk, [], h, .inl ⟨rfl, rfl, rfl⟩⟩
  rw [← plainV_R hv (ev_ok h hx)]
  simp [execOp, ho, run_makeInterface w2 t _ ht]
theorem unplain_R {q : PV → Value → Prop} {v : Value} {y : PV} (h : unplain v = some y) : R w I q y v [] := by
  unfold unplain at h
  split at h
  · rename_i vs
    split at h
    · rename_i hall
      cases h
      refine ⟨vs.toList, rfl, ?_⟩
      have : ∀ l : List Value, l.all Value.oneCell' = true → Rs w I q (l.map .v) l [] := by
        intro l
        induction l with
        | nil => intro _; exact ⟨rfl, rfl⟩
        | cons x r ih =>
          intro hx
          simp only [List.all_cons, Bool.and_eq_true] at hx
          exact ⟨x, r, [], [], rfl, rfl, ⟨rfl, hx.1, rfl⟩, ih hx.2⟩
      exact this _ hall
    · cases h
  · cases h
  · rename_i h1 h2
    cases h
    refine ⟨rfl, ?_, rfl⟩
    cases v <;> first | rfl | exact absurd rfl (h1 _) | exact absurd rfl (h2 _)
theorem unplain_noObj {v : Value} {y : PV} (h : unplain v = some y) : y.hasObj = false := by
  unfold unplain at h
  split at h
  · split at h
    · cases h
      rename_i vs _
      have : ∀ l : List Value, PV.hasObjL (l.map .v) = false := by
        intro l
        induction l with
        | nil => rfl
        | cons x r ih => simp [PV.hasObjL, PV.hasObj, ih]
      exact this _
    · cases h
  · cases h
  · cases h; rfl
theorem run_tass (h : Inv B e (refOK e (valOf a H) w) (valOf a H) w I blk []) {o : Oper} {xt t : TypeId} {x : Opd} (hx : x.ok B.glob) (ho : o.op = .typeAssert x.op xt t true) (ht : P.concrete t = true) {y : PV} (hy : tassPV t (x.ev e) = some y) :
    ∃ V, RunsF P o a V ∧ Yields B (valOf a H) e y V w := by
  unfold tassPV at hy
  split at hy
  · rename_i t' v e0
    split at hy
    · rename_i htt
      subst htt
      simp only [Option.map_eq_some_iff] at hy
      obtain ⟨z, hz, rfl⟩ := hy
      have hR := ev_ok h hx
      rw [e0] at hR
      have hv := hR.1
      have hrun : ∀ w2, (Instr.typeAssert (.iface t' v) xt t' true).run P w2 = .ok (.tuple #[v, .bool true]) w2 := by
        intro w2
        unfold Program.concrete at ht
        cases hd : P.underlying t' with
        | none => simp [hd] at ht
        | some d => cases d <;> first | (simp [hd] at ht; done) | simp [Instr.typeAssert, run_underlying hd]
      refine ⟨.tuple #[v, .bool true], fun w2 => ?_, I, blk, [], h, .inl ⟨[v, .bool true], rfl, v, [.bool true], [], [], rfl, rfl, unplain_R hz, _, [], [], [], rfl, rfl, ⟨rfl, rfl, rfl⟩, rfl, rfl⟩⟩
      simp [execOp, ho, hv, hrun]
    · cases hy
  · cases hy
theorem plainL_nope : ∀ {l : List PV} {vs us : List Value} {bs : List Nat} {g : Nat}, plainL l = some vs → Rs w I (selfq g) l us bs → bs = [] ∧ us = vs ∧ ∀ I', Rs w I' nope l us []
  | [], vs, us, bs, g, h, k => by
    simp only [plainL, Option.some.injEq] at h
    obtain ⟨rfl, rfl⟩ := k
    exact ⟨rfl, h, fun _ => ⟨rfl, rfl⟩⟩
  | x :: r, vs, us, bs, g, h, k => by
    obtain ⟨v, us', b1, b2, rfl, rfl, k1, k2⟩ := k
    cases x <;> simp only [plainL] at h <;> first | (cases h; done) | skip
    simp only [Option.map_eq_some_iff] at h
    obtain ⟨ws, h1, rfl⟩ := h
    obtain ⟨rfl, rfl, h2⟩ := plainL_nope h1 k2
    obtain ⟨rfl, h3, rfl⟩ := k1
    exact ⟨rfl, rfl, fun I' => ⟨_, _, [], [], rfl, rfl, ⟨rfl, h3, rfl⟩, h2 I'⟩⟩
theorem run_mkclo (h : Inv B e (refOK e (valOf a H) w) (valOf a H) w I blk []) {o : Oper} {f : FuncId} {x : Opd} (hx : x.ok B.glob) (ho : o.op = .makeFunc (.func f) #[] #[x.op]) {y : PV} (hy : cloPV e f (x.ev e) = some (y, e')) :
    ∃ V w', RunsTo P o a w V w' ∧ Yields B (valOf a H) e' y V w' := by
  unfold cloPV at hy
  split at hy
  case h_2 => cases hy
  rename_i s e0
  split at hy
  case h_2 => cases hy
  rename_i cs e1
  split at hy
  case isFalse => cases hy
  rename_i hpl
  cases hy
  obtain ⟨vs, hvs⟩ := Option.isSome_iff_exists.1 hpl
  have hR := ev_ok h hx
  rw [e0] at hR
  have hat : e.at_ s [] = .box cs := e1
  have hob : (e.at_ s []).isObj = true := by rw [hat]; rfl
  obtain ⟨U, bs, blk1, h1, h2, h3⟩ := h.take hob
  have hV := hR.2.2 hob
  rw [h1] at hV
  obtain rfl := Option.some.inj hV
  rw [hat] at h2
  obtain ⟨g, us, bs', rfl, hr, cur, t, fr, hg, hcur, hunf, hus⟩ := h2
  obtain ⟨rfl, rfl, hnope⟩ := plainL_nope hvs hr
  have h4 := h3.frozen
  have hcells : CellsAt w ⟨g, 0, none⟩ us := by
    intro j u hu
    have hadd : (⟨g, 0, none⟩ : Addr).add j = ⟨g, j, none⟩ := by unfold Addr.add; split <;> simp_all
    rw [hadd, cell_of_row w g j cur t fr hcur]
    rw [← hus] at hu
    simpa using hu
  have hra : R w (fun b => I b ∨ b ∈ [g]) nope (.raddr cs) (a.eval x.op) [] := ⟨rfl, ⟨g, 0, none⟩, us, hg, rfl, .inr (by simp), hnope _, hcells⟩
  have hpath : ((e.setAt s [] .dead).get s).path [] = true := rfl
  obtain ⟨blk2, h5⟩ := Inv.lay (bs := []) (by simpa using h4) hpath h1 hra
  rw [Env.setAt_nil, Env.setAt_nil, Env.set_set, ← Env.setAt_nil] at h5
  have wk : Weak (e.setAt s [] (.raddr cs)) e := Weak.setAt rfl (by simp [PV.isObj])
  refine ⟨.func (.func f) #[] #[a.eval x.op], w, .inl ?_, _, blk2, [], h5.finish wk fun s' p' ho' => rfl, .inl ⟨rfl, ⟨g, 0, none⟩, us, by rw [hg], rfl, .inr (by simp), hnope _, hcells⟩⟩
  simp [execOp, ho, Instr.makeFunc]
theorem run_allocB (h : Inv B e (refOK e (valOf a H) w) (valOf a H) w I blk []) {o : Oper} {t b : TypeId} (ho : o.op = .alloc t) {i : TypeInfo} {z : Value} (hi : P.info? t = some i) (hz : i.zero = some z) (hv : z.cells = #[.pointer none, .slice none 0 0]) :
    ∃ V w', RunsTo P o a w V w' ∧ Yields B (valOf a H) e (.bld t b []) V w' := by
  refine ⟨.pointer (some ⟨w.heap.size, 0, none⟩), w.alloc (.cells z.cells t), .inl ?_, I, blk, [w.heap.size], ?_, .inl ?_⟩
  · simp [execOp, ho, Instr.alloc, zeroValue, typeInfo, hi, hz, run_newVar]
  · exact (h.alloc _).fresh (Weak.refl _) h fun b hb _ => alloc_keeps w _ b hb
  · exact ⟨w.heap.size, .pointer none, .slice none 0 0, rfl, rfl, .inl rfl, by rw [hv]; exact heap_alloc_new w _, ⟨rfl, .inl ⟨rfl, rfl⟩⟩, by simp [Value.ownBlock]⟩
end
end Go.AM

/- The operations, continued: parts of values, bytes of texts, least and greatest, equality. No conditions. -/
namespace Go.AM
open Go

section
variable {P : Program} {B : Base} {a : Act} {H : Nat → Value} {e e' e1 e2 : Env} {w w' : World} {I : Nat → Prop} {blk : Nat → List Nat} {fl : List Nat} {val : Nat → Value}

theorem run_partV {q : PV → Value → Prop} {t : TypeId} {n : Option Nat} (ht : LoadOK P t n) {cs : List PV} {us : List Value} (hr : Rs w I q cs us []) {off : Nat} {y : PV} (hy : part n (cs.drop off) = some y) :
    ∃ V, (∀ w2, (Go.part t us.toArray off).run P w2 = .ok V w2) ∧ R w I q y V [] := by
  obtain ⟨d, hd, hn⟩ := ht
  rcases part_R (hr.drop0 off) hy with ⟨rfl, u, hu, hR⟩ | ⟨k, rfl, hk, hR⟩
  · have hagg : ∀ w2, (isAgg t).run P w2 = .ok false w2 := by
      intro w2
      unfold isAgg
      obtain ⟨hn1, _⟩ := hn
      cases d <;> simp_all [run_underlying hd]
    have hu' : us[off]? = some u := by simpa using hu
    exact ⟨u, by simp [Go.part, hagg, hu'], hR⟩
  · obtain ⟨hn1, ti, hti, hsz⟩ := hn
    have hagg : ∀ w2, (isAgg t).run P w2 = .ok true w2 := by
      intro w2
      unfold isAgg
      cases d <;> simp_all [run_underlying hd]
    refine ⟨_, fun w2 => ?_, hR⟩
    simp only [Go.part, hagg, sizeOf, typeInfo, Sem.run_bind, Result.andThen_ok, if_true, run_program, hti, Sem.run_pure, hsz]
    congr 2
    apply Array.ext'
    simp
theorem hasObjL_drop {l : List PV} (h : PV.hasObjL l = false) (n : Nat) : PV.hasObjL (l.drop n) = false := hasObjL_iff.2 fun x hx => hasObjL_iff.1 h x (List.mem_of_mem_drop hx)
theorem part_noObj {l : List PV} {n : Option Nat} (h : PV.hasObjL l = false) {y : PV} (hy : part n l = some y) : y.hasObj = false := by
  unfold part at hy
  split at hy
  · exact hasObjL_get h hy
  · split at hy
    · cases hy
      exact hasObjL_iff.2 fun x hx => hasObjL_iff.1 h x (List.mem_of_mem_take hx)
    · simp at hy
theorem run_field (h : Inv B e (refOK e (valOf a H) w) (valOf a H) w I blk []) {o : Oper} {t : TypeId} {x : Opd} {f off : Nat} {n : Option Nat} (hx : x.ok B.glob) (ho : o.op = .field t x.op f)
    {fs : Array Field} (ht : P.underlying t = some (.struct fs)) {fd : Field} (hf : fs[f]? = some fd) (hoff : fd.offset = off) (hl : LoadOK P fd.type n) {cs : List PV} (hc : x.ev e = .agg cs) {y : PV} (hy : part n (cs.drop off) = some y) :
    ∃ V, RunsF P o a V ∧ Yields B (valOf a H) e y V w := by
  have h1 := ev_ok h hx
  have hno := ev_noObj (e := e) x
  rw [hc] at h1 hno
  obtain ⟨us, e1, hr⟩ := h1
  obtain ⟨V, hV, hR⟩ := run_partV hl hr hy
  refine ⟨V, fun w2 => ?_, Yields.of h (part_noObj (hasObjL_drop hno off) hy) hR⟩
  subst hoff
  simp [execOp, ho, e1, Instr.field, run_underlying ht, hf, asAgg, hV]
theorem run_indexStr (h : Inv B e (refOK e (valOf a H) w) (valOf a H) w I blk []) {o : Oper} {t : TypeId} {x i : Opd} (hx : x.ok B.glob) (hi : i.ok B.glob) (ho : o.op = .index t x.op i.op) (ht : P.underlying t = some .string)
    {s : ByteArray} (hc : x.ev e = .v (.string s)) {j : Nat} (hj : idx (i.ev e) s.size = some j) :
    ∃ V, RunsF P o a V ∧ Yields B (valOf a H) e (.v (.int .u8 (s.data.toList.getD j 0).toNat)) V w := by
  have h1 := ev_ok h hx
  rw [hc] at h1
  obtain ⟨k, m, hm, h3, h4, h5⟩ := idx_ok (ev_ok h hi) hj
  refine ⟨_, fun w2 => ?_, Yields.plain h rfl⟩
  have hlt : m.toNat < s.size := by omega
  have hget : s[m.toNat]? = some (s.data.toList.getD j 0) := by
    subst h5
    have : s[m.toNat]? = some (s[m.toNat]'hlt) := by simp [hlt]
    rw [this]
    congr 1
    have h2 : m.toNat < s.data.toList.length := by simpa using hlt
    simp [List.getD, List.getElem?_eq_getElem h2]
    rfl
  have hsome : (if 0 ≤ m then s[m.toNat]? else none) = some (s.data.toList.getD j 0) := by rw [if_pos h3]; exact hget
  simp only [execOp, ho, h1.1, hm, Instr.index, asIntOf, Sem.run_bind, Sem.run_pure, Result.andThen_ok, run_underlying ht, hsome]
theorem run_indexAgg (h : Inv B e (refOK e (valOf a H) w) (valOf a H) w I blk []) {o : Oper} {t el : TypeId} {n sz : Nat} {m : Option Nat} {x i : Opd} (hx : x.ok B.glob) (hi : i.ok B.glob) (ho : o.op = .index t x.op i.op) (ht : P.underlying t = some (.array n el))
    {ti : TypeInfo} (hti : P.info? el = some ti) (hsz : ti.size = sz) (hl : LoadOK P el m) {cs : List PV} (hc : x.ev e = .agg cs) {j : Nat} (hj : idx (i.ev e) n = some j) {y : PV} (hy : part m (cs.drop (j * sz)) = some y) :
    ∃ V, RunsF P o a V ∧ Yields B (valOf a H) e y V w := by
  have h1 := ev_ok h hx
  have hno := ev_noObj (e := e) x
  rw [hc] at h1 hno
  obtain ⟨us, e1, hr⟩ := h1
  obtain ⟨k, q, hq, h3, h4, h5⟩ := idx_ok (ev_ok h hi) hj
  obtain ⟨V, hV, hR⟩ := run_partV hl hr hy
  refine ⟨V, fun w2 => ?_, Yields.of h (part_noObj (hasObjL_drop hno _) hy) hR⟩
  subst hsz
  subst h5
  simp only [execOp, ho, e1, hq, Instr.index, asIntOf, Sem.run_bind, Sem.run_pure, Result.andThen_ok, run_underlying ht, h3, h4, and_self, if_true, sizeOf, typeInfo, run_program, hti, hV]
theorem run_minmax (h : Inv B e (refOK e (valOf a H) w) (valOf a H) w I blk []) {o : Oper} {mx : Bool} {ts : Array TypeId} {x y : Opd} (hx : x.ok B.glob) (hy : y.ok B.glob) (ho : o.op = .call { callee := .builtin (if mx then .max else .min), args := #[x.op, y.op], argTypes := ts })
    {k : IntKind} {m n : Int} (e1 : x.ev e = .v (.int k m)) (e2 : y.ev e = .v (.int k n)) :
    ∃ V, RunsF P o a V ∧ Yields B (valOf a H) e (.v (.int k (if mx then (if n > m then n else m) else (if n < m then n else m)))) V w := by
  have h1 := ev_ok h hx
  have h2 := ev_ok h hy
  rw [e1] at h1
  rw [e2] at h2
  refine ⟨_, fun w2 => ?_, Yields.plain h rfl⟩
  cases mx <;> simp [execOp, ho, resolve, invoke, builtin, Builtin.max_, Builtin.min_, Builtin.max2, Builtin.min2, h1.1, h2.1]

/-! ### Equality of plain values -/
def EqK.fits (P : Program) (t : TypeId) : EqK → Prop
  | .int => ∃ k, P.underlying t = some (.int k)
  | .str => P.underlying t = some .string
  | .bool => P.underlying t = some .bool
/-- A struct of plain cells, or a plain value. -/
def EqOK (P : Program) (t : TypeId) : EqT → Prop
  | .one k => k.fits P t
  | .st ks => ∃ fs : Array Field, P.eqGuardType P.depth t = false ∧ P.underlying t = some (.struct fs) ∧ P.stoodInHeld t = false ∧ fs.size = ks.length ∧
    ∀ i (f : Field), fs[i]? = some f → f.name ≠ "_" ∧ f.offset = i ∧ LoadOK P f.type none ∧ ∀ k, ks[i]? = some k → k.fits P f.type
theorem eqV_run {x y : PV} {b : Bool} {k : EqK} (h : eqV k x y = some b) {t : TypeId} (ht : k.fits P t) {q : PV → Value → Prop} {X Y : Value} (hx : R w I q x X []) (hy : R w I q y Y []) (d : Nat) {w2 : World} :
    (Op.equalIn (d + 1) t X Y).run P w2 = .ok b w2 := by
  unfold eqV at h
  split at h
  · split at h
    · rename_i hk
      subst hk
      obtain ⟨rfl, _⟩ := hx
      obtain ⟨rfl, _⟩ := hy
      obtain ⟨k', ht⟩ := ht
      rw [← Option.some.inj h]
      exact run_equalIn_int w2 d t _ k' _ _ ht
    · simp at h
  · obtain ⟨rfl, _⟩ := hx
    obtain ⟨rfl, _⟩ := hy
    rw [← Option.some.inj h, run_equalIn_string w2 d t _ _ ht, beq_toListBytes]
  · obtain ⟨rfl, _⟩ := hx
    obtain ⟨rfl, _⟩ := hy
    rw [← Option.some.inj h]
    exact run_equalIn_bool w2 d t _ _ ht
  · simp at h
theorem LoadOK.notAgg {t : TypeId} (ht : LoadOK P t none) (w : World) : (isAgg t).run P w = .ok false w := by
  obtain ⟨d, hd, hn1, _⟩ := ht
  unfold isAgg
  cases d <;> simp_all [run_underlying hd]
theorem eqL_run {q : PV → Value → Prop} {X Y : List Value} {d : Nat} : ∀ {fs : List Field} {ks : List EqK} {xs ys : List PV} {us vs : List Value} {b : Bool} {i : Nat} {w2 : World}, eqL ks xs ys = some b → fs.length = ks.length →
    (∀ j (f : Field), fs[j]? = some f → f.name ≠ "_" ∧ f.offset = i + j ∧ LoadOK P f.type none ∧ ∀ k, ks[j]? = some k → k.fits P f.type) →
    Rs w I q xs us [] → Rs w I q ys vs [] → X.drop i = us → Y.drop i = vs → (Op.eqFields (d + 1) X.toArray Y.toArray fs).run P w2 = .ok b w2
  | [], ks, xs, ys, us, vs, b, i, w2, h, hl, _, _, _, _, _ => by
    cases ks with
    | nil =>
      cases xs <;> cases ys <;> simp [eqL] at h
      subst h
      simp [Op.eqFields]
    | cons => simp at hl
  | f :: fs, ks, xs, ys, us, vs, b, i, w2, h, hl, hf, hx, hy, hX, hY => by
    cases ks with
    | nil => simp at hl
    | cons k ks =>
      cases xs with
      | nil => simp [eqL] at h
      | cons x xs =>
        cases ys with
        | nil => simp [eqL] at h
        | cons y ys =>
          simp only [eqL, Option.bind_eq_bind, Option.bind_eq_some_iff, Option.pure_def, Option.some.injEq] at h
          obtain ⟨b1, h1, b2, h2, rfl⟩ := h
          obtain ⟨hn, ho, hld, hk⟩ := hf 0 f rfl
          obtain ⟨u, us', p1, p2, rfl, e1, hx1, hx2⟩ := hx
          obtain ⟨v, vs', p3, p4, rfl, e2, hy1, hy2⟩ := hy
          obtain ⟨rfl, rfl⟩ : p1 = [] ∧ p2 = [] := by simpa using e1.symm
          obtain ⟨rfl, rfl⟩ : p3 = [] ∧ p4 = [] := by simpa using e2.symm
          have pt : ∀ (Z : List Value) (z : Value) (zs : List Value), Z.drop i = z :: zs → (Go.part f.type Z.toArray f.offset).run P w2 = .ok z w2 := by
            intro Z z zs hZ
            have hagg : (isAgg f.type).run P w2 = .ok false w2 := hld.notAgg w2
            have hz : Z[i]? = some z := by
              have h0 : (Z.drop i)[0]? = some z := by rw [hZ]; rfl
              rw [List.getElem?_drop] at h0
              exact h0
            simp [Go.part, hagg, ho, hz]
          have nx : ∀ (Z : List Value) (z : Value) (zs : List Value), Z.drop i = z :: zs → Z.drop (i + 1) = zs := by
            intro Z z zs hZ
            rw [← List.drop_drop, hZ]
            rfl
          have ih := eqL_run (d := d) (w2 := w2) (fs := fs) (i := i + 1) h2 (by simpa using hl) (fun j f' hj => by
            obtain ⟨a1, a2, a3, a4⟩ := hf (j + 1) f' (by simpa using hj)
            exact ⟨a1, by omega, a3, fun k' hk' => a4 k' (by simpa using hk')⟩) hx2 hy2 (nx X u us' hX) (nx Y v vs' hY)
          rw [Op.eqFields]
          simp only [if_pos hn, Sem.run_bind, pt X u us' hX, pt Y v vs' hY, Result.andThen_ok, eqV_run h1 (hk k rfl) hx1 hy1 d]
          cases b1
          · simp
          · simpa using ih
theorem run_eqs (h : Inv B e (refOK e (valOf a H) w) (valOf a H) w I blk []) {o : Oper} {neg : Bool} {xt yt : TypeId} {ks : EqT} {x y : Opd} (hx : x.ok B.glob) (hy : y.ok B.glob) (ho : o.op = .binOp (if neg then .neq else .eql) xt x.op y.op yt) (ht : EqOK P xt ks) {r : PV} (hr : eqs neg ks (x.ev e) (y.ev e) = some r) :
    ∃ V, RunsF P o a V ∧ Yields B (valOf a H) e r V w := by
  have h1 := ev_ok h hx
  have h2 := ev_ok h hy
  unfold eqs at hr
  simp only [Option.map_eq_some_iff] at hr
  obtain ⟨b, hb, rfl⟩ := hr
  refine ⟨.bool (if neg then !b else b), fun w2 => ?_, Yields.plain h rfl⟩
  have key : (eqGuard (if neg then .neq else .eql) xt x.op y.op (a.eval x.op) (a.eval y.op)).run P w2 = .ok () w2 ∧ (binOp (if neg then .neq else .eql) xt (a.eval x.op) (a.eval y.op)).run P w2 = .ok (.bool (if neg then !b else b)) w2 := by
    unfold eqOf at hb
    split at hb
    · rename_i ks xs ys ex ey
      rw [ex] at h1
      rw [ey] at h2
      obtain ⟨us, eu, hu⟩ := h1
      obtain ⟨vs, ev, hv⟩ := h2
      rw [eu, ev]
      obtain ⟨fs, hg, hus, hst, hsz, hf⟩ := ht
      have he : (Op.equalIn 10000 xt (.agg us.toArray) (.agg vs.toArray)).run P w2 = .ok b w2 := by
        have hff : P.fieldsOf xt = fs := by simp [Program.fieldsOf, hus]
        rw [show (10000 : Nat) = 9999 + 1 from rfl, run_equalIn_struct w2 9999 xt _ _ (by rw [hff]; exact hus) hst, hff]
        exact eqL_run (d := 9998) (i := 0) hb (by simpa using hsz) (fun j f hj => by simpa using hf j f (by simpa using hj)) hu hv rfl rfl
      refine ⟨run_eqGuard_agg w2 _ xt _ _ _ _ hg, ?_⟩
      cases neg
      · simp [run_eql_struct, he]
      · simp [run_neq_struct, he]
    · rename_i k x' y'
      have := eqV_run (w := w) (w2 := w2) (P := P) hb ht h1 h2 9999
      unfold eqV at hb
      split at hb
      · rename_i e1' e2'
        rw [e1'] at h1
        rw [e2'] at h2
        rw [h1.1, h2.1]
        split at hb
        · rename_i hk
          subst hk
          cases hb
          refine ⟨by cases neg <;> rfl, ?_⟩
          cases neg <;> simp [binOp, Op.intCmp] <;> rfl
        · simp at hb
      · rename_i e1' e2'
        rw [e1'] at h1
        rw [e2'] at h2
        rw [h1.1, h2.1]
        cases hb
        refine ⟨by cases neg <;> rfl, ?_⟩
        cases neg <;> simp [binOp, Op.stringOp, beq_toListBytes]
      · rename_i e1' e2'
        rw [e1'] at h1
        rw [e2'] at h2
        rw [h1.1, h2.1] at this ⊢
        cases hb
        refine ⟨by cases neg <;> rfl, ?_⟩
        cases neg <;> simp [binOp, Op.equal, Op.maxDepth, this]
      · simp at hb
    · simp at hb
  simp only [execOp, ho, Sem.run_bind, key.1, key.2, Result.andThen_ok, Sem.run_pure]
end
end Go.AM
