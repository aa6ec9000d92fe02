/- The operations: what the real machine does is what the abstract one does (reckoning, variables, memory that is made). No conditions. -/
import Derived.Test.YtfkgoofipbbhpaaDoorAmSettle
import Derived.Lib.FrozenHead
namespace Go.AM
open Go

def IOp.toOp : IOp → Op
  | .move x => .move x.op
  | .assign x => .assign x.op
  | .mark t x => .convert t t x.op
  | .range t x => .range t x.op
  | .allocB t _ => .alloc t
  | .next x => .next x.op true
  | .pick c a b => .pick c.op a.op b.op
  | .box t x => .box t x.op
  | .alloc t _ => .alloc t
  | .build t _ _ parts => .build t (parts.map fun p => (p.1, p.2.op)).toArray
  | .lit t _ parts => .buildSlice t parts.length (parts.zipIdx.map fun p => (p.2, p.1.op)).toArray
  | .load t _ a => .load t a.op
  | .store t _ a x => .store t a.op x.op
  | .nilck x => .nilCheck x.op
  | .bin op xt x y yt => .binOp op xt x.op y.op yt
  | .eqs neg xt _ x y yt => .binOp (if neg then .neq else .eql) xt x.op y.op yt
  | .un op xt x => .unOp op xt x.op
  | .conv src dst _ x => .convert src dst x.op
  | .mk t _ _ _ l c => .makeSlice t l.op c.op
  | .slice t _ x lo hi mx => .slice t x.op (lo.map (·.op)) (hi.map (·.op)) (mx.map (·.op))
  | .faddr t x f _ => .fieldAddr t x.op f
  | .field t x f _ _ => .field t x.op f
  | .iaddr t _ x i => .indexAddr t x.op i.op
  | .index t _ _ x i => .index t x.op i.op
  | .extr x j => .extract x.op j
  | .call f args ats => .call { callee := .value (.func f), args := (args.map (·.op)).toArray, argTypes := ats.toArray }
  | .append t u _ _ _ x y => .call { callee := .builtin .append, args := #[x.op, y.op], argTypes := #[t, u] }
  | .len t _ x => .call { callee := .builtin .len, args := #[x.op], argTypes := #[t] }
  | .minmax mx ts x y => .call { callee := .builtin (if mx then .max else .min), args := #[x.op, y.op], argTypes := ts.toArray }
  | .ext f _ args ats => .call { callee := .value (.func f), args := (args.map (·.op)).toArray, argTypes := ats.toArray }
  | .callv _ f args ats => .call { callee := .value f.op, args := (args.map (·.op)).toArray, argTypes := ats.toArray }
  | .other x => x
def Opd.ok (G : Nat → List PV) : Opd → Prop
  | .t s => s < home
  | .c x => x.oneCell' = true
  | .nilS _ => True
  | .f _ => True
  | .g n cs => cs = G n ∧ cs ≠ []

/-- The variables of a call: its own and its arguments' homes. -/
def valOf (a : Act) (H : Nat → Value) : Nat → Value := fun s => if s < home then a.tmps.getD s undef else H s

section
variable {P : Program} {B : Base} {a : Act} {H : Nat → Value} {e e' : Env} {w w' : World} {I : Nat → Prop} {blk : Nat → List Nat} {fl : List Nat}

theorem nil_R (w : World) (I : Nat → Prop) (q : PV → Value → Prop) (sz : Nat) : R w I q (.nil sz) (.slice none 0 0) [] := ⟨rfl, rfl⟩
theorem ev_ok (h : Inv B e (refOK e (valOf a H) w) (valOf a H) w I blk fl) {x : Opd} (hx : x.ok B.glob) : R w I (refOK e (valOf a H) w) (x.ev e) (a.eval x.op) [] := by
  cases x with
  | t s =>
    have := h.view s
    have hs : s < home := hx
    have hv : valOf a H s = a.eval (.tmp s) := by simp [valOf, hs, Act.eval]
    rw [hv] at this
    exact this
  | c x => exact ⟨rfl, hx, rfl⟩
  | nilS sz => exact nil_R _ _ _ _
  | f n => exact ⟨rfl, rfl, rfl⟩
  | g n cs =>
    obtain ⟨rfl, hne⟩ := hx
    exact h.glob n hne
theorem evL_ok (h : Inv B e (refOK e (valOf a H) w) (valOf a H) w I blk fl) {l : List Opd} (hl : ∀ x ∈ l, x.ok B.glob) : Rs w I (refOK e (valOf a H) w) (l.map fun x => x.ev e) (l.map fun x => a.eval x.op) [] := by
  induction l with
  | nil => exact ⟨rfl, rfl⟩
  | cons x r ih => exact ⟨_, _, [], [], rfl, rfl, ev_ok h (hl x (by simp)), ih fun y hy => hl y (by simp [hy])⟩
mutual
theorem view_noObj (s : Nat) : ∀ (x : PV) (p : List Nat), (x.view s p).hasObj = false
  | .v _, _ => rfl
  | .agg cs, p => by simp only [PV.view, PV.hasObj]; exact viewL_noObj s cs p 0
  | .tup cs, p => by simp only [PV.view, PV.hasObj]; exact viewL_noObj s cs p 0
  | .ro _ _, _ => rfl
  | .own _ _, _ => rfl
  | .box _, _ => rfl
  | .ref _ _, _ => rfl
  | .win _ _ _ _ _, _ => rfl
  | .addr _ _, _ => rfl
  | .eaddr _ _ _ _ _, _ => rfl
  | .raddr _, _ => rfl
  | .nil _, _ => rfl
  | .dead, _ => rfl
  | .iter _ _, _ => rfl
  | .selfp, _ => rfl
  | .bld _ _ _, _ => rfl
theorem viewL_noObj (s : Nat) : ∀ (l : List PV) (p : List Nat) (i : Nat), PV.hasObjL (PV.viewL s p i l) = false
  | [], _, _ => rfl
  | x :: r, p, i => by simp only [PV.viewL, PV.hasObjL, view_noObj s x, viewL_noObj s r, Bool.or_self]
end
theorem ev_noObj (x : Opd) : (x.ev e).hasObj = false := by
  cases x with
  | t s => exact view_noObj s _ _
  | _ => rfl

/-- What an operation leaves: the variables, its value, what that owns. -/
def Yields (B : Base) (val : Nat → Value) (e' : Env) (y : PV) (V : Value) (w' : World) : Prop :=
  ∃ I' blk' bs, Inv B e' (refOK e' val w') val w' I' blk' bs ∧ (R w' I' nope y V bs ∨ (bs = [] ∧ y.hasObj = false ∧ R w' I' (refOK e' val w') y V []))
def RunsTo (P : Program) (o : Oper) (a : Act) (w : World) (V : Value) (w' : World) : Prop :=
  (execOp a.eval o).run P w = .ok (.value V) w' ∨ ((execOp a.eval o).run P w = .ok .skip w' ∧ V = undef)

/-- It does so in every world. -/
def RunsF (P : Program) (o : Oper) (a : Act) (V : Value) : Prop := ∀ w, (execOp a.eval o).run P w = .ok (.value V) w
theorem RunsF.to {o : Oper} {V : Value} (h : RunsF P o a V) (w : World) : RunsTo P o a w V w := .inl (h w)

theorem Yields.view (h : Inv B e (refOK e (valOf a H) w) (valOf a H) w I blk []) {x : Opd} (hx : x.ok B.glob) : Yields B (valOf a H) e (x.ev e) (a.eval x.op) w := by
  exact ⟨I, blk, [], h, .inr ⟨rfl, ev_noObj x, ev_ok h hx⟩⟩
theorem Yields.plain (h : Inv B e (refOK e (valOf a H) w) (valOf a H) w I blk []) {V : Value} (hV : V.oneCell' = true) : Yields B (valOf a H) e (.v V) V w :=
  ⟨I, blk, [], h, .inl ⟨rfl, hV, rfl⟩⟩

theorem run_move (h : Inv B e (refOK e (valOf a H) w) (valOf a H) w I blk []) {o : Oper} {x : Opd} (hx : x.ok B.glob) (ho : o.op = .move x.op) : RunsF P o a (a.eval x.op) ∧ Yields B (valOf a H) e (x.ev e) (a.eval x.op) w :=
  ⟨fun _ => by simp [execOp, ho], Yields.view h hx⟩
theorem run_assign (h : Inv B e (refOK e (valOf a H) w) (valOf a H) w I blk []) {o : Oper} {x : Opd} (hx : x.ok B.glob) (ho : o.op = .assign x.op) {y : PV} (hs : settle e (x.ev e) = some (y, e')) :
    RunsTo P o a w (a.eval x.op) w ∧ Yields B (valOf a H) e' y (a.eval x.op) w := by
  refine ⟨.inl (by simp [execOp, ho]), ?_⟩
  obtain ⟨blk', bs, h1, h2, h3⟩ := settle_ok h (ev_ok h hx) hs
  exact ⟨I, blk', bs, by simpa using h1.weaken h3, .inl h2⟩
theorem run_pick (h : Inv B e (refOK e (valOf a H) w) (valOf a H) w I blk []) {o : Oper} {c x y : Opd} (hc : c.ok B.glob) (hx : x.ok B.glob) (hy : y.ok B.glob) (ho : o.op = .pick c.op x.op y.op) {t : Bool} (ht : c.ev e = .v (.bool t)) :
    RunsF P o a (if t then a.eval x.op else a.eval y.op) ∧ Yields B (valOf a H) e (if t then x.ev e else y.ev e) (if t then a.eval x.op else a.eval y.op) w := by
  have hR := ev_ok h hc
  rw [ht] at hR
  have he : a.eval c.op = .bool t := hR.1
  refine ⟨fun _ => ?_, ?_⟩
  · cases t <;> simp [execOp, ho, he, asBool]
  · cases t
    · exact Yields.view h hy
    · exact Yields.view h hx

/-! ### Values as cells -/
theorem one_cells {V : Value} (h : V.oneCell' = true) : V.cells = #[V] := by cases V <;> first | rfl | cases h
theorem alloc_keeps (w : World) (o : Obj) (k : Nat) (h : k < w.heap.size) : (w.alloc o).heap[k]? = w.heap[k]? := heap_alloc_old w o h

theorem cells_Rs {q : PV → Value → Prop} {y : PV} {V : Value} {bs : List Nat} (hy : y ≠ .dead) (h : R w I q y V bs) (hq : ∀ y U, q y U → U.oneCell' = true) : Rs w I q y.cells V.cells.toList bs := by
  have one : ∀ (y : PV), y.cells = [y] → V.cells = #[V] → R w I q y V bs → Rs w I q y.cells V.cells.toList bs := by
    intro y h1 h2 h3
    rw [h1, h2]
    exact ⟨V, [], bs, [], rfl, by simp, h3, rfl, rfl⟩
  cases y with
  | agg cs => obtain ⟨vs, rfl, h⟩ := h; simpa [PV.cells, Value.cells] using h
  | dead => exact absurd rfl hy
  | v x => exact one _ rfl (by obtain ⟨rfl, h, _⟩ := h; exact one_cells h) h
  | tup cs => exact one _ rfl (by obtain ⟨vs, rfl, _⟩ := h; rfl) h
  | ro sz l => exact one _ rfl (by obtain ⟨_, _, a, cap, rfl, _⟩ := h; rfl) h
  | own sz l => exact one _ rfl (by rcases h.2 with ⟨rfl, _⟩ | ⟨g, vs, _, _, cap, cur, t, fr, rfl, _⟩ <;> rfl) h
  | box cs => exact one _ rfl (by obtain ⟨g, us, bs', _, _, cur, t, fr, rfl, _⟩ := h; rfl) h
  | ref s p => exact one _ rfl (one_cells (hq _ _ h.2)) h
  | win s p sz lo hi => exact one _ rfl (one_cells (hq _ _ h.2)) h
  | addr s o => exact one _ rfl (one_cells (hq _ _ h.2)) h
  | eaddr s p sz i k => exact one _ rfl (one_cells (hq _ _ h.2)) h
  | raddr cs => exact one _ rfl (by obtain ⟨_, A, us, rfl, _⟩ := h; rfl) h
  | nil sz => exact one _ rfl (by rw [h.1]; rfl) h
  | iter s pos => exact one _ rfl (by obtain ⟨g, _, rfl, _⟩ := h; rfl) h
  | selfp => exact one _ rfl (one_cells (hq _ _ h.2)) h
  | bld T e l => exact one _ rfl (one_cells (BldAt.one h)) h
theorem settle1_ne_dead {x y : PV} (h : settle1 e x = some (y, e')) : y ≠ .dead := by
  rintro rfl
  cases x with
  | ref s p =>
    simp only [settle1] at h
    split at h
    · simp at h
    · split at h <;> simp at h
    · simp at h
  | win s p sz lo hi =>
    simp only [settle1] at h
    split at h
    · split at h <;> simp at h
    · simp at h
  | _ => simp [settle1] at h
theorem settle_ne_dead {x y : PV} (h : settle e x = some (y, e')) : y ≠ .dead := by
  unfold settle at h
  split at h
  · simp only [Option.bind_eq_bind, Option.bind_eq_some_iff, Option.pure_def, Option.some.injEq, Prod.mk.injEq, Prod.exists] at h
    obtain ⟨_, _, _, rfl, _⟩ := h
    simp
  · simp only [Option.bind_eq_bind, Option.bind_eq_some_iff, Option.pure_def, Option.some.injEq, Prod.mk.injEq, Prod.exists] at h
    obtain ⟨_, _, _, rfl, _⟩ := h
    simp
  · exact settle1_ne_dead h

/-! ### A new variable in memory -/
/-- A block laid at the heap's end: what floated floats on, and the block. -/
theorem Inv.alloc {q : PV → Value → Prop} {val : Nat → Value} (h : Inv B e q val w I blk fl) (o : Obj) : Inv B e q val (w.alloc o) I blk (w.heap.size :: fl) :=
  h.world (w' := w.alloc o) rfl rfl rfl (by simp) (fun b hb _ => alloc_keeps w o b hb) [w.heap.size] (by simp) (by simp)
theorem Inv.drew {q : PV → Value → Prop} {val : Nat → Value} (h : Inv B e q val w I blk fl) : Inv B e q val w.drew I blk fl :=
  h.world (w' := w.drew) rfl rfl rfl (Nat.le_refl _) (fun _ _ _ => rfl) [] (by simp) (by simp)
theorem place_same {val : Nat → Value} {q : PV → Value → Prop} (h : Inv B e q val w I blk fl) (hw : ∀ b, b < w.heap.size → b ∉ fl → w'.heap[b]? = w.heap[b]?) {s : Nat} {p : List Nat} (hp : (e.get s).path p = true) : place val w' s p = place val w s p :=
  walk_same p q (e.get s) (val s) (blk s) (h.rel s) hp fun b hb => hw b (h.lt s b hb) (h.djf s b hb)
/-- Where only blocks that float changed, the references are as they were. -/
theorem Inv.fresh {e0 : Env} {w0 : World} {val : Nat → Value} (h : Inv B e (refOK e0 val w0) val w' I blk fl) (hw : Weak e e0) {q0 : PV → Value → Prop} {I0 : Nat → Prop} {blk0 : Nat → List Nat} {fl0 : List Nat} (h0 : Inv B e q0 val w0 I0 blk0 fl0)
    (hs : ∀ b, b < w0.heap.size → b ∉ fl0 → w'.heap[b]? = w0.heap[b]?) : Inv B e (refOK e val w') val w' I blk fl :=
  h.finish hw fun _ p ho => place_same h0 hs (PV.path_of_obj p _ ho)
theorem alloc_eq (w : World) (o : Obj) : ({ w with heap := w.heap.push o } : World) = w.alloc o := rfl
theorem run_newVar (t : TypeId) (V : Value) : (newVar t V).run P w = .ok ⟨w.heap.size, 0, none⟩ (w.alloc (.cells V.cells t)) := by
  simp [newVar, newRow]

theorem run_box (h : Inv B e (refOK e (valOf a H) w) (valOf a H) w I blk []) {o : Oper} {t : TypeId} {x : Opd} (hx : x.ok B.glob) (ho : o.op = .box t x.op) {y : PV} (hs : settle e (x.ev e) = some (y, e')) :
    ∃ V w', RunsTo P o a w V w' ∧ Yields B (valOf a H) e' (.box y.cells) V w' := by
  obtain ⟨blk', bs, h1, h2, h3⟩ := settle_ok h (ev_ok h hx) hs
  refine ⟨.pointer (some ⟨w.heap.size, 0, none⟩), w.alloc (.cells (a.eval x.op).cells t), .inl ?_, I, blk', w.heap.size :: (bs ++ []), ?_, .inl ?_⟩
  · simp [execOp, ho, Instr.box, run_newVar]
  · exact (h1.alloc _).fresh h3 h1 fun b hb _ => alloc_keeps w _ b hb
  · refine ⟨w.heap.size, (a.eval x.op).cells.toList, bs, by simp, ?_, _, t, (0, 0), rfl, heap_alloc_new w _, .inl rfl, rfl⟩
    refine Rs.mono (fun _ h => h) (fun b hb => alloc_keeps w _ b (h1.ltI b hb)) _ nope _ (fun _ _ h => h.elim) _ _ (fun b hb => alloc_keeps w _ b (h1.ltf b (by simp [hb]))) (cells_Rs (settle_ne_dead hs) h2 nope_oneCell)

/-- A value of which the initial memory is made. -/
def PV.zv : PV → Option Value
  | .v x => if x.oneCell' then some x else none
  | .nil _ => some (.slice none 0 0)
  | _ => none
def zvL : List PV → Option (List Value)
  | [] => some []
  | x :: r => do
    let v ← x.zv
    let vs ← zvL r
    pure (v :: vs)
theorem zv_R {x : PV} {V : Value} (h : x.zv = some V) : R w I nope x V [] := by
  cases x with
  | v x =>
    simp only [PV.zv] at h
    split at h
    · rename_i h1
      exact ⟨(Option.some.inj h).symm, h1, rfl⟩
    · simp at h
  | nil sz => simp only [PV.zv, Option.some.injEq] at h; rw [← h]; exact nil_R _ _ _ _
  | _ => simp [PV.zv] at h
theorem zvL_Rs {l : List PV} : ∀ {vs : List Value}, zvL l = some vs → Rs w I nope l vs [] := by
  induction l with
  | nil => intro vs h; simp only [zvL, Option.some.injEq] at h; exact ⟨h.symm, rfl⟩
  | cons x r ih =>
    intro vs h
    simp only [zvL, Option.bind_eq_bind, Option.bind_eq_some_iff, Option.pure_def, Option.some.injEq] at h
    obtain ⟨v, hv, vs', hvs, rfl⟩ := h
    exact ⟨v, vs', [], [], rfl, rfl, zv_R hv, ih hvs⟩
theorem R.freshened {x : PV} {V : Value} (h : R w I nope x V []) : R w I nope x.fresh V [] := by
  cases x <;> first | exact h | skip
  exact ⟨fun x hx => (by cases hx), .inl ⟨h.1, rfl, rfl⟩⟩
theorem Rs.freshened {l : List PV} : ∀ {vs : List Value}, Rs w I nope l vs [] → Rs w I nope (l.map PV.fresh) vs [] := by
  induction l with
  | nil => intro vs h; exact h
  | cons x r ih =>
    rintro vs ⟨v, us, b1, b2, rfl, e, h1, h2⟩
    obtain ⟨rfl, rfl⟩ : b1 = [] ∧ b2 = [] := by simpa using e.symm
    exact ⟨v, us, [], [], rfl, rfl, h1.freshened, ih h2⟩
/-- The same, and cells that may bear their own block's address. -/
def PV.za : PV → Option Value
  | .selfp => some (.pointer none)
  | x => x.zv
def zaL : List PV → Option (List Value)
  | [] => some []
  | x :: r => do
    let v ← x.za
    let vs ← zaL r
    pure (v :: vs)
theorem za_R {x : PV} {V : Value} (g : Nat) (h : x.za = some V) : R w I (selfq g) x.fresh V [] := by
  unfold PV.za at h
  split at h
  · cases h
    exact ⟨rfl, rfl, .inl rfl⟩
  · exact (zv_R h).freshened.ofNope
theorem zaL_Rs (g : Nat) {l : List PV} : ∀ {vs : List Value}, zaL l = some vs → Rs w I (selfq g) (l.map PV.fresh) vs [] := by
  induction l with
  | nil => intro vs h; simp only [zaL, Option.some.injEq] at h; exact ⟨h.symm, rfl⟩
  | cons x r ih =>
    intro vs h
    simp only [zaL, Option.bind_eq_bind, Option.bind_eq_some_iff, Option.pure_def, Option.some.injEq] at h
    obtain ⟨v, hv, vs', hvs, rfl⟩ := h
    exact ⟨v, vs', [], [], rfl, rfl, za_R g hv, ih hvs⟩
theorem run_alloc (h : Inv B e (refOK e (valOf a H) w) (valOf a H) w I blk []) {o : Oper} {t : TypeId} (ho : o.op = .alloc t) {zero : List PV} {i : TypeInfo} {z : Value} (hi : P.info? t = some i) (hz : i.zero = some z) (hv : zaL zero = some z.cells.toList) :
    ∃ V w', RunsTo P o a w V w' ∧ Yields B (valOf a H) e (.box (zero.map PV.fresh)) V w' := by
  refine ⟨.pointer (some ⟨w.heap.size, 0, none⟩), w.alloc (.cells z.cells t), .inl ?_, I, blk, [w.heap.size], ?_, .inl ?_⟩
  · simp [execOp, ho, Instr.alloc, zeroValue, typeInfo, hi, hz, run_newVar]
  · exact (h.alloc _).fresh (Weak.refl _) h fun b hb _ => alloc_keeps w _ b hb
  · exact ⟨w.heap.size, z.cells.toList, [], rfl, zaL_Rs _ hv, _, t, (0, 0), rfl, heap_alloc_new w _, .inl rfl, rfl⟩

/-! ### Reckoning -/
theorem run_binV {op : BinOp} {xt : TypeId} {x y : Operand} {u v r : Value} (h : bin op (.v u) (.v v) = some (.v r)) : (do eqGuard op xt x y u v; binOp op xt u v).run P w = .ok r w ∧ r.oneCell' = true := by
  unfold bin at h
  split at h
  · rename_i k n k' m e1 e2
    cases e1
    cases e2
    split at h
    · rename_i hc
      simp only [Option.map_eq_some_iff, PV.v.injEq] at h
      obtain ⟨r', h, rfl⟩ := h
      have hg : eqGuard op xt x y (.int k n) (.int k' m) = pure () := by cases op <;> rfl
      simp only [hg, Sem.run_bind, Sem.run_pure, Result.andThen_ok]
      cases op <;> simp only [binInt] at h
      case shl =>
        split at h
        · simp at h
        · rename_i hm; cases h; simp [binOp, Op.shift, hm, Value.oneCell']
      case shr =>
        split at h
        · simp at h
        · rename_i hm; cases h; simp [binOp, Op.shift, hm, Value.oneCell']
      all_goals
        have hk : k = k' := by simpa [BinOp.shifts] using hc
        subst hk
      case quo =>
        split at h
        · simp at h
        · rename_i hm; cases h; simp [binOp, Op.intDiv, hm, Value.oneCell']
      case rem =>
        split at h
        · simp at h
        · rename_i hm; cases h; simp [binOp, Op.intDiv, hm, Value.oneCell']
      all_goals
        cases h
        simp [binOp, Op.intArith, Op.intBits, Op.intCmp, Value.oneCell']
    · simp at h
  · rename_i s t e1 e2
    cases e1
    cases e2
    simp only [Option.map_eq_some_iff, PV.v.injEq] at h
    obtain ⟨r', h, rfl⟩ := h
    have hg : eqGuard op xt x y (.string s) (.string t) = pure () := by cases op <;> rfl
    simp only [hg, Sem.run_bind, Sem.run_pure, Result.andThen_ok]
    cases op <;> simp only [binStr] at h
    case add =>
      split at h
      · rename_i hm
        cases h
        have : ¬ (((s.size + t.size : Nat) : Int) > IntKind.i64.max) := by simp [IntKind.max, IntKind.signed, IntKind.bits]; omega
        simp only [binOp, Op.stringOp]
        rw [if_neg this]
        exact ⟨rfl, rfl⟩
      · simp at h
    all_goals
      first
        | (simp at h; done)
        | (cases h; simp [binOp, Op.stringOp, Value.oneCell'])
  · simp at h
theorem run_bin (h : Inv B e (refOK e (valOf a H) w) (valOf a H) w I blk []) {o : Oper} {op : BinOp} {xt yt : TypeId} {x y : Opd} (hx : x.ok B.glob) (hy : y.ok B.glob) (ho : o.op = .binOp op xt x.op y.op yt) {r : PV} (hr : bin op (x.ev e) (y.ev e) = some r) :
    ∃ V, RunsF P o a V ∧ Yields B (valOf a H) e r V w := by
  have h1 := ev_ok h hx
  have h2 := ev_ok h hy
  have : ∃ u v z, x.ev e = .v u ∧ y.ev e = .v v ∧ r = .v z := by
    unfold bin at hr
    split at hr
    · split at hr
      · simp only [Option.map_eq_some_iff] at hr
        obtain ⟨z, _, rfl⟩ := hr
        exact ⟨_, _, z, by assumption, by assumption, rfl⟩
      · simp at hr
    · simp only [Option.map_eq_some_iff] at hr
      obtain ⟨z, _, rfl⟩ := hr
      exact ⟨_, _, z, by assumption, by assumption, rfl⟩
    · simp at hr
  obtain ⟨u, v, z, e1, e2, rfl⟩ := this
  rw [e1] at h1 hr
  rw [e2] at h2 hr
  have hu : a.eval x.op = u := h1.1
  have hv : a.eval y.op = v := h2.1
  refine ⟨z, fun w2 => ?_, Yields.plain h (run_binV (P := P) (w := w) (xt := xt) (x := x.op) (y := y.op) hr).2⟩
  have h3 := (run_binV (P := P) (w := w2) (xt := xt) (x := x.op) (y := y.op) hr).1
  simp only [execOp, ho, hu, hv, Sem.run_bind] at h3 ⊢
  simp only [h3, Result.andThen_ok, Sem.run_pure]
theorem run_un (h : Inv B e (refOK e (valOf a H) w) (valOf a H) w I blk []) {o : Oper} {op : UnOp} {xt : TypeId} {x : Opd} (hx : x.ok B.glob) (ho : o.op = .unOp op xt x.op) {r : PV} (hr : un op (x.ev e) = some r) :
    ∃ V, RunsF P o a V ∧ Yields B (valOf a H) e r V w := by
  have h1 := ev_ok h hx
  unfold un at hr
  split at hr
  · rename_i k n e1
    rw [e1] at h1
    have hu : a.eval x.op = .int k n := h1.1
    cases op <;> simp at hr
    · subst hr
      exact ⟨_, fun _ => (by simp [execOp, ho, hu, Op.unary, Op.intArith]), Yields.plain h rfl⟩
    · subst hr
      exact ⟨_, fun _ => (by simp [execOp, ho, hu, Op.unary, Op.intBits]), Yields.plain h rfl⟩
  · rename_i b e1
    rw [e1] at h1
    have hu : a.eval x.op = .bool b := h1.1
    cases op <;> simp at hr
    subst hr
    exact ⟨_, fun _ => (by simp [execOp, ho, hu, Op.unary]), Yields.plain h rfl⟩
  · simp at hr
theorem run_extr (h : Inv B e (refOK e (valOf a H) w) (valOf a H) w I blk []) {o : Oper} {x : Opd} {j : Nat} (hx : x.ok B.glob) (ho : o.op = .extract x.op j) {cs : List PV} (hc : x.ev e = .tup cs) {y : PV} (hy : cs[j]? = some y) :
    ∃ V, RunsF P o a V ∧ Yields B (valOf a H) e y V w := by
  have h1 := ev_ok h hx
  have hno : (x.ev e).hasObj = false := ev_noObj x
  rw [hc] at h1 hno
  obtain ⟨vs, e1, h2⟩ := h1
  obtain ⟨v, e2, h3⟩ := h2.get0 hy
  refine ⟨v, fun _ => ?_, I, blk, [], h, .inr ⟨rfl, hasObjL_get hno hy, h3⟩⟩
  simp [execOp, ho, e1, Instr.extract, e2]
end
end Go.AM
