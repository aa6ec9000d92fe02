/- Every operation: what the real machine does is what the abstract one says. No conditions. -/
import Derived.Test.YtfkgoofipbbhpaaDoorAmCall2
namespace Go.AM
open Go

/-- A function with a body. -/
def Enters (P : Program) (f : FuncId) : Prop := ∃ fn c, P.funcs[f]? = some fn ∧ (fn.name == "runtime.NumGoroutine") = false ∧ fn.body = some c
theorem Enters.run {P : Program} {f : FuncId} (h : Enters P f) (args : Array Value) (w : World) : (callFunc f args).run P w = .ok (.enter f args) w := by
  obtain ⟨fn, c, h1, h2, h3⟩ := h
  have h4 : fn.name ≠ "runtime.NumGoroutine" := by simpa using h2
  simp [callFunc, h1, h4, h3]
/-- A function that the model answers itself. -/
def ExtK.entry : ExtK → (Array Value → Sem Value) → Prop
  | .add64, en => en = add64Entry
  | .idxByteStr, en => en = Extern.BytealgIndexByte.indexByte
def Extn (P : Program) (f : FuncId) (k : ExtK) : Prop := ∃ fn en, P.funcs[f]? = some fn ∧ (fn.name == "runtime.NumGoroutine") = false ∧ fn.body.isNone = true ∧ Extern.findNext fn = none ∧ Extern.find fn = some en ∧ k.entry en
/-- What the program's types must say for an operation. -/
def IOp.ok (P : Program) (G : Nat → List PV) : IOp → Prop
  | .move x | .assign x | .box _ x | .nilck x | .un _ _ x | .extr x _ => x.ok G
  | .pick c a b => c.ok G ∧ a.ok G ∧ b.ok G
  | .alloc t zero => ∃ i z, P.info? t = some i ∧ i.zero = some z ∧ zaL zero = some z.cells.toList
  | .build t pl zero parts => (∀ p ∈ parts, p.2.ok G) ∧ BuildOK P t pl zero
  | .lit t sz parts => (∀ p ∈ parts, p.ok G) ∧ ∃ el ie z, P.underlying t = some (.slice el) ∧ P.info? el = some ie ∧ ie.zero = some z ∧ ie.size = sz ∧ 0 < sz ∧ parts.length * sz ≤ 2 ^ 24
  | .load t n a => a.ok G ∧ LoadOK P t n
  | .store t n a x => a.ok G ∧ x.ok G ∧ LoadOK P t n
  | .bin _ _ x y _ => x.ok G ∧ y.ok G
  | .eqs _ xt ks x y _ => x.ok G ∧ y.ok G ∧ EqOK P xt ks
  | .conv src dst k x => x.ok G ∧ ConvOK P src dst k
  | .mk t sz bytes zero l c => l.ok G ∧ c.ok G ∧ ∃ el ie z, P.underlying t = some (.slice el) ∧ P.info? el = some ie ∧ ie.zero = some z ∧ ie.size = sz ∧ ie.bytes = bytes ∧ ZeroV zero z
  | .slice t k x lo hi mx => x.ok G ∧ (∀ z ∈ lo, z.ok G) ∧ (∀ z ∈ hi, z.ok G) ∧ (∀ z ∈ mx, z.ok G) ∧ match k with
    | .str => P.underlying t = some .string ∧ mx = none
    | .sl sz => ∃ el ti, P.underlying t = some (.slice el) ∧ P.info? el = some ti ∧ ti.size = sz
    | .arr _ => True
  | .faddr t x f off => x.ok G ∧ ∃ (fs : Array Field) (fd : Field) (ti : TypeInfo), P.underlying t = some (.struct fs) ∧ fs[f]? = some fd ∧ fd.offset = off ∧ P.info? fd.type = some ti ∧ ti.size ≠ 0
  | .field t x f off n => x.ok G ∧ ∃ (fs : Array Field) (fd : Field), P.underlying t = some (.struct fs) ∧ fs[f]? = some fd ∧ fd.offset = off ∧ LoadOK P fd.type n
  | .iaddr t k x i => x.ok G ∧ i.ok G ∧ match k with
    | .sl sz => ∃ el ti, P.underlying t = some (.slice el) ∧ P.info? el = some ti ∧ ti.size = sz
    | .arr n sz => ∃ el ti, P.underlying t = some (.array n el) ∧ P.info? el = some ti ∧ ti.size = sz
    | .str => True
  | .index t k m x i => x.ok G ∧ i.ok G ∧ match k with
    | .str => P.underlying t = some .string
    | .arr n sz => ∃ el ti, P.underlying t = some (.array n el) ∧ P.info? el = some ti ∧ ti.size = sz ∧ LoadOK P el m
    | .sl _ => True
  | .call f args _ => (∀ x ∈ args, x.ok G) ∧ Enters P f
  | .allocB t _ => ∃ i z, P.info? t = some i ∧ i.zero = some z ∧ z.cells = #[.pointer none, .slice none 0 0]
  | .range t x => x.ok G ∧ P.underlying t = some .string
  | .next x => x.ok G
  | .mark t x => x.ok G ∧ ∃ el, P.underlying t = some (.slice el) ∧ P.underlying el = some (.int .u8)
  | .append t u _ sz bytes x y => x.ok G ∧ y.ok G ∧ ∃ el ie z, P.underlying t = some (.slice el) ∧ (P.underlying u = some (.slice el) ∨ P.underlying u = some .string) ∧ P.info? el = some ie ∧ ie.zero = some z ∧ ie.size = sz ∧ ie.bytes = bytes ∧ z.cells.size = sz
  | .len t txt x => x.ok G ∧ if txt then P.underlying t = some .string else ∃ el, P.underlying t = some (.slice el)
  | .minmax _ _ x y => x.ok G ∧ y.ok G
  | .ext f k args _ => (∀ x ∈ args, x.ok G) ∧ Extn P f k
  | .callv es f args _ => f.ok G ∧ (∀ x ∈ args, x.ok G) ∧ ∀ n ∈ es, Enters P n
  | .other x => ∀ cs b, x ≠ .select cs b

section
variable {P : Program} {B : Base} {T : Tab} {C : Oracle} {a : Act} {H : Nat → Value} {e e' : Env} {w w' : World} {I : Nat → Prop} {blk : Nat → List Nat} {Q : Exit → Act → World → Prop}

/-- The variables that an operation's value comes from are told of no block that it doesn't know. -/
theorem RunsTo.wp {o : Oper} {V : Value} {w' : World} (h : RunsTo P o a w V w') {K : Act → World → Prop} (hK : K (a.put o.dst V) w') : o.wp P a w K Q := by
  unfold Oper.wp
  rcases h with h | ⟨h, rfl⟩
  · rw [h]; exact hK
  · rw [h]; exact hK
/-- An operation that reads and writes no memory. -/
def IOp.isF : IOp → Bool
  | .move _ | .pick _ _ _ | .build _ _ _ _ | .nilck _ | .bin _ _ _ _ _ | .eqs _ _ _ _ _ _ | .un _ _ _ | .slice _ _ _ _ _ _ | .faddr _ _ _ _ | .field _ _ _ _ _ | .iaddr _ _ _ _ | .index _ _ _ _ _ | .extr _ _ | .len _ _ _ | .minmax _ _ _ _ | .ext _ _ _ _ => true
  | .conv _ _ k _ => k.pure
  | _ => false
def IOp.isR : IOp → Bool
  | .load _ _ _ => true
  | _ => false
def IOp.isCall : IOp → Bool
  | .call _ _ _ => true
  | .callv _ _ _ _ => true
  | _ => false
theorem extPV_one {k : ExtK} {xs : List PV} {y : PV} (h : extPV k xs = some y) : y.hasObj = false := by
  unfold extPV at h
  split at h
  · split at h
    · cases h; rfl
    · cases h
  · cases h; rfl
  · cases h
theorem extPV_run {k : ExtK} {en : Array Value → Sem Value} (he : k.entry en) {xs : List PV} {y : PV} (h : extPV k xs = some y) {q : PV → Value → Prop} {vs : List Value} (hx : Rs w I q xs vs []) :
    ∃ V, (∀ w2, (en vs.toArray).run P w2 = .ok V w2) ∧ R w I q y V [] := by
  have one : ∀ {x : Value} {xs : List PV} {vs : List Value}, Rs w I q (.v x :: xs) vs [] → ∃ us, vs = x :: us ∧ Rs w I q xs us [] := by
    rintro x xs vs ⟨v, us, b1, b2, rfl, e, ⟨rfl, _, _⟩, h2⟩
    obtain ⟨rfl, rfl⟩ : b1 = [] ∧ b2 = [] := by simpa using e.symm
    exact ⟨us, rfl, h2⟩
  unfold extPV at h
  split at h
  · rename_i a b c
    split at h
    · rename_i hc
      cases h
      obtain ⟨u1, rfl, h1⟩ := one hx
      obtain ⟨u2, rfl, h2⟩ := one h1
      obtain ⟨u3, rfl, h3⟩ := one h2
      obtain ⟨rfl, _⟩ := h3
      have he' : en = add64Entry := he
      subst he'
      exact ⟨_, fun w2 => run_add64 a b c hc.1 hc.2.1 hc.2.2.1 hc.2.2.2 w2, _, rfl, _, _, [], [], rfl, rfl, ⟨rfl, rfl, rfl⟩, _, _, [], [], rfl, rfl, ⟨rfl, rfl, rfl⟩, rfl, rfl⟩
    · cases h
  · rename_i s c
    cases h
    obtain ⟨u1, rfl, h1⟩ := one hx
    obtain ⟨u2, rfl, h2⟩ := one h1
    obtain ⟨rfl, _⟩ := h2
    have he' : en = Extern.BytealgIndexByte.indexByte := he
    subst he'
    exact ⟨_, fun w2 => run_indexByte_string s c w2, rfl, rfl, rfl⟩
  · cases h
theorem op_F (h : Inv B e (refOK e (valOf a H) w) (valOf a H) w I blk []) {o : Oper} {op : IOp} (hok : op.ok P B.glob) (ho : o.op = op.toOp) (hF : op.isF = true) {y : PV} (hev : ev T C e op = some (y, e')) :
    ∃ V, RunsF P o a V ∧ Yields B (valOf a H) e' y V w := by
  cases op with
  | move x =>
    simp only [ev, Option.some.injEq, Prod.mk.injEq] at hev
    obtain ⟨rfl, rfl⟩ := hev
    exact ⟨_, run_move h hok ho⟩
  | pick c x z =>
    simp only [ev] at hev
    split at hev
    · rename_i t ht
      simp only [Option.some.injEq, Prod.mk.injEq] at hev
      obtain ⟨rfl, rfl⟩ := hev
      exact ⟨_, run_pick h hok.1 hok.2.1 hok.2.2 ho ht⟩
    · simp at hev
  | build t pl zero parts =>
    simp only [ev, Option.bind_eq_bind, Option.bind_eq_some_iff, Option.pure_def, Option.some.injEq, Prod.mk.injEq] at hev
    obtain ⟨cs, hs, rfl, rfl⟩ := hev
    exact run_buildOp h hok.1 ho hok.2 hs
  | nilck x =>
    simp only [ev] at hev
    split at hev
    · rename_i s e1
      split at hev
      · rename_i cs hg
        simp only [Option.some.injEq, Prod.mk.injEq] at hev
        obtain ⟨rfl, rfl⟩ := hev
        have := run_nilck_view (P := P) (y := .addr s 0) h hok ho (by rw [e1]; simp [offAddr, hg])
        rw [e1] at this
        exact this
      · simp at hev
    · rename_i u e1
      split at hev
      · rename_i fn x1 x2
        split at hev
        · rename_i n hemp
          simp only [Option.some.injEq, Prod.mk.injEq] at hev
          obtain ⟨rfl, rfl⟩ := hev
          have h1 := ev_ok h hok
          rw [e1] at h1
          refine ⟨_, fun w2 => ?_, Yields.plain h rfl⟩
          have := h1.1
          simp [execOp, ho, IOp.toOp, this]
        · simp at hev
      · simp at hev
    · simp only [Option.map_eq_some_iff, Prod.mk.injEq] at hev
      obtain ⟨r, hr, rfl, rfl⟩ := hev
      exact run_nilck h hok ho hr
  | bin op xt x z yt =>
    simp only [ev, Option.map_eq_some_iff, Prod.mk.injEq] at hev
    obtain ⟨r, hr, rfl, rfl⟩ := hev
    exact run_bin h hok.1 hok.2 ho hr
  | eqs neg xt ks x z yt =>
    simp only [ev, Option.map_eq_some_iff, Prod.mk.injEq] at hev
    obtain ⟨r, hr, rfl, rfl⟩ := hev
    exact run_eqs h hok.1 hok.2.1 ho hok.2.2 hr
  | un op xt x =>
    simp only [ev, Option.map_eq_some_iff, Prod.mk.injEq] at hev
    obtain ⟨r, hr, rfl, rfl⟩ := hev
    exact run_un h hok ho hr
  | conv src dst k x =>
    simp only [ev, Option.map_eq_some_iff, Prod.mk.injEq] at hev
    obtain ⟨r, hr, rfl, rfl⟩ := hev
    exact run_convF h hok.1 ho hok.2 hF hr
  | slice t k x lo hi mx =>
    obtain ⟨hx, hlo, hhi, hmx, hk⟩ := hok
    simp only [ev] at hev
    cases k with
    | str =>
      simp only [Option.map_eq_some_iff, Prod.mk.injEq] at hev
      obtain ⟨r, hr, rfl, rfl⟩ := hev
      obtain ⟨h1, rfl⟩ := hk
      exact run_sliceStr h hx hlo hhi ho h1 hr
    | sl sz =>
      simp only [Option.map_eq_some_iff, Prod.mk.injEq] at hev
      obtain ⟨r, hr, rfl, rfl⟩ := hev
      obtain ⟨el, ti, h1, h2, h3⟩ := hk
      exact run_sliceSl h hx hlo hhi hmx ho h1 h2 h3 hr
    | arr n => simp at hev
  | faddr t x f off =>
    simp only [ev, Option.map_eq_some_iff, Prod.mk.injEq] at hev
    obtain ⟨r, hr, rfl, rfl⟩ := hev
    obtain ⟨hx, fs, fd, ti, h1, h2, h3, h4, h5⟩ := hok
    exact run_faddr h hx ho h1 h2 h3 h4 h5 hr
  | field t x f off n =>
    simp only [ev] at hev
    obtain ⟨hx, fs, fd, h1, h2, h3, h4⟩ := hok
    split at hev
    · rename_i cs hc
      simp only [Option.map_eq_some_iff, Prod.mk.injEq] at hev
      obtain ⟨r, hr, rfl, rfl⟩ := hev
      exact run_field h hx ho h1 h2 h3 h4 hc hr
    · simp at hev
  | iaddr t k x i =>
    obtain ⟨hx, hi, hk⟩ := hok
    simp only [ev] at hev
    cases k with
    | sl sz =>
      simp only [Option.map_eq_some_iff, Prod.mk.injEq] at hev
      obtain ⟨r, hr, rfl, rfl⟩ := hev
      obtain ⟨el, ti, h1, h2, h3⟩ := hk
      exact run_indexSl h hx hi ho h1 h2 h3 hr
    | arr n sz =>
      simp only [Option.map_eq_some_iff, Prod.mk.injEq] at hev
      obtain ⟨r, hr, rfl, rfl⟩ := hev
      obtain ⟨el, ti, h1, h2, h3⟩ := hk
      exact run_indexArr h hx hi ho h1 h2 h3 hr
    | str => simp at hev
  | index t k m x i =>
    obtain ⟨hx, hi, hk⟩ := hok
    simp only [ev] at hev
    cases k with
    | sl sz => simp at hev
    | arr n sz =>
      simp only at hev
      split at hev
      · rename_i cs hc
        simp only [Option.bind_eq_some_iff, Option.map_eq_some_iff, Prod.mk.injEq] at hev
        obtain ⟨j, hj, r, hr, rfl, rfl⟩ := hev
        obtain ⟨el, ti, h1, h2, h3, h4⟩ := hk
        exact run_indexAgg h hx hi ho h1 h2 h3 h4 hc hj hr
      · simp at hev
    | str =>
      simp only at hev
      split at hev
      · rename_i s hc
        simp only [Option.map_eq_some_iff, Prod.mk.injEq] at hev
        obtain ⟨j, hj, rfl, rfl⟩ := hev
        exact run_indexStr h hx hi ho hk hc hj
      · simp at hev
  | extr x j =>
    simp only [ev] at hev
    split at hev
    · rename_i cs hc
      split at hev
      · rename_i z hz
        simp only [Option.some.injEq, Prod.mk.injEq] at hev
        obtain ⟨rfl, rfl⟩ := hev
        exact run_extr h hok ho hc hz
      · simp at hev
    · simp at hev
  | len t txt x =>
    simp only [ev, Option.map_eq_some_iff, Prod.mk.injEq] at hev
    obtain ⟨n, hn, rfl, rfl⟩ := hev
    exact run_len h hok.1 ho hok.2 hn
  | minmax mx ts x z =>
    simp only [ev] at hev
    split at hev
    · rename_i k m k' n e1 e2
      split at hev
      · rename_i hk
        subst hk
        simp only [Option.some.injEq, Prod.mk.injEq] at hev
        obtain ⟨rfl, rfl⟩ := hev
        exact run_minmax h hok.1 hok.2 ho e1 e2
      · simp at hev
    · simp at hev
  | ext f k args ts =>
    simp only [ev, Option.map_eq_some_iff, Prod.mk.injEq] at hev
    obtain ⟨r, hr, rfl, rfl⟩ := hev
    obtain ⟨hx, fn, en, h1, h2, h3, h4, h5, h6⟩ := hok
    obtain ⟨V, hV, hR⟩ := extPV_run (P := P) h6 hr (evL_ok h hx)
    refine ⟨V, fun w2 => ?_, Yields.of h (extPV_one hr) hR⟩
    have hm : args.map (a.eval ∘ fun x => x.op) = args.map fun x => a.eval x.op := rfl
    have hf : a.eval (.func f) = .func (.func f) #[] #[] := rfl
    have hc := run_callFunc_extern h1 h2 h3 h4 h5 (args.map fun x => a.eval x.op).toArray w2
    rw [hV w2] at hc
    simp [execOp, ho, IOp.toOp, resolve, invoke, hf, Deferred.ofValue]
    rw [hm]
    exact hc
  | assign x => simp [IOp.isF] at hF
  | mark t x => simp [IOp.isF] at hF
  | range t x => simp [IOp.isF] at hF
  | allocB t b => simp [IOp.isF] at hF
  | next x => simp [IOp.isF] at hF
  | box t x => simp [IOp.isF] at hF
  | alloc t z => simp [IOp.isF] at hF
  | lit t sz ps => simp [IOp.isF] at hF
  | load t n x => simp [IOp.isF] at hF
  | store t n ad x => simp [IOp.isF] at hF
  | mk t sz bytes zero l c => simp [IOp.isF] at hF
  | call f args ts => simp [IOp.isF] at hF
  | append t u txt sz bytes x z => simp [IOp.isF] at hF
  | callv es f args ts => simp [IOp.isF] at hF
  | other x => simp [IOp.isF] at hF
theorem op_runs (h : Inv B e (refOK e (valOf a H) w) (valOf a H) w I blk []) {o : Oper} {op : IOp} (hok : op.ok P B.glob) (ho : o.op = op.toOp) (hc : op.isCall = false) {y : PV} (hev : ev T C e op = some (y, e')) :
    ∃ V w', RunsTo P o a w V w' ∧ Yields B (valOf a H) e' y V w' := by
  by_cases hF : op.isF = true
  · obtain ⟨V, h1, h2⟩ := op_F h hok ho hF hev
    exact ⟨V, w, h1.to w, h2⟩
  cases op with
  | assign x => exact ⟨_, _, run_assign h hok ho hev⟩
  | mark t x =>
    obtain ⟨hx, el, h1, h2⟩ := hok
    simp only [ev] at hev
    exact run_mark h hx ho h1 h2 hev
  | allocB t b =>
    simp only [ev, Option.some.injEq, Prod.mk.injEq] at hev
    obtain ⟨rfl, rfl⟩ := hev
    obtain ⟨i, z, h1, h2, h3⟩ := hok
    exact run_allocB h ho h1 h2 h3
  | range t x =>
    simp only [ev] at hev
    exact run_range h hok.1 ho hok.2 hev
  | next x =>
    simp only [ev] at hev
    exact run_next h hok ho hev
  | box t x =>
    simp only [ev, Option.bind_eq_bind, Option.bind_eq_some_iff, Option.pure_def, Option.some.injEq, Prod.mk.injEq, Prod.exists] at hev
    obtain ⟨z, e2, hs, rfl, rfl⟩ := hev
    exact run_box h hok ho hs
  | alloc t zero =>
    simp only [ev, Option.some.injEq, Prod.mk.injEq] at hev
    obtain ⟨rfl, rfl⟩ := hev
    obtain ⟨i, z, h1, h2, h3⟩ := hok
    exact run_alloc h ho h1 h2 h3
  | lit t sz parts =>
    simp only [ev, Option.bind_eq_bind, Option.bind_eq_some_iff, Prod.exists] at hev
    obtain ⟨ys, e2, hs, hev⟩ := hev
    obtain ⟨hx, el, ie, z, h1, h2, h3, h4, h5, h6⟩ := hok
    split at hev
    · rename_i hc
      simp only [Option.pure_def, Option.some.injEq, Prod.mk.injEq] at hev
      obtain ⟨rfl, rfl⟩ := hev
      simp only [Bool.and_eq_true, List.all_eq_true, beq_iff_eq] at hc
      exact run_lit h hx ho h1 h2 h3 h4 h5 h6 hs hc.1 hc.2
    · simp at hev
  | load t n ad =>
    simp only [ev, Option.map_eq_some_iff, Prod.mk.injEq] at hev
    obtain ⟨z, hz, rfl, rfl⟩ := hev
    obtain ⟨V, h1, h2⟩ := run_load h hok.1 ho hok.2 hz
    exact ⟨V, w, h1, h2⟩
  | store t n ad x =>
    simp only [ev, Option.bind_eq_bind, Option.bind_eq_some_iff, Option.pure_def, Option.some.injEq, Prod.mk.injEq, Prod.exists] at hev
    obtain ⟨z, e2, hs, e3, hst, rfl, rfl⟩ := hev
    obtain ⟨w', k⟩ := run_store h hok.1 hok.2.1 ho hok.2.2 hs hst
    exact ⟨_, w', k⟩
  | conv src dst k x =>
    simp only [ev, Option.map_eq_some_iff, Prod.mk.injEq] at hev
    obtain ⟨r, hr, rfl, rfl⟩ := hev
    exact run_conv h hok.1 ho hok.2 hr
  | mk t sz bytes zero l c =>
    simp only [ev] at hev
    split at hev
    · rename_i n m e1 e2
      split at hev
      · rename_i hc
        simp only [Option.some.injEq, Prod.mk.injEq] at hev
        obtain ⟨rfl, rfl⟩ := hev
        obtain ⟨c0, c1, c2, c3, c4, c5⟩ := hc
        obtain ⟨hl, hcp, el, ie, z, h1, h2, h3, h4, h5, h6⟩ := hok
        exact run_mk h hl hcp ho h1 h2 h3 h4 h5 h6 c4 c5 e1 e2 c0 c1 c2 c3
      · simp at hev
    · simp at hev
  | append t u txt sz bytes x z =>
    obtain ⟨hx, hz, el, ie, zv, h1, h2, h3, h4, h5, h6, h7⟩ := hok
    simp only [ev] at hev
    refine run_append h hx hz ho h1 h2 h3 h4 h5 h6 h7 hev fun ys vy hm hr => flat_one hr ?_
    obtain ⟨vy', hs, _⟩ := more_ok (P := P) h hz hm
    exact fun x hx' => (hs x hx').2
  | call f args ts => simp [IOp.isCall] at hc
  | callv es f args ts => simp [IOp.isCall] at hc
  | other x => simp [ev] at hev
  | move x => simp [IOp.isF] at hF
  | pick c x z => simp [IOp.isF] at hF
  | build t pl zero parts => simp [IOp.isF] at hF
  | nilck x => simp [IOp.isF] at hF
  | bin op xt x z yt => simp [IOp.isF] at hF
  | eqs neg xt ks x z yt => simp [IOp.isF] at hF
  | un op xt x => simp [IOp.isF] at hF
  | slice t k x lo hi mx => simp [IOp.isF] at hF
  | faddr t x f off => simp [IOp.isF] at hF
  | field t x f off n => simp [IOp.isF] at hF
  | iaddr t k x i => simp [IOp.isF] at hF
  | index t k m x i => simp [IOp.isF] at hF
  | extr x j => simp [IOp.isF] at hF
  | len t txt x => simp [IOp.isF] at hF
  | minmax mx ts x z => simp [IOp.isF] at hF
  | ext f k args ts => simp [IOp.isF] at hF
/-- A call: whom, and with what. -/
def IOp.calls (e : Env) : IOp → Option (FuncId × List PV)
  | .call f args _ => some (f, args.map fun a => a.ev e)
  | .callv es f args _ => match f.ev e with
    | .v (.func (.func n) a b) => if a.isEmpty = true ∧ b.isEmpty = true ∧ n ∈ es then some (n, args.map fun a => a.ev e) else none
    | _ => none
  | _ => none
theorem ev_calls {op : IOp} (hc : op.isCall = true) : ev T C e op = (op.calls e).bind fun q => call T C e q.1 q.2 := by
  cases op <;> simp only [IOp.isCall] at hc <;> first | (cases hc; done) | skip
  · rfl
  · rename_i es f args ts
    simp only [ev, IOp.calls]
    generalize f.ev e = z
    cases z <;> first | rfl | skip
    rename_i u
    cases u <;> first | rfl | skip
    rename_i fn a b
    cases fn <;> first | rfl | skip
    simp only []
    split <;> rfl
theorem calls_enters (h : Inv B e (refOK e (valOf a H) w) (valOf a H) w I blk []) {o : Oper} {op : IOp} (hok : op.ok P B.glob) (ho : o.op = op.toOp) (hc : op.isCall = true) {f : FuncId} {xs : List PV} (hq : op.calls e = some (f, xs)) :
    ∃ vs, (execOp a.eval o).run P w = .ok (.enter f vs.toArray) w ∧ Rs w I (refOK e (valOf a H) w) xs vs [] := by
  have key : ∀ (x : Operand) (args : List Opd) (ts : List TypeId), o.op = .call { callee := .value x, args := (args.map (·.op)).toArray, argTypes := ts.toArray } → a.eval x = .func (.func f) #[] #[] → Enters P f → (execOp a.eval o).run P w = .ok (.enter f ((args.map fun x => a.eval x.op).toArray)) w := by
    intro x args ts ho hx hen
    have := hen.run ((args.map fun x => a.eval x.op).toArray) w
    have hm : args.map (a.eval ∘ fun x => x.op) = args.map fun x => a.eval x.op := rfl
    simp [execOp, ho, resolve, invoke, hx, Deferred.ofValue]
    rw [hm]
    exact this
  cases op <;> simp only [IOp.isCall] at hc <;> first | (cases hc; done) | skip
  · rename_i g args ts
    simp only [IOp.calls, Option.some.injEq, Prod.mk.injEq] at hq
    obtain ⟨rfl, rfl⟩ := hq
    exact ⟨_, key _ args ts ho rfl hok.2, evL_ok h hok.1⟩
  · rename_i es g args ts
    simp only [IOp.calls] at hq
    split at hq
    · rename_i n c d e1
      split at hq
      · rename_i hcd
        simp only [Option.some.injEq, Prod.mk.injEq] at hq
        obtain ⟨rfl, rfl⟩ := hq
        obtain ⟨h1, h2, h3⟩ := hcd
        have hR := ev_ok h hok.1
        rw [e1] at hR
        refine ⟨_, key _ args ts ho ?_ (hok.2.2 _ h3), evL_ok h hok.2.1⟩
        rw [hR.1, Array.isEmpty_iff.1 h1, Array.isEmpty_iff.1 h2]
      · cases hq
    · cases hq
theorem op_sound (hC : CallOK P B.glob C) (h : Inv B e (refOK e (valOf a H) w) (valOf a H) w I blk []) {o : Oper} {op : IOp} (hok : op.ok P B.glob) (ho : o.op = op.toOp) {y : PV} (hev : ev T C e op = some (y, e')) :
    o.wp P a w (fun a' w' => ∃ V, a' = a.put o.dst V ∧ Yields B (valOf a H) e' y V w') Q := by
  by_cases hc : op.isCall = true
  · rw [ev_calls hc] at hev
    simp only [Option.bind_eq_some_iff, Prod.exists] at hev
    obtain ⟨f, xs, hq, hev⟩ := hev
    obtain ⟨vs, hrun, hx⟩ := calls_enters h hok ho hc hq
    have hcall := call_ok (T := T) hC h hx hev
    unfold Oper.wp
    rw [hrun]
    exact hcall.mono fun en w' ⟨V, he, hy, _⟩ => by subst he; exact ⟨V, rfl, hy⟩
  · obtain ⟨V, w', h1, h2⟩ := op_runs h hok ho (by simpa using hc) hev
    exact h1.wp ⟨V, rfl, h2⟩
end
end Go.AM
