/- The operations, continued: rows read, cut, made, grown; texts. No conditions. -/
import Derived.Test.YtfkgoofipbbhpaaDoorAmOps
import Derived.Lib.AppendStr
import Derived.Lib.ConvBytes
namespace Go.AM
open Go

section
variable {P : Program} {B : Base} {a : Act} {H : Nat → Value} {e e' : Env} {w w' : World} {I : Nat → Prop} {blk : Nat → List Nat} {fl : List Nat}

theorem Yields.of (h : Inv B e (refOK e (valOf a H) w) (valOf a H) w I blk []) {y : PV} {V : Value} (hy : y.hasObj = false) (hR : R w I (refOK e (valOf a H) w) y V []) : Yields B (valOf a H) e y V w := ⟨I, blk, [], h, .inr ⟨rfl, hy, hR⟩⟩

/-! ### Lengths, indexes, bounds -/
theorem run_len (h : Inv B e (refOK e (valOf a H) w) (valOf a H) w I blk []) {o : Oper} {t : TypeId} {txt : Bool} {x : Opd} (hx : x.ok B.glob) (ho : o.op = .call { callee := .builtin .len, args := #[x.op], argTypes := #[t] })
    (ht : if txt then P.underlying t = some .string else ∃ el, P.underlying t = some (.slice el)) {n : Nat} (hn : lenPV e txt (x.ev e) = some n) :
    ∃ V, RunsF P o a V ∧ Yields B (valOf a H) e (.v (.int .i64 n)) V w := by
  have h1 := ev_ok h hx
  refine ⟨.int .i64 n, fun w2 => ?_, Yields.plain h rfl⟩
  unfold lenPV at hn
  split at hn
  · rename_i hc
    rw [if_pos hc] at ht
    split at hn
    · rename_i s e1
      rw [e1] at h1
      have hu : a.eval x.op = .string s := h1.1
      cases hn
      simp [execOp, ho, resolve, invoke, builtin, Builtin.len_, run_underlying ht, hu, goInt]
    · simp at hn
  · rename_i hc
    rw [if_neg hc] at ht
    obtain ⟨el, ht⟩ := ht
    simp only [Option.map_eq_some_iff, Prod.exists] at hn
    obtain ⟨sz, l, hl, rfl⟩ := hn
    obtain ⟨_, ad, cap, vs, hu, _⟩ := elems_ok h h1 hl
    simp [execOp, ho, resolve, invoke, builtin, Builtin.len_, run_underlying ht, hu, goInt]
theorem idx_ok {x : PV} {n j : Nat} {V : Value} {q : PV → Value → Prop} {bs : List Nat} (hR : R w I q x V bs) (h : idx x n = some j) : ∃ k i, V = .int k i ∧ 0 ≤ i ∧ i < n ∧ i.toNat = j := by
  unfold idx at h
  split at h
  · rename_i k i
    split at h
    · rename_i hc
      exact ⟨k, i, hR.1, hc.1, hc.2, Option.some.inj h⟩
    · simp at h
  · simp at h
theorem bound_ok {x : PV} {n j : Nat} {V : Value} {q : PV → Value → Prop} {bs : List Nat} (hR : R w I q x V bs) (h : bound x n = some j) (y : Nat) (hy : n ≤ y) (c : BoundsCode) {w2 : World} : (Instr.sliceBound V y c).run P w2 = .ok j w2 ∧ j ≤ n := by
  unfold bound at h
  split at h
  · rename_i k i
    split at h
    · rename_i hc
      have e1 : V = .int k i := hR.1
      have e2 := Option.some.inj h
      subst e1
      subst e2
      have : i ≤ (y : Int) := by omega
      refine ⟨?_, by omega⟩
      simp [Instr.sliceBound, asIntOf, hc.1, this]
    · simp at h
  · simp at h

theorem run_indexSl (h : Inv B e (refOK e (valOf a H) w) (valOf a H) w I blk []) {o : Oper} {t el : TypeId} {sz : Nat} {x i : Opd} (hx : x.ok B.glob) (hi : i.ok B.glob) (ho : o.op = .indexAddr t x.op i.op)
    (ht : P.underlying t = some (.slice el)) {ti : TypeInfo} (hti : P.info? el = some ti) (hsz : ti.size = sz) {y : PV} (hy : indexSl e sz (x.ev e) (i.ev e) = some y) :
    ∃ V, RunsF P o a V ∧ Yields B (valOf a H) e y V w := by
  have h1 := ev_ok h hx
  have h2 := ev_ok h hi
  have run : ∀ (A : Addr) (n cap j : Nat) (k : IntKind) (m : Int), a.eval x.op = .slice (some A) n cap → a.eval i.op = .int k m → 0 ≤ m → m < n → m.toNat = j → RunsF P o a (.pointer (some (A.add (j * sz)))) := by
    intro A n cap j k m e1 e2 h3 h4 h5 w2
    subst hsz
    subst h5
    simp [execOp, ho, e1, e2, Instr.indexAt, asIntOf, run_underlying ht, h3, h4, sizeOf, typeInfo, hti]
  unfold indexSl at hy
  split at hy
  · rename_i sz' l e1
    split at hy
    · rename_i hc
      subst hc
      simp only [Option.bind_eq_some_iff, Option.map_eq_some_iff] at hy
      obtain ⟨j, hj, z, hz, rfl⟩ := hy
      obtain ⟨k, m, hm, h3, h4, h5⟩ := idx_ok h2 hj
      rw [e1] at h1
      obtain ⟨_, hs, ad, cap, hV, hc2, h6⟩ := h1
      rcases h6 with rfl | ⟨A, vs, rfl, hA, hIA, hr, hcells⟩
      · simp at hz
      · obtain ⟨v, hv, hRz⟩ := hr.get0 hz
        refine ⟨_, run A _ cap j k m hV hm h3 h4 h5, Yields.of h rfl ⟨rfl, A.add (j * sz'), v.cells.toList, rfl, spot_add _ _ hA, by rw [block_add]; exact hIA, cells_Rs (imm_ne_dead (hs z (List.mem_of_getElem? hz)).2) hRz nope_oneCell, ?_⟩⟩
        intro c u hu
        rw [add_add _ _ _ hA]
        exact hcells _ u (flatV_get (SzOk.sizes hs hr) hv hu)
    · simp at hy
  · rename_i s p e1
    rw [e1] at h1
    have h1' := h1.2
    simp only [refOK] at h1'
    split at hy
    · rename_i sz' l hat
      split at hy
      · rename_i hc
        subst hc
        simp only [Option.map_eq_some_iff] at hy
        obtain ⟨j, hj, rfl⟩ := hy
        obtain ⟨k, m, hm, h3, h4, h5⟩ := idx_ok h2 hj
        have hob : (e.at_ s p).isObj = true := by rw [hat]; rfl
        obtain ⟨U, bs, blk', h6, h7, _⟩ := h.take hob
        have hpl := h1'.2 hob
        rw [hpl] at h6
        obtain rfl := Option.some.inj h6
        rw [hat] at h7
        rcases h7.2 with ⟨_, rfl, _⟩ | ⟨g, vs, _, _, cap, cur, t', fr, hV, _⟩
        · simp at h4; omega
        · refine ⟨_, run ⟨g, 0, none⟩ _ cap j k m hV hm h3 h4 h5, Yields.of h rfl ⟨rfl, rfl, fun _ => ⟨g, _, cap, by rw [hpl, hV], ?_⟩⟩⟩
          simp [Addr.add_lit]
      · simp at hy
    · simp at hy
  · rename_i s p sw lo hi' e1
    rw [e1] at h1
    have h1' := h1.2
    simp only [refOK] at h1'
    split at hy
    · rename_i sz' l hat
      split at hy
      · rename_i hc
        obtain ⟨rfl, rfl⟩ := hc
        simp only [Option.bind_eq_some_iff] at hy
        obtain ⟨j, hj, hy⟩ := hy
        split at hy
        · rename_i hlt
          simp only [Option.some.injEq] at hy
          subst hy
          obtain ⟨k, m, hm, h3, h4, h5⟩ := idx_ok h2 hj
          have hob : (e.at_ s p).isObj = true := by rw [hat]; rfl
          obtain ⟨U, bs, blk', h6, h7, _⟩ := h.take hob
          obtain ⟨ad, n, cap, ad', cap', hpl, hV, g1, g2, g3, g4, g5⟩ := h1'.2 hob
          rw [hpl] at h6
          obtain rfl := Option.some.inj h6
          rw [hat] at h7
          rcases h7.2 with ⟨_, rfl, _⟩ | ⟨g, vs, _, _, cap0, cur, t', fr, hV', _⟩
          · simp at hlt
          · cases hV'
            obtain rfl := g5.2 (by omega)
            refine ⟨_, run _ _ _ j k m hV hm h3 h4 h5, Yields.of h rfl ⟨rfl, rfl, fun _ => ⟨g, _, _, hpl, ?_⟩⟩⟩
            simp [Addr.add_lit, Nat.add_mul]
        · simp at hy
      · simp at hy
    · simp at hy
  · simp at hy

/-! ### Addresses moved on -/
theorem offAddr_ok (h : Inv B e (refOK e (valOf a H) w) (valOf a H) w I blk []) {x : PV} {V : Value} (hx : R w I (refOK e (valOf a H) w) x V []) {n : Nat} {y : PV} (hy : offAddr e x n = some y) :
    ∃ A : Addr, V = .pointer (some A) ∧ A.spot = none ∧ y.hasObj = false ∧ R w I (refOK e (valOf a H) w) y (.pointer (some (A.add n))) [] := by
  unfold offAddr at hy
  split at hy
  · rename_i s
    split at hy
    · rename_i cs hg
      cases hy
      have hob : (e.at_ s []).isObj = true := by simp [Env.at_, PV.sub, hg, PV.isObj]
      obtain ⟨U, bs, blk', h6, h7, _⟩ := h.take hob
      have hx2 := hx.2
      simp only [refOK] at hx2
      rw [hx2.2 hob] at h6
      obtain rfl := Option.some.inj h6
      simp only [Env.at_, PV.sub, hg] at h7
      obtain ⟨g, us, bs', _, _, cur, t, fr, rfl, _⟩ := h7
      have hv : valOf a H s = .pointer (some ⟨g, 0, none⟩) := by
        have := hx2.2 hob
        simpa [place, walk] using this
      refine ⟨⟨g, 0, none⟩, rfl, rfl, rfl, rfl, rfl, fun _ => ⟨g, hv, ?_⟩⟩
      simp [Addr.add_lit]
    · simp at hy
  · rename_i s k
    split at hy
    · rename_i cs hg
      cases hy
      have hx2 := hx.2
      simp only [refOK] at hx2
      obtain ⟨g, h1, rfl⟩ := hx2.2 (by rw [hg]; rfl)
      refine ⟨⟨g, k, none⟩, rfl, rfl, rfl, rfl, rfl, fun _ => ⟨g, h1, ?_⟩⟩
      simp [Addr.add_lit]
    · simp at hy
  · rename_i s p z i k
    split at hy
    · rename_i sz' l hg
      cases hy
      have hx2 := hx.2
      simp only [refOK] at hx2
      obtain ⟨g, m, cap, h1, rfl⟩ := hx2.2 (by rw [hg]; rfl)
      refine ⟨⟨g, i * z + k, none⟩, rfl, rfl, rfl, rfl, rfl, fun _ => ⟨g, m, cap, h1, ?_⟩⟩
      simp [Addr.add_lit, Nat.add_assoc]
    · simp at hy
  · rename_i cs
    cases hy
    obtain ⟨_, A, us, rfl, h2, h3, h4, h5⟩ := hx
    exact ⟨A, rfl, h2, rfl, rfl, A.add n, us.drop n, rfl, spot_add _ _ h2, by rw [block_add]; exact h3, h4.drop0 n, h5.drop h2 n⟩
  · simp at hy
theorem run_faddr (h : Inv B e (refOK e (valOf a H) w) (valOf a H) w I blk []) {o : Oper} {t : TypeId} {x : Opd} {f off : Nat} (hx : x.ok B.glob) (ho : o.op = .fieldAddr t x.op f)
    {fs : Array Field} (ht : P.underlying t = some (.struct fs)) {fd : Field} (hf : fs[f]? = some fd) (hoff : fd.offset = off) {ti : TypeInfo} (hti : P.info? fd.type = some ti) (hsz : ti.size ≠ 0) {y : PV} (hy : offAddr e (x.ev e) off = some y) :
    ∃ V, RunsF P o a V ∧ Yields B (valOf a H) e y V w := by
  obtain ⟨A, e1, hA, hno, hR⟩ := offAddr_ok h (ev_ok h hx) hy
  refine ⟨_, fun w2 => ?_, Yields.of h hno hR⟩
  subst hoff
  simp [execOp, ho, e1, Instr.fieldAt, run_underlying ht, hf, Instr.sureAddr, fieldPlace, sizeOf, typeInfo, hti, hsz]
theorem run_nilck (h : Inv B e (refOK e (valOf a H) w) (valOf a H) w I blk []) {o : Oper} {x : Opd} (hx : x.ok B.glob) (ho : o.op = .nilCheck x.op) {y : PV} (hy : offAddr e (x.ev e) 0 = some y) :
    ∃ V, RunsF P o a V ∧ Yields B (valOf a H) e y V w := by
  obtain ⟨A, e1, hA, hno, hR⟩ := offAddr_ok h (ev_ok h hx) hy
  have hA0 : A.add 0 = A := by simp [Addr.add]
  rw [hA0] at hR
  refine ⟨_, fun w2 => ?_, Yields.of h hno hR⟩
  simp [execOp, ho, e1]
theorem run_nilck_view (h : Inv B e (refOK e (valOf a H) w) (valOf a H) w I blk []) {o : Oper} {x : Opd} (hx : x.ok B.glob) (ho : o.op = .nilCheck x.op) {y : PV} (hy : offAddr e (x.ev e) 0 = some y) :
    ∃ V, RunsF P o a V ∧ Yields B (valOf a H) e (x.ev e) V w := by
  obtain ⟨A, e1, hA, hno, hR⟩ := offAddr_ok h (ev_ok h hx) hy
  refine ⟨_, fun w2 => ?_, Yields.view h hx⟩
  simp [execOp, ho, e1]
theorem run_indexArr (h : Inv B e (refOK e (valOf a H) w) (valOf a H) w I blk []) {o : Oper} {t el : TypeId} {n sz : Nat} {x i : Opd} (hx : x.ok B.glob) (hi : i.ok B.glob) (ho : o.op = .indexAddr t x.op i.op)
    (ht : P.underlying t = some (.array n el)) {ti : TypeInfo} (hti : P.info? el = some ti) (hsz : ti.size = sz) {y : PV} (hy : indexArr e (x.ev e) (i.ev e) n sz = some y) :
    ∃ V, RunsF P o a V ∧ Yields B (valOf a H) e y V w := by
  unfold indexArr at hy
  simp only [Option.bind_eq_some_iff] at hy
  obtain ⟨j, hj, hy⟩ := hy
  obtain ⟨k, m, hm, h3, h4, h5⟩ := idx_ok (ev_ok h hi) hj
  obtain ⟨A, e1, hA, hno, hR⟩ := offAddr_ok h (ev_ok h hx) hy
  refine ⟨_, fun w2 => ?_, Yields.of h hno hR⟩
  subst hsz
  subst h5
  simp [execOp, ho, e1, hm, Instr.indexAt, asIntOf, run_underlying ht, Instr.sureAddr, h3, h4, sizeOf, typeInfo, hti]

/-! ### Cuts -/
theorem run_sliceStr (h : Inv B e (refOK e (valOf a H) w) (valOf a H) w I blk []) {o : Oper} {t : TypeId} {x : Opd} {lo hi : Option Opd} (hx : x.ok B.glob) (hlo : ∀ z ∈ lo, z.ok B.glob) (hhi : ∀ z ∈ hi, z.ok B.glob)
    (ho : o.op = .slice t x.op (lo.map (·.op)) (hi.map (·.op)) none) (ht : P.underlying t = some .string) {y : PV} (hy : sliceStr (x.ev e) (optPV e lo) (optPV e hi) = some y) :
    ∃ V, RunsF P o a V ∧ Yields B (valOf a H) e y V w := by
  unfold sliceStr at hy
  split at hy
  · rename_i s e1
    have h1 := ev_ok h hx
    rw [e1] at h1
    have hu : a.eval x.op = .string s := h1.1
    simp only [Option.bind_eq_some_iff, Option.map_eq_some_iff] at hy
    obtain ⟨m, hm, l, hl, rfl⟩ := hy
    refine ⟨_, fun w2 => ?_, Yields.plain h (V := .string (s.extract l m)) rfl⟩
    have bh : ∀ z, hi = some z → (Instr.sliceBound (a.eval z.op) s.size .sliceAlen).run P w2 = .ok m w2 := by
      intro z e2
      subst e2
      exact (bound_ok (ev_ok h (hhi z rfl)) hm s.size (Nat.le_refl _) _).1
    have bl : ∀ z, lo = some z → (Instr.sliceBound (a.eval z.op) m .sliceB).run P w2 = .ok l w2 := by
      intro z e2
      subst e2
      exact (bound_ok (ev_ok h (hlo z rfl)) hl m (Nat.le_refl _) _).1
    cases hi with
    | none =>
      simp only [optPV, boundOr, Option.some.injEq] at hm
      cases lo with
      | none =>
        simp only [optPV, boundOr, Option.some.injEq] at hl
        subst hm hl
        simp [execOp, ho, hu, Instr.sliceAt, Instr.slice, run_underlying ht, Instr.sliceBounds]
      | some z =>
        have := bl z rfl
        subst hm
        simp [execOp, ho, hu, Instr.sliceAt, Instr.slice, run_underlying ht, Instr.sliceBounds, this]
    | some z' =>
      have hb := bh z' rfl
      cases lo with
      | none =>
        simp only [optPV, boundOr, Option.some.injEq] at hl
        subst hl
        simp [execOp, ho, hu, Instr.sliceAt, Instr.slice, run_underlying ht, Instr.sliceBounds, hb]
      | some z =>
        have := bl z rfl
        simp [execOp, ho, hu, Instr.sliceAt, Instr.slice, run_underlying ht, Instr.sliceBounds, hb, this]
  · simp at hy
end
end Go.AM
