/- The operations, continued: parts of values, bytes of texts, least and greatest, equality. No conditions. -/
import Derived.Test.YtfkgoofipbbhpaaDoorAmOps8
namespace Go.AM
open Go

section
variable {P : Program} {B : Base} {a : Act} {H : Nat → Value} {e e' e1 e2 : Env} {w w' : World} {I : Nat → Prop} {blk : Nat → List Nat} {fl : List Nat} {val : Nat → Value}

theorem run_partV {q : PV → Value → Prop} {t : TypeId} {n : Option Nat} (ht : LoadOK P t n) {cs : List PV} {us : List Value} (hr : Rs w I q cs us []) {off : Nat} {y : PV} (hy : part n (cs.drop off) = some y) :
    ∃ V, (∀ w2, (Go.part t us.toArray off).run P w2 = .ok V w2) ∧ R w I q y V [] := by
  obtain ⟨d, hd, hn⟩ := ht
  rcases part_R (hr.drop0 off) hy with ⟨rfl, u, hu, hR⟩ | ⟨k, rfl, hk, hR⟩
  · have hagg : ∀ w2, (isAgg t).run P w2 = .ok false w2 := by
      intro w2
      unfold isAgg
      obtain ⟨hn1, _⟩ := hn
      cases d <;> simp_all [run_underlying hd]
    have hu' : us[off]? = some u := by simpa using hu
    exact ⟨u, by simp [Go.part, hagg, hu'], hR⟩
  · obtain ⟨hn1, ti, hti, hsz⟩ := hn
    have hagg : ∀ w2, (isAgg t).run P w2 = .ok true w2 := by
      intro w2
      unfold isAgg
      cases d <;> simp_all [run_underlying hd]
    refine ⟨_, fun w2 => ?_, hR⟩
    simp only [Go.part, hagg, sizeOf, typeInfo, Sem.run_bind, Result.andThen_ok, if_true, run_program, hti, Sem.run_pure, hsz]
    congr 2
    apply Array.ext'
    simp
theorem hasObjL_drop {l : List PV} (h : PV.hasObjL l = false) (n : Nat) : PV.hasObjL (l.drop n) = false := hasObjL_iff.2 fun x hx => hasObjL_iff.1 h x (List.mem_of_mem_drop hx)
theorem part_noObj {l : List PV} {n : Option Nat} (h : PV.hasObjL l = false) {y : PV} (hy : part n l = some y) : y.hasObj = false := by
  unfold part at hy
  split at hy
  · exact hasObjL_get h hy
  · split at hy
    · cases hy
      exact hasObjL_iff.2 fun x hx => hasObjL_iff.1 h x (List.mem_of_mem_take hx)
    · simp at hy
theorem run_field (h : Inv B e (refOK e (valOf a H) w) (valOf a H) w I blk []) {o : Oper} {t : TypeId} {x : Opd} {f off : Nat} {n : Option Nat} (hx : x.ok B.glob) (ho : o.op = .field t x.op f)
    {fs : Array Field} (ht : P.underlying t = some (.struct fs)) {fd : Field} (hf : fs[f]? = some fd) (hoff : fd.offset = off) (hl : LoadOK P fd.type n) {cs : List PV} (hc : x.ev e = .agg cs) {y : PV} (hy : part n (cs.drop off) = some y) :
    ∃ V, RunsF P o a V ∧ Yields B (valOf a H) e y V w := by
  have h1 := ev_ok h hx
  have hno := ev_noObj (e := e) x
  rw [hc] at h1 hno
  obtain ⟨us, e1, hr⟩ := h1
  obtain ⟨V, hV, hR⟩ := run_partV hl hr hy
  refine ⟨V, fun w2 => ?_, Yields.of h (part_noObj (hasObjL_drop hno off) hy) hR⟩
  subst hoff
  simp [execOp, ho, e1, Instr.field, run_underlying ht, hf, asAgg, hV]
theorem run_indexStr (h : Inv B e (refOK e (valOf a H) w) (valOf a H) w I blk []) {o : Oper} {t : TypeId} {x i : Opd} (hx : x.ok B.glob) (hi : i.ok B.glob) (ho : o.op = .index t x.op i.op) (ht : P.underlying t = some .string)
    {s : ByteArray} (hc : x.ev e = .v (.string s)) {j : Nat} (hj : idx (i.ev e) s.size = some j) :
    ∃ V, RunsF P o a V ∧ Yields B (valOf a H) e (.v (.int .u8 (s.data.toList.getD j 0).toNat)) V w := by
  have h1 := ev_ok h hx
  rw [hc] at h1
  obtain ⟨k, m, hm, h3, h4, h5⟩ := idx_ok (ev_ok h hi) hj
  refine ⟨_, fun w2 => ?_, Yields.plain h rfl⟩
  have hlt : m.toNat < s.size := by omega
  have hget : s[m.toNat]? = some (s.data.toList.getD j 0) := by
    subst h5
    have : s[m.toNat]? = some (s[m.toNat]'hlt) := by simp [hlt]
    rw [this]
    congr 1
    have h2 : m.toNat < s.data.toList.length := by simpa using hlt
    simp [List.getD, List.getElem?_eq_getElem h2]
    rfl
  have hsome : (if 0 ≤ m then s[m.toNat]? else none) = some (s.data.toList.getD j 0) := by rw [if_pos h3]; exact hget
  simp only [execOp, ho, h1.1, hm, Instr.index, asIntOf, Sem.run_bind, Sem.run_pure, Result.andThen_ok, run_underlying ht, hsome]
theorem run_indexAgg (h : Inv B e (refOK e (valOf a H) w) (valOf a H) w I blk []) {o : Oper} {t el : TypeId} {n sz : Nat} {m : Option Nat} {x i : Opd} (hx : x.ok B.glob) (hi : i.ok B.glob) (ho : o.op = .index t x.op i.op) (ht : P.underlying t = some (.array n el))
    {ti : TypeInfo} (hti : P.info? el = some ti) (hsz : ti.size = sz) (hl : LoadOK P el m) {cs : List PV} (hc : x.ev e = .agg cs) {j : Nat} (hj : idx (i.ev e) n = some j) {y : PV} (hy : part m (cs.drop (j * sz)) = some y) :
    ∃ V, RunsF P o a V ∧ Yields B (valOf a H) e y V w := by
  have h1 := ev_ok h hx
  have hno := ev_noObj (e := e) x
  rw [hc] at h1 hno
  obtain ⟨us, e1, hr⟩ := h1
  obtain ⟨k, q, hq, h3, h4, h5⟩ := idx_ok (ev_ok h hi) hj
  obtain ⟨V, hV, hR⟩ := run_partV hl hr hy
  refine ⟨V, fun w2 => ?_, Yields.of h (part_noObj (hasObjL_drop hno _) hy) hR⟩
  subst hsz
  subst h5
  simp only [execOp, ho, e1, hq, Instr.index, asIntOf, Sem.run_bind, Sem.run_pure, Result.andThen_ok, run_underlying ht, h3, h4, and_self, if_true, sizeOf, typeInfo, run_program, hti, hV]
theorem run_minmax (h : Inv B e (refOK e (valOf a H) w) (valOf a H) w I blk []) {o : Oper} {mx : Bool} {ts : Array TypeId} {x y : Opd} (hx : x.ok B.glob) (hy : y.ok B.glob) (ho : o.op = .call { callee := .builtin (if mx then .max else .min), args := #[x.op, y.op], argTypes := ts })
    {k : IntKind} {m n : Int} (e1 : x.ev e = .v (.int k m)) (e2 : y.ev e = .v (.int k n)) :
    ∃ V, RunsF P o a V ∧ Yields B (valOf a H) e (.v (.int k (if mx then (if n > m then n else m) else (if n < m then n else m)))) V w := by
  have h1 := ev_ok h hx
  have h2 := ev_ok h hy
  rw [e1] at h1
  rw [e2] at h2
  refine ⟨_, fun w2 => ?_, Yields.plain h rfl⟩
  cases mx <;> simp [execOp, ho, resolve, invoke, builtin, Builtin.max_, Builtin.min_, Builtin.max2, Builtin.min2, h1.1, h2.1]

/-! ### Equality of plain values -/
def EqK.fits (P : Program) (t : TypeId) : EqK → Prop
  | .int => ∃ k, P.underlying t = some (.int k)
  | .str => P.underlying t = some .string
  | .bool => P.underlying t = some .bool
/-- A struct of plain cells, or a plain value. -/
def EqOK (P : Program) (t : TypeId) : EqT → Prop
  | .one k => k.fits P t
  | .st ks => ∃ fs : Array Field, P.eqGuardType P.depth t = false ∧ P.underlying t = some (.struct fs) ∧ P.stoodInHeld t = false ∧ fs.size = ks.length ∧
    ∀ i (f : Field), fs[i]? = some f → f.name ≠ "_" ∧ f.offset = i ∧ LoadOK P f.type none ∧ ∀ k, ks[i]? = some k → k.fits P f.type
theorem eqV_run {x y : PV} {b : Bool} {k : EqK} (h : eqV k x y = some b) {t : TypeId} (ht : k.fits P t) {q : PV → Value → Prop} {X Y : Value} (hx : R w I q x X []) (hy : R w I q y Y []) (d : Nat) {w2 : World} :
    (Op.equalIn (d + 1) t X Y).run P w2 = .ok b w2 := by
  unfold eqV at h
  split at h
  · split at h
    · rename_i hk
      subst hk
      obtain ⟨rfl, _⟩ := hx
      obtain ⟨rfl, _⟩ := hy
      obtain ⟨k', ht⟩ := ht
      rw [← Option.some.inj h]
      exact run_equalIn_int w2 d t _ k' _ _ ht
    · simp at h
  · obtain ⟨rfl, _⟩ := hx
    obtain ⟨rfl, _⟩ := hy
    rw [← Option.some.inj h, run_equalIn_string w2 d t _ _ ht, beq_toListBytes]
  · obtain ⟨rfl, _⟩ := hx
    obtain ⟨rfl, _⟩ := hy
    rw [← Option.some.inj h]
    exact run_equalIn_bool w2 d t _ _ ht
  · simp at h
theorem LoadOK.notAgg {t : TypeId} (ht : LoadOK P t none) (w : World) : (isAgg t).run P w = .ok false w := by
  obtain ⟨d, hd, hn1, _⟩ := ht
  unfold isAgg
  cases d <;> simp_all [run_underlying hd]
theorem eqL_run {q : PV → Value → Prop} {X Y : List Value} {d : Nat} : ∀ {fs : List Field} {ks : List EqK} {xs ys : List PV} {us vs : List Value} {b : Bool} {i : Nat} {w2 : World}, eqL ks xs ys = some b → fs.length = ks.length →
    (∀ j (f : Field), fs[j]? = some f → f.name ≠ "_" ∧ f.offset = i + j ∧ LoadOK P f.type none ∧ ∀ k, ks[j]? = some k → k.fits P f.type) →
    Rs w I q xs us [] → Rs w I q ys vs [] → X.drop i = us → Y.drop i = vs → (Op.eqFields (d + 1) X.toArray Y.toArray fs).run P w2 = .ok b w2
  | [], ks, xs, ys, us, vs, b, i, w2, h, hl, _, _, _, _, _ => by
    cases ks with
    | nil =>
      cases xs <;> cases ys <;> simp [eqL] at h
      subst h
      simp [Op.eqFields]
    | cons => simp at hl
  | f :: fs, ks, xs, ys, us, vs, b, i, w2, h, hl, hf, hx, hy, hX, hY => by
    cases ks with
    | nil => simp at hl
    | cons k ks =>
      cases xs with
      | nil => simp [eqL] at h
      | cons x xs =>
        cases ys with
        | nil => simp [eqL] at h
        | cons y ys =>
          simp only [eqL, Option.bind_eq_bind, Option.bind_eq_some_iff, Option.pure_def, Option.some.injEq] at h
          obtain ⟨b1, h1, b2, h2, rfl⟩ := h
          obtain ⟨hn, ho, hld, hk⟩ := hf 0 f rfl
          obtain ⟨u, us', p1, p2, rfl, e1, hx1, hx2⟩ := hx
          obtain ⟨v, vs', p3, p4, rfl, e2, hy1, hy2⟩ := hy
          obtain ⟨rfl, rfl⟩ : p1 = [] ∧ p2 = [] := by simpa using e1.symm
          obtain ⟨rfl, rfl⟩ : p3 = [] ∧ p4 = [] := by simpa using e2.symm
          have pt : ∀ (Z : List Value) (z : Value) (zs : List Value), Z.drop i = z :: zs → (Go.part f.type Z.toArray f.offset).run P w2 = .ok z w2 := by
            intro Z z zs hZ
            have hagg : (isAgg f.type).run P w2 = .ok false w2 := hld.notAgg w2
            have hz : Z[i]? = some z := by
              have h0 : (Z.drop i)[0]? = some z := by rw [hZ]; rfl
              rw [List.getElem?_drop] at h0
              exact h0
            simp [Go.part, hagg, ho, hz]
          have nx : ∀ (Z : List Value) (z : Value) (zs : List Value), Z.drop i = z :: zs → Z.drop (i + 1) = zs := by
            intro Z z zs hZ
            rw [← List.drop_drop, hZ]
            rfl
          have ih := eqL_run (d := d) (w2 := w2) (fs := fs) (i := i + 1) h2 (by simpa using hl) (fun j f' hj => by
            obtain ⟨a1, a2, a3, a4⟩ := hf (j + 1) f' (by simpa using hj)
            exact ⟨a1, by omega, a3, fun k' hk' => a4 k' (by simpa using hk')⟩) hx2 hy2 (nx X u us' hX) (nx Y v vs' hY)
          rw [Op.eqFields]
          simp only [if_pos hn, Sem.run_bind, pt X u us' hX, pt Y v vs' hY, Result.andThen_ok, eqV_run h1 (hk k rfl) hx1 hy1 d]
          cases b1
          · simp
          · simpa using ih
theorem run_eqs (h : Inv B e (refOK e (valOf a H) w) (valOf a H) w I blk []) {o : Oper} {neg : Bool} {xt yt : TypeId} {ks : EqT} {x y : Opd} (hx : x.ok B.glob) (hy : y.ok B.glob) (ho : o.op = .binOp (if neg then .neq else .eql) xt x.op y.op yt) (ht : EqOK P xt ks) {r : PV} (hr : eqs neg ks (x.ev e) (y.ev e) = some r) :
    ∃ V, RunsF P o a V ∧ Yields B (valOf a H) e r V w := by
  have h1 := ev_ok h hx
  have h2 := ev_ok h hy
  unfold eqs at hr
  simp only [Option.map_eq_some_iff] at hr
  obtain ⟨b, hb, rfl⟩ := hr
  refine ⟨.bool (if neg then !b else b), fun w2 => ?_, Yields.plain h rfl⟩
  have key : (eqGuard (if neg then .neq else .eql) xt x.op y.op (a.eval x.op) (a.eval y.op)).run P w2 = .ok () w2 ∧ (binOp (if neg then .neq else .eql) xt (a.eval x.op) (a.eval y.op)).run P w2 = .ok (.bool (if neg then !b else b)) w2 := by
    unfold eqOf at hb
    split at hb
    · rename_i ks xs ys ex ey
      rw [ex] at h1
      rw [ey] at h2
      obtain ⟨us, eu, hu⟩ := h1
      obtain ⟨vs, ev, hv⟩ := h2
      rw [eu, ev]
      obtain ⟨fs, hg, hus, hst, hsz, hf⟩ := ht
      have he : (Op.equalIn 10000 xt (.agg us.toArray) (.agg vs.toArray)).run P w2 = .ok b w2 := by
        have hff : P.fieldsOf xt = fs := by simp [Program.fieldsOf, hus]
        rw [show (10000 : Nat) = 9999 + 1 from rfl, run_equalIn_struct w2 9999 xt _ _ (by rw [hff]; exact hus) hst, hff]
        exact eqL_run (d := 9998) (i := 0) hb (by simpa using hsz) (fun j f hj => by simpa using hf j f (by simpa using hj)) hu hv rfl rfl
      refine ⟨run_eqGuard_agg w2 _ xt _ _ _ _ hg, ?_⟩
      cases neg
      · simp [run_eql_struct, he]
      · simp [run_neq_struct, he]
    · rename_i k x' y'
      have := eqV_run (w := w) (w2 := w2) (P := P) hb ht h1 h2 9999
      unfold eqV at hb
      split at hb
      · rename_i e1' e2'
        rw [e1'] at h1
        rw [e2'] at h2
        rw [h1.1, h2.1]
        split at hb
        · rename_i hk
          subst hk
          cases hb
          refine ⟨by cases neg <;> rfl, ?_⟩
          cases neg <;> simp [binOp, Op.intCmp] <;> rfl
        · simp at hb
      · rename_i e1' e2'
        rw [e1'] at h1
        rw [e2'] at h2
        rw [h1.1, h2.1]
        cases hb
        refine ⟨by cases neg <;> rfl, ?_⟩
        cases neg <;> simp [binOp, Op.stringOp, beq_toListBytes]
      · rename_i e1' e2'
        rw [e1'] at h1
        rw [e2'] at h2
        rw [h1.1, h2.1] at this ⊢
        cases hb
        refine ⟨by cases neg <;> rfl, ?_⟩
        cases neg <;> simp [binOp, Op.equal, Op.maxDepth, this]
      · simp at hb
    · simp at hb
  simp only [execOp, ho, Sem.run_bind, key.1, key.2, Result.andThen_ok, Sem.run_pure]
end
end Go.AM
