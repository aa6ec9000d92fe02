/- The operations, continued: literals, rows made and grown, texts, comparisons. No conditions. -/
import Derived.Test.YtfkgoofipbbhpaaDoorAmOps5
namespace Go.AM
open Go

/-- What the table of types must say of a struct's or an array's literal. -/
def BuildOK (P : Program) (t : TypeId) (pl : List (Nat × Nat)) (zero : List PV) : Prop :=
  ∃ it z, P.info? t = some it ∧ it.zero = some z ∧ zvL zero = some z.cells.toList ∧
    ((∃ fs, P.underlying t = some (.struct fs) ∧ fs.toList.mapM (fun f => (P.info? f.type).map fun i => (f.offset, i.size)) = some pl) ∨
     (∃ n el ie, P.underlying t = some (.array n el) ∧ P.info? el = some ie ∧ ∀ i o m, pl[i]? = some (o, m) → o = i * ie.size ∧ m = ie.size))

section
variable {P : Program} {B : Base} {a : Act} {H : Nat → Value} {e e' e1 e2 : Env} {w w' : World} {I : Nat → Prop} {blk : Nat → List Nat} {val : Nat → Value}

theorem hasObjL_iff {l : List PV} : PV.hasObjL l = false ↔ ∀ x ∈ l, x.hasObj = false := by
  induction l with
  | nil => simp [PV.hasObjL]
  | cons x r ih => simp [PV.hasObjL, ih]
theorem cells_noObj {x : PV} (h : x.hasObj = false) : ∀ y ∈ x.cells, y.hasObj = false := by
  cases x <;> simp_all [PV.cells, PV.hasObj]
  exact hasObjL_iff.1 h
theorem zvL_noObj {l : List PV} : ∀ {vs : List Value}, zvL l = some vs → ∀ x ∈ l, x.hasObj = false := by
  induction l with
  | nil => intro vs _ x hx; simp at hx
  | cons y r ih =>
    intro vs h x hx
    simp only [zvL, Option.bind_eq_bind, Option.bind_eq_some_iff, Option.pure_def, Option.some.injEq] at h
    obtain ⟨v, hv, vs', hvs, _⟩ := h
    rcases List.mem_cons.1 hx with rfl | hx
    · cases x <;> simp [PV.zv] at hv <;> rfl
    · exact ih hvs x hx
theorem setMany_all (p : PV → Prop) : ∀ (ys cs : List PV) (o : Nat), (∀ x ∈ cs, p x) → (∀ y ∈ ys, p y) → ∀ x ∈ AM.setMany cs o ys, p x
  | [], cs, o, h, _ => h
  | y :: r, cs, o, h, k => setMany_all p r _ _ (fun x hx => (List.mem_or_eq_of_mem_set hx).elim (h x) fun e => e ▸ k y (by simp)) fun z hz => k z (by simp [hz])
theorem fillPV_all (p : PV → Prop) (pl : List (Nat × Nat)) : ∀ (parts : List (Nat × PV)) (cs cs' : List PV), (∀ x ∈ cs, p x) → (∀ q ∈ parts, ∀ y ∈ q.2.cells, p y) → fillPV pl cs parts = some cs' → ∀ x ∈ cs', p x
  | [], cs, cs', h, _, hf => by simp only [fillPV, Option.some.injEq] at hf; subst hf; exact h
  | (i, y) :: r, cs, cs', h, k, hf => by
    simp only [fillPV, Option.bind_eq_bind, Option.bind_eq_some_iff, Prod.exists] at hf
    obtain ⟨o, m, _, hf⟩ := hf
    split at hf
    · exact fillPV_all p pl r _ cs' (setMany_all p _ _ _ h fun z hz => k (i, y) (by simp) z hz) (fun q hq => k q (by simp [hq])) hf
    · simp at hf
theorem foldl_setMany (off : Nat) : ∀ (l : List Value) (k : Nat) (arr : Array Value), ((l.zipIdx k).foldl (fun cs (x : Value × Nat) => cs.setIfInBounds (off + x.2) x.1) arr).toList = setManyV arr.toList (off + k) l
  | [], _, _ => rfl
  | v :: r, k, arr => by
    simp only [List.zipIdx_cons, List.foldl_cons]
    rw [foldl_setMany off r (k + 1)]
    simp [setManyV, Nat.add_assoc]
theorem fill_step (pf : Nat → Option (Nat × Nat)) (cells : Array Value) (i : Nat) (v : Value) (rest : List (Nat × Value)) {o m : Nat} (hp : pf i = some (o, m)) (hv : v.cells.size = m) (hfit : o + m ≤ cells.size) :
    Instr.fill pf cells ((i, v) :: rest) = Instr.fill pf (setManyV cells.toList o v.cells.toList).toArray rest := by
  have h1 : ¬ (v.cells.size ≠ m ∨ o + v.cells.size > cells.size) := by omega
  simp only [Instr.fill, hp]
  have h2 : (v.cells.size ≠ m || decide (o + v.cells.size > cells.size)) = false := by simp [hv]; omega
  simp only [h2, Bool.false_eq_true, if_false]
  congr 1
  apply Array.ext'
  rw [← Array.foldl_toList, Array.toList_zipIdx]
  simpa using foldl_setMany o v.cells.toList 0 cells
theorem fillPV_ok {q : PV → Value → Prop} (hq : ∀ y U, q y U → U.oneCell' = true) (pf : Nat → Option (Nat × Nat)) (pl : List (Nat × Nat)) (hpf : ∀ i o m, pl[i]? = some (o, m) → pf i = some (o, m)) :
    ∀ (parts : List (Nat × PV)) (vparts : List (Nat × Value)) (cs cs' : List PV) (us : List Value), Rs w I q cs us [] → Rs w I q (parts.map (·.2)) (vparts.map (·.2)) [] → parts.map (·.1) = vparts.map (·.1) → fillPV pl cs parts = some cs' →
      ∃ us', Instr.fill pf us.toArray vparts = some us'.toArray ∧ Rs w I q cs' us' []
  | [], vparts, cs, cs', us, h, _, hm, hf => by
    simp only [fillPV, Option.some.injEq] at hf
    subst hf
    have : vparts = [] := by simpa using hm.symm
    subst this
    exact ⟨us, rfl, h⟩
  | (i, x) :: r, vparts, cs, cs', us, h, hp, hm, hf => by
    match vparts, hp, hm with
    | (i', v) :: vr, hp, hm =>
      simp only [List.map_cons, List.cons.injEq] at hm
      obtain ⟨rfl, hm⟩ := hm
      obtain ⟨v0, vs', b1, b2, e0, e1, hx, hr⟩ := hp
      simp only [List.map_cons, List.cons.injEq] at e0
      obtain ⟨rfl, rfl⟩ := e0
      obtain ⟨rfl, rfl⟩ : b1 = [] ∧ b2 = [] := by simpa using e1.symm
      simp only [fillPV, Option.bind_eq_bind, Option.bind_eq_some_iff, Prod.exists] at hf
      obtain ⟨o, m, hpl, hf⟩ := hf
      split at hf
      · rename_i hc
        have hcs := cells_Rs (by rintro rfl; simp [PV.isDead] at hc) hx hq
        have hsz : v.cells.size = m := by
          have : v.cells.size = x.cells.length := by simpa using hcs.length
          omega
        obtain ⟨bs'', dropped, h3, h4⟩ := Rs.setMany (o := o) h hcs (by simp only; omega)
        obtain ⟨rfl, _⟩ : bs'' = [] ∧ dropped = [] := by simpa using h4.symm.eq_nil
        obtain ⟨us', h5, h6⟩ := fillPV_ok hq pf pl hpf r vr _ cs' _ h3 hr hm hf
        refine ⟨us', ?_, h6⟩
        rw [fill_step pf us.toArray i v vr (hpf i o m hpl) hsz (by have := h.length; simp; omega)]
        exact h5
      · simp at hf
theorem run_buildOp (h : Inv B e (refOK e (valOf a H) w) (valOf a H) w I blk []) {o : Oper} {t : TypeId} {pl : List (Nat × Nat)} {zero : List PV} {parts : List (Nat × Opd)} (hx : ∀ p ∈ parts, p.2.ok B.glob) (ho : o.op = .build t (parts.map fun p => (p.1, p.2.op)).toArray) (ht : BuildOK P t pl zero)
    {cs : List PV} (hcs : fillPV pl zero (parts.map fun p => (p.1, p.2.ev e)) = some cs) :
    ∃ V, RunsF P o a V ∧ Yields B (valOf a H) e (.agg cs) V w := by
  obtain ⟨it, z, hit, hz, hzv, hty⟩ := ht
  have hR := evL_ok h (l := parts.map (·.2)) (fun x hx' => by obtain ⟨p, hp, rfl⟩ := List.mem_map.1 hx'; exact hx p hp)
  have key : ∀ pf : Nat → Option (Nat × Nat), (∀ i o m, pl[i]? = some (o, m) → pf i = some (o, m)) → ∃ us, Instr.fill pf z.cells (parts.map fun p => (p.1, a.eval p.2.op)) = some us.toArray ∧ Rs w I (refOK e (valOf a H) w) cs us [] := by
    intro pf hpf
    have := fillPV_ok refOK.oneCell pf pl hpf (parts.map fun p => (p.1, p.2.ev e)) (parts.map fun p => (p.1, a.eval p.2.op)) zero cs z.cells.toList (Rs.ofNope (zvL_Rs hzv)) (by simpa [List.map_map, Function.comp_def] using hR) (by simp [List.map_map, Function.comp_def]) hcs
    simpa using this
  have fin : ∀ us : List Value, P.built t (parts.map fun p => (p.1, a.eval p.2.op)) = some us.toArray → Rs w I (refOK e (valOf a H) w) cs us [] → ∃ V, RunsF P o a V ∧ Yields B (valOf a H) e (.agg cs) V w := by
    intro us h1 h2
    refine ⟨.agg us.toArray, fun w2 => ?_, ?_⟩
    · have hpm : ((parts.map fun p => (p.1, p.2.op)).toArray.map fun (i, x) => (i, a.eval x)) = (parts.map fun p => (p.1, a.eval p.2.op)).toArray := by simp
      simp only [execOp, ho, Sem.run_bind, hpm, run_build w2 t _ _ (by simpa using h1), Result.andThen_ok, Sem.run_pure]
    · refine Yields.of h ?_ ⟨us, rfl, h2⟩
      simp only [PV.hasObj]
      refine hasObjL_iff.2 fun x hx' => ?_
      have hall := fillPV_all (fun x => x.hasObj = false) _ _ _ _ (fun x hx2 => zvL_noObj hzv x hx2) (fun p hp y hy => ?_) hcs
      · exact hall x hx'
      · obtain ⟨p', hp', rfl⟩ := List.mem_map.1 hp
        exact cells_noObj (ev_noObj p'.2) y hy
  rcases hty with ⟨fs, hu, hpl⟩ | ⟨n, el, ie, hu, hie, hpl⟩
  · obtain ⟨us, h1, h2⟩ := key (pl.toArray[·]?) (fun i o m hp => by simpa using hp)
    exact fin us (by unfold Program.built; rw [hit, hu]; simp only [hz, hpl]; exact h1) h2
  · obtain ⟨us, h1, h2⟩ := key (fun i => some (i * ie.size, ie.size)) (fun i o m hp => by obtain ⟨rfl, rfl⟩ := hpl i o m hp; rfl)
    exact fin us (by simp [Program.built, hit, hu, hz, hie, h1]) h2
end
end Go.AM
