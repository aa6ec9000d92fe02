/- The operations, continued: loads and stores. No conditions. -/
import Derived.Test.YtfkgoofipbbhpaaDoorAmOps3
namespace Go.AM
open Go

def LoadOK (P : Program) (t : TypeId) (n : Option Nat) : Prop :=
  ∃ d, P.underlying t = some d ∧ match n with
    | none => (match d with | .struct _ | .array _ _ => False | _ => True) ∧ ∃ ti, P.info? t = some ti ∧ ti.size = 1
    | some k => (match d with | .struct _ | .array _ _ => True | _ => False) ∧ ∃ ti, P.info? t = some ti ∧ ti.size = k

section
variable {P : Program} {B : Base} {a : Act} {H : Nat → Value} {e e' : Env} {w w' : World} {I : Nat → Prop} {blk : Nat → List Nat} {fl : List Nat}

theorem run_loadVar {t : TypeId} {n : Option Nat} (ht : LoadOK P t n) {A : Addr} {us : List Value} (hc : CellsAt w A us) :
    (n = none → ∀ u, us[0]? = some u → (loadVar t A).run P w = .ok u w) ∧ (∀ k, n = some k → k ≤ us.length → (loadVar t A).run P w = .ok (.agg (us.take k).toArray) w) := by
  obtain ⟨d, hd, hn⟩ := ht
  have hA0 : A.add 0 = A := by simp [Addr.add]
  constructor
  · rintro rfl u hu
    have hcell := hc 0 u hu
    rw [hA0] at hcell
    have hagg : (isAgg t).run P w = .ok false w := by
      unfold isAgg
      cases d <;> simp_all [run_underlying hd]
    simp [loadVar, hagg, hcell]
  · rintro k rfl hk
    obtain ⟨hd2, ti, hti, hsz⟩ := hn
    have hagg : (isAgg t).run P w = .ok true w := by
      unfold isAgg
      cases d <;> simp_all [run_underlying hd]
    have hl := run_loadCells_list (P := P) w A (us.take k) (hc.take k)
    have hlen : (us.take k).length = k := by simp; omega
    rw [hlen] at hl
    simp [loadVar, hagg, sizeOf, typeInfo, hti, hsz, hl]
theorem part_R {q : PV → Value → Prop} {n : Option Nat} {cs : List PV} {us : List Value} (hr : Rs w I q cs us []) {y : PV} (hy : part n cs = some y) :
    (n = none ∧ ∃ u, us[0]? = some u ∧ R w I q y u []) ∨ (∃ k, n = some k ∧ k ≤ us.length ∧ R w I q y (.agg (us.take k).toArray) []) := by
  unfold part at hy
  split at hy
  · obtain ⟨u, hu, hR⟩ := hr.get0 hy
    exact .inl ⟨rfl, u, hu, hR⟩
  · rename_i k
    split at hy
    · rename_i hk
      cases hy
      exact .inr ⟨k, rfl, by rw [hr.length]; exact hk, us.take k, rfl, hr.take0 k⟩
    · simp at hy
theorem CellsAt.moved {w w2 : World} {A : Addr} {us : List Value} (h : CellsAt w A us) (hw : w2.heap[A.block]? = w.heap[A.block]?) : CellsAt w2 A us := by
  intro j u hu
  have hblk : (A.add j).block = A.block := by unfold Addr.add; split <;> rfl
  rw [World.cell?_of_block (w := w)]
  · exact h j u hu
  · rw [hblk]; exact hw
/-- The block that a variable's value tells. -/
def headV : Value → Option Nat
  | .pointer (some A) => some A.block
  | .slice (some A) _ _ => some A.block
  | _ => none
/-- Where a load reads. -/
def locOK (I : Nat → Prop) (val : Nat → Value) (g : Nat) : PV → Prop
  | .ref s [] => headV (val s) = some g
  | .addr s _ => headV (val s) = some g
  | .eaddr s [] _ _ _ => headV (val s) = some g
  | .raddr _ => I g
  | _ => True
/-- It does so in every world in which the block is as it is here. -/
def RunsR (P : Program) (o : Oper) (a : Act) (w : World) (V : Value) (g : Nat) : Prop := ∀ w2 : World, w2.heap[g]? = w.heap[g]? → (execOp a.eval o).run P w2 = .ok (.value V) w2
theorem RunsR.to {o : Oper} {V : Value} {g : Nat} (h : RunsR P o a w V g) : RunsTo P o a w V w := .inl (h w rfl)
theorem loaded {q : PV → Value → Prop} {o : Oper} {t : TypeId} {n : Option Nat} {x : Opd} (ho : o.op = .load t x.op) (ht : LoadOK P t n) {A : Addr} (hA : a.eval x.op = .pointer (some A)) {us : List Value} (hc : CellsAt w A us) {cs : List PV} (hr : Rs w I q cs us []) {y : PV} (hy : part n cs = some y) :
    ∃ V, RunsR P o a w V A.block ∧ R w I q y V [] := by
  rcases part_R hr hy with ⟨hn, u, hu, hR⟩ | ⟨k, hn, hk, hR⟩
  · refine ⟨u, fun w2 hw => ?_, hR⟩
    obtain ⟨l1, l2⟩ := run_loadVar ht (hc.moved hw)
    simp [execOp, ho, Instr.loadAt, hA, Instr.sureAddr, l1 hn u hu]
  · refine ⟨_, fun w2 hw => ?_, hR⟩
    obtain ⟨l1, l2⟩ := run_loadVar ht (hc.moved hw)
    simp [execOp, ho, Instr.loadAt, hA, Instr.sureAddr, l2 k hn hk]
/-- The cells of a variable in memory, as an operation sees them. -/
theorem cellViews_ok (h : Inv B e (refOK e (valOf a H) w) (valOf a H) w I blk fl) {s : Nat} {cs : List PV} (hg : e.get s = .box cs) :
    ∃ (g : Nat) (us : List Value), valOf a H s = .pointer (some ⟨g, 0, none⟩) ∧ us.length = cs.length ∧ ∀ o n, o + n ≤ cs.length → CellsAt w ⟨g, o, none⟩ ((us.drop o).take n) ∧ Rs w I (refOK e (valOf a H) w) (cellViews s cs o n) ((us.drop o).take n) [] := by
  have hR := h.rel s
  rw [hg] at hR
  obtain ⟨g, us, bs', _, hr, hb⟩ := hR
  have hb' := hb
  obtain ⟨cur, t, fr, hv, h2, _, rfl⟩ := hb'
  refine ⟨g, cur.toList, hv, hr.length, fun o n hon => ⟨?_, ?_⟩⟩
  · refine CellsAt.take ?_ n
    intro j u hu
    have hadd : (⟨g, o, none⟩ : Addr).add j = ⟨g, o + j, none⟩ := by unfold Addr.add; split <;> simp_all
    rw [hadd, cell_of_row w g (o + j) cur t fr h2]
    simpa using hu
  · induction n generalizing o with
    | zero => simp [cellViews, Rs]
    | succ n ih =>
      have hlt : o < cs.length := by omega
      have hx : cs[o]? = some cs[o] := List.getElem?_eq_getElem hlt
      obtain ⟨u, b, hu, hRu, _⟩ := hr.get hx
      have hlt2 : o < cur.toList.length := (List.getElem?_eq_some_iff.1 hu).1
      have hdrop : cur.toList.drop o = u :: cur.toList.drop (o + 1) := by
        rw [List.drop_eq_getElem_cons hlt2, (List.getElem?_eq_some_iff.1 hu).2]
      rw [hdrop, List.take_succ_cons]
      simp only [cellViews, hx, Option.getD_some]
      refine ⟨u, _, [], [], rfl, rfl, view_ok (q := selfq g) (fun _ _ h => .inr h.1) s cs[o] [o] u b ?_ ?_ hRu, ih (o + 1) (by omega)⟩
      · simp [Env.at_, PV.sub, hg, PV.kids, hx]
      · simp [place, walk, boxCell hb hu]
theorem viewPart_noObj {s : Nat} {cs : List PV} {o m : Nat} {n : Option Nat} {y : PV} (hy : part n (cellViews s cs o m) = some y) : y.hasObj = false := by
  have hall : ∀ m o, PV.hasObjL (cellViews s cs o m) = false := by
    intro m
    induction m with
    | zero => intro o; rfl
    | succ m ih => intro o; simp [cellViews, PV.hasObjL, view_noObj, ih]
  have htake : ∀ (l : List PV) (k : Nat), PV.hasObjL l = false → PV.hasObjL (l.take k) = false := by
    intro l
    induction l with
    | nil => intro k _; simp [PV.hasObjL]
    | cons x r ih =>
      intro k hk
      simp only [PV.hasObjL, Bool.or_eq_false_iff] at hk
      cases k with
      | zero => rfl
      | succ k => simp [PV.hasObjL, hk.1, ih k hk.2]
  unfold part at hy
  split at hy
  · exact hasObjL_get (hall m o) hy
  · split at hy
    · cases hy
      simpa [PV.hasObj] using htake _ _ (hall m o)
    · simp at hy
theorem elem_cells {g sz : Nat} {l : List PV} {vs : List Value} {V : Value} (hs : SzOk sz l) (hr : Rs w I nope l vs []) (hrow : RowAt w sz l.length V g (flatV vs)) {i : Nat} {x : PV} (hx : l[i]? = some x) :
    ∃ v, vs[i]? = some v ∧ R w I nope x v [] ∧ CellsAt w ⟨g, i * sz, none⟩ v.cells.toList := by
  obtain ⟨v, hv, hR⟩ := hr.get0 hx
  refine ⟨v, hv, hR, fun j u hu => ?_⟩
  obtain ⟨cap, cur, t, fr, _, h2, _, _, _, _, h6⟩ := hrow
  have hadd : (⟨g, i * sz, none⟩ : Addr).add j = ⟨g, i * sz + j, none⟩ := by unfold Addr.add; split <;> simp_all
  rw [hadd, cell_of_row w g _ cur t fr h2]
  have := flatV_get (SzOk.sizes hs hr) hv hu
  rw [← h6, List.getElem?_take] at this
  split at this
  · simpa using this
  · cases this

theorem run_loadR (h : Inv B e (refOK e (valOf a H) w) (valOf a H) w I blk []) {o : Oper} {t : TypeId} {n : Option Nat} {x : Opd} (hx : x.ok B.glob) (ho : o.op = .load t x.op) (ht : LoadOK P t n) {y : PV} (hy : loadAt e n (x.ev e) = some y) :
    ∃ V g, RunsR P o a w V g ∧ locOK I (valOf a H) g (x.ev e) ∧ Yields B (valOf a H) e y V w := by
  have h1 := ev_ok h hx
  unfold loadAt at hy
  split at hy
  · rename_i s e1
    rw [e1] at h1
    split at hy
    · rename_i cs hg
      split at hy
      · rename_i hlen
        obtain ⟨g, us, hv, hul, hcv⟩ := cellViews_ok h hg
        obtain ⟨c1, c2⟩ := hcv 0 (n.getD 1) (by omega)
        have h1' := h1.2
        simp only [refOK] at h1'
        have hp := h1'.2 (by simp [Env.at_, PV.sub, hg, PV.isObj])
        have hA : a.eval x.op = .pointer (some ⟨g, 0, none⟩) := by
          simp only [place, walk, Option.some.injEq] at hp
          rw [← hp, hv]
        obtain ⟨V, hV, hR⟩ := loaded ho ht hA c1 c2 hy
        exact ⟨V, g, hV, by rw [e1]; simp only [locOK, hv, headV], Yields.of h (viewPart_noObj hy) hR⟩
      · simp at hy
    · simp at hy
  · rename_i s off e1
    rw [e1] at h1
    split at hy
    · rename_i cs hg
      split at hy
      · rename_i hlen
        obtain ⟨g, us, hv, hul, hcv⟩ := cellViews_ok h hg
        obtain ⟨c1, c2⟩ := hcv off (n.getD 1) hlen
        have h1' := h1.2
        simp only [refOK] at h1'
        obtain ⟨g', hv', hA⟩ := h1'.2 (by rw [hg]; rfl)
        rw [hv] at hv'
        simp only [Value.pointer.injEq, Option.some.injEq, Addr.mk.injEq, and_true] at hv'
        subst hv'
        obtain ⟨V, hV, hR⟩ := loaded ho ht hA c1 c2 hy
        exact ⟨V, g, hV, by rw [e1]; simp only [locOK, hv, headV], Yields.of h (viewPart_noObj hy) hR⟩
      · simp at hy
    · simp at hy
  · rename_i s p sz i k e1
    rw [e1] at h1
    have h1' := h1.2
    simp only [refOK] at h1'
    split at hy
    · rename_i sz' l hat
      split at hy
      · rename_i hc
        subst hc
        split at hy
        · rename_i z hz
          have hob : (e.at_ s p).isObj = true := by rw [hat]; rfl
          obtain ⟨U, bs, blk', h6, h7, _⟩ := h.take hob
          obtain ⟨g, m, cap, hpl, hA⟩ := h1'.2 hob
          rw [hpl] at h6
          obtain rfl := Option.some.inj h6
          rw [hat] at h7
          rcases h7.2 with ⟨hcon, _⟩ | ⟨g', vs, _, hr, hrow⟩
          · cases hcon
          · have hgg : g' = g := by
              obtain ⟨_, _, _, _, hV, _⟩ := id hrow
              cases hV
              rfl
            subst hgg
            obtain ⟨v, hv, hRz, hcells⟩ := elem_cells h7.1 hr hrow hz
            have hcs := cells_Rs (imm_ne_dead (h7.1 z (List.mem_of_getElem? hz)).2) hRz nope_oneCell
            have hc2 : CellsAt w ⟨g', i * sz' + k, none⟩ (v.cells.toList.drop k) := by
              have := hcells.drop rfl k
              have hadd : (⟨g', i * sz', none⟩ : Addr).add k = ⟨g', i * sz' + k, none⟩ := by unfold Addr.add; split <;> simp_all
              rwa [hadd] at this
            obtain ⟨V, hV, hR⟩ := loaded ho ht hA hc2 (hcs.drop0 k) hy
            refine ⟨V, g', hV, ?_, I, blk, [], h, .inl hR⟩
            rw [e1]
            cases p with
            | nil =>
              simp only [place, walk, Option.some.injEq] at hpl
              simp only [locOK, hpl, headV]
            | cons _ _ => trivial
        · simp at hy
      · simp at hy
    · simp at hy
  · rename_i cs e1
    rw [e1] at h1
    obtain ⟨_, A, us, hA, _, hIA, hr, hc⟩ := h1
    obtain ⟨V, hV, hR⟩ := loaded ho ht hA hc hr hy
    exact ⟨V, A.block, hV, by rw [e1]; exact hIA, I, blk, [], h, .inl hR⟩
  · simp at hy
theorem run_load (h : Inv B e (refOK e (valOf a H) w) (valOf a H) w I blk []) {o : Oper} {t : TypeId} {n : Option Nat} {x : Opd} (hx : x.ok B.glob) (ho : o.op = .load t x.op) (ht : LoadOK P t n) {y : PV} (hy : loadAt e n (x.ev e) = some y) :
    ∃ V, RunsTo P o a w V w ∧ Yields B (valOf a H) e y V w := by
  obtain ⟨V, g, h1, _, h2⟩ := run_loadR h hx ho ht hy
  exact ⟨V, h1.to, h2⟩

/-! ### Stores -/
def setManyV (us : List Value) (o : Nat) : List Value → List Value
  | [] => us
  | u :: r => setManyV (us.set o u) (o + 1) r
theorem setManyV_length (us : List Value) (o : Nat) (vs : List Value) : (setManyV us o vs).length = us.length := by
  induction vs generalizing us o with
  | nil => rfl
  | cons v r ih => simp [setManyV, ih]
theorem setMany_length (us : List PV) (o : Nat) (vs : List PV) : (setMany us o vs).length = us.length := by
  induction vs generalizing us o with
  | nil => rfl
  | cons v r ih => simp [setMany, ih]
theorem Rs.setMany {q : PV → Value → Prop} : ∀ {ys : List PV} {vs : List Value} {bs : List Nat} {cs : List PV} {us : List Value} {bs' : List Nat} {o : Nat}, Rs w I q cs us bs' → Rs w I q ys vs bs → o + ys.length ≤ cs.length →
    ∃ bs'' dropped, Rs w I q (AM.setMany cs o ys) (setManyV us o vs) bs'' ∧ (bs' ++ bs).Perm (bs'' ++ dropped) := by
  intro ys
  induction ys with
  | nil =>
    intro vs bs cs us bs' o h k _
    obtain ⟨rfl, rfl⟩ := k
    exact ⟨bs', [], h, by simp⟩
  | cons y r ih =>
    intro vs bs cs us bs' o h k hle
    obtain ⟨v, vs', b1, b2, rfl, rfl, k1, k2⟩ := k
    simp only [List.length_cons] at hle
    have hlt : o < cs.length := by omega
    obtain ⟨u, b, B1, B2, hu, rfl, hR, hset⟩ := Rs.split h (List.getElem?_eq_getElem hlt)
    have h2 := hset y v b1 k1
    obtain ⟨bs'', dropped, h3, h4⟩ := ih (o := o + 1) h2 k2 (by simp; omega)
    refine ⟨bs'', b ++ dropped, h3, ?_⟩
    have p1 : (B1 ++ b ++ B2 ++ (b1 ++ b2)).Perm (b ++ (B1 ++ b1 ++ B2 ++ b2)) := by
      rw [List.perm_iff_count]
      intro x
      simp only [List.count_append]
      omega
    refine p1.trans ((h4.append_left b).trans ?_)
    rw [List.perm_iff_count]
    intro x
    simp only [List.count_append]
    omega
/-- Cells written one by one into a block that may be written there. -/
theorem run_storeCells_free (g o : Nat) (t : TypeId) (fr : Nat × Nat) : ∀ (vs : List Value) (i : Nat) (cur : Array Value) (w : World), w.heap[g]? = some (.cells cur t fr) → o + i + vs.length ≤ cur.size → (fr.2 ≤ fr.1 ∨ o + i + vs.length ≤ fr.1) → (∀ v ∈ vs, v.oneCell' = true) →
    ∃ w', (storeCells ⟨g, o, none⟩ vs i).run P w = .ok () w' ∧ w'.heap[g]? = some (.cells (setManyV cur.toList (o + i) vs).toArray t fr) ∧ w'.heap.size = w.heap.size ∧ (∀ k, k ≠ g → w'.heap[k]? = w.heap[k]?) ∧ w'.os = w.os ∧ w'.tape = w.tape ∧ w'.output = w.output
  | [], i, cur, w, hg, _, _, _ => ⟨w, rfl, by simpa [setManyV] using hg, rfl, fun _ _ => rfl, rfl, rfl, rfl⟩
  | v :: r, i, cur, w, hg, hl, hfr, h1 => by
    simp only [List.length_cons] at hl hfr
    have hi : o + i < cur.size := by omega
    have hadd : (⟨g, o, none⟩ : Addr).add i = ⟨g, o + i, none⟩ := by unfold Addr.add; split <;> simp_all
    have hcell : w.cell? ⟨g, o + i, none⟩ = some cur[o + i] := by simp [World.cell?, hg, hi]
    have hfro : w.frozen? ⟨g, o + i, none⟩ = false := by
      obtain ⟨lo, hi'⟩ := fr
      simp only [World.frozen?, hg, Bool.and_eq_false_iff, decide_eq_false_iff_not]
      simp only at hfr
      omega
    have hst : (store ((⟨g, o, none⟩ : Addr).add i) v).run P w = .ok () (w.setCell ⟨g, o + i, none⟩ v) := by
      rw [hadd, run_store P w _ v .plain (h1 v (by simp)), hcell]
      simp [hfro]
    have hg2 : (w.setCell ⟨g, o + i, none⟩ v).heap[g]? = some (.cells (cur.setIfInBounds (o + i) v) t fr) := by
      simp [World.setCell, Array.getElem?_modify, hg]
    have hsize2 : (w.setCell ⟨g, o + i, none⟩ v).heap.size = w.heap.size := by simp [World.setCell]
    have hoth : ∀ k, k ≠ g → (w.setCell ⟨g, o + i, none⟩ v).heap[k]? = w.heap[k]? := fun k hk => heap_setCell_other w ⟨g, o + i, none⟩ k v hk
    obtain ⟨w', k1, k2, k3, k4, k5, k6, k7⟩ := run_storeCells_free g o t fr r (i + 1) (cur.setIfInBounds (o + i) v) _ hg2 (by simp; omega) (by omega) (fun u hu => h1 u (by simp [hu]))
    refine ⟨w', ?_, ?_, k3.trans hsize2, fun k hk => (k4 k hk).trans (hoth k hk), k5, k6, k7⟩
    · simp only [storeCells, Sem.run_bind, hst, Result.andThen_ok, k1]
    · rw [k2]
      simp [setManyV, Nat.add_assoc]
theorem R.one_cell {x : PV} {V : Value} {bs : List Nat} (h1 : x.one = true) (h : R w I nope x V bs) : V.oneCell' = true := by
  cases x with
  | v x => rw [h.1]; exact h.2.1
  | ro sz l => obtain ⟨_, _, a, cap, rfl, _⟩ := h; rfl
  | own sz l => rcases h.2 with ⟨rfl, _⟩ | ⟨g, vs, _, _, cap, cur, t, fr, rfl, _⟩ <;> rfl
  | box cs => obtain ⟨g, us, bs', _, _, cur, t, fr, rfl, _⟩ := h; rfl
  | raddr cs => obtain ⟨_, A, us, rfl, _⟩ := h; rfl
  | nil sz => rw [h.1]; rfl
  | selfp => exact h.2.elim
  | _ => simp [PV.one] at h1
theorem Rs.one_cells {l : List PV} {vs : List Value} {bs : List Nat} (h1 : l.all PV.one = true) (h : Rs w I nope l vs bs) : ∀ v ∈ vs, v.oneCell' = true := by
  induction l generalizing vs bs with
  | nil => obtain ⟨rfl, _⟩ := h; simp
  | cons x r ih =>
    obtain ⟨v, us, b1, b2, rfl, rfl, k1, k2⟩ := h
    simp only [List.all_cons, Bool.and_eq_true] at h1
    intro u hu
    rcases List.mem_cons.1 hu with rfl | hu
    · exact R.one_cell h1.1 k1
    · exact ih h1.2 k2 u hu

/-- A store into a variable's cells. -/
theorem storeVar_run {t : TypeId} {n : Option Nat} (ht : LoadOK P t n) {g o : Nat} {V : Value} {cur : Array Value} {tt : TypeId} {fr : Nat × Nat} (hg : w.heap[g]? = some (.cells cur tt fr)) (hlen : V.cells.size = n.getD 1) (hfit : o + V.cells.size ≤ cur.size) (hfr : fr.2 ≤ fr.1 ∨ o + V.cells.size ≤ fr.1) (h1 : ∀ v ∈ V.cells.toList, v.oneCell' = true) :
    ∃ w', (storeVar t ⟨g, o, none⟩ V).run P w = .ok () w' ∧ w'.heap[g]? = some (.cells (setManyV cur.toList o V.cells.toList).toArray tt fr) ∧ w'.heap.size = w.heap.size ∧ (∀ k, k ≠ g → w'.heap[k]? = w.heap[k]?) ∧ w'.os = w.os ∧ w'.tape = w.tape ∧ w'.output = w.output := by
  obtain ⟨w', k1, k2, k3⟩ := run_storeCells_free (P := P) g o tt fr V.cells.toList 0 cur w hg (by simpa using hfit) (by simpa using hfr) h1
  refine ⟨w', ?_, by simpa using k2, k3⟩
  obtain ⟨d, hd, hn⟩ := ht
  have hsz : (sizeOf t).run P w = .ok V.cells.size w := by
    cases n with
    | none =>
      obtain ⟨_, ti, hti, hs⟩ := hn
      simp [sizeOf, typeInfo, hti, hs, hlen]
    | some k =>
      obtain ⟨_, ti, hti, hs⟩ := hn
      simp [sizeOf, typeInfo, hti, hs, hlen]
  simp [storeVar, hsz, k1]

mutual
/-- What was owned, made unchangeable. -/
theorem R.frozen {I' : Nat → Prop} (hI : ∀ b, I b → I' b) : ∀ (x : PV) (V : Value) (bs : List Nat), x.freeze.imm = true → (∀ b ∈ bs, I' b) → R w I nope x V bs → R w I' nope x.freeze V []
  | .v x, V, bs, _, _, h => ⟨h.1, h.2.1, rfl⟩
  | .agg cs, V, bs, hi, hb, h => by
    obtain ⟨vs, e, h⟩ := h
    exact ⟨vs, e, Rs.frozen hI cs vs bs (by simp only [PV.freeze, PV.imm, Bool.and_eq_true] at hi; exact hi.1) hb h⟩
  | .tup cs, V, bs, hi, _, _ => by simp [PV.freeze, PV.imm] at hi
  | .ro sz l, V, bs, _, _, h => by
    obtain ⟨_, hs, a, cap, e, hc, h⟩ := h
    refine ⟨rfl, hs, a, cap, e, hc, ?_⟩
    rcases h with h | ⟨A, vs, h1, h2, h3, h4, h5⟩
    · exact .inl h
    · exact .inr ⟨A, vs, h1, h2, hI _ h3, Rs.mono hI (fun _ _ => rfl) l nope nope (fun _ _ h => h) vs [] (by simp) h4, h5⟩
  | .own sz l, V, bs, _, hb, h => by
    refine ⟨rfl, h.1, ?_⟩
    have hsl := own_slice h
    rcases h.2 with ⟨rfl, rfl, rfl⟩ | ⟨g, vs, rfl, h7, cap, cur, t, fr, rfl, h8, h9, h10, h11, h12, h13⟩
    · exact ⟨none, 0, rfl, Nat.le_refl _, .inl rfl⟩
    · refine ⟨_, cap, rfl, h9, .inr ⟨_, vs, rfl, rfl, hb g (by simp), Rs.mono hI (fun _ _ => rfl) l nope nope (fun _ _ h => h) vs [] (by simp) h7, fun j u hu => ?_⟩⟩
      have hadd : (⟨g, 0, none⟩ : Addr).add j = ⟨g, j, none⟩ := by unfold Addr.add; split <;> simp_all
      rw [hadd, cell_of_row w g j cur t fr h8]
      rw [← h13, List.getElem?_take] at hu
      split at hu
      · simpa using hu
      · cases hu
  | .box cs, V, bs, hi, _, _ => by simp [PV.freeze, PV.imm] at hi
  | .ref s p, V, bs, _, _, h => h.2.elim
  | .win s p sz lo hi, V, bs, _, _, h => h.2.elim
  | .addr s o, V, bs, _, _, h => h.2.elim
  | .eaddr s p sz i k, V, bs, _, _, h => h.2.elim
  | .raddr cs, V, bs, _, _, h => by
    obtain ⟨_, A, us, e, h1, h2, h3, h4⟩ := h
    exact ⟨rfl, A, us, e, h1, hI _ h2, Rs.mono hI (fun _ _ => rfl) cs nope nope (fun _ _ h => h) us [] (by simp) h3, h4⟩
  | .nil _, V, bs, _, _, h => ⟨rfl, fun x hx => (by cases hx), none, 0, h.1, Nat.le_refl _, .inl rfl⟩
  | .dead, V, bs, hi, _, _ => by simp [PV.freeze, PV.imm] at hi
theorem Rs.frozen {I' : Nat → Prop} (hI : ∀ b, I b → I' b) : ∀ (l : List PV) (vs : List Value) (bs : List Nat), PV.immL (PV.freezeL l) = true → (∀ b ∈ bs, I' b) → Rs w I nope l vs bs → Rs w I' nope (PV.freezeL l) vs []
  | [], vs, bs, _, _, h => ⟨h.1, rfl⟩
  | x :: r, vs, bs, hi, hb, h => by
    simp only [PV.freezeL, PV.immL, Bool.and_eq_true] at hi
    obtain ⟨v, us, b1, b2, rfl, rfl, h1, h2⟩ := h
    exact ⟨v, us, [], [], rfl, rfl, R.frozen hI x v b1 hi.1 (fun b hb' => hb b (by simp [hb'])) h1, Rs.frozen hI r us b2 hi.2 (fun b hb' => hb b (by simp [hb'])) h2⟩
end
end
end Go.AM
