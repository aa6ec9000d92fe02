/- The operations, continued: append, conversions, parts of values. No conditions. -/
import Derived.Test.YtfkgoofipbbhpaaDoorAmOps7
namespace Go.AM
open Go

section
variable {P : Program} {B : Base} {a : Act} {H : Nat → Value} {e e' e1 e2 : Env} {w w' : World} {I : Nat → Prop} {blk : Nat → List Nat} {fl : List Nat} {val : Nat → Value}

/-- What floats was changed by an operation, and is the operation's value. -/
theorem Yields.grown (h : Inv B e1 (refOK e val w) val w I blk fl) (hw : Weak e1 e) {w' : World} (hsame : ∀ b, b < w.heap.size → b ∉ fl → w'.heap[b]? = w.heap[b]?) (hsize : w.heap.size ≤ w'.heap.size) (hos : w'.os = w.os) (htape : w'.tape = w.tape) (hout : w'.output = w.output)
    {bs' : List Nat} (hbs : bs' = fl ∨ (bs' = [w.heap.size] ∧ w.heap.size < w'.heap.size)) {y : PV} {V : Value} (hR : R w' I nope y V bs') : Yields B val e1 y V w' := by
  rcases hbs with rfl | ⟨rfl, hlt⟩
  · have k := h.world (w' := w') hos htape hout hsize hsame [] (by simp) (by simp)
    refine ⟨I, blk, bs', k.finish hw fun s p ho => place_same h hsame (PV.path_of_obj p _ ho), .inl hR⟩
  · have k := h.world (w' := w') hos htape hout hsize hsame [w.heap.size] (by simpa using hlt) (by simp)
    exact ⟨I, blk, [w.heap.size], (k.finish hw fun s p ho => place_same h hsame (PV.path_of_obj p _ ho)).fl_drop (by simp), .inl hR⟩

theorem freeze_os (w : World) (a : Addr) (n : Nat) : (w.freeze a n).os = w.os := by unfold World.freeze; split <;> rfl
theorem freeze_tape (w : World) (a : Addr) (n : Nat) : (w.freeze a n).tape = w.tape := by unfold World.freeze; split <;> rfl
theorem freeze_output (w : World) (a : Addr) (n : Nat) : (w.freeze a n).output = w.output := by unfold World.freeze; split <;> rfl
theorem byteList_length (s : ByteArray) : (byteList s).length = s.size := by simp [byteList]
theorem byteList_Rs (s : ByteArray) : Rs w I nope (byteList s) (Lib.strCells s) [] := by
  unfold byteList Lib.strCells
  induction s.data.toList with
  | nil => exact ⟨rfl, rfl⟩
  | cons b r ih => exact ⟨_, _, [], [], rfl, rfl, ⟨rfl, rfl, rfl⟩, ih⟩
theorem byteList_sz (s : ByteArray) : SzOk 1 (byteList s) := by
  intro x hx
  simp only [byteList, List.mem_map] at hx
  obtain ⟨b, _, rfl⟩ := hx
  exact ⟨rfl, rfl⟩
theorem flat_strCells (s : ByteArray) : flatV (Lib.strCells s) = Lib.strCells s := by
  unfold flatV Lib.strCells
  induction s.data.toList with
  | nil => rfl
  | cons b r ih => simp only [List.map_cons, List.flatMap_cons, ih]; rfl
/-- What is appended. -/
theorem more_ok (h : Inv B e (refOK e (valOf a H) w) (valOf a H) w I blk []) {txt : Bool} {y : Opd} (hy : y.ok B.glob) {sz : Nat} {ys : List PV} (hm : moreOf e txt (y.ev e) = some (sz, ys)) :
    ∃ vy, SzOk sz ys ∧ Rs w I nope ys vy [] ∧ (Builtin.lenOf (a.eval y.op)).run P w = .ok ys.length w ∧ (∀ w' : World, w'.heap = w.heap → (Builtin.firstCells sz ys.length (a.eval y.op)).run P w' = .ok (flatV vy).toArray w') := by
  have h1 := ev_ok h hy
  unfold moreOf at hm
  split at hm
  · split at hm
    · rename_i s e0
      cases hm
      rw [e0] at h1
      rw [h1.1]
      refine ⟨Lib.strCells s, byteList_sz s, byteList_Rs s, by simp [Builtin.lenOf, byteList_length], fun w' _ => ?_⟩
      rw [byteList_length, flat_strCells]
      exact Lib.run_firstCells_string w' 1 s
    · simp at hm
  · obtain ⟨hs, ad, cap, vs, hV, _, hr, hc⟩ := elems_ok h h1 hm
    rw [hV]
    refine ⟨vs, hs, hr, by simp [Builtin.lenOf], fun w' hw => ?_⟩
    have hfl := flatV_length (SzOk.sizes hs hr)
    rcases hc with rfl | ⟨A, rfl, hA, hb, hcells⟩
    · obtain ⟨rfl, _⟩ := hr
      cases ad with
      | none => simp [Builtin.firstCells, flatV]
      | some A => simp [Builtin.firstCells, flatV, loadCells, loadCellsFrom]
    · refine run_firstCells_some w' sz ys.length A ys.length cap (flatV vs) (by rw [hfl, hr.length]) fun j v hj => ?_
      rw [World.cell?_of_block (w := w) (by rw [hw])]
      exact hcells j v hj
theorem run_append (h : Inv B e (refOK e (valOf a H) w) (valOf a H) w I blk []) {o : Oper} {t u el : TypeId} {txt : Bool} {sz bytes : Nat} {x y : Opd} (hx : x.ok B.glob) (hy : y.ok B.glob) (ho : o.op = .call { callee := .builtin .append, args := #[x.op, y.op], argTypes := #[t, u] })
    (ht : P.underlying t = some (.slice el)) (hu : P.underlying u = some (.slice el) ∨ P.underlying u = some .string) {ie : TypeInfo} {z : Value} (hie : P.info? el = some ie) (hz : ie.zero = some z) (hsz : ie.size = sz) (hby : ie.bytes = bytes) (hzs : z.cells.size = sz)
    {r : PV} (hr : appendPV e txt sz bytes (x.ev e) (y.ev e) = some (r, e1)) (hone : ∀ ys vy, moreOf e txt (y.ev e) = some (sz, ys) → Rs w I nope ys vy [] → ∀ v ∈ flatV vy, v.oneCell' = true) :
    ∃ V w', RunsTo P o a w V w' ∧ Yields B (valOf a H) e1 r V w' := by
  unfold appendPV at hr
  simp only [Option.bind_eq_some_iff] at hr
  obtain ⟨⟨s1, l⟩, hel, ⟨s2, ys⟩, hmore, hr⟩ := hr
  simp only at hr
  split at hr
  · rename_i hc
    obtain ⟨rfl, rfl, hroom, h62⟩ := hc
    obtain ⟨vy, hys, hry, hlen, hfirst⟩ := more_ok (P := P) h hy hmore
    have hX := ev_ok h hx
    have fin : ∀ (e1' : Env) (blk1 : Nat → List Nat) (bs : List Nat), Inv B e1' (refOK e (valOf a H) w) (valOf a H) w I blk1 (bs ++ []) → Weak e1' e → R w I nope (.own s2 l) (a.eval x.op) bs → ∃ V w', RunsTo P o a w V w' ∧ Yields B (valOf a H) e1' (.own s2 (l ++ ys)) V w' := by
      intro e1' blk1 bs k1 k2 k3
      simp only [List.append_nil] at k1
      obtain ⟨V', w', bs', r1, r2, r3, r4, r5, r6, r7, r8⟩ := append_own (P := P) (ty := o.type) ht hu hie hz hsz hby hzs k3 hys hry hlen hfirst (hone ys vy hmore hry) hroom h62 (fun b hb hb' => k1.notIf b hb' hb) k1.ltI
      refine ⟨V', w', .inl ?_, Yields.grown k1 k2 r2 r3 r4 r5 r6 r7 r8⟩
      simp only [execOp, ho, resolve, invoke, builtin, Sem.run_bind, Sem.run_pure, Result.andThen_ok, List.map_toArray, List.map_cons, List.map_nil, r1]
    unfold appendTo at hr
    split at hr
    · rename_i sz0 e0
      cases hr
      rw [e0] at hel hX
      simp only [elems, Option.some.injEq, Prod.mk.injEq] at hel
      obtain ⟨rfl, rfl⟩ := hel
      have := fin e blk [] (by simpa using h) (Weak.refl _) (by rw [hX.1]; exact ⟨fun x hx => by simp at hx, .inl ⟨rfl, rfl, rfl⟩⟩)
      simpa using this
    · rename_i s p e0
      cases hr
      rw [e0] at hel hX
      simp only [elems] at hel
      split at hel
      · rename_i sz' l' hat
        simp only [Option.some.injEq, Prod.mk.injEq] at hel
        obtain ⟨rfl, rfl⟩ := hel
        obtain ⟨blk1, bs, k1, k2, k3⟩ := settle1_ok h (y := .own sz' l') (e' := e.setAt s p .dead) hX (by simp [settle1, hat])
        exact fin _ blk1 bs k1 k3 k2
      · simp at hel
    · rename_i s p sw lo hi e0
      split at hr
      · rename_i hlo
        cases hr
        subst hlo
        rw [e0] at hel hX
        simp only [elems] at hel
        split at hel
        · rename_i sz' l' hat
          split at hel
          · rename_i hsw
            subst hsw
            simp only [Option.some.injEq, Prod.mk.injEq, List.drop_zero] at hel
            obtain ⟨rfl, rfl⟩ := hel
            obtain ⟨blk1, bs, k1, k2, k3⟩ := settle1_ok h (y := .own sz' (l'.take hi)) (e' := e.setAt s p .dead) hX (by simp [settle1, hat])
            exact fin _ blk1 bs k1 k3 k2
          · simp at hel
        · simp at hel
      · simp at hr
    · simp at hr
  · simp at hr
/-- Elements' cells are cells. -/
theorem imm_cells_one : ∀ {x : PV} {V : Value}, x.imm = true → R w I nope x V [] → ∀ v ∈ V.cells.toList, v.oneCell' = true := by
  intro x V hi h
  refine Rs.one_cells ?_ (cells_Rs (imm_ne_dead hi) h nope_oneCell)
  cases x <;> simp_all [PV.imm, PV.cells, PV.one]
theorem flat_one {ys : List PV} : ∀ {vy : List Value}, Rs w I nope ys vy [] → (∀ x ∈ ys, x.imm = true) → ∀ v ∈ flatV vy, v.oneCell' = true := by
  induction ys with
  | nil => intro vy h _ v hv; rw [h.1] at hv; simp [flatV] at hv
  | cons x r ih =>
    intro vy h ho v hv
    obtain ⟨u, us, b1, b2, rfl, e0, h1, h2⟩ := h
    obtain ⟨rfl, rfl⟩ : b1 = [] ∧ b2 = [] := by simpa using e0.symm
    simp only [flatV, List.flatMap_cons, List.mem_append] at hv
    rcases hv with hv | hv
    · exact imm_cells_one (ho x (by simp)) h1 v hv
    · exact ih h2 (fun y hy => ho y (by simp [hy])) v hv

/-! ### Conversions -/
theorem bytesOf_ok : ∀ {l : List PV} {bs : List UInt8} {vs : List Value}, bytesOfPV l = some bs → Rs w I nope l vs [] → ∃ ns : List Int, vs = ns.map (Value.int .u8) ∧ bs = ns.map fun n => UInt8.ofNat n.toNat
  | [], bs, vs, h, hr => by
    simp only [bytesOfPV, Option.some.injEq] at h
    exact ⟨[], hr.1, h.symm⟩
  | x :: r, bs, vs, h, hr => by
    simp only [bytesOfPV, Option.bind_eq_bind, Option.bind_eq_some_iff, Option.pure_def, Option.some.injEq] at h
    obtain ⟨b, hb, bs', hbs, rfl⟩ := h
    obtain ⟨v, us, b1, b2, rfl, e0, h1, h2⟩ := hr
    obtain ⟨rfl, rfl⟩ : b1 = [] ∧ b2 = [] := by simpa using e0.symm
    obtain ⟨ns, rfl, rfl⟩ := bytesOf_ok hbs h2
    unfold byteOfPV at hb
    split at hb
    · rename_i n
      cases hb
      rw [h1.1]
      exact ⟨n :: ns, rfl, rfl⟩
    · simp at hb
def ConvOK (P : Program) (src dst : TypeId) : ConvK → Prop
  | .int k => (∃ d, P.underlying src = some d) ∧ P.underlying dst = some (.int k)
  | .same => (∃ d, P.underlying src = some d) ∧ P.underlying dst = some .string
  | .rune => (∃ d, P.underlying src = some d) ∧ P.underlying dst = some .string
  | .bytes => ∃ el, P.underlying src = some (.slice el) ∧ P.underlying el = some (.int .u8) ∧ P.underlying dst = some .string
  | .toBytes => (∃ d, P.underlying src = some d) ∧ ∃ el, P.underlying dst = some (.slice el) ∧ P.underlying el = some (.int .u8)
theorem run_conv (h : Inv B e (refOK e (valOf a H) w) (valOf a H) w I blk []) {o : Oper} {src dst : TypeId} {k : ConvK} {x : Opd} (hx : x.ok B.glob) (ho : o.op = .convert src dst x.op) (ht : ConvOK P src dst k) {r : PV} (hr : conv e k (x.ev e) = some r) :
    ∃ V w', RunsTo P o a w V w' ∧ Yields B (valOf a H) e r V w' := by
  have h1 := ev_ok h hx
  unfold conv at hr
  split at hr
  · rename_i k
    obtain ⟨⟨d, hd⟩, hdst⟩ := ht
    split at hr
    · rename_i k' n e0
      cases hr
      rw [e0] at h1
      exact ⟨_, w, .inl (by simp [execOp, ho, h1.1, convert, run_underlying hd, run_underlying hdst, Conv.intToInt]), Yields.plain h (V := .int k (k.wrap n)) rfl⟩
    · simp at hr
  · obtain ⟨⟨d, hd⟩, hdst⟩ := ht
    split at hr
    · rename_i s e0
      cases hr
      rw [e0] at h1
      exact ⟨_, w, .inl (by simp [execOp, ho, h1.1, convert, run_underlying hd, run_underlying hdst]), Yields.plain h (V := .string s) rfl⟩
    · simp at hr
  · obtain ⟨⟨d, hd⟩, hdst⟩ := ht
    split at hr
    · rename_i k' n e0
      cases hr
      rw [e0] at h1
      exact ⟨_, w, .inl (by simp [execOp, ho, h1.1, convert, run_underlying hd, run_underlying hdst, Conv.intToString]), Yields.plain h (V := .string (Utf8.encode n)) rfl⟩
    · simp at hr
  · obtain ⟨el, hsrc, hel, hdst⟩ := ht
    simp only [Option.bind_eq_some_iff] at hr
    obtain ⟨⟨sz, l⟩, hl, hr⟩ := hr
    simp only at hr
    split at hr
    · rename_i hsz
      subst hsz
      simp only [Option.map_eq_some_iff] at hr
      obtain ⟨bs, hbs, rfl⟩ := hr
      obtain ⟨hs, ad, cap, vs, hV, _, hrr, hc⟩ := elems_ok h h1 hl
      obtain ⟨ns, rfl, rfl⟩ := bytesOf_ok hbs hrr
      have hfl : flatV (ns.map (Value.int .u8)) = ns.map (Value.int .u8) := by
        unfold flatV
        clear hrr hV hc hbs hl
        induction ns with
        | nil => rfl
        | cons n r ih => simp only [List.map_cons, List.flatMap_cons, ih]; rfl
      have hlen : l.length = ns.length := by have := hrr.length; simpa using this.symm
      refine ⟨.string ⟨(ns.map fun n => UInt8.ofNat n.toNat).toArray⟩, w, .inl ?_, Yields.plain h rfl⟩
      have hconv : (convert src dst (.slice ad l.length cap)).run P w = .ok (.string ⟨(ns.map fun n => UInt8.ofNat n.toNat).toArray⟩) w := by
        rw [run_convert_bytes_string w src dst el ad _ cap hsrc hel hdst]
        cases ad with
        | none =>
          rcases hc with rfl | ⟨A, hA, _⟩
          · obtain rfl : ns = [] := List.eq_nil_of_length_eq_zero (by simpa using hlen.symm)
            simp [Conv.bytesToString]
            rfl
          · cases hA
        | some A =>
          have hload : (loadCells A l.length).run P w = .ok (ns.map (Value.int .u8)).toArray w := by
            rcases hc with rfl | ⟨A', hA', hA, hb, hcells⟩
            · obtain rfl : ns = [] := List.eq_nil_of_length_eq_zero (by simpa using hlen.symm)
              simp [loadCells, loadCellsFrom]
            · cases hA'
              rw [hfl] at hcells
              have := run_loadCells_list (P := P) w A (ns.map (Value.int .u8)) hcells
              simpa [hlen] using this
          rw [run_bytesToString w A _ cap ns hload, foldl_push_bytes]
          simp [ByteArray.empty, ByteArray.emptyWithCapacity]
          rfl
      simp only [execOp, ho, hV, Sem.run_bind, hconv, Result.andThen_ok, Sem.run_pure]
    · simp at hr
  · obtain ⟨⟨d, hd⟩, el, hdst, hel⟩ := ht
    split at hr
    · rename_i s e0
      split at hr
      · rename_i hsmall
        cases hr
        rw [e0] at h1
        have hcv := Lib.run_convert_string_bytes (P := P) w src dst el s hd hdst hel
        have hge := grownCap_ge w s.size 0 el
        have hle : grownCap w s.size 0 el ≤ maxLen := grownCap_le_maxLen w _ 0 el (by simp only [maxLen]; omega)
        have hsz : (Lib.bytesCells w el s).size = grownCap w s.size 0 el := by
          simp only [Lib.bytesCells, Array.size_append, Array.size_map, Array.size_replicate]
          have : s.data.size = s.size := rfl
          omega
        refine ⟨_, _, .inl (by simp only [execOp, ho, h1.1, Sem.run_bind, hcv, Result.andThen_ok, Sem.run_pure]; rfl), Yields.grown (fl := []) (e := e) h (Weak.refl _) (fun b hb _ => Lib.bytesWorld_at_old w el s b hb) (by rw [Lib.bytesWorld_size]; omega) ?_ ?_ ?_ (.inr ⟨rfl, by rw [Lib.bytesWorld_size]; omega⟩) ?_⟩
        · exact freeze_os _ _ _
        · exact freeze_tape _ _ _
        · exact freeze_output _ _ _
        · refine ⟨byteList_sz s, .inr ⟨w.heap.size, Lib.strCells s, rfl, byteList_Rs s, grownCap w s.size 0 el, _, el, _, by rw [byteList_length], Lib.bytesWorld_at_new w el s, by rw [byteList_length]; exact hge, hle, by rw [hsz, Nat.mul_one]; exact Nat.le_refl _, .inr (by rw [hsz, Nat.mul_one]; exact Nat.le_refl _), ?_⟩⟩
          rw [byteList_length, flat_strCells, Nat.mul_one]
          simp only [Lib.bytesCells, Array.toList_append, Array.toList_map, Lib.strCells]
          rw [List.take_append_of_le_length (by simp)]
          rw [List.take_of_length_le (by simp)]
      · simp at hr
    · simp at hr
/-- A conversion that reads no memory. -/
def ConvK.pure : ConvK → Bool
  | .int _ | .same | .rune => true
  | _ => false
theorem run_convF (h : Inv B e (refOK e (valOf a H) w) (valOf a H) w I blk []) {o : Oper} {src dst : TypeId} {k : ConvK} {x : Opd} (hx : x.ok B.glob) (ho : o.op = .convert src dst x.op) (ht : ConvOK P src dst k) (hk : k.pure = true) {r : PV} (hr : conv e k (x.ev e) = some r) :
    ∃ V, RunsF P o a V ∧ Yields B (valOf a H) e r V w := by
  have h1 := ev_ok h hx
  unfold conv at hr
  split at hr
  · rename_i k
    obtain ⟨⟨d, hd⟩, hdst⟩ := ht
    split at hr
    · rename_i k' n e0
      cases hr
      rw [e0] at h1
      exact ⟨_, fun w2 => (by simp [execOp, ho, h1.1, convert, run_underlying hd, run_underlying hdst, Conv.intToInt]), Yields.plain h (V := .int k (k.wrap n)) rfl⟩
    · simp at hr
  · obtain ⟨⟨d, hd⟩, hdst⟩ := ht
    split at hr
    · rename_i s e0
      cases hr
      rw [e0] at h1
      exact ⟨_, fun w2 => (by simp [execOp, ho, h1.1, convert, run_underlying hd, run_underlying hdst]), Yields.plain h (V := .string s) rfl⟩
    · simp at hr
  · obtain ⟨⟨d, hd⟩, hdst⟩ := ht
    split at hr
    · rename_i k' n e0
      cases hr
      rw [e0] at h1
      exact ⟨_, fun w2 => (by simp [execOp, ho, h1.1, convert, run_underlying hd, run_underlying hdst, Conv.intToString]), Yields.plain h (V := .string (Utf8.encode n)) rfl⟩
    · simp at hr
  · simp [ConvK.pure] at hk
  · simp [ConvK.pure] at hk
theorem run_mark (h : Inv B e (refOK e (valOf a H) w) (valOf a H) w I blk []) {o : Oper} {t el : TypeId} {x : Opd} (hx : x.ok B.glob) (ho : o.op = .convert t t x.op) (ht : P.underlying t = some (.slice el)) (hel : P.underlying el = some (.int .u8)) {y : PV} (hs : markPV (settle1 e (x.ev e)) = some (y, e')) :
    ∃ V w', RunsTo P o a w V w' ∧ Yields B (valOf a H) e' y V w' := by
  unfold markPV at hs
  split at hs
  · rename_i sz z l e2 hs2
    cases hs
    obtain ⟨blk', bs, k1, k2, k3⟩ := settle1_ok h (ev_ok h hx) hs2
    obtain ⟨hz, k2⟩ := k2
    rcases k2 with ⟨_, e0, _⟩ | ⟨g, vs, rfl, h7, cap, cur, tt, fr, hV, h8, h9, h10, h11, h12, h13⟩
    · cases e0
    · have hsh : w.shape? g = some (tt, cur.size) := by unfold World.shape?; rw [h8]
      have hlt : g < w.heap.size := (Array.getElem?_eq_some_iff.1 h8).1
      have hold : ∀ b, b ≠ g → (w.freeze ⟨g, cur.size, none⟩ 1).heap[b]? = w.heap[b]? := by
        intro b hb
        unfold World.freeze
        rw [if_neg (by decide)]
        simp only [Array.getElem?_modify, if_neg (Ne.symm hb)]
      have hnew : ∃ fr', (w.freeze ⟨g, cur.size, none⟩ 1).heap[g]? = some (.cells cur tt fr') ∧ unfrozen fr' (cap * sz) := by
        unfold World.freeze
        rw [if_neg (by decide)]
        simp only [Array.getElem?_modify, if_pos, h8, Option.map_some]
        obtain ⟨lo, hi⟩ := fr
        refine ⟨_, rfl, ?_⟩
        unfold unfrozen at h12 ⊢
        simp only at h12 ⊢
        split
        · right; exact h11
        · rename_i hne
          have hne : lo ≠ hi := by simpa using hne
          simp only
          omega
      obtain ⟨fr', hn1, hn2⟩ := hnew
      refine ⟨_, w.freeze ⟨g, cur.size, none⟩ 1, .inl ?_, Yields.grown (fl := [g]) (bs' := [g]) k1 k3 (fun b _ hb => hold b (by simpa using hb)) ?_ (freeze_os _ _ _) (freeze_tape _ _ _) (freeze_output _ _ _) (.inl rfl) ⟨hz, .inr ⟨g, vs, rfl, ?_, cap, cur, tt, fr', hV, hn1, h9, h10, h11, hn2, h13⟩⟩⟩
      · simp only [execOp, ho, Sem.run_bind]
        rw [hV]
        simp [convert, run_underlying ht, run_underlying hel, markStringish, hsh, Result.andThen]
      · unfold World.freeze
        rw [if_neg (by decide)]
        simp
      · exact Rs.mono (fun _ h => h) (fun b hb => hold b fun e => k1.notIf g (by simp) (e ▸ hb)) _ nope nope (fun _ _ h => h) vs [] (by simp) h7
  · cases hs
theorem run_range (h : Inv B e (refOK e (valOf a H) w) (valOf a H) w I blk []) {o : Oper} {t : TypeId} {x : Opd} (hx : x.ok B.glob) (ho : o.op = .range t x.op) (ht : P.underlying t = some .string) {y : PV} (hs : rangePV e (x.ev e) = some (y, e')) :
    ∃ V w', RunsTo P o a w V w' ∧ Yields B (valOf a H) e' y V w' := by
  unfold rangePV at hs
  split at hs
  · rename_i s e0
    cases hs
    have hR := ev_ok h hx
    rw [e0] at hR
    refine ⟨.pointer (some ⟨w.heap.size, 0, none⟩), w.alloc (.stringIter s 0), .inl ?_, I, blk, [w.heap.size], (h.alloc _).fresh (Weak.refl _) h fun b hb _ => alloc_keeps w _ b hb, .inl ⟨w.heap.size, rfl, rfl, heap_alloc_new w _⟩⟩
    simp [execOp, ho, hR.1, Instr.range, run_underlying ht, Result.andThen]
  · cases hs
theorem run_next (h : Inv B e (refOK e (valOf a H) w) (valOf a H) w I blk []) {o : Oper} {x : Opd} (hx : x.ok B.glob) (ho : o.op = .next x.op true) {y : PV} (hs : nextPV e (x.ev e) = some (y, e')) :
    ∃ V w', RunsTo P o a w V w' ∧ Yields B (valOf a H) e' y V w' := by
  unfold nextPV at hs
  split at hs
  · rename_i s e0
    split at hs
    · rename_i str pos e1
      have hR := ev_ok h hx
      rw [e0] at hR
      have hat : e.at_ s [] = .iter str pos := e1
      have hob : (e.at_ s []).isObj = true := by rw [hat]; rfl
      obtain ⟨U, bs, blk', h1, h2, h3⟩ := h.take hob
      have hV := hR.2.2 hob
      rw [h1] at hV
      obtain rfl := Option.some.inj hV
      rw [hat] at h2
      obtain ⟨g, rfl, hg, hobj⟩ := h2
      split at hs
      · rename_i hlt
        cases hs
        have hgl : g < w.heap.size := (Array.getElem?_eq_some_iff.1 hobj).1
        let w' : World := { w with heap := w.heap.setIfInBounds g (.stringIter str (pos + (Utf8.decode str pos).2)) }
        have hold : ∀ b, b ≠ g → w'.heap[b]? = w.heap[b]? := fun b hb => by simp only [w', Array.getElem?_setIfInBounds, if_neg (Ne.symm hb)]
        have hnew : w'.heap[g]? = some (.stringIter str (pos + (Utf8.decode str pos).2)) := by simp only [w', Array.getElem?_setIfInBounds, if_pos hgl, if_true]
        have hsz : w'.heap.size = w.heap.size := by simp [w']
        have k1 := h3.world (w' := w') rfl rfl rfl (by omega) (fun b _ hb => hold b (by simpa using hb)) [] (by simp) (by simp)
        simp only [List.nil_append] at k1
        have hpl : place (valOf a H) w' s [] = some (a.eval x.op) := by
          have : place (valOf a H) w s [] = some (valOf a H s) := rfl
          rw [this] at h1
          exact h1
        obtain ⟨blk2, k2⟩ := k1.lay (s := s) (p := []) rfl (U := a.eval x.op) hpl (y := .iter str (pos + (Utf8.decode str pos).2)) ⟨g, rfl, hg, hnew⟩
        rw [Env.setAt_nil, Env.setAt_nil, Env.set_set, ← Env.setAt_nil] at k2
        have hw : Weak (e.setAt s [] (.iter str (pos + (Utf8.decode str pos).2))) e := Weak.setAt rfl fun _ => hob
        refine ⟨_, w', .inl ?_, I, blk2, [], k2.finish hw fun s' p' ho' => ?_, .inl ⟨_, rfl, _, _, [], [], rfl, rfl, ⟨rfl, rfl, rfl⟩, _, _, [], [], rfl, rfl, ⟨rfl, rfl, rfl⟩, _, _, [], [], rfl, rfl, ⟨rfl, rfl, rfl⟩, rfl, rfl⟩⟩
        · simp [execOp, ho, hg, Instr.next, getObj, setObj, Sem.run, hobj, hlt, Result.andThen, goInt, w']
        · by_cases hs' : s' = s
          · subst hs'
            cases p' with
            | nil => rfl
            | cons o p' =>
              rw [Env.setAt_nil] at ho'
              simp [Env.at_, Env.get_set, PV.sub, PV.kids, PV.sub_dead, PV.isObj] at ho'
          · refine place_same h3 (fun b hb hb' => hold b (by simpa using hb')) (PV.path_of_obj p' _ ?_)
            unfold Env.at_ at ho'
            rw [Env.setAt_nil, Env.get_set, if_neg (Ne.symm hs')] at ho' ⊢
            exact ho'
      · rename_i hlt
        cases hs
        refine ⟨_, w, .inl ?_, I, blk, [], h, .inl ⟨_, rfl, _, _, [], [], rfl, rfl, ⟨rfl, rfl, rfl⟩, rfl, rfl⟩⟩
        simp [execOp, ho, hg, Instr.next, getObj, Sem.run, hobj, hlt, Result.andThen]
    · cases hs
  · cases hs
theorem run_allocB (h : Inv B e (refOK e (valOf a H) w) (valOf a H) w I blk []) {o : Oper} {t b : TypeId} (ho : o.op = .alloc t) {i : TypeInfo} {z : Value} (hi : P.info? t = some i) (hz : i.zero = some z) (hv : z.cells = #[.pointer none, .slice none 0 0]) :
    ∃ V w', RunsTo P o a w V w' ∧ Yields B (valOf a H) e (.bld t b []) V w' := by
  refine ⟨.pointer (some ⟨w.heap.size, 0, none⟩), w.alloc (.cells z.cells t), .inl ?_, I, blk, [w.heap.size], ?_, .inl ?_⟩
  · simp [execOp, ho, Instr.alloc, zeroValue, typeInfo, hi, hz, run_newVar]
  · exact (h.alloc _).fresh (Weak.refl _) h fun b hb _ => alloc_keeps w _ b hb
  · exact ⟨w.heap.size, .pointer none, .slice none 0 0, rfl, rfl, .inl rfl, by rw [hv]; exact heap_alloc_new w _, ⟨rfl, .inl ⟨rfl, rfl⟩⟩, by simp [Value.ownBlock]⟩
end
end Go.AM
