/- The operations, continued: rows made by literals and make, rows grown. No conditions. -/
import Derived.Test.YtfkgoofipbbhpaaDoorAmOps6
namespace Go.AM
open Go

section
variable {P : Program} {B : Base} {a : Act} {H : Nat → Value} {e e' e1 e2 : Env} {w w' : World} {I : Nat → Prop} {blk : Nat → List Nat} {val : Nat → Value}

theorem freeze_cells {x : PV} : x.freeze.cells.length = x.cells.length := by
  cases x <;> simp [PV.freeze, PV.cells, freezeL_length]
theorem freeze_dead {x : PV} (h : x.freeze.imm = true) : x ≠ .dead := by rintro rfl; simp [PV.freeze, PV.imm] at h
theorem frozen_sizes {sz : Nat} : ∀ {ys : List PV} {vs : List Value} {bs : List Nat}, Rs w I nope ys vs bs → PV.immL (PV.freezeL ys) = true → (∀ z ∈ PV.freezeL ys, z.cells.length = sz) → ∀ v ∈ vs, v.cells.size = sz
  | [], _, _, h, _, _ => by rw [h.1]; simp
  | y :: r, _, _, h, hi, hs => by
    obtain ⟨v, us, b1, b2, rfl, rfl, h1, h2⟩ := h
    simp only [PV.freezeL, PV.immL, Bool.and_eq_true] at hi
    intro u hu
    rcases List.mem_cons.1 hu with rfl | hu
    · rw [R.cells_length (freeze_dead hi.1) nope_oneCell h1, ← freeze_cells]
      exact hs _ (by simp [PV.freezeL])
    · exact frozen_sizes h2 hi.2 (fun z hz => hs z (by simp [PV.freezeL, hz])) u hu
theorem run_lit (h : Inv B e (refOK e (valOf a H) w) (valOf a H) w I blk []) {o : Oper} {t el : TypeId} {sz : Nat} {parts : List Opd} (hx : ∀ p ∈ parts, p.ok B.glob) (ho : o.op = .buildSlice t parts.length (parts.zipIdx.map fun p => (p.2, p.1.op)).toArray)
    (ht : P.underlying t = some (.slice el)) {ie : TypeInfo} {z : Value} (hie : P.info? el = some ie) (hz : ie.zero = some z) (hsz : ie.size = sz) (hpos : 0 < sz) (hsmall : parts.length * sz ≤ 2 ^ 24)
    {ys : List PV} (hs : settleP e (parts.map fun p => p.ev e) = some (ys, e1)) (hall : ∀ x ∈ PV.freezeL ys, x.cells.length = sz) (himm : PV.immL (PV.freezeL ys) = true) :
    ∃ V w', RunsTo P o a w V w' ∧ Yields B (valOf a H) e1 (.own sz (PV.freezeL ys)) V w' := by
  obtain ⟨blk1, bs, h1, h2, h3⟩ := settleP_ok h (evL_ok h hx) hs
  have k1 := Inv.frozen (fl := []) (bs := bs) h1
  have hys := Rs.frozen (I' := fun b => I b ∨ b ∈ bs) (fun b hb => .inl hb) ys _ bs himm (fun b hb => .inr hb) h2
  have hsizes := frozen_sizes h2 himm hall
  have hlen : (PV.freezeL ys).length = parts.length := by
    have := hys.length
    simp at this
    omega
  generalize hvs : (parts.map fun x => a.eval x.op) = vs at h2 hys hsizes
  have hvl : vs.length = parts.length := by rw [← hvs]; simp
  have hval : ((parts.zipIdx.map fun p => (p.2, p.1.op)).toArray.map fun (i, x) => (i, a.eval x)).toList = (vs.zipIdx 0).map fun x => (x.2, x.1) := by
    rw [← hvs]
    simp [List.zipIdx_map, Function.comp_def]
  have hbuild : (Instr.buildSlice t parts.length ((parts.zipIdx.map fun p => (p.2, p.1.op)).toArray.map fun (i, x) => (i, a.eval x))).run P w = .ok (.slice (some ⟨w.heap.size, 0, none⟩) parts.length parts.length) (w.alloc (.cells (flatV vs).toArray el)) := by
    by_cases hn : parts.length = 0
    · have hv0 : vs = [] := List.eq_nil_of_length_eq_zero (by omega)
      have hp0 : parts = [] := List.eq_nil_of_length_eq_zero hn
      subst hv0 hp0
      simp [Instr.buildSlice, run_underlying ht, sizeOf, typeInfo, hie, newRow, Instr.fill, flatV, Array.range_zero']
    · have hfill := Great.fill_whole hpos vs ((Array.range (parts.length * sz)).map (z.cells[· % z.cells.size]!)) hsizes (by simp [hvl])
      refine run_buildSlice w t el parts.length _ _ ie z ht hie hz (by rw [hsz]; omega) (by rw [hsz]; exact Nat.mul_ne_zero hn (by omega)) ?_
      rw [hsz, hval]
      exact hfill
  refine ⟨.slice (some ⟨w.heap.size, 0, none⟩) parts.length parts.length, w.alloc (.cells (flatV vs).toArray el), .inl (by simp only [execOp, ho, Sem.run_bind, hbuild, Result.andThen_ok, Sem.run_pure]), _, blk1, [w.heap.size], (k1.alloc _).fresh h3 k1 fun b hb _ => alloc_keeps w _ b hb, .inl ?_⟩
  have hI : ∀ b, (I b ∨ b ∈ bs) → (w.alloc (.cells (flatV vs).toArray el)).heap[b]? = w.heap[b]? := fun b hb => alloc_keeps w _ b (k1.ltI b hb)
  have hfl := flatV_length hsizes
  refine ⟨fun x hx' => ⟨hall x hx', immL_iff.1 himm x hx'⟩, .inr ⟨w.heap.size, vs, rfl, Rs.mono (fun _ h => h) hI _ nope nope (fun _ _ h => h) _ _ (by simp) hys, parts.length, _, el, (0, 0), by rw [hlen], heap_alloc_new w _, by omega, ?_, ?_, .inl rfl, ?_⟩⟩
  · have : parts.length ≤ parts.length * sz := Nat.le_mul_of_pos_right _ hpos
    simp only [maxLen]
    omega
  · simp [hfl, hvl]
  · rw [hlen, ← hvl, ← hfl]
    simp

def ZeroV (zero : PV) (z : Value) : Prop := zero.zv = some z ∨ ∃ cs arr, zero = .agg cs ∧ z = .agg arr ∧ zvL cs = some arr.toList
theorem ZeroV.R {zero : PV} {z : Value} (h : ZeroV zero z) : AM.R w I nope zero z [] := by
  rcases h with h | ⟨cs, arr, rfl, rfl, h⟩
  · exact zv_R h
  · exact ⟨arr.toList, by simp, zvL_Rs h⟩
theorem Rs_replicate {x : PV} {V : Value} (h : R w I nope x V []) (n : Nat) : Rs w I nope (List.replicate n x) (List.replicate n V) [] := by
  induction n with
  | zero => exact ⟨rfl, rfl⟩
  | succ n ih => exact ⟨V, _, [], [], rfl, rfl, h, ih⟩
theorem madeCells_flat (z : Value) (n : Nat) : (madeCells z.cells (n * z.cells.size)).toList = flatV (List.replicate n z) := by
  have hs : ∀ v ∈ List.replicate n z, v.cells.size = z.cells.size := fun v hv => by rw [(List.mem_replicate.1 hv).2]
  apply List.ext_getElem?
  intro j
  by_cases hj : j < n * z.cells.size
  · have hpos : 0 < z.cells.size := by
      rcases Nat.eq_zero_or_pos z.cells.size with h0 | h0
      · rw [h0] at hj; omega
      · exact h0
    have h1 : j / z.cells.size < n := (Nat.div_lt_iff_lt_mul hpos).2 hj
    have h2 : j % z.cells.size < z.cells.size := Nat.mod_lt _ hpos
    have h3 := flatV_get hs (i := j / z.cells.size) (v := z) (by simp [h1]) (k := j % z.cells.size) (u := z.cells[j % z.cells.size]) (by simp)
    rw [Nat.div_add_mod' j z.cells.size] at h3
    rw [h3]
    simp [madeCells, hj, h2]
  · rw [List.getElem?_eq_none (by simp [madeCells]; omega), List.getElem?_eq_none (by rw [flatV_length hs]; simp; omega)]
theorem run_mk (h : Inv B e (refOK e (valOf a H) w) (valOf a H) w I blk []) {o : Oper} {t el : TypeId} {sz bytes : Nat} {zero : PV} {l c : Opd} (hl : l.ok B.glob) (hc : c.ok B.glob) (ho : o.op = .makeSlice t l.op c.op)
    (ht : P.underlying t = some (.slice el)) {ie : TypeInfo} {z : Value} (hie : P.info? el = some ie) (hz : ie.zero = some z) (hsz : ie.size = sz) (hby : ie.bytes = bytes) (hzero : ZeroV zero z) (hzs : zero.cells.length = sz) (himm : zero.imm = true)
    {n m : Int} (el1 : l.ev e = .v (.int .i64 n)) (el2 : c.ev e = .v (.int .i64 m)) (h0 : 0 ≤ n) (hnm : n ≤ m) (hb : m * bytes ≤ 281474976710656) (hn : m ≤ 4611686018427387904) :
    ∃ V w', RunsTo P o a w V w' ∧ Yields B (valOf a H) e (.own sz (List.replicate n.toNat zero)) V w' := by
  have e1 : a.eval l.op = .int .i64 n := by have := ev_ok h hl; rw [el1] at this; exact this.1
  have e2 : a.eval c.op = .int .i64 m := by have := ev_ok h hc; rw [el2] at this; exact this.1
  have hr := run_make (P := P) w t el ie z ht hie hz .i64 .i64 n m h0 hnm (by rw [hby, Int.mul_comm]; exact hb) (by omega)
  have hzR : ∀ (w : World) (I : Nat → Prop), R w I nope zero z [] := fun w I => hzero.R
  have hzsz : z.cells.size = sz := by rw [R.cells_length (imm_ne_dead himm) nope_oneCell (hzR w I), hzs]
  refine ⟨.slice (some ⟨w.heap.size, 0, none⟩) n.toNat m.toNat, w.alloc (.cells (madeCells z.cells (m.toNat * ie.size)) el), .inl (by simp only [execOp, ho, e1, e2, Sem.run_bind, hr, Result.andThen_ok, Sem.run_pure]), I, blk, [w.heap.size], (h.alloc _).fresh (Weak.refl _) h fun b hb _ => alloc_keeps w _ b hb, .inl ?_⟩
  rw [hsz, ← hzsz]
  refine ⟨fun x hx => ?_, .inr ⟨w.heap.size, List.replicate n.toNat z, rfl, Rs_replicate (hzR _ _) _, m.toNat, _, el, (0, 0), by simp, heap_alloc_new w _, by simp; omega, ?_, ?_, .inl rfl, ?_⟩⟩
  · rw [(List.mem_replicate.1 hx).2]
    exact ⟨by omega, himm⟩
  · simp only [maxLen]
    omega
  · simp [size_madeCells]
  · rw [← madeCells_flat]
    simp only [List.length_replicate]
    have hnm' : n.toNat ≤ m.toNat := by omega
    rw [madeCells_flat, madeCells_flat]
    have hs : ∀ k, ∀ v ∈ List.replicate k z, v.cells.size = z.cells.size := fun k v hv => by rw [(List.mem_replicate.1 hv).2]
    rw [flatV_take (hs _), List.take_replicate, Nat.min_eq_left hnm']

/-! ### Rows grown -/
/-- Appending to what is owned. -/
theorem append_own {sz bytes : Nat} {t u ty el : TypeId} {ie : TypeInfo} {z : Value} (ht : P.underlying t = some (.slice el)) (hu : P.underlying u = some (.slice el) ∨ P.underlying u = some .string) (hie : P.info? el = some ie) (hz : ie.zero = some z) (hsz : ie.size = sz) (hby : ie.bytes = bytes) (hzs : z.cells.size = sz)
    {l ys : List PV} {V Y : Value} {bs : List Nat} (hV : R w I nope (.own sz l) V bs) {vy : List Value} (hys : SzOk sz ys) (hry : Rs w I nope ys vy []) (hlen : (Builtin.lenOf Y).run P w = .ok ys.length w)
    (hfirst : ∀ w' : World, w'.heap = w.heap → (Builtin.firstCells sz ys.length Y).run P w' = .ok (flatV vy).toArray w') (hone : ∀ v ∈ flatV vy, v.oneCell' = true)
    (hroom : (l.length + ys.length) * bytes ≤ 140737488355328) (h62 : l.length + ys.length ≤ 4611686018427387904) (hIb : ∀ b, I b → b ∉ bs) (hIlt : ∀ b, I b → b < w.heap.size) :
    ∃ V' w' bs', (Builtin.append_ #[t, u] ty #[V, Y]).run P w = .ok V' w' ∧ (∀ b, b < w.heap.size → b ∉ bs → w'.heap[b]? = w.heap[b]?) ∧ w.heap.size ≤ w'.heap.size ∧ w'.os = w.os ∧ w'.tape = w.tape ∧ w'.output = w.output ∧
      ((bs' = bs) ∨ (bs' = [w.heap.size] ∧ w.heap.size < w'.heap.size)) ∧ R w' I nope (.own sz (l ++ ys)) V' bs' := by
  have hysz := SzOk.sizes hys hry
  have hfl := flatV_length hysz
  have hvyl : vy.length = ys.length := hry.length
  have hboth : SzOk sz (l ++ ys) := hV.1.append hys
  have grow : ∀ (ad : Option Addr) (cap : Nat) (vl : List Value), V = .slice ad l.length cap → Rs w I nope l vl [] → cap < l.length + ys.length → (∀ w' : World, w'.heap = w.heap → (Builtin.firstCells sz l.length V).run P w' = .ok (flatV vl).toArray w') →
      ∃ V' w' bs', (Builtin.append_ #[t, u] ty #[V, Y]).run P w = .ok V' w' ∧ (∀ b, b < w.heap.size → b ∉ bs → w'.heap[b]? = w.heap[b]?) ∧ w.heap.size ≤ w'.heap.size ∧ w'.os = w.os ∧ w'.tape = w.tape ∧ w'.output = w.output ∧
        ((bs' = bs) ∨ (bs' = [w.heap.size] ∧ w.heap.size < w'.heap.size)) ∧ R w' I nope (.own sz (l ++ ys)) V' bs' := by
    intro ad cap vl hVe hrl hcap hfo
    subst hVe
    have hn : ¬ (l.length + ys.length ≤ cap) := by omega
    have h63' : ¬ (9223372036854775807 < ((l.length : Int) + (ys.length : Int))) := by omega
    have hfit : Builtin.nextslicecap (l.length + ys.length) cap * bytes ≤ 281474976710656 := growslice_fits (by omega) hroom
    have h48' : ¬ (281474976710656 < Builtin.nextslicecap (l.length + ys.length) cap * bytes) := by omega
    have hge := grownCap_ge w (l.length + ys.length) cap el
    have hcm : grownCap w (l.length + ys.length) cap el ≤ maxLen := grownCap_le_maxLen w _ cap el (by simp only [maxLen]; omega)
    have hvlsz := SzOk.sizes hV.1 hrl
    have hfl2 := flatV_length hvlsz
    have hvll : vl.length = l.length := hrl.length
    have h1 := hfo w.drew rfl
    have h2 := hfirst w.drew rfl
    refine ⟨.slice (some ⟨w.heap.size, 0, none⟩) (l.length + ys.length) (grownCap w (l.length + ys.length) cap el), w.drew.alloc (.cells ((flatV vl).toArray ++ (flatV vy).toArray ++ Builtin.zeroCells z.cells (grownCap w (l.length + ys.length) cap el - (l.length + ys.length))) el), [w.heap.size], ?_, fun b hb _ => heap_alloc_old w.drew _ hb, by simp, rfl, rfl, rfl, .inr ⟨rfl, by simp⟩, ?_⟩
    · subst hsz hby
      rcases hu with hu | hu <;>
      simp [Builtin.append_, run_underlying ht, run_underlying hu, sizeOf, typeInfo, hie, hlen, hn, h63', h48', Question.forced, h1, h2, zeroValue, hz, newRow, grownCap] <;>
      (congr 2; apply Array.ext'; simp [List.append_assoc])
    · refine ⟨hboth, .inr ⟨w.heap.size, vl ++ vy, rfl, ?_, grownCap w (l.length + ys.length) cap el, _, el, (0, 0), by simp, heap_alloc_new w.drew _, by simpa using hge, hcm, ?_, .inl rfl, ?_⟩⟩
      · exact Rs.mono (w := w) (fun _ h => h) (fun b hb => heap_alloc_old w.drew _ (hIlt b hb)) _ nope nope (fun _ _ h => h) _ _ (by simp) (show Rs w I nope (l ++ ys) (vl ++ vy) [] from hrl.append hry)
      · simp only [Array.size_append, List.size_toArray, size_zeroCells, hzs, hfl, hfl2, hvll, hvyl, ← Nat.add_mul]
        refine Nat.mul_le_mul_right _ ?_
        omega
      · rw [flatV_append]
        simp only [Array.toList_append, List.length_append]
        rw [List.take_append_of_le_length (by simp [hfl, hfl2, hvll, hvyl, Nat.add_mul])]
        rw [List.take_of_length_le (by simp [hfl, hfl2, hvll, hvyl, Nat.add_mul])]
  rcases id hV with ⟨hs, ⟨rfl, rfl, rfl⟩ | ⟨g, vl, rfl, hrl, cap, cur, tt, fr, rfl, hcur, hnc, hcm, hfit, hunf, htake⟩⟩
  · by_cases hy0 : ys.length = 0
    · have hy : ys = [] := List.eq_nil_of_length_eq_zero hy0
      subst hy
      refine ⟨.slice none 0 0, w, [], ?_, fun _ _ _ => rfl, Nat.le_refl _, rfl, rfl, rfl, .inl rfl, hV⟩
      have h2 := hfirst w rfl
      simp only [List.length_nil] at hlen h2
      rcases hu with hu | hu <;>
      simp [Builtin.append_, run_underlying ht, run_underlying hu, sizeOf, typeInfo, hie, hlen, hsz, h2]
    · exact grow none 0 [] rfl ⟨rfl, rfl⟩ (by simp; omega) (fun w' _ => by simp [Builtin.firstCells, flatV])
  · have hcells : ∀ w' : World, w'.heap = w.heap → CellsAt w' ⟨g, 0, none⟩ (flatV vl) := by
      intro w' hw j u hu
      have hadd : (⟨g, 0, none⟩ : Addr).add j = ⟨g, j, none⟩ := by unfold Addr.add; split <;> simp_all
      rw [hadd, cell_of_row w' g j cur tt fr (by rw [hw]; exact hcur)]
      rw [← htake, List.getElem?_take] at hu
      split at hu
      · simpa using hu
      · cases hu
    have hvlsz := SzOk.sizes hs hrl
    have hfl2 := flatV_length hvlsz
    have hvll : vl.length = l.length := hrl.length
    by_cases hroom2 : l.length + ys.length ≤ cap
    · have hle : (l.length + ys.length) * sz ≤ cap * sz := Nat.mul_le_mul_right _ hroom2
      rw [Nat.add_mul] at hle
      obtain ⟨w', r1, r2, r3, r4, r5, r6, r7⟩ := run_storeCells_free (P := P) g (l.length * sz) tt fr (flatV vy) 0 cur w hcur (by rw [hfl, hvyl]; omega) (by rw [hfl, hvyl]; rcases hunf with h1 | h1 <;> omega) hone
      refine ⟨.slice (some ⟨g, 0, none⟩) (l.length + ys.length) cap, w', [g], ?_, fun b _ hb => r4 b (by simpa using hb), by omega, r5, r6, r7, .inl rfl, hboth, .inr ⟨g, vl ++ vy, rfl, ?_, cap, _, tt, fr, by simp, r2, by simpa using hroom2, hcm, ?_, hunf, ?_⟩⟩
      · have h2 := hfirst w rfl
        subst hsz
        rcases hu with hu | hu <;>
        simp [Builtin.append_, run_underlying ht, run_underlying hu, sizeOf, typeInfo, hie, hlen, hroom2, h2, Addr.add_lit, r1]
      · refine Rs.mono (fun _ h => h) (fun b hb => r4 b (fun e => hIb b hb (by simp [e]))) _ nope nope (fun _ _ h => h) _ _ (by simp) (show Rs w I nope (l ++ ys) (vl ++ vy) [] from hrl.append hry)
      · simpa [setManyV_length] using hfit
      · rw [flatV_append]
        have hX : cur.toList = flatV vl ++ (cur.toList.drop (l.length * sz)) := by rw [← htake, List.take_append_drop]
        have hXl : (flatV vl).length = l.length * sz := by rw [hfl2, hvll]
        rw [hX]
        simp only [Nat.add_zero]
        have := setManyV_append (flatV vl) (flatV vy) (cur.toList.drop (l.length * sz)) [] 0 (by simp [hfl, hvyl]; omega)
        simp only [List.append_nil, Nat.add_zero] at this
        rw [← hXl] at this ⊢
        rw [this]
        have hset : ∀ (vs us : List Value), vs.length ≤ us.length → setManyV us 0 vs = vs ++ us.drop vs.length := by
          intro vs us hle2
          have key : ∀ (vs us pre : List Value), vs.length ≤ us.length → setManyV (pre ++ us) pre.length vs = pre ++ (vs ++ us.drop vs.length) := by
            intro vs
            induction vs with
            | nil => intro us pre _; simp [setManyV]
            | cons v r ih =>
              intro us pre hle3
              match us, hle3 with
              | u :: ur, hle3 =>
                simp only [setManyV, List.length_cons] at hle3 ⊢
                have h1 : (pre ++ u :: ur).set pre.length v = (pre ++ [v]) ++ ur := by
                  rw [List.set_append_right _ _ (Nat.le_refl _), Nat.sub_self]
                  simp
                have h2 := ih ur (pre ++ [v]) (by omega)
                simp only [List.length_append, List.length_singleton] at h2
                rw [h1, h2]
                simp
          simpa using key vs us [] hle2
        rw [hset _ _ (by simp [hfl, hvyl]; omega)]
        simp only [List.length_append, Nat.add_mul]
        rw [show l.length * sz + ys.length * sz = (flatV vl).length + (flatV vy).length by rw [hXl, hfl, hvyl], ← List.append_assoc, ← List.length_append]
        exact List.take_left
    · exact grow _ cap vl rfl hrl (by omega) (fun w' hw => run_firstCells_some w' sz l.length _ l.length cap (flatV vl) (by rw [hfl2, hvll]) (hcells w' hw))
end
end Go.AM
