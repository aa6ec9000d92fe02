/- Builders of texts: what their methods do. No conditions. -/
import Derived.Test.YtlokekpiajholaaDoorIr
import Derived.Test.YtlokekpiajholaaDoorAmChk
import Derived.Test.YtlokekpiajholaaDoorChecked
import Derived.Lib.Strings
import Derived.Lib.Slices
import Derived.Lib.Walk
import Derived.Lib.Builder
import Derived.Lib.AppendStr
import Derived.Lib.UnsafeStr
import Derived.WalkKit
import Derived.Laws.Externs
import Derived.Laws.IdiomCopy
import Derived.Laws.BitsLemmas
set_option linter.unusedVariables false
namespace Go.AM.F
open Go Go.AM Go.Proofs

set_option maxHeartbeats 1000000 in
set_option maxRecDepth 100000 in
/-- copyCheck at a builder that has been used: nothing turns. -/
theorem copyCheck_used (b : Nat) (w : World) (h0 : w.cell? ⟨b, 0, none⟩ = some (.pointer (some ⟨b, 0, none⟩))) :
    Calls Tryd.prog 36 #[.pointer (some ⟨b, 0, none⟩)] w fun e w' => e = .returned (.tuple #[]) ∧ w' = w := by
  obtain ⟨j, hj, _⟩ := Option.map_eq_some_iff.1 (show (Tryd.prog.info? 59).map (·.size) = some 2 by kernel_rfl)
  have mixed : Tryd.prog.follows .mixedOrders = true := by kernel_rfl
  have t71 := Tryd.underlying59; have a71 := Tryd.isAgg59; have z71 := Tryd.sizeOf59; have v71 := Tryd.zeroValue59; have u71 := run_underlying Tryd.underlying59
  have t68 := Tryd.underlying56; have a68 := Tryd.isAgg56; have z68 := Tryd.sizeOf56; have v68 := Tryd.zeroValue56; have u68 := run_underlying Tryd.underlying56
  have t4 := Tryd.underlying4; have a4 := Tryd.isAgg4; have z4 := Tryd.sizeOf4; have v4 := Tryd.zeroValue4; have u4 := run_underlying Tryd.underlying4
  have t102 := Tryd.underlying104; have a102 := Tryd.isAgg104; have z102 := Tryd.sizeOf104; have v102 := Tryd.zeroValue104; have u102 := run_underlying Tryd.underlying104
  go_enter Tryd.func36, Tryd.ntmps36
  go_wp2
  rw [Lib.run_neq_ptr_same w _ Tryd.underlying56 hj]
  go_wp2
  go_end0
  exact ⟨rfl, rfl⟩
theorem lies : liesAt Tryd.prog Tryd.prog.depth 59 (2 / Tryd.prog.cellsOf 59) 0 59 1 = true := by kernel_rfl
set_option maxHeartbeats 1000000 in
set_option maxRecDepth 100000 in
/-- copyCheck at a fresh builder: it stores its own address. -/
theorem copyCheck_fresh (b : Nat) (w : World) (h0 : w.cell? ⟨b, 0, none⟩ = some (.pointer none)) (hsh : w.shape? b = some (59, 2)) (hfz : w.frozen? ⟨b, 0, none⟩ = false) :
    Calls Tryd.prog 36 #[.pointer (some ⟨b, 0, none⟩)] w fun e w' => e = .returned (.tuple #[]) ∧ w' = w.setCell ⟨b, 0, none⟩ (.pointer (some ⟨b, 0, none⟩)) := by
  obtain ⟨j, hj, hjs⟩ := Option.map_eq_some_iff.1 (show (Tryd.prog.info? 59).map (·.size) = some 2 by kernel_rfl)
  have mixed : Tryd.prog.follows .mixedOrders = true := by kernel_rfl
  have t71 := Tryd.underlying59; have a71 := Tryd.isAgg59; have z71 := Tryd.sizeOf59; have v71 := Tryd.zeroValue59; have u71 := run_underlying Tryd.underlying59
  have t68 := Tryd.underlying56; have a68 := Tryd.isAgg56; have z68 := Tryd.sizeOf56; have v68 := Tryd.zeroValue56; have u68 := run_underlying Tryd.underlying56
  have t4 := Tryd.underlying4; have a4 := Tryd.isAgg4; have z4 := Tryd.sizeOf4; have v4 := Tryd.zeroValue4; have u4 := run_underlying Tryd.underlying4
  have t102 := Tryd.underlying104; have a102 := Tryd.isAgg104; have z102 := Tryd.sizeOf104; have v102 := Tryd.zeroValue104; have u102 := run_underlying Tryd.underlying104
  go_enter Tryd.func36, Tryd.ntmps36
  go_wp2
  rw [Lib.run_to_unsafe w ⟨b, 0, none⟩ Tryd.underlying56 Tryd.underlying104 hj (by rw [hjs]; decide) hsh (Nat.zero_lt_succ 1)]
  simp only [Result.andThen]
  rw [Oper.upon_value]
  go_wp2
  rw [run_callFunc_extern Tryd.func51 (by kernel_rfl) (by kernel_rfl) (by kernel_rfl) (e := Extern.AbiNoEscape.same) (by kernel_rfl)]
  rw [Lib.run_noEscape]
  simp only [Result.andThen]
  rw [Oper.upon_value]
  go_wp2
  rw [Lib.run_from_unsafe w ⟨b, 0, none⟩ Tryd.underlying104 Tryd.underlying56 hj hsh lies]
  simp only [Result.andThen]
  rw [Oper.upon_value]
  go_wp2
  go_end0
  exact ⟨rfl, rfl⟩
/-- A builder's cell, used. -/
theorem setCell_bld {w : World} {b : Nat} {v : Value} {T : TypeId} (h : w.heap[b]? = some (.cells #[.pointer none, v] T (0, 0))) :
    let w' := w.setCell ⟨b, 0, none⟩ (.pointer (some ⟨b, 0, none⟩))
    w'.heap[b]? = some (.cells #[.pointer (some ⟨b, 0, none⟩), v] T (0, 0)) ∧ (∀ k, k ≠ b → w'.heap[k]? = w.heap[k]?) ∧ w'.heap.size = w.heap.size ∧ w'.os = w.os ∧ w'.tape = w.tape ∧ w'.output = w.output := by
  refine ⟨?_, fun k hk => ?_, ?_, rfl, rfl, rfl⟩
  · simp [World.setCell, Array.getElem?_modify, h]
  · simp [World.setCell, Array.getElem?_modify, Ne.symm hk]
  · simp [World.setCell]
theorem copyCheck_ok (b : Nat) (p v : Value) (w : World) (hp : p = .pointer none ∨ p = .pointer (some ⟨b, 0, none⟩)) (h : w.heap[b]? = some (.cells #[p, v] 59 (0, 0))) :
    Calls Tryd.prog 36 #[.pointer (some ⟨b, 0, none⟩)] w fun e w' => e = .returned (.tuple #[]) ∧ w'.heap[b]? = some (.cells #[.pointer (some ⟨b, 0, none⟩), v] 59 (0, 0)) ∧ (∀ k, k ≠ b → w'.heap[k]? = w.heap[k]?) ∧ w'.heap.size = w.heap.size ∧ w'.os = w.os ∧ w'.tape = w.tape ∧ w'.output = w.output := by
  rcases hp with rfl | rfl
  · refine (copyCheck_fresh b w (by rw [Lib.cell_of_heap h]; rfl) (by simp [World.shape?, h]) (Lib.frozen_of_heap h 0)).mono ?_
    rintro e w' ⟨rfl, rfl⟩
    exact ⟨rfl, setCell_bld h⟩
  · refine (copyCheck_used b w (by rw [Lib.cell_of_heap h]; rfl)).mono ?_
    rintro e w' ⟨rfl, rfl⟩
    exact ⟨rfl, h, fun _ _ => rfl, rfl, rfl, rfl, rfl⟩
theorem step {P : Program} {ops : Array Oper} {rest : List Oper} {o : Oper} {a : Act} {Q : Exit → Act → World → Prop} {w w' : World} {V : Value} (hgd : o.guard = none) (h : (execOp a.eval o).run P w = .ok (.value V) w') (k : wpList P ops Q rest (a.put o.dst V) w') : wpList P ops Q (o :: rest) a w :=
  wpList_plain hgd fun K hK => by
    unfold Oper.wp
    rw [h]
    exact hK _ _ k
theorem enters_cc : Enters Tryd.prog 36 := Enters.of Tryd.func36 (by kernel_rfl) (by kernel_rfl)
set_option maxHeartbeats 1000000 in
set_option maxRecDepth 100000 in
theorem writeString_run (b : Nat) (p v : Value) (l : List UInt8) (s : ByteArray) (w : World) (hp : p = .pointer none ∨ p = .pointer (some ⟨b, 0, none⟩)) (h : w.heap[b]? = some (.cells #[p, v] 59 (0, 0))) (hown : w.ownsRow 0 5 1 v l.length (l.map fun x => .int .u8 x.toNat)) (hne : v.ownBlock ≠ some b) (hlen : l.length + s.size ≤ 140737488355328) :
    Calls Tryd.prog 21 #[.pointer (some ⟨b, 0, none⟩), .string s] w fun e w' => e = .returned (.tuple #[.int .i64 s.size, .nilIface]) ∧ ∃ v', w'.heap[b]? = some (.cells #[.pointer (some ⟨b, 0, none⟩), v'] 59 (0, 0)) ∧ w'.ownsRow 0 5 1 v' (l.length + s.size) ((l.map fun x => .int .u8 x.toNat) ++ Lib.strCells s) ∧ v'.ownBlock ≠ some b ∧ (∀ g, v'.ownBlock = some g → v.ownBlock = some g ∨ w.heap.size ≤ g) ∧
      w'.os = w.os ∧ w'.tape = w.tape ∧ w'.output = w.output ∧ w.heap.size ≤ w'.heap.size ∧ ∀ k, k < w.heap.size → k ∉ b :: v.ownBlock.toList → w'.heap[k]? = w.heap[k]? := by
  obtain ⟨i0, hi, hz0, hz1, hz2⟩ := info_parts (show (Tryd.prog.info? 5).map (fun i => (i.zero, i.size, i.bytes)) = some (some (.int .u8 0), 1, 1) by kernel_rfl)
  have mixed : Tryd.prog.follows .mixedOrders = true := by kernel_rfl
  go_enter Tryd.func21, Tryd.ntmps21
  repeat go_step
  refine (copyCheck_ok b p v _ hp h).mono ?_
  rintro e w1 ⟨rfl, hbk, hoth, hsz, ho1, ho2, ho3⟩
  dsimp only
  have hown1 : w1.ownsRow 0 5 1 v l.length (l.map fun x => .int .u8 x.toNat) := by
    refine ⟨hown.1, ?_⟩
    rcases hown.2 with k | ⟨g, cap, cur, rfl, k1, k2, k3⟩
    · exact .inl k
    · exact .inr ⟨g, cap, cur, rfl, k1, (hoth g fun e => hne (by rw [e]; rfl)).trans k2, k3⟩
  have c1 : w1.cell? ⟨b, 1, none⟩ = some v := by rw [Lib.cell_of_heap hbk]; rfl
  iterate 15 go_step
  first | at_builtin | go_step
  first | at_builtin | go_step
  first | at_builtin | go_step
  first | at_builtin | go_step
  first | at_builtin | go_step
  first | at_builtin | go_step
  first | at_builtin | go_step
  first | at_builtin | go_step
  first | at_builtin | go_step
  first | at_builtin | go_step
  first | at_builtin | go_step
  first | at_builtin | go_step
  obtain ⟨v', w2, hr, hown', hgrow, hnew⟩ := append_bld (P := Tryd.prog) (t := 57) (u := 9) (ty := 57) (e := 5) Tryd.underlying57 Tryd.underlying9 hi hz0 hz1 hz2 hown1 s hlen
  refine step rfl (V := v') (w' := w2) (by
    unfold execOp
    simp only [resolve, invoke, builtin, Sem.run_bind, Sem.run_pure, Result.andThen_ok, List.map_toArray, List.map_cons, List.map_nil]
    refine Eq.trans (congrArg (fun r => Result.andThen r _) hr) ?_
    rfl) ?_
  have hlt : b < w1.heap.size := (Array.getElem?_eq_some_iff.1 hbk).1
  have hb2 : w2.heap[b]? = some (.cells #[.pointer (some ⟨b, 0, none⟩), v] 59 (0, 0)) := by
    rw [hgrow.block b hlt (fun e => hne e.symm)]
    exact hbk
  have d0 : w2.cell? ⟨b, 0, none⟩ = some (.pointer (some ⟨b, 0, none⟩)) := by rw [Lib.cell_of_heap hb2]; rfl
  have d1 : w2.cell? ⟨b, 1, none⟩ = some v := by rw [Lib.cell_of_heap hb2]; rfl
  have f1 : w2.frozen? ⟨b, 1, none⟩ = false := Lib.frozen_of_heap hb2 1
  obtain ⟨ao, n', cap, rfl⟩ : ∃ ao n' cap, v' = .slice ao n' cap := by
    rcases hown'.2 with ⟨hv, _⟩ | ⟨g, cap, cur, hv, _⟩
    · exact ⟨_, _, _, hv⟩
    · exact ⟨_, _, _, hv⟩
  repeat go_step
  go_ret2
  refine ⟨rfl, .slice ao n' cap, ?_, ?_, ?_, ?_, ?_, ?_, ?_, ?_, ?_⟩
  · simp [World.setCell, Array.getElem?_modify, hb2]
  · refine ⟨hown'.1, ?_⟩
    rcases hown'.2 with k | ⟨g, cap', cur, e1, k1, k2, k3⟩
    · exact .inl k
    · refine .inr ⟨g, cap', cur, e1, k1, ?_, k3⟩
      have hgb : g ≠ b := by
        rintro rfl
        rw [hb2] at k2
        simp at k2
      simp [World.setCell, Array.getElem?_modify, Ne.symm hgb, k2]
  · rcases hown'.2 with ⟨k, _⟩ | ⟨g, cap', cur, e1, k1, k2, k3⟩
    · cases k; simp [Value.ownBlock]
    · cases e1
      simp only [Value.ownBlock, ne_eq, Option.some.injEq]
      rintro rfl
      rw [hb2] at k2
      simp at k2
  · intro g hg
    rw [← hsz]
    exact hnew g hg
  · exact hgrow.os.trans ho1
  · exact hgrow.tape.trans ho2
  · exact hgrow.output.trans ho3
  · have := hgrow.size
    simp [World.setCell]
    omega
  · intro k hk hn
    simp only [List.mem_cons, Option.mem_toList, not_or] at hn
    have : (w2.setCell ⟨b, 1, none⟩ (.slice ao n' cap)).heap[k]? = w2.heap[k]? := by simp [World.setCell, Array.getElem?_modify, Ne.symm hn.1]
    rw [this, hgrow.block k (by omega) (fun e => hn.2 e.symm), hoth k hn.1]
set_option maxHeartbeats 1000000 in
set_option maxRecDepth 100000 in
theorem string_run (b g cap : Nat) (p : Value) (cur : Array Value) (l : List UInt8) (w : World) (h0 : l ≠ []) (hbk : w.heap[b]? = some (.cells #[p, .slice (some ⟨g, 0, none⟩) l.length cap] 59 (0, 0))) (hg : w.heap[g]? = some (.cells cur 5 (0, 0))) (hnc : l.length ≤ cap) (hcm : cap ≤ maxLen) (hcs : cur.size = cap * 1) (hown : w.ownsRow 0 5 1 (.slice (some ⟨g, 0, none⟩) l.length cap) l.length (l.map fun x => .int .u8 x.toNat)) :
    Calls Tryd.prog 23 #[.pointer (some ⟨b, 0, none⟩)] w fun e w' => e = .returned (.string ⟨l.toArray⟩) ∧ w' = w.drew.freeze ⟨g, 0, none⟩ l.length := by
  have hl0 : l.length ≠ 0 := by simpa using h0
  have c1 : w.drew.cell? ⟨b, 1, none⟩ = some (.slice (some ⟨g, 0, none⟩) l.length cap) := by
    have : w.drew.heap[b]? = some (.cells #[p, .slice (some ⟨g, 0, none⟩) l.length cap] 59 (0, 0)) := hbk
    rw [Lib.cell_of_heap this]; rfl
  have hSD : (Builtin.unsafeSliceData_ #[57] 88 #[.slice (some ⟨g, 0, none⟩) l.length cap]).run Tryd.prog w.drew = .ok (.pointer (some ⟨g, 0, none⟩)) w.drew :=
    Lib.run_unsafeSliceData_row _ _ _ _ _ _ (by omega)
  have hUS : (Builtin.unsafeString_ #[88, 3] 9 #[.pointer (some ⟨g, 0, none⟩), .int .i64 l.length]).run Tryd.prog w.drew = .ok (.string ⟨l.toArray⟩) (w.drew.freeze ⟨g, 0, none⟩ l.length) := by
    refine Lib.run_unsafeString_row w.drew 88 3 9 5 Tryd.underlying88 (by kernel_rfl) g cur.size (by have hg' : w.drew.heap[g]? = some (.cells cur 5 (0, 0)) := hg; simp [World.shape?, hg']) l h0 (by omega) (by unfold maxLen at hcm; omega) ?_
    intro j x hx
    have := hown.cells (g := g) rfl j (.int .u8 x.toNat) (by simp [hx])
    exact this
  have mixed : Tryd.prog.follows .mixedOrders = true := by kernel_rfl
  clear hown hcs hg hnc hcm hbk
  have t71 := Tryd.underlying59; have a71 := Tryd.isAgg59; have z71 := Tryd.sizeOf59; have v71 := Tryd.zeroValue59; have u71 := run_underlying Tryd.underlying59
  have t68 := Tryd.underlying56; have a68 := Tryd.isAgg56; have z68 := Tryd.sizeOf56; have v68 := Tryd.zeroValue56; have u68 := run_underlying Tryd.underlying56
  have t69 := Tryd.underlying57; have a69 := Tryd.isAgg57; have z69 := Tryd.sizeOf57; have v69 := Tryd.zeroValue57; have u69 := run_underlying Tryd.underlying57
  have t94 := Tryd.underlying88; have a94 := Tryd.isAgg88; have z94 := Tryd.sizeOf88; have v94 := Tryd.zeroValue88; have u94 := run_underlying Tryd.underlying88
  have t9 := Tryd.underlying9; have a9 := Tryd.isAgg9; have z9 := Tryd.sizeOf9; have v9 := Tryd.zeroValue9; have u9 := run_underlying Tryd.underlying9
  have t3 := Tryd.underlying3; have a3 := Tryd.isAgg3; have z3 := Tryd.sizeOf3; have v3 := Tryd.zeroValue3; have u3 := run_underlying Tryd.underlying3
  go_enter Tryd.func23, Tryd.ntmps23
  repeat go_step
  go_region
  all_goals (repeat go_step)
  all_goals (go_ret; exact ⟨rfl, rfl⟩)
theorem writeString_ok : ∀ xs y backs, xWriteString 59 5 xs = some (y, backs) → ∀ (w : World) (I : Nat → Prop) (vs : List Value) (bss : List Nat), (∀ b, I b → b < w.heap.size) → bss.Nodup → (∀ b, b ∈ bss → ¬ I b) → Rs w I nope xs vs bss →
    Calls Tryd.prog 21 vs.toArray w fun e w' => ∃ V, e = .returned V ∧ Left w I bss vs w' y V backs := by
  intro xs y backs h w I vs bss hI hnd hni hx
  unfold xWriteString at h
  split at h
  · rename_i T' e' l s
    split at h
    · rename_i hc
      obtain ⟨rfl, rfl, hlen⟩ := hc
      simp only [Option.some.injEq, Prod.mk.injEq] at h
      obtain ⟨rfl, rfl⟩ := h
      obtain ⟨b, p, v, us, rfl, hus, rfl, hp, hb, hown, hne⟩ := BldAt.take hx rfl
      obtain ⟨u, us', b1, b2, rfl, e0, ⟨rfl, _, _⟩, rfl, _⟩ := hus
      refine (writeString_run b p v l s w hp hb hown hne hlen).mono ?_
      rintro e w' ⟨rfl, v', h1, h2, h3, h4, h5, h6, h7, h8, h9⟩
      have hcells : (l ++ s.data.toList).map (fun x => Value.int .u8 x.toNat) = (l.map fun x => .int .u8 x.toNat) ++ Lib.strCells s := by simp [Lib.strCells]
      have hl : (l ++ s.data.toList).length = l.length + s.size := by simp
      exact ⟨_, rfl, Left.bld (xs := [.v (.string s)]) hI hni h5 h6 h7 h8 h9 h1 (by rw [hcells, hl]; exact h2) h3 h4 ⟨_, rfl, _, _, [], [], rfl, rfl, ⟨rfl, rfl, rfl⟩, _, _, [], [], rfl, rfl, ⟨rfl, rfl, rfl⟩, rfl, rfl⟩ rfl⟩
    · cases h
  · cases h
theorem string_ok : ∀ xs y backs, xString 59 5 xs = some (y, backs) → ∀ (w : World) (I : Nat → Prop) (vs : List Value) (bss : List Nat), (∀ b, I b → b < w.heap.size) → bss.Nodup → (∀ b, b ∈ bss → ¬ I b) → Rs w I nope xs vs bss →
    Calls Tryd.prog 23 vs.toArray w fun e w' => ∃ V, e = .returned V ∧ Left w I bss vs w' y V backs := by
  intro xs y backs h w I vs bss hI hnd hni hx
  unfold xString at h
  split at h
  · rename_i T' e' l
    split at h
    · rename_i hc
      obtain ⟨rfl, rfl, h0⟩ := hc
      simp only [Option.some.injEq, Prod.mk.injEq] at h
      obtain ⟨rfl, rfl⟩ := h
      obtain ⟨b, p, v, us, rfl, ⟨rfl, _⟩, rfl, hp, hb, hown, hne⟩ := BldAt.take hx rfl
      rcases hown.2 with ⟨_, hz⟩ | ⟨g, cap, cur, rfl, k1, k2, k3, k4, k5, k6⟩
      · exact absurd (by simpa using hz) h0
      · refine (string_run b g cap p cur l w h0 hb k2 k3 k4 k5 hown).mono ?_
        rintro e w' ⟨rfl, rfl⟩
        have hold : ∀ k, k ≠ g → (w.drew.freeze ⟨g, 0, none⟩ l.length).heap[k]? = w.heap[k]? := by
          intro k hk
          unfold World.freeze
          split
          · rfl
          · simp only [Array.getElem?_modify, if_neg (Ne.symm hk)]
            rfl
        have hsz : (w.drew.freeze ⟨g, 0, none⟩ l.length).heap.size = w.heap.size := by
          unfold World.freeze
          split
          · rfl
          · simp only [Array.size_modify]
            rfl
        refine ⟨_, rfl, I, [], [], fun _ h => h, fun _ h => .inl h, fun k hk => by rw [hsz]; exact hI k hk, ?_, ?_, ?_, by rw [hsz]; exact Nat.le_refl _, fun k _ hn => hold k (by rintro rfl; simp [Value.ownBlock] at hn), ⟨rfl, rfl, rfl⟩, ⟨_, _, [], [], rfl, rfl, rfl, rfl, rfl⟩, List.nodup_nil, fun k hk => by simp at hk⟩
        · rw [freeze_os]; rfl
        · rw [freeze_tape]; rfl
        · rw [freeze_output]; rfl
    · cases h
  · cases h
/-- What is answered by name is so. -/
theorem ext_ok : CallOK Tryd.prog G T.ext := by
  intro f xs y backs h w I vs bss hI hnd hni hG hx
  change extT f xs = some (y, backs) at h
  unfold extT at h
  split at h
  · rename_i hf
    subst hf
    exact writeString_ok xs y backs h w I vs bss hI hnd hni hx
  · split at h
    · rename_i hf
      subst hf
      exact string_ok xs y backs h w I vs bss hI hnd hni hx
    · cases h
end Go.AM.F
