/- Builders of texts: what their methods do. No conditions. -/
import Derived.Test.YtbghahcgjnlnlaaGreatDoorIr
import Derived.Test.YtbghahcgjnlnlaaGreatDoorRep
import Derived.Test.YtbghahcgjnlnlaaGreatDoorFmt
import Derived.Test.YtbghahcgjnlnlaaGreatDoorAmChk
import Derived.Test.YtbghahcgjnlnlaaGreatDoorChecked
import Derived.Lib.Strings
import Derived.Lib.Slices
import Derived.Lib.Walk
import Derived.Lib.Builder
import Derived.Lib.AppendStr
import Derived.Lib.UnsafeStr
import Derived.WalkKit
import Derived.Laws.Externs
import Derived.Laws.IdiomCopy
import Derived.Laws.BitsLemmas
set_option linter.unusedVariables false
namespace Go.AM.F
open Go Go.AM Go.Proofs

set_option maxHeartbeats 1000000 in
set_option maxRecDepth 100000 in
/-- copyCheck at a builder that has been used: nothing turns. -/
theorem copyCheck_used (b : Nat) (w : World) (h0 : w.cell? ⟨b, 0, none⟩ = some (.pointer (some ⟨b, 0, none⟩))) :
    Calls Tryz.prog 78 #[.pointer (some ⟨b, 0, none⟩)] w fun e w' => e = .returned (.tuple #[]) ∧ w' = w := by
  obtain ⟨j, hj, _⟩ := Option.map_eq_some_iff.1 (show (Tryz.prog.info? 78).map (·.size) = some 2 by kernel_rfl)
  have mixed : Tryz.prog.follows .mixedOrders = true := by kernel_rfl
  have t71 := Tryz.underlying78; have a71 := Tryz.isAgg78; have z71 := Tryz.sizeOf78; have v71 := Tryz.zeroValue78; have u71 := run_underlying Tryz.underlying78
  have t68 := Tryz.underlying75; have a68 := Tryz.isAgg75; have z68 := Tryz.sizeOf75; have v68 := Tryz.zeroValue75; have u68 := run_underlying Tryz.underlying75
  have t4 := Tryz.underlying4; have a4 := Tryz.isAgg4; have z4 := Tryz.sizeOf4; have v4 := Tryz.zeroValue4; have u4 := run_underlying Tryz.underlying4
  have t102 := Tryz.underlying133; have a102 := Tryz.isAgg133; have z102 := Tryz.sizeOf133; have v102 := Tryz.zeroValue133; have u102 := run_underlying Tryz.underlying133
  go_enter Tryz.func78, Tryz.ntmps78
  go_wp2
  rw [Lib.run_neq_ptr_same w _ Tryz.underlying75 hj]
  go_wp2
  go_end0
  exact ⟨rfl, rfl⟩
theorem lies : liesAt Tryz.prog Tryz.prog.depth 78 (2 / Tryz.prog.cellsOf 78) 0 78 1 = true := by kernel_rfl
set_option maxHeartbeats 1000000 in
set_option maxRecDepth 100000 in
/-- copyCheck at a fresh builder: it stores its own address. -/
theorem copyCheck_fresh (b : Nat) (w : World) (h0 : w.cell? ⟨b, 0, none⟩ = some (.pointer none)) (hsh : w.shape? b = some (78, 2)) (hfz : w.frozen? ⟨b, 0, none⟩ = false) :
    Calls Tryz.prog 78 #[.pointer (some ⟨b, 0, none⟩)] w fun e w' => e = .returned (.tuple #[]) ∧ w' = w.setCell ⟨b, 0, none⟩ (.pointer (some ⟨b, 0, none⟩)) := by
  obtain ⟨j, hj, hjs⟩ := Option.map_eq_some_iff.1 (show (Tryz.prog.info? 78).map (·.size) = some 2 by kernel_rfl)
  have mixed : Tryz.prog.follows .mixedOrders = true := by kernel_rfl
  have t71 := Tryz.underlying78; have a71 := Tryz.isAgg78; have z71 := Tryz.sizeOf78; have v71 := Tryz.zeroValue78; have u71 := run_underlying Tryz.underlying78
  have t68 := Tryz.underlying75; have a68 := Tryz.isAgg75; have z68 := Tryz.sizeOf75; have v68 := Tryz.zeroValue75; have u68 := run_underlying Tryz.underlying75
  have t4 := Tryz.underlying4; have a4 := Tryz.isAgg4; have z4 := Tryz.sizeOf4; have v4 := Tryz.zeroValue4; have u4 := run_underlying Tryz.underlying4
  have t102 := Tryz.underlying133; have a102 := Tryz.isAgg133; have z102 := Tryz.sizeOf133; have v102 := Tryz.zeroValue133; have u102 := run_underlying Tryz.underlying133
  go_enter Tryz.func78, Tryz.ntmps78
  go_wp2
  rw [Lib.run_to_unsafe w ⟨b, 0, none⟩ Tryz.underlying75 Tryz.underlying133 hj (by rw [hjs]; decide) hsh (Nat.zero_lt_succ 1)]
  simp only [Result.andThen]
  rw [Oper.upon_value]
  go_wp2
  rw [run_callFunc_extern Tryz.func106 (by kernel_rfl) (by kernel_rfl) (by kernel_rfl) (e := Extern.AbiNoEscape.same) (by kernel_rfl)]
  rw [Lib.run_noEscape]
  simp only [Result.andThen]
  rw [Oper.upon_value]
  go_wp2
  rw [Lib.run_from_unsafe w ⟨b, 0, none⟩ Tryz.underlying133 Tryz.underlying75 hj hsh lies]
  simp only [Result.andThen]
  rw [Oper.upon_value]
  go_wp2
  go_end0
  exact ⟨rfl, rfl⟩
/-- A builder's cell, used. -/
theorem setCell_bld {w : World} {b : Nat} {v : Value} {T : TypeId} (h : w.heap[b]? = some (.cells #[.pointer none, v] T (0, 0))) :
    let w' := w.setCell ⟨b, 0, none⟩ (.pointer (some ⟨b, 0, none⟩))
    w'.heap[b]? = some (.cells #[.pointer (some ⟨b, 0, none⟩), v] T (0, 0)) ∧ (∀ k, k ≠ b → w'.heap[k]? = w.heap[k]?) ∧ w'.heap.size = w.heap.size ∧ w'.os = w.os ∧ w'.tape = w.tape ∧ w'.output = w.output := by
  refine ⟨?_, fun k hk => ?_, ?_, rfl, rfl, rfl⟩
  · simp [World.setCell, Array.getElem?_modify, h]
  · simp [World.setCell, Array.getElem?_modify, Ne.symm hk]
  · simp [World.setCell]
theorem copyCheck_ok (b : Nat) (p v : Value) (w : World) (hp : p = .pointer none ∨ p = .pointer (some ⟨b, 0, none⟩)) (h : w.heap[b]? = some (.cells #[p, v] 78 (0, 0))) :
    Calls Tryz.prog 78 #[.pointer (some ⟨b, 0, none⟩)] w fun e w' => e = .returned (.tuple #[]) ∧ w'.heap[b]? = some (.cells #[.pointer (some ⟨b, 0, none⟩), v] 78 (0, 0)) ∧ (∀ k, k ≠ b → w'.heap[k]? = w.heap[k]?) ∧ w'.heap.size = w.heap.size ∧ w'.os = w.os ∧ w'.tape = w.tape ∧ w'.output = w.output := by
  rcases hp with rfl | rfl
  · refine (copyCheck_fresh b w (by rw [Lib.cell_of_heap h]; rfl) (by simp [World.shape?, h]) (Lib.frozen_of_heap h 0)).mono ?_
    rintro e w' ⟨rfl, rfl⟩
    exact ⟨rfl, setCell_bld h⟩
  · refine (copyCheck_used b w (by rw [Lib.cell_of_heap h]; rfl)).mono ?_
    rintro e w' ⟨rfl, rfl⟩
    exact ⟨rfl, h, fun _ _ => rfl, rfl, rfl, rfl, rfl⟩
theorem step {P : Program} {ops : Array Oper} {rest : List Oper} {o : Oper} {a : Act} {Q : Exit → Act → World → Prop} {w w' : World} {V : Value} (hgd : o.guard = none) (h : (execOp a.eval o).run P w = .ok (.value V) w') (k : wpList P ops Q rest (a.put o.dst V) w') : wpList P ops Q (o :: rest) a w :=
  wpList_plain hgd fun K hK => by
    unfold Oper.wp
    rw [h]
    exact hK _ _ k
theorem enters_cc : Enters Tryz.prog 78 := Enters.of Tryz.func78 (by kernel_rfl) (by kernel_rfl)
set_option maxHeartbeats 1000000 in
set_option maxRecDepth 100000 in
theorem writeString_run (b : Nat) (p v : Value) (l : List UInt8) (s : ByteArray) (w : World) (hp : p = .pointer none ∨ p = .pointer (some ⟨b, 0, none⟩)) (h : w.heap[b]? = some (.cells #[p, v] 78 (0, 0))) (hown : w.ownsRow 0 5 1 v l.length (l.map fun x => .int .u8 x.toNat)) (hne : v.ownBlock ≠ some b) (hlen : l.length + s.size ≤ 140737488355328) :
    Calls Tryz.prog 45 #[.pointer (some ⟨b, 0, none⟩), .string s] w fun e w' => e = .returned (.tuple #[.int .i64 s.size, .nilIface]) ∧ ∃ v', w'.heap[b]? = some (.cells #[.pointer (some ⟨b, 0, none⟩), v'] 78 (0, 0)) ∧ w'.ownsRow 0 5 1 v' (l.length + s.size) ((l.map fun x => .int .u8 x.toNat) ++ Lib.strCells s) ∧ v'.ownBlock ≠ some b ∧ (∀ g, v'.ownBlock = some g → v.ownBlock = some g ∨ w.heap.size ≤ g) ∧
      w'.os = w.os ∧ w'.tape = w.tape ∧ w'.output = w.output ∧ w.heap.size ≤ w'.heap.size ∧ ∀ k, k < w.heap.size → k ∉ b :: v.ownBlock.toList → w'.heap[k]? = w.heap[k]? := by
  obtain ⟨i0, hi, hz0, hz1, hz2⟩ := info_parts (show (Tryz.prog.info? 5).map (fun i => (i.zero, i.size, i.bytes)) = some (some (.int .u8 0), 1, 1) by kernel_rfl)
  have mixed : Tryz.prog.follows .mixedOrders = true := by kernel_rfl
  go_enter Tryz.func45, Tryz.ntmps45
  repeat go_step
  refine (copyCheck_ok b p v _ hp h).mono ?_
  rintro e w1 ⟨rfl, hbk, hoth, hsz, ho1, ho2, ho3⟩
  dsimp only
  have hown1 : w1.ownsRow 0 5 1 v l.length (l.map fun x => .int .u8 x.toNat) := by
    refine ⟨hown.1, ?_⟩
    rcases hown.2 with k | ⟨g, cap, cur, rfl, k1, k2, k3⟩
    · exact .inl k
    · exact .inr ⟨g, cap, cur, rfl, k1, (hoth g fun e => hne (by rw [e]; rfl)).trans k2, k3⟩
  have c1 : w1.cell? ⟨b, 1, none⟩ = some v := by rw [Lib.cell_of_heap hbk]; rfl
  iterate 15 go_step
  first | at_builtin | go_step
  first | at_builtin | go_step
  first | at_builtin | go_step
  first | at_builtin | go_step
  first | at_builtin | go_step
  first | at_builtin | go_step
  first | at_builtin | go_step
  first | at_builtin | go_step
  first | at_builtin | go_step
  first | at_builtin | go_step
  first | at_builtin | go_step
  first | at_builtin | go_step
  obtain ⟨v', w2, hr, hown', hgrow, hnew⟩ := append_bld (P := Tryz.prog) (t := 76) (u := 9) (ty := 76) (e := 5) Tryz.underlying76 Tryz.underlying9 hi hz0 hz1 hz2 hown1 s hlen
  refine step rfl (V := v') (w' := w2) (by
    unfold execOp
    simp only [resolve, invoke, builtin, Sem.run_bind, Sem.run_pure, Result.andThen_ok, List.map_toArray, List.map_cons, List.map_nil]
    refine Eq.trans (congrArg (fun r => Result.andThen r _) hr) ?_
    rfl) ?_
  have hlt : b < w1.heap.size := (Array.getElem?_eq_some_iff.1 hbk).1
  have hb2 : w2.heap[b]? = some (.cells #[.pointer (some ⟨b, 0, none⟩), v] 78 (0, 0)) := by
    rw [hgrow.block b hlt (fun e => hne e.symm)]
    exact hbk
  have d0 : w2.cell? ⟨b, 0, none⟩ = some (.pointer (some ⟨b, 0, none⟩)) := by rw [Lib.cell_of_heap hb2]; rfl
  have d1 : w2.cell? ⟨b, 1, none⟩ = some v := by rw [Lib.cell_of_heap hb2]; rfl
  have f1 : w2.frozen? ⟨b, 1, none⟩ = false := Lib.frozen_of_heap hb2 1
  obtain ⟨ao, n', cap, rfl⟩ : ∃ ao n' cap, v' = .slice ao n' cap := by
    rcases hown'.2 with ⟨hv, _⟩ | ⟨g, cap, cur, hv, _⟩
    · exact ⟨_, _, _, hv⟩
    · exact ⟨_, _, _, hv⟩
  repeat go_step
  go_ret2
  refine ⟨rfl, .slice ao n' cap, ?_, ?_, ?_, ?_, ?_, ?_, ?_, ?_, ?_⟩
  · simp [World.setCell, Array.getElem?_modify, hb2]
  · refine ⟨hown'.1, ?_⟩
    rcases hown'.2 with k | ⟨g, cap', cur, e1, k1, k2, k3⟩
    · exact .inl k
    · refine .inr ⟨g, cap', cur, e1, k1, ?_, k3⟩
      have hgb : g ≠ b := by
        rintro rfl
        rw [hb2] at k2
        simp at k2
      simp [World.setCell, Array.getElem?_modify, Ne.symm hgb, k2]
  · rcases hown'.2 with ⟨k, _⟩ | ⟨g, cap', cur, e1, k1, k2, k3⟩
    · cases k; simp [Value.ownBlock]
    · cases e1
      simp only [Value.ownBlock, ne_eq, Option.some.injEq]
      rintro rfl
      rw [hb2] at k2
      simp at k2
  · intro g hg
    rw [← hsz]
    exact hnew g hg
  · exact hgrow.os.trans ho1
  · exact hgrow.tape.trans ho2
  · exact hgrow.output.trans ho3
  · have := hgrow.size
    simp [World.setCell]
    omega
  · intro k hk hn
    simp only [List.mem_cons, Option.mem_toList, not_or] at hn
    have : (w2.setCell ⟨b, 1, none⟩ (.slice ao n' cap)).heap[k]? = w2.heap[k]? := by simp [World.setCell, Array.getElem?_modify, Ne.symm hn.1]
    rw [this, hgrow.block k (by omega) (fun e => hn.2 e.symm), hoth k hn.1]
set_option maxHeartbeats 1000000 in
set_option maxRecDepth 100000 in
theorem string_run (b g cap : Nat) (p : Value) (cur : Array Value) (l : List UInt8) (w : World) (h0 : l ≠ []) (hbk : w.heap[b]? = some (.cells #[p, .slice (some ⟨g, 0, none⟩) l.length cap] 78 (0, 0))) (hg : w.heap[g]? = some (.cells cur 5 (0, 0))) (hnc : l.length ≤ cap) (hcm : cap ≤ maxLen) (hcs : cur.size = cap * 1) (hown : w.ownsRow 0 5 1 (.slice (some ⟨g, 0, none⟩) l.length cap) l.length (l.map fun x => .int .u8 x.toNat)) :
    Calls Tryz.prog 47 #[.pointer (some ⟨b, 0, none⟩)] w fun e w' => e = .returned (.string ⟨l.toArray⟩) ∧ w' = w.drew.freeze ⟨g, 0, none⟩ l.length := by
  have hl0 : l.length ≠ 0 := by simpa using h0
  have c1 : w.drew.cell? ⟨b, 1, none⟩ = some (.slice (some ⟨g, 0, none⟩) l.length cap) := by
    have : w.drew.heap[b]? = some (.cells #[p, .slice (some ⟨g, 0, none⟩) l.length cap] 78 (0, 0)) := hbk
    rw [Lib.cell_of_heap this]; rfl
  have hSD : (Builtin.unsafeSliceData_ #[76] 117 #[.slice (some ⟨g, 0, none⟩) l.length cap]).run Tryz.prog w.drew = .ok (.pointer (some ⟨g, 0, none⟩)) w.drew :=
    Lib.run_unsafeSliceData_row _ _ _ _ _ _ (by omega)
  have hUS : (Builtin.unsafeString_ #[117, 3] 9 #[.pointer (some ⟨g, 0, none⟩), .int .i64 l.length]).run Tryz.prog w.drew = .ok (.string ⟨l.toArray⟩) (w.drew.freeze ⟨g, 0, none⟩ l.length) := by
    refine Lib.run_unsafeString_row w.drew 117 3 9 5 Tryz.underlying117 (by kernel_rfl) g cur.size (by have hg' : w.drew.heap[g]? = some (.cells cur 5 (0, 0)) := hg; simp [World.shape?, hg']) l h0 (by omega) (by unfold maxLen at hcm; omega) ?_
    intro j x hx
    have := hown.cells (g := g) rfl j (.int .u8 x.toNat) (by simp [hx])
    exact this
  have mixed : Tryz.prog.follows .mixedOrders = true := by kernel_rfl
  clear hown hcs hg hnc hcm hbk
  have t71 := Tryz.underlying78; have a71 := Tryz.isAgg78; have z71 := Tryz.sizeOf78; have v71 := Tryz.zeroValue78; have u71 := run_underlying Tryz.underlying78
  have t68 := Tryz.underlying75; have a68 := Tryz.isAgg75; have z68 := Tryz.sizeOf75; have v68 := Tryz.zeroValue75; have u68 := run_underlying Tryz.underlying75
  have t69 := Tryz.underlying76; have a69 := Tryz.isAgg76; have z69 := Tryz.sizeOf76; have v69 := Tryz.zeroValue76; have u69 := run_underlying Tryz.underlying76
  have t94 := Tryz.underlying117; have a94 := Tryz.isAgg117; have z94 := Tryz.sizeOf117; have v94 := Tryz.zeroValue117; have u94 := run_underlying Tryz.underlying117
  have t9 := Tryz.underlying9; have a9 := Tryz.isAgg9; have z9 := Tryz.sizeOf9; have v9 := Tryz.zeroValue9; have u9 := run_underlying Tryz.underlying9
  have t3 := Tryz.underlying3; have a3 := Tryz.isAgg3; have z3 := Tryz.sizeOf3; have v3 := Tryz.zeroValue3; have u3 := run_underlying Tryz.underlying3
  go_enter Tryz.func47, Tryz.ntmps47
  repeat go_step
  go_region
  all_goals (repeat go_step)
  all_goals (go_ret; exact ⟨rfl, rfl⟩)
theorem writeString_ok : ∀ xs y backs, xWriteString 78 5 xs = some (y, backs) → ∀ (w : World) (I : Nat → Prop) (vs : List Value) (bss : List Nat), (∀ b, I b → b < w.heap.size) → bss.Nodup → (∀ b, b ∈ bss → ¬ I b) → Rs w I nope xs vs bss →
    Calls Tryz.prog 45 vs.toArray w fun e w' => ∃ V, e = .returned V ∧ Left w I bss vs w' y V backs := by
  intro xs y backs h w I vs bss hI hnd hni hx
  unfold xWriteString at h
  split at h
  · rename_i T' e' l s
    split at h
    · rename_i hc
      obtain ⟨rfl, rfl, hlen⟩ := hc
      simp only [Option.some.injEq, Prod.mk.injEq] at h
      obtain ⟨rfl, rfl⟩ := h
      obtain ⟨b, p, v, us, rfl, hus, rfl, hp, hb, hown, hne⟩ := BldAt.take hx rfl
      obtain ⟨u, us', b1, b2, rfl, e0, ⟨rfl, _, _⟩, rfl, _⟩ := hus
      refine (writeString_run b p v l s w hp hb hown hne hlen).mono ?_
      rintro e w' ⟨rfl, v', h1, h2, h3, h4, h5, h6, h7, h8, h9⟩
      have hcells : (l ++ s.data.toList).map (fun x => Value.int .u8 x.toNat) = (l.map fun x => .int .u8 x.toNat) ++ Lib.strCells s := by simp [Lib.strCells]
      have hl : (l ++ s.data.toList).length = l.length + s.size := by simp
      exact ⟨_, rfl, Left.bld (xs := [.v (.string s)]) hI hni h5 h6 h7 h8 h9 h1 (by rw [hcells, hl]; exact h2) h3 h4 ⟨_, rfl, _, _, [], [], rfl, rfl, ⟨rfl, rfl, rfl⟩, _, _, [], [], rfl, rfl, ⟨rfl, rfl, rfl⟩, rfl, rfl⟩ rfl⟩
    · cases h
  · cases h
theorem string_ok : ∀ xs y backs, xString 78 5 xs = some (y, backs) → ∀ (w : World) (I : Nat → Prop) (vs : List Value) (bss : List Nat), (∀ b, I b → b < w.heap.size) → bss.Nodup → (∀ b, b ∈ bss → ¬ I b) → Rs w I nope xs vs bss →
    Calls Tryz.prog 47 vs.toArray w fun e w' => ∃ V, e = .returned V ∧ Left w I bss vs w' y V backs := by
  intro xs y backs h w I vs bss hI hnd hni hx
  unfold xString at h
  split at h
  · rename_i T' e' l
    split at h
    · rename_i hc
      obtain ⟨rfl, rfl, h0⟩ := hc
      simp only [Option.some.injEq, Prod.mk.injEq] at h
      obtain ⟨rfl, rfl⟩ := h
      obtain ⟨b, p, v, us, rfl, ⟨rfl, _⟩, rfl, hp, hb, hown, hne⟩ := BldAt.take hx rfl
      rcases hown.2 with ⟨_, hz⟩ | ⟨g, cap, cur, rfl, k1, k2, k3, k4, k5, k6⟩
      · exact absurd (by simpa using hz) h0
      · refine (string_run b g cap p cur l w h0 hb k2 k3 k4 k5 hown).mono ?_
        rintro e w' ⟨rfl, rfl⟩
        have hold : ∀ k, k ≠ g → (w.drew.freeze ⟨g, 0, none⟩ l.length).heap[k]? = w.heap[k]? := by
          intro k hk
          unfold World.freeze
          split
          · rfl
          · simp only [Array.getElem?_modify, if_neg (Ne.symm hk)]
            rfl
        have hsz : (w.drew.freeze ⟨g, 0, none⟩ l.length).heap.size = w.heap.size := by
          unfold World.freeze
          split
          · rfl
          · simp only [Array.size_modify]
            rfl
        refine ⟨_, rfl, I, [], [], fun _ h => h, fun _ h => .inl h, fun k hk => by rw [hsz]; exact hI k hk, ?_, ?_, ?_, by rw [hsz]; exact Nat.le_refl _, fun k _ hn => hold k (by rintro rfl; simp [Value.ownBlock] at hn), ⟨rfl, rfl, rfl⟩, ⟨_, _, [], [], rfl, rfl, rfl, rfl, rfl⟩, List.nodup_nil, fun k hk => by simp at hk⟩
        · rw [freeze_os]; rfl
        · rw [freeze_tape]; rfl
        · rw [freeze_output]; rfl
    · cases h
  · cases h
/-- What is answered by name is so. -/
theorem ext_ok : CallOK Tryz.prog G T.ext := by
  intro f xs y backs h w I vs bss hI hnd hni hG hx
  change extT f xs = some (y, backs) at h
  unfold extT at h
  split at h
  · rename_i hf
    subst hf
    exact repeat_ok xs y backs h w I vs bss hI hnd hni hx
  · split at h
    · rename_i hf
      subst hf
      exact writeString_ok xs y backs h w I vs bss hI hnd hni hx
    · split at h
      · rename_i hf
        subst hf
        exact string_ok xs y backs h w I vs bss hI hnd hni hx
      · split at h
        · rename_i hf
          subst hf
          exact Go.AM.Fmt.formatUint_ok xs y backs h w I vs bss hI (hG 0 (by simp [G, glob0])) hx
        · cases h
end Go.AM.F
