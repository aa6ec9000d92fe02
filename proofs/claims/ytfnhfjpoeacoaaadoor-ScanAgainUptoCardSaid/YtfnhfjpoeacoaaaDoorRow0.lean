/- What the rows of this seat share: the table that is listed, the world of a witness. No conditions. -/
import Derived.Test.YtfnhfjpoeacoaaaDoorIrOk
import Derived.Test.YtfnhfjpoeacoaaaDoorS1
import Derived.Test.YtfnhfjpoeacoaaaDoorAmLaid
import Derived.Test.YtfnhfjpoeacoaaaDoorCards
import Derived.Test.YtfnhfjpoeacoaaaDoorTie
import Derived.WalkKit
import Derived.ProofKit
import Derived.OpenShut
import Derived.JoinedCond
import Derived.Deep.DeepHandedRow
namespace Go.Proofs.YtfnhfjpoeacoaaaDoor.scan
open Go.AM Go.AM.F
set_option maxRecDepth 100000

theorem own : ownKnob Tryd.prog.godebug = none := by kernel_rfl
theorem w9 : wholeB Tryd.prog 9 = false := by kernel_rfl
theorem c9 : Tryd.prog.cellsOf 9 = 1 := by kernel_rfl
theorem gTab : Tryd.prog.globalNamed "thicket/scan.classes" = some 0 := by kernel_rfl
theorem gTabType : (Tryd.prog.globals[0]?).map (·.type) = some 69 := by kernel_rfl
theorem cells69 : Tryd.prog.cellsOf 69 = 128 := by kernel_rfl
theorem cells28 : Tryd.prog.cellsOf 28 = 1 := by kernel_rfl
def tab : List Int := [0, 0, 0, 0, 0, 0, 0, 0, 0, 32, 0, 0, 0, 0, 0, 0, 0, 0, 0, 0, 0, 0, 0, 0, 0, 0, 0, 0, 0, 0, 0, 0, 32, 0, 0, 0, 0, 0, 0, 0, 16, 16, 0, 4, 16, 4, 8, 0, 0, 0, 0, 0, 0, 0, 0, 0, 0, 0, 16, 16, 16, 16, 16, 0, 0, 0, 0, 0, 0, 0, 0, 0, 0, 0, 0, 0, 0, 0, 0, 0, 0, 0, 0, 0, 0, 0, 0, 0, 0, 0, 0, 16, 0, 16, 0, 1, 0, 0, 0, 0, 0, 0, 0, 0, 0, 0, 0, 0, 0, 0, 0, 0, 0, 0, 0, 0, 0, 0, 0, 0, 0, 0, 0, 16, 16, 16, 0, 0]
def laid : List (String × DataW Unit) := [("thicket/scan.classes", Rows.laid_thicket_scan_classes)]
theorem table {W : World} (h : laidMetH Tryd.prog laid W) : Lib.TabIs Tryd.prog W "thicket/scan.classes" .u8 tab :=
  Lib.tabIs_of_head (rest := []) gTab gTabType Tryd.underlying69 Tryd.underlying5 (by kernel_rfl) cells69 h
theorem globs {W : World} (h : laidMetH Tryd.prog laid W) (n : Nat) (hn : G n ≠ []) : R W (fun b => b < W.heap.size) nope (.raddr (G n)) (.pointer (some ⟨n, 0, none⟩)) [] := by
  match n, hn with
  | 0, _ => exact tab_R (table h) gTab (fun h => by cases h)
  | n + 1, hn => exact (hn rfl).elim
theorem shape_str {n : Nat} {c : List PV} (h : Shape Tryd.prog n 9 c) : ∃ s, c = [str s] := by
  cases n with
  | zero => exact h.elim
  | succ n =>
    simp only [Shape, Tryd.underlying9] at h
    exact h
theorem w3 : wholeB Tryd.prog 3 = false := by kernel_rfl
theorem w5 : wholeB Tryd.prog 5 = false := by kernel_rfl
theorem shape_int {n : Nat} {c : List PV} (h : Shape Tryd.prog n 3 c) : ∃ v : Int, c = [.v (.int .i64 v)] ∧ -9223372036854775808 ≤ v ∧ v ≤ 9223372036854775807 := by
  cases n with
  | zero => exact h.elim
  | succ n =>
    simp only [Shape, Tryd.underlying3] at h
    obtain ⟨m, rfl, hm⟩ := h
    exact ⟨m, rfl, by simpa [Lit.wf, IntKind.min, IntKind.max, IntKind.signed, IntKind.bits] using hm⟩
theorem shape_u8 {n : Nat} {c : List PV} (h : Shape Tryd.prog n 5 c) : ∃ v : Nat, c = [.v (.int .u8 (v : Nat))] ∧ v < 256 := by
  cases n with
  | zero => exact h.elim
  | succ n =>
    simp only [Shape, Tryd.underlying5] at h
    obtain ⟨m, rfl, hm⟩ := h
    have hm : 0 ≤ m ∧ m ≤ 255 := by simpa [Lit.wf, IntKind.min, IntKind.max, IntKind.signed, IntKind.bits] using hm
    exact ⟨m.toNat, by rw [Int.toNat_of_nonneg hm.1], by omega⟩
/-- A world for the witness. -/
noncomputable def laidWorld (os : Os) : World :=
  { World.holding Tryd.prog os ⟨#[], #[], []⟩ with heap := (World.holding Tryd.prog os ⟨#[], #[], []⟩).heap.modify 0 fun
      | .cells _ t frozen => .cells (tab.map (Value.int .u8)).toArray t frozen
      | o => o }
end Go.Proofs.YtfnhfjpoeacoaaaDoor.scan
