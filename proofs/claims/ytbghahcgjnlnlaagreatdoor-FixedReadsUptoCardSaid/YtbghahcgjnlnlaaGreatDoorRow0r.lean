/- What the rows of this seat share that read numbers: the tables that are listed. No conditions. -/
import Derived.Test.YtbghahcgjnlnlaaGreatDoorIrOk
import Derived.Test.YtbghahcgjnlnlaaGreatDoorAmLaid
import Derived.Test.YtbghahcgjnlnlaaGreatDoorCards
import Derived.Test.YtbghahcgjnlnlaaGreatDoorTie
import Derived.WalkKit
import Derived.ProofKit
import Derived.OpenShut
import Derived.JoinedCond
import Derived.Deep.DeepHandedRow
import Derived.Lay
import Derived.Stop.LaidErr
namespace Go.Proofs.YtbghahcgjnlnlaaGreatDoor.fixed
open Go.AM Go.AM.F
set_option maxRecDepth 100000

theorem own : ownKnob Tryz.prog.godebug = none := by kernel_rfl
def laid : List (String × DataW Unit) := [("math/bits.deBruijn32tab", Rows.laid_math_bits_deBruijn32tab), ("math/bits.deBruijn64tab", Rows.laid_math_bits_deBruijn64tab), ("internal/strconv.uint64pow10", Rows.laid_internal_strconv_uint64pow10), ("unicode/utf8.acceptRanges", Rows.laid_unicode_utf8_acceptRanges), ("unicode/utf8.first", Rows.laid_unicode_utf8_first)]
theorem met {W : World} (h : laidMetH Tryz.prog laid W) : laidMet Tryz.prog laid W := by
  have e : (laid.filter fun x => x.2.handleName?.isSome) = [] := by kernel_rfl
  unfold laidMetH at h
  rw [e] at h
  exact h
theorem gTab : Tryz.prog.globalNamed "internal/strconv.uint64pow10" = some 0 := by kernel_rfl
theorem table {W : World} (h : laidMetH Tryz.prog laid W) : Lib.TabIs Tryz.prog W "internal/strconv.uint64pow10" .u64 Go.AM.Fmt.pow10 :=
  Lib.tabIs_of_head (rest := [("unicode/utf8.acceptRanges", Rows.laid_unicode_utf8_acceptRanges), ("unicode/utf8.first", Rows.laid_unicode_utf8_first)]) gTab (t := 139) (by kernel_rfl) Tryz.underlying139 Tryz.underlying49 (by kernel_rfl) (by kernel_rfl) (met h).tail.tail
theorem globs {W : World} (h : laidMetH Tryz.prog laid W) (n : Nat) (hn : G n ≠ []) : R W (fun b => b < W.heap.size) nope (.raddr (G n)) (.pointer (some ⟨n, 0, none⟩)) [] := by
  match n, hn with
  | 0, _ => exact tab_R (table h) gTab (fun h => by cases h)
  | n + 1, hn => exact (hn rfl).elim
theorem w_i64 : wholeB Tryz.prog 2 = false := by kernel_rfl
theorem w_int : wholeB Tryz.prog 3 = false := by kernel_rfl
theorem c_i64 : Tryz.prog.cellsOf 2 = 1 := by kernel_rfl
theorem shape_i64 {n : Nat} {c : List PV} (h : Shape Tryz.prog n 2 c) : ∃ v : Int, c = [.v (.int .i64 v)] ∧ -9223372036854775808 ≤ v ∧ v ≤ 9223372036854775807 := by
  cases n with
  | zero => exact h.elim
  | succ n =>
    simp only [Shape, Tryz.underlying2] at h
    obtain ⟨m, rfl, hm⟩ := h
    exact ⟨m, rfl, by simpa [Lit.wf, IntKind.min, IntKind.max, IntKind.signed, IntKind.bits] using hm⟩
theorem shape_int {n : Nat} {c : List PV} (h : Shape Tryz.prog n 3 c) : ∃ v : Int, c = [.v (.int .i64 v)] ∧ -9223372036854775808 ≤ v ∧ v ≤ 9223372036854775807 := by
  cases n with
  | zero => exact h.elim
  | succ n =>
    simp only [Shape, Tryz.underlying3] at h
    obtain ⟨m, rfl, hm⟩ := h
    exact ⟨m, rfl, by simpa [Lit.wf, IntKind.min, IntKind.max, IntKind.signed, IntKind.bits] using hm⟩
theorem w_str : wholeB Tryz.prog 9 = false := by kernel_rfl
theorem shape_str {n : Nat} {c : List PV} (h : Shape Tryz.prog n 9 c) : ∃ s, c = [.v (.string s)] := by
  cases n with
  | zero => exact h.elim
  | succ n =>
    simp only [Shape, Tryz.underlying9] at h
    exact h
end Go.Proofs.YtbghahcgjnlnlaaGreatDoor.fixed
