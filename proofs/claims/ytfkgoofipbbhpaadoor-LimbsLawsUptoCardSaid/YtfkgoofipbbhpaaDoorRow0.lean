/- What the rows of this seat share: the tables that are listed, the world of a witness, lists of limbs as arguments. No conditions. -/
import Derived.Test.YtfkgoofipbbhpaaDoorIrOk
import Derived.Test.YtfkgoofipbbhpaaDoorL1
import Derived.Test.YtfkgoofipbbhpaaDoorAmLaid
import Derived.Test.YtfkgoofipbbhpaaDoorCards
import Derived.Test.YtfkgoofipbbhpaaDoorTie
import Derived.WalkKit
import Derived.ProofKit
import Derived.OpenShut
import Derived.JoinedCond
import Derived.Deep.DeepHandedRow
import Derived.Lay
namespace Go.Proofs.YtfkgoofipbbhpaaDoor.limbs
open Go.AM Go.AM.F
set_option maxRecDepth 100000

theorem own : ownKnob Tryd.prog.godebug = none := by kernel_rfl
def laid : List (String × DataW Unit) := [("unicode/utf8.acceptRanges", Rows.laid_unicode_utf8_acceptRanges), ("unicode/utf8.first", Rows.laid_unicode_utf8_first)]
theorem w_nat : wholeB Tryd.prog 22 = false := by kernel_rfl
theorem w_u32 : wholeB Tryd.prog 49 = false := by kernel_rfl
theorem c_u32 : Tryd.prog.cellsOf 49 = 1 := by kernel_rfl
theorem lims : ∀ {l : List (List PV)} {n : Nat}, (∀ c ∈ l, c.length = Tryd.prog.cellsOf 49 ∧ Shape Tryd.prog n 49 c) → ∃ zs : List Nat, l.map (mkPV (wholeB Tryd.prog 49)) = ul zs ∧ Lim zs
  | [], n, _ => ⟨[], rfl, Lim.nil⟩
  | c :: l, n, h => by
    obtain ⟨zs, h1, h2⟩ := lims (l := l) (n := n) fun c hc => h c (by simp [hc])
    obtain ⟨_, h3⟩ := h c (by simp)
    cases n with
    | zero => exact h3.elim
    | succ n =>
      simp only [Shape, Tryd.underlying49] at h3
      obtain ⟨m, rfl, hm⟩ := h3
      have hm : 0 ≤ m ∧ m ≤ 4294967295 := by simpa [Lit.wf, IntKind.min, IntKind.max, IntKind.signed, IntKind.bits] using hm
      refine ⟨m.toNat :: zs, ?_, fun v hv => ?_⟩
      · rw [List.map_cons, h1, w_u32, ul_cons, Int.toNat_of_nonneg hm.1]
        rfl
      · rcases List.mem_cons.1 hv with rfl | hv
        · omega
        · exact h2 v hv
theorem bulk_ul : ∀ zs : List Nat, zs.length ≤ bulkL (ul zs)
  | [] => Nat.le_refl _
  | v :: r => by
    have := bulk_ul r
    simp only [ul_cons, bulkL, bulk, List.length_cons]
    omega
/-- A natural that is handed in. -/
theorem shape_nat {n : Nat} {c : List PV} (h : Shape Tryd.prog n 22 c) : ∃ zs : List Nat, c = [.ro 1 (ul zs)] ∧ Lim zs := by
  cases n with
  | zero => exact h.elim
  | succ n =>
    simp only [Shape, Tryd.underlying22] at h
    obtain ⟨l, rfl, hl⟩ := h
    obtain ⟨zs, hz, hzs⟩ := lims hl
    rw [hz, c_u32]
    exact ⟨zs, rfl, hzs⟩
theorem w_int : wholeB Tryd.prog 3 = false := by kernel_rfl
theorem w_str : wholeB Tryd.prog 9 = false := by kernel_rfl
theorem w_u64 : wholeB Tryd.prog 33 = false := by kernel_rfl
theorem shape_str {n : Nat} {c : List PV} (h : Shape Tryd.prog n 9 c) : ∃ s, c = [.v (.string s)] := by
  cases n with
  | zero => exact h.elim
  | succ n =>
    simp only [Shape, Tryd.underlying9] at h
    exact h
theorem shape_int {n : Nat} {c : List PV} (h : Shape Tryd.prog n 3 c) : ∃ v : Int, c = [.v (.int .i64 v)] ∧ -9223372036854775808 ≤ v ∧ v ≤ 9223372036854775807 := by
  cases n with
  | zero => exact h.elim
  | succ n =>
    simp only [Shape, Tryd.underlying3] at h
    obtain ⟨m, rfl, hm⟩ := h
    exact ⟨m, rfl, by simpa [Lit.wf, IntKind.min, IntKind.max, IntKind.signed, IntKind.bits] using hm⟩
theorem shape_u64 {n : Nat} {c : List PV} (h : Shape Tryd.prog n 33 c) : ∃ v : Nat, c = [.v (.int .u64 (v : Nat))] ∧ v < 18446744073709551616 := by
  cases n with
  | zero => exact h.elim
  | succ n =>
    simp only [Shape, Tryd.underlying33] at h
    obtain ⟨m, rfl, hm⟩ := h
    have hm : 0 ≤ m ∧ m ≤ 18446744073709551615 := by simpa [Lit.wf, IntKind.min, IntKind.max, IntKind.signed, IntKind.bits] using hm
    exact ⟨m.toNat, by rw [Int.toNat_of_nonneg hm.1], by omega⟩
end Go.Proofs.YtfkgoofipbbhpaaDoor.limbs
