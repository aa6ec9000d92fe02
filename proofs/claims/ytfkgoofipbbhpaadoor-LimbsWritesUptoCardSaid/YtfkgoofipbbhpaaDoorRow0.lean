/- What the rows of this seat share: the tables that are listed, the world of a witness, lists of limbs as arguments. No conditions. -/
import Derived.Test.YtfkgoofipbbhpaaDoorIrOk
import Derived.Test.YtfkgoofipbbhpaaDoorL1
import Derived.Test.YtfkgoofipbbhpaaDoorAmLaid
import Derived.Test.YtfkgoofipbbhpaaDoorCards
import Derived.Test.YtfkgoofipbbhpaaDoorTie
import Derived.WalkKit
import Derived.ProofKit
import Derived.OpenShut
import Derived.JoinedCond
import Derived.Deep.DeepHandedRow
import Derived.Lay
namespace Go.Proofs.YtfkgoofipbbhpaaDoor.limbs
open Go.AM Go.AM.F
set_option maxRecDepth 100000

theorem own : ownKnob Tryd.prog.godebug = none := by kernel_rfl
def laid : List (String × DataW Unit) := [("unicode/utf8.acceptRanges", Rows.laid_unicode_utf8_acceptRanges), ("unicode/utf8.first", Rows.laid_unicode_utf8_first)]
theorem w_nat : wholeB Tryd.prog 22 = false := by kernel_rfl
theorem w_u32 : wholeB Tryd.prog 49 = false := by kernel_rfl
theorem c_u32 : Tryd.prog.cellsOf 49 = 1 := by kernel_rfl
theorem lims : ∀ {l : List (List PV)} {n : Nat}, (∀ c ∈ l, c.length = Tryd.prog.cellsOf 49 ∧ Shape Tryd.prog n 49 c) → ∃ zs : List Nat, l.map (mkPV (wholeB Tryd.prog 49)) = ul zs ∧ Lim zs
  | [], n, _ => ⟨[], rfl, Lim.nil⟩
  | c :: l, n, h => by
    obtain ⟨zs, h1, h2⟩ := lims (l := l) (n := n) fun c hc => h c (by simp [hc])
    obtain ⟨_, h3⟩ := h c (by simp)
    cases n with
    | zero => exact h3.elim
    | succ n =>
      simp only [Shape, Tryd.underlying49] at h3
      obtain ⟨m, rfl, hm⟩ := h3
      have hm : 0 ≤ m ∧ m ≤ 4294967295 := by simpa [Lit.wf, IntKind.min, IntKind.max, IntKind.signed, IntKind.bits] using hm
      refine ⟨m.toNat :: zs, ?_, fun v hv => ?_⟩
      · rw [List.map_cons, h1, w_u32, ul_cons, Int.toNat_of_nonneg hm.1]
        rfl
      · rcases List.mem_cons.1 hv with rfl | hv
        · omega
        · exact h2 v hv
theorem bulk_ul : ∀ zs : List Nat, zs.length ≤ bulkL (ul zs)
  | [] => Nat.le_refl _
  | v :: r => by
    have := bulk_ul r
    simp only [ul_cons, bulkL, bulk, List.length_cons]
    omega
/-- A natural that is handed in. -/
theorem shape_nat {n : Nat} {c : List PV} (h : Shape Tryd.prog n 22 c) : ∃ zs : List Nat, c = [.ro 1 (ul zs)] ∧ Lim zs := by
  cases n with
  | zero => exact h.elim
  | succ n =>
    simp only [Shape, Tryd.underlying22] at h
    obtain ⟨l, rfl, hl⟩ := h
    obtain ⟨zs, hz, hzs⟩ := lims hl
    rw [hz, c_u32]
    exact ⟨zs, rfl, hzs⟩
theorem w_int : wholeB Tryd.prog 3 = false := by kernel_rfl
theorem w_str : wholeB Tryd.prog 9 = false := by kernel_rfl
theorem w_u64 : wholeB Tryd.prog 33 = false := by kernel_rfl
theorem shape_str {n : Nat} {c : List PV} (h : Shape Tryd.prog n 9 c) : ∃ s, c = [.v (.string s)] := by
  cases n with
  | zero => exact h.elim
  | succ n =>
    simp only [Shape, Tryd.underlying9] at h
    exact h
theorem shape_int {n : Nat} {c : List PV} (h : Shape Tryd.prog n 3 c) : ∃ v : Int, c = [.v (.int .i64 v)] ∧ -9223372036854775808 ≤ v ∧ v ≤ 9223372036854775807 := by
  cases n with
  | zero => exact h.elim
  | succ n =>
    simp only [Shape, Tryd.underlying3] at h
    obtain ⟨m, rfl, hm⟩ := h
    exact ⟨m, rfl, by simpa [Lit.wf, IntKind.min, IntKind.max, IntKind.signed, IntKind.bits] using hm⟩
theorem shape_u64 {n : Nat} {c : List PV} (h : Shape Tryd.prog n 33 c) : ∃ v : Nat, c = [.v (.int .u64 (v : Nat))] ∧ v < 18446744073709551616 := by
  cases n with
  | zero => exact h.elim
  | succ n =>
    simp only [Shape, Tryd.underlying33] at h
    obtain ⟨m, rfl, hm⟩ := h
    have hm : 0 ≤ m ∧ m ≤ 18446744073709551615 := by simpa [Lit.wf, IntKind.min, IntKind.max, IntKind.signed, IntKind.bits] using hm
    exact ⟨m.toNat, by rw [Int.toNat_of_nonneg hm.1], by omega⟩
theorem w_i64 : wholeB Tryd.prog 2 = false := by kernel_rfl
theorem w_rat : wholeB Tryd.prog 48 = true := by kernel_rfl
theorem c_rat : Tryd.prog.cellsOf 48 = 3 := by kernel_rfl
theorem c_bool : Tryd.prog.cellsOf 4 = 1 := by kernel_rfl
theorem c_nat : Tryd.prog.cellsOf 22 = 1 := by kernel_rfl
theorem shape_i64 {n : Nat} {c : List PV} (h : Shape Tryd.prog n 2 c) : ∃ v : Int, c = [.v (.int .i64 v)] ∧ -9223372036854775808 ≤ v ∧ v ≤ 9223372036854775807 := by
  cases n with
  | zero => exact h.elim
  | succ n =>
    simp only [Shape, Tryd.underlying2] at h
    obtain ⟨m, rfl, hm⟩ := h
    exact ⟨m, rfl, by simpa [Lit.wf, IntKind.min, IntKind.max, IntKind.signed, IntKind.bits] using hm⟩
theorem shape_bool {n : Nat} {c : List PV} (h : Shape Tryd.prog n 4 c) : ∃ b : Bool, c = [.v (.bool b)] := by
  cases n with
  | zero => exact h.elim
  | succ n =>
    simp only [Shape, Tryd.underlying4] at h
    exact h
theorem shape_rat {n : Nat} {c : List PV} (hl : c.length = Tryd.prog.cellsOf 48) (h : Shape Tryd.prog n 48 c) : ∃ (b : Bool) (x y : List Nat), c = [.v (.bool b), .ro 1 (ul x), .ro 1 (ul y)] ∧ Lim x ∧ Lim y := by
  rw [c_rat] at hl
  cases n with
  | zero => exact h.elim
  | succ n =>
    simp only [Shape, Tryd.underlying48] at h
    have f0 := h ⟨"Neg", 4, 0, false, "", "", 0⟩ (by simp)
    have f1 := h ⟨"Num", 22, 1, false, "", "", 8⟩ (by simp)
    have f2 := h ⟨"Den", 22, 2, false, "", "", 32⟩ (by simp)
    match c, hl with
    | [p, q, r], _ =>
      simp only [c_bool, c_nat, List.drop_zero, List.drop_succ_cons, List.take_succ_cons, List.take_zero] at f0 f1 f2
      obtain ⟨b, hb⟩ := shape_bool f0
      obtain ⟨x, hx, k1⟩ := shape_nat f1
      obtain ⟨y, hy, k2⟩ := shape_nat f2
      simp only [List.cons.injEq, and_true] at hb hx hy
      subst hb hx hy
      exact ⟨b, x, y, rfl, k1, k2⟩
end Go.Proofs.YtfkgoofipbbhpaaDoor.limbs
