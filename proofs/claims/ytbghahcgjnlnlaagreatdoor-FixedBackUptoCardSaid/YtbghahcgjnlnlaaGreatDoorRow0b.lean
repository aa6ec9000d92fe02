/- What the rows of this seat share that read numbers: the tables that are listed. No conditions. -/
import Derived.Test.YtbghahcgjnlnlaaGreatDoorIrOk
import Derived.Test.YtbghahcgjnlnlaaGreatDoorAmLaid
import Derived.Test.YtbghahcgjnlnlaaGreatDoorCards
import Derived.Test.YtbghahcgjnlnlaaGreatDoorTie
import Derived.WalkKit
import Derived.ProofKit
import Derived.OpenShut
import Derived.JoinedCond
import Derived.Deep.DeepHandedRow
import Derived.Lay
import Derived.Stop.LaidErr
namespace Go.Proofs.YtbghahcgjnlnlaaGreatDoor.fixed
open Go.AM Go.AM.F
set_option maxRecDepth 100000

theorem own : ownKnob Tryz.prog.godebug = none := by kernel_rfl
def laid : List (String × DataW Unit) := [("math/bits.deBruijn32tab", Rows.laid_math_bits_deBruijn32tab), ("math/bits.deBruijn64tab", Rows.laid_math_bits_deBruijn64tab), ("internal/strconv.uint64pow10", Rows.laid_internal_strconv_uint64pow10), ("unicode/utf8.acceptRanges", Rows.laid_unicode_utf8_acceptRanges), ("thicket/floats.wide", Rows.laid_thicket_floats_wide), ("unicode/utf8.first", Rows.laid_unicode_utf8_first)]
theorem met {W : World} (h : laidMetH Tryz.prog laid W) : laidMet Tryz.prog laid W := by
  have e : (laid.filter fun x => x.2.handleName?.isSome) = [] := by kernel_rfl
  unfold laidMetH at h
  rw [e] at h
  exact h
theorem trod_int {H : Type} {enc : TypeId × Value → H} {P : Program} {w : World} {base : Nat} {sp : Nat → Bool} {held : Bool} {fuel : Nat} {t : TypeId} {k : IntKind} {cs : List Value} {z : Int} {p : List MemPlace} (ht : P.underlying t = some (.int k))
    (h : DataW.trod enc P w base sp held fuel t cs = some (.lit (.int k z), p)) : cs = [.int k z] := by
  cases fuel with
  | zero => simp [DataW.trod] at h
  | succ f =>
    simp only [DataW.trod, ht] at h
    split at h <;> first
      | (simp at h; done)
      | (rename_i e1; cases e1; done)
      | skip
    · split at h
      · rename_i hc
        cases h
        simp_all
      · cases h
theorem gWide : Tryz.prog.globalNamed "thicket/floats.wide" = some 2 := by kernel_rfl
theorem gWideType : (Tryz.prog.globals[2]?).map (·.type) = some 149 := by kernel_rfl
theorem cWide : Tryz.prog.cellsOf 149 = 3 := by kernel_rfl
theorem cInt : Tryz.prog.cellsOf 3 = 1 := by kernel_rfl
theorem wide_cs {H : Type} {enc : TypeId × Value → H} {w : World} {base : Nat} {sp : Nat → Bool} {held : Bool} {fuel : Nat} {cs : List Value} {p : List MemPlace}
    (h : DataW.trod enc Tryz.prog w base sp held fuel 149 cs = some (Rows.laid_thicket_floats_wide, p)) : cs = [.int .i64 53, .int .i64 (-1074), .int .i64 971] := by
  cases fuel with
  | zero => simp [DataW.trod] at h
  | succ f =>
    simp only [DataW.trod, Tryz.underlying149, cWide] at h
    split at h
    · rename_i hl
      match cs, hl with
      | [a, b, c], _ =>
        simp only [Rows.laid_thicket_floats_wide, Option.map_eq_some_iff, cInt, List.mapM_cons, List.mapM_nil, Option.bind_eq_bind, Option.bind_eq_some_iff, Option.pure_def, Option.some.injEq] at h
        obtain ⟨xs, ⟨x, hx, ys, ⟨y, hy, zs, ⟨z, hz, us, rfl, rfl⟩, rfl⟩, rfl⟩, he⟩ := h
        obtain ⟨x1, x2⟩ := x
        obtain ⟨y1, y2⟩ := y
        obtain ⟨z1, z2⟩ := z
        simp at he
        obtain ⟨⟨rfl, rfl, rfl⟩, _⟩ := he
        have h1 := trod_int Tryz.underlying3 hx
        have h2 := trod_int Tryz.underlying3 hy
        have h3 := trod_int Tryz.underlying3 hz
        simp at h1 h2 h3
        rw [h1, h2, h3]
    · cases h
theorem wide {W : World} (h : laidMetH Tryz.prog laid W) : W.var? Tryz.prog "thicket/floats.wide" = some ([53, -1074, 971].map fun z => Value.int .i64 z).toArray := by
  obtain ⟨ps, ⟨g', t', cs, fuel, p, q, hg', ht', hvar, hd, _, _⟩, _⟩ := (met h).tail.tail.tail.tail
  obtain rfl := Option.some.inj (gWide.symm.trans hg')
  obtain rfl := Option.some.inj (gWideType.symm.trans ht')
  have e := wide_cs hd
  rw [hvar]
  show some cs = some [Value.int .i64 53, .int .i64 (-1074), .int .i64 971].toArray
  rw [← e]
theorem gTab : Tryz.prog.globalNamed "internal/strconv.uint64pow10" = some 0 := by kernel_rfl
theorem table {W : World} (h : laidMetH Tryz.prog laid W) : Lib.TabIs Tryz.prog W "internal/strconv.uint64pow10" .u64 Go.AM.Fmt.pow10 :=
  Lib.tabIs_of_head (rest := [("unicode/utf8.acceptRanges", Rows.laid_unicode_utf8_acceptRanges), ("thicket/floats.wide", Rows.laid_thicket_floats_wide), ("unicode/utf8.first", Rows.laid_unicode_utf8_first)]) gTab (t := 139) (by kernel_rfl) Tryz.underlying139 Tryz.underlying49 (by kernel_rfl) (by kernel_rfl) (met h).tail.tail
theorem globs {W : World} (h : laidMetH Tryz.prog laid W) (n : Nat) (hn : G n ≠ []) : R W (fun b => b < W.heap.size) nope (.raddr (G n)) (.pointer (some ⟨n, 0, none⟩)) [] := by
  match n, hn with
  | 0, _ => exact tab_R (table h) gTab (fun h => by cases h)
  | 1, hn => exact (hn rfl).elim
  | 2, _ => exact tab_R (zs := [53, -1074, 971]) (wide h) gWide (fun h => by cases h)
  | n + 3, hn => exact (hn rfl).elim
theorem w_i64 : wholeB Tryz.prog 2 = false := by kernel_rfl
theorem w_int : wholeB Tryz.prog 3 = false := by kernel_rfl
theorem c_i64 : Tryz.prog.cellsOf 2 = 1 := by kernel_rfl
theorem shape_i64 {n : Nat} {c : List PV} (h : Shape Tryz.prog n 2 c) : ∃ v : Int, c = [.v (.int .i64 v)] ∧ -9223372036854775808 ≤ v ∧ v ≤ 9223372036854775807 := by
  cases n with
  | zero => exact h.elim
  | succ n =>
    simp only [Shape, Tryz.underlying2] at h
    obtain ⟨m, rfl, hm⟩ := h
    exact ⟨m, rfl, by simpa [Lit.wf, IntKind.min, IntKind.max, IntKind.signed, IntKind.bits] using hm⟩
theorem shape_int {n : Nat} {c : List PV} (h : Shape Tryz.prog n 3 c) : ∃ v : Int, c = [.v (.int .i64 v)] ∧ -9223372036854775808 ≤ v ∧ v ≤ 9223372036854775807 := by
  cases n with
  | zero => exact h.elim
  | succ n =>
    simp only [Shape, Tryz.underlying3] at h
    obtain ⟨m, rfl, hm⟩ := h
    exact ⟨m, rfl, by simpa [Lit.wf, IntKind.min, IntKind.max, IntKind.signed, IntKind.bits] using hm⟩
theorem w_str : wholeB Tryz.prog 9 = false := by kernel_rfl
theorem shape_str {n : Nat} {c : List PV} (h : Shape Tryz.prog n 9 c) : ∃ s, c = [.v (.string s)] := by
  cases n with
  | zero => exact h.elim
  | succ n =>
    simp only [Shape, Tryz.underlying9] at h
    exact h
end Go.Proofs.YtbghahcgjnlnlaaGreatDoor.fixed
