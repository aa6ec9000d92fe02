/- What the rows of this seat share that read numbers: the tables that are listed. No conditions. -/
import Derived.Test.YtlokekpiajholaaDoorIrOk
import Derived.Test.YtlokekpiajholaaDoorAmLaid
import Derived.Test.YtlokekpiajholaaDoorCards
import Derived.Test.YtlokekpiajholaaDoorTie
import Derived.WalkKit
import Derived.ProofKit
import Derived.OpenShut
import Derived.JoinedCond
import Derived.Deep.DeepHandedRow
import Derived.Lay
import Derived.Stop.LaidErr
namespace Go.Proofs.YtlokekpiajholaaDoor.topq
open Go.AM Go.AM.F
set_option maxRecDepth 100000

theorem own : ownKnob Tryd.prog.godebug = none := by kernel_rfl
def laid : List (String × DataW Unit) := [("unicode/utf8.acceptRanges", Rows.laid_unicode_utf8_acceptRanges), ("thicket/floats.wide", Rows.laid_thicket_floats_wide), ("unicode/utf8.first", Rows.laid_unicode_utf8_first)]
theorem met {W : World} (h : laidMetH Tryd.prog laid W) : laidMet Tryd.prog laid W := by
  have e : (laid.filter fun x => x.2.handleName?.isSome) = [] := by kernel_rfl
  unfold laidMetH at h
  rw [e] at h
  exact h
theorem trod_int {H : Type} {enc : TypeId × Value → H} {P : Program} {w : World} {base : Nat} {sp : Nat → Bool} {held : Bool} {fuel : Nat} {t : TypeId} {k : IntKind} {cs : List Value} {z : Int} {p : List MemPlace} (ht : P.underlying t = some (.int k))
    (h : DataW.trod enc P w base sp held fuel t cs = some (.lit (.int k z), p)) : cs = [.int k z] := by
  cases fuel with
  | zero => simp [DataW.trod] at h
  | succ f =>
    simp only [DataW.trod, ht] at h
    split at h <;> first
      | (simp at h; done)
      | (rename_i e1; cases e1; done)
      | skip
    · split at h
      · rename_i hc
        cases h
        simp_all
      · cases h
theorem gWide : Tryd.prog.globalNamed "thicket/floats.wide" = some 1 := by kernel_rfl
theorem gWideType : (Tryd.prog.globals[1]?).map (·.type) = some 79 := by kernel_rfl
theorem cWide : Tryd.prog.cellsOf 79 = 3 := by kernel_rfl
theorem cInt : Tryd.prog.cellsOf 3 = 1 := by kernel_rfl
theorem wide_cs {H : Type} {enc : TypeId × Value → H} {w : World} {base : Nat} {sp : Nat → Bool} {held : Bool} {fuel : Nat} {cs : List Value} {p : List MemPlace}
    (h : DataW.trod enc Tryd.prog w base sp held fuel 79 cs = some (Rows.laid_thicket_floats_wide, p)) : cs = [.int .i64 53, .int .i64 (-1074), .int .i64 971] := by
  cases fuel with
  | zero => simp [DataW.trod] at h
  | succ f =>
    simp only [DataW.trod, Tryd.underlying79, cWide] at h
    split at h
    · rename_i hl
      match cs, hl with
      | [a, b, c], _ =>
        simp only [Rows.laid_thicket_floats_wide, Option.map_eq_some_iff, cInt, List.mapM_cons, List.mapM_nil, Option.bind_eq_bind, Option.bind_eq_some_iff, Option.pure_def, Option.some.injEq] at h
        obtain ⟨xs, ⟨x, hx, ys, ⟨y, hy, zs, ⟨z, hz, us, rfl, rfl⟩, rfl⟩, rfl⟩, he⟩ := h
        obtain ⟨x1, x2⟩ := x
        obtain ⟨y1, y2⟩ := y
        obtain ⟨z1, z2⟩ := z
        simp at he
        obtain ⟨⟨rfl, rfl, rfl⟩, _⟩ := he
        have h1 := trod_int Tryd.underlying3 hx
        have h2 := trod_int Tryd.underlying3 hy
        have h3 := trod_int Tryd.underlying3 hz
        simp at h1 h2 h3
        rw [h1, h2, h3]
    · cases h
theorem wide {W : World} (h : laidMetH Tryd.prog laid W) : W.var? Tryd.prog "thicket/floats.wide" = some ([53, -1074, 971].map fun z => Value.int .i64 z).toArray := by
  obtain ⟨ps, ⟨g', t', cs, fuel, p, q, hg', ht', hvar, hd, _, _⟩, _⟩ := (met h).tail
  obtain rfl := Option.some.inj (gWide.symm.trans hg')
  obtain rfl := Option.some.inj (gWideType.symm.trans ht')
  have e := wide_cs hd
  rw [hvar]
  show some cs = some [Value.int .i64 53, .int .i64 (-1074), .int .i64 971].toArray
  rw [← e]
theorem globs {W : World} (h : laidMetH Tryd.prog laid W) (n : Nat) (hn : G n ≠ []) : R W (fun b => b < W.heap.size) nope (.raddr (G n)) (.pointer (some ⟨n, 0, none⟩)) [] := by
  match n, hn with
  | 0, hn => exact (hn rfl).elim
  | 1, _ => exact tab_R (zs := [53, -1074, 971]) (wide h) gWide (fun h => by cases h)
  | n + 2, hn => exact (hn rfl).elim
theorem w_int : wholeB Tryd.prog 3 = false := by kernel_rfl
theorem shape_int {n : Nat} {c : List PV} (h : Shape Tryd.prog n 3 c) : ∃ v : Int, c = [.v (.int .i64 v)] ∧ -9223372036854775808 ≤ v ∧ v ≤ 9223372036854775807 := by
  cases n with
  | zero => exact h.elim
  | succ n =>
    simp only [Shape, Tryd.underlying3] at h
    obtain ⟨m, rfl, hm⟩ := h
    exact ⟨m, rfl, by simpa [Lit.wf, IntKind.min, IntKind.max, IntKind.signed, IntKind.bits] using hm⟩
theorem w_str : wholeB Tryd.prog 9 = false := by kernel_rfl
theorem shape_str {n : Nat} {c : List PV} (h : Shape Tryd.prog n 9 c) : ∃ s, c = [.v (.string s)] := by
  cases n with
  | zero => exact h.elim
  | succ n =>
    simp only [Shape, Tryd.underlying9] at h
    exact h
end Go.Proofs.YtlokekpiajholaaDoor.topq
