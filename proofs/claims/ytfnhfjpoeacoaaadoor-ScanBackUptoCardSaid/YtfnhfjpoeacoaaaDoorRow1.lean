/- What the rows of the joins share: the tables that are listed, a variable of which only the kind is known. No conditions. -/
import Derived.Test.YtfnhfjpoeacoaaaDoorIrOk
import Derived.Test.YtfnhfjpoeacoaaaDoorS1
import Derived.Test.YtfnhfjpoeacoaaaDoorS27
import Derived.Test.YtfnhfjpoeacoaaaDoorAmLaid
import Derived.Test.YtfnhfjpoeacoaaaDoorCards
import Derived.Test.YtfnhfjpoeacoaaaDoorTie
import Derived.WalkKit
import Derived.ProofKit
import Derived.OpenShut
import Derived.JoinedCond
import Derived.Deep.DeepHandedRow
import Derived.Lay
import Derived.Stop.LaidErr
namespace Go.Proofs.YtfnhfjpoeacoaaaDoor.scanj
open Go.AM Go.AM.F
set_option maxRecDepth 100000

theorem own : ownKnob Tryd.prog.godebug = none := by kernel_rfl
def laid : List (String × DataW Unit) := [("unicode/utf8.acceptRanges", Rows.laid_unicode_utf8_acceptRanges), ("thicket/scan.classes", Rows.laid_thicket_scan_classes), ("unicode/utf8.first", Rows.laid_unicode_utf8_first)]
theorem met {W : World} (h : laidMetH Tryd.prog laid W) : laidMet Tryd.prog laid W := by
  have e : (laid.filter fun x => x.2.handleName?.isSome) = [] := by kernel_rfl
  unfold laidMetH at h
  rw [e] at h
  exact h
def tab : List Int := [0, 0, 0, 0, 0, 0, 0, 0, 0, 32, 0, 0, 0, 0, 0, 0, 0, 0, 0, 0, 0, 0, 0, 0, 0, 0, 0, 0, 0, 0, 0, 0, 32, 0, 0, 0, 0, 0, 0, 0, 16, 16, 0, 4, 16, 4, 8, 0, 0, 0, 0, 0, 0, 0, 0, 0, 0, 0, 16, 16, 16, 16, 16, 0, 0, 0, 0, 0, 0, 0, 0, 0, 0, 0, 0, 0, 0, 0, 0, 0, 0, 0, 0, 0, 0, 0, 0, 0, 0, 0, 0, 16, 0, 16, 0, 1, 0, 0, 0, 0, 0, 0, 0, 0, 0, 0, 0, 0, 0, 0, 0, 0, 0, 0, 0, 0, 0, 0, 0, 0, 0, 0, 0, 16, 16, 16, 0, 0]
theorem gTab : Tryd.prog.globalNamed "thicket/scan.classes" = some 0 := by kernel_rfl
theorem table {W : World} (h : laidMetH Tryd.prog laid W) : Lib.TabIs Tryd.prog W "thicket/scan.classes" .u8 tab :=
  Lib.tabIs_of_head (rest := [("unicode/utf8.first", Rows.laid_unicode_utf8_first)]) gTab (t := 69) (by kernel_rfl) Tryd.underlying69 Tryd.underlying49 (by kernel_rfl) (by kernel_rfl) (met h).tail
/-- A variable of ONE cell of a kind of integers holds SOME such number. -/
theorem int_of_shape {P : Program} {w : World} {g : Nat} {t : TypeId} {k : IntKind} {zero : Array Value} (h : w.ShapedOpen P) (hg : g < P.globals.size)
    (h0 : ((begin P (fun _ _ => 0) default).world.heap[g]?).bind Obj.row? = some (zero, t)) (hz : zero.size = 1)
    (hb : P.buildable t = true) (hc : P.cellTypes P.depth t = some [t]) (hu : P.underlying t = some (.int k)) : ∃ m : Int, w.cell? ⟨g, 0, none⟩ = some (.int k m) := by
  obtain ⟨cs, hh, hs, hr⟩ := h.1 g zero t hg h0
  obtain ⟨ts, hts, _, hall⟩ := hr hb
  rw [hc] at hts
  cases hts
  have h1 : 0 < cs.size := by omega
  obtain ⟨u, hu', hok⟩ := hall 0 cs[0] (by simp [h1])
  have : u = t := by simpa using hu'.symm
  subst this
  have hcell : w.cell? ⟨g, 0, none⟩ = some cs[0] := by simp [World.cell?, hh, h1]
  rw [hcell]
  unfold Cell.ok at hok
  rw [hu] at hok
  cases hv : cs[0] <;> rw [hv] at hok <;> first | (simp at hok; done) | skip
  rename_i k' m
  simp at hok
  obtain ⟨rfl, _⟩ := hok
  exact ⟨m, rfl⟩
theorem globs {W : World} (h : laidMetH Tryd.prog laid W) (hsh : W.ShapedOpen Tryd.prog) (n : Nat) (hn : G n ≠ []) : R W (fun b => b < W.heap.size) nope (.raddr (G n)) (.pointer (some ⟨n, 0, none⟩)) [] := by
  match n, hn with
  | 0, _ => exact tab_R (table h) gTab (fun h => by cases h)
  | 1, _ =>
    obtain ⟨m, hm⟩ := int_of_shape (g := 1) (t := 3) (k := .i64) (zero := #[.int .i64 0]) hsh (of_decide_eq_true (by kernel_rfl)) (by kernel_rfl) rfl (by kernel_rfl) (by kernel_rfl) Tryd.underlying3
    refine ⟨rfl, ⟨1, 0, none⟩, [.int .i64 m], rfl, rfl, (cell_first hm).2, ⟨_, _, [], [], rfl, rfl, ⟨rfl, m, rfl⟩, rfl, rfl⟩, ?_⟩
    intro j u hu
    match j, hu with
    | 0, hu =>
      cases hu
      exact hm
  | n + 2, hn => exact (hn rfl).elim
theorem w_str : wholeB Tryd.prog 9 = false := by kernel_rfl
theorem w_strs : wholeB Tryd.prog 37 = false := by kernel_rfl
theorem w_u8 : wholeB Tryd.prog 5 = false := by kernel_rfl
theorem c_str : Tryd.prog.cellsOf 9 = 1 := by kernel_rfl
theorem shape_str {n : Nat} {c : List PV} (h : Shape Tryd.prog n 9 c) : ∃ s, c = [.v (.string s)] := by
  cases n with
  | zero => exact h.elim
  | succ n =>
    simp only [Shape, Tryd.underlying9] at h
    exact h
theorem shape_u8 {n : Nat} {c : List PV} (h : Shape Tryd.prog n 5 c) : ∃ v : Nat, c = [.v (.int .u8 (v : Nat))] ∧ v < 256 := by
  cases n with
  | zero => exact h.elim
  | succ n =>
    simp only [Shape, Tryd.underlying5] at h
    obtain ⟨m, rfl, hm⟩ := h
    have hm : 0 ≤ m ∧ m ≤ 255 := by simpa [Lit.wf, IntKind.min, IntKind.max, IntKind.signed, IntKind.bits] using hm
    exact ⟨m.toNat, by rw [Int.toNat_of_nonneg hm.1], by omega⟩
theorem strs : ∀ {l : List (List PV)} {n : Nat}, (∀ c ∈ l, c.length = Tryd.prog.cellsOf 9 ∧ Shape Tryd.prog n 9 c) → ∃ ts : List ByteArray, l.map (mkPV (wholeB Tryd.prog 9)) = tl ts
  | [], n, _ => ⟨[], rfl⟩
  | c :: l, n, h => by
    obtain ⟨ts, h1⟩ := strs (l := l) (n := n) fun c hc => h c (by simp [hc])
    obtain ⟨_, h3⟩ := h c (by simp)
    obtain ⟨s, rfl⟩ := shape_str h3
    exact ⟨s :: ts, by rw [List.map_cons, h1, w_str]; rfl⟩
theorem shape_strs {n : Nat} {c : List PV} (h : Shape Tryd.prog n 37 c) : ∃ ts : List ByteArray, c = [.ro 1 (tl ts)] := by
  cases n with
  | zero => exact h.elim
  | succ n =>
    simp only [Shape, Tryd.underlying37] at h
    obtain ⟨l, rfl, hl⟩ := h
    obtain ⟨ts, ht⟩ := strs hl
    rw [ht, c_str]
    exact ⟨ts, rfl⟩
theorem bulk_strs : ∀ ts : List ByteArray, lenB ts ≤ 3 * bulkL (tl ts)
  | [] => Nat.le_refl _
  | t :: r => by
    have := bulk_strs r
    have e : tl (t :: r) = .v (.string t) :: tl r := rfl
    rw [e, lenB]
    simp only [bulkL, bulk]
    omega
end Go.Proofs.YtfnhfjpoeacoaaaDoor.scanj
