/- What the rows of this seat share: the two tables that are listed, bytes. No conditions. -/
import Derived.Test.YtkcnnifgdhabgaaDoorIrOk
import Derived.Test.YtkcnnifgdhabgaaDoorKx
import Derived.Test.YtkcnnifgdhabgaaDoorAmLaid
import Derived.Test.YtkcnnifgdhabgaaDoorCards
import Derived.Test.YtkcnnifgdhabgaaDoorTie
import Derived.WalkKit
import Derived.ProofKit
import Derived.OpenShut
import Derived.JoinedCond
import Derived.Deep.DeepHandedRow
import Derived.Lay
import Derived.Lib.LaidU8
import Derived.Stop.LaidErr
namespace Go.Proofs.YtkcnnifgdhabgaaDoor.jsonRows
open Go.AM Go.AM.F
set_option maxRecDepth 100000

theorem own : ownKnob Tryd.prog.godebug = none := by kernel_rfl
def laid : List (String × DataW Unit) := [("unicode/utf8.acceptRanges", Rows.laid_unicode_utf8_acceptRanges), ("unicode/utf8.first", Rows.laid_unicode_utf8_first)]
theorem met {W : World} (h : laidMetH Tryd.prog laid W) : laidMet Tryd.prog laid W := by
  have e : (laid.filter fun x => x.2.handleName?.isSome) = [] := by kernel_rfl
  unfold laidMetH at h
  rw [e] at h
  exact h
def ints : List PV → List Int
  | .v (.int _ z) :: r => z :: ints r
  | _ => []
def tabF : List Int := ints glob0
def tabA : List Int := ints glob1
theorem gF : Tryd.prog.globalNamed "unicode/utf8.first" = some 0 := by kernel_rfl
theorem gA : Tryd.prog.globalNamed "unicode/utf8.acceptRanges" = some 1 := by kernel_rfl
theorem tF : (Tryd.prog.globals[0]?).map (·.type) = some 79 := by kernel_rfl
theorem tA : (Tryd.prog.globals[1]?).map (·.type) = some 82 := by kernel_rfl
theorem cA : Tryd.prog.cellsOf 82 = 32 := by kernel_rfl
theorem cR : Tryd.prog.cellsOf 81 = 2 := by kernel_rfl
theorem cB : Tryd.prog.cellsOf 5 = 1 := by kernel_rfl
theorem eF : Rows.laid_unicode_utf8_first = Lib.tabData .u8 tabF := by kernel_rfl
theorem eA : (Rows.laid_unicode_utf8_acceptRanges : DataW Unit) = .agg ((List.range 16).map fun i => .agg ([tabA.getD (2 * i) 0, tabA.getD (2 * i + 1) 0].map fun z => .lit (.int .u8 z))) := by kernel_rfl
theorem first {W : World} (h : laidMetH Tryd.prog laid W) : Lib.TabIs Tryd.prog W "unicode/utf8.first" .u8 tabF := by
  have h2 := (met h).tail
  rw [eF] at h2
  exact Lib.tabIs_of_head (rest := []) gF tF Tryd.underlying79 Tryd.underlying5 (by kernel_rfl) (by kernel_rfl) h2
theorem trod_len {fuel : Nat} {cs : List Value} {d : DataW Unit} {p : List MemPlace} {w : World} (h : DataW.trod (fun _ => ()) Tryd.prog w 0 (fun _ => true) false fuel 82 cs = some (d, p)) : cs.length = 32 := by
  cases fuel with
  | zero => simp [DataW.trod] at h
  | succ f =>
    simp only [DataW.trod, Tryd.underlying82] at h
    split at h
    · rename_i hl
      simpa [cA] using hl
    · cases h
theorem accept {W : World} (h : laidMetH Tryd.prog laid W) : Lib.TabIs Tryd.prog W "unicode/utf8.acceptRanges" .u8 tabA := by
  obtain ⟨ps, ⟨g', t', cs, fuel, p, q, hg', ht', hvar, hd, _, _⟩, _⟩ := met h
  obtain rfl := Option.some.inj (gA.symm.trans hg')
  obtain rfl := Option.some.inj (tA.symm.trans ht')
  have hlen := trod_len hd
  rw [eA] at hd
  unfold Lib.TabIs
  rw [hvar]
  have hcs : cs.toList = tabA.map (Value.int .u8) := by
    apply List.ext_getElem?
    intro j
    have hA : tabA.length = 32 := by kernel_rfl
    by_cases hj : j < 32
    · obtain ⟨f', d, q', hdi, he⟩ := Lib.array_elem Tryd.underlying82 hd (j / 2) (by omega)
      simp only [List.getElem?_map, List.getElem?_range (show j / 2 < 16 by omega), Option.map_some, Option.some.injEq] at hdi
      subst hdi
      rw [cR] at he
      have hst := Lib.ints_of_struct Tryd.underlying81 (fun i f hf => by
        match i, hf with
        | 0, hf => simp at hf; subst hf; exact ⟨Tryd.underlying5, rfl, cB⟩
        | 1, hf => simp at hf; subst hf; exact ⟨Tryd.underlying5, rfl, cB⟩
        | i + 2, hf => simp at hf) (by rw [cR]; rfl) he
      have e0 := congrArg (·[0]?) hst
      have e1 := congrArg (·[1]?) hst
      simp only [List.getElem?_take, List.getElem?_drop] at e0 e1
      have hj2 : j = j / 2 * 2 ∨ j = j / 2 * 2 + 1 := by omega
      have hget : (tabA.map (Value.int .u8))[j]? = some (.int .u8 (tabA.getD j 0)) := by
        have : j < tabA.length := by omega
        simp [List.getD_eq_getElem?_getD, this]
      rw [hget]
      rcases hj2 with e | e
      · rw [e]
        simpa [Nat.mul_comm] using e0
      · rw [e]
        simpa [Nat.mul_comm] using e1
    · rw [List.getElem?_eq_none (by omega), List.getElem?_eq_none (by rw [List.length_map]; omega)]
  rw [← hcs]
theorem eGF : glob0 = tabF.map fun z => .v (.int .u8 z) := by kernel_rfl
theorem eGA : glob1 = tabA.map fun z => .v (.int .u8 z) := by kernel_rfl
theorem nF : tabF ≠ [] := by
  have : tabF.length = 256 := by kernel_rfl
  intro h
  rw [h] at this
  cases this
theorem nA : tabA ≠ [] := by
  have : tabA.length = 32 := by kernel_rfl
  intro h
  rw [h] at this
  cases this
theorem globs {W : World} (h : laidMetH Tryd.prog laid W) (n : Nat) (hn : G n ≠ []) : R W (fun b => b < W.heap.size) nope (.raddr (G n)) (.pointer (some ⟨n, 0, none⟩)) [] := by
  match n, hn with
  | 0, _ =>
    show R W _ nope (.raddr glob0) _ []
    rw [eGF]
    exact tab_R (first h) gF nF
  | 1, _ =>
    show R W _ nope (.raddr glob1) _ []
    rw [eGA]
    exact tab_R (accept h) gA nA
  | n + 2, hn => exact (hn rfl).elim
theorem w_bytes : wholeB Tryd.prog 22 = false := by kernel_rfl
theorem w_u8 : wholeB Tryd.prog 5 = false := by kernel_rfl
theorem shape_u8 {n : Nat} {c : List PV} (h : Shape Tryd.prog n 5 c) : ∃ v : Nat, c = [.v (.int .u8 (v : Nat))] ∧ v < 256 := by
  cases n with
  | zero => exact h.elim
  | succ n =>
    simp only [Shape, Tryd.underlying5] at h
    obtain ⟨m, rfl, hm⟩ := h
    have hm : 0 ≤ m ∧ m ≤ 255 := by simpa [Lit.wf, IntKind.min, IntKind.max, IntKind.signed, IntKind.bits] using hm
    exact ⟨m.toNat, by rw [Int.toNat_of_nonneg hm.1], by omega⟩
theorem bytes_of : ∀ {l : List (List PV)} {n : Nat}, (∀ c ∈ l, c.length = Tryd.prog.cellsOf 5 ∧ Shape Tryd.prog n 5 c) → ∃ L : List UInt8, l.map (mkPV (wholeB Tryd.prog 5)) = bl L
  | [], _, _ => ⟨[], rfl⟩
  | c :: l, n, h => by
    obtain ⟨L, h1⟩ := bytes_of (l := l) (n := n) fun c hc => h c (by simp [hc])
    obtain ⟨v, rfl, hv⟩ := shape_u8 (h c (by simp)).2
    refine ⟨v.toUInt8 :: L, ?_⟩
    rw [List.map_cons, h1, w_u8]
    show PV.v (.int .u8 (v : Nat)) :: bl L = PV.v (.int .u8 (v.toUInt8.toNat : Nat)) :: bl L
    rw [show v.toUInt8.toNat = v by simp [Nat.toUInt8, UInt8.toNat_ofNat']; omega]
theorem shape_bytes {n : Nat} {c : List PV} (h : Shape Tryd.prog n 22 c) : ∃ L : List UInt8, c = [.ro 1 (bl L)] := by
  cases n with
  | zero => exact h.elim
  | succ n =>
    simp only [Shape, Tryd.underlying22] at h
    obtain ⟨l, rfl, hl⟩ := h
    obtain ⟨L, hL⟩ := bytes_of hl
    rw [hL, cB]
    exact ⟨L, rfl⟩
theorem bulk_bl : ∀ L : List UInt8, L.length ≤ bulkL (bl L)
  | [] => Nat.le_refl _
  | b :: r => by
    have := bulk_bl r
    show r.length + 1 ≤ bulk (.v _) + bulkL (bl r)
    simp only [bulk]
    omega
end Go.Proofs.YtkcnnifgdhabgaaDoor.jsonRows
