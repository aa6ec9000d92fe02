/- JSON: the document's reader: objects, then every value. No conditions. -/
import Derived.Test.YtkcnnifgdhabgaaDoorM12
namespace Go.AM.F
open Go Go.AM
set_option maxRecDepth 10000
set_option linter.unusedSimpArgs false

attribute [local simp] j0_thicketref10_reading_object j1_thicketref10_reading_object w1_thicketref10_reading_object
abbrev oB (ns : List ByteArray) (acc : List J) : PV := .box [.v (.int .u8 7), .v (.string ⟨#[]⟩), .own 1 (ns.map str), .own 4 (acc.map J.pv)]
abbrev twE (L : List UInt8) (d : Nat) (ns : List ByteArray) (acc : List J) (p : Nat) (s : ByteArray) (k j w b : Nat) : Env := [(0, .ref 100000 []), (1, .v (.int .i64 d)), (4, z4), (5, oB ns acc), (6, .v (.int .i64 p)), (7, .v (.string s)), (8, .v (.int .i64 k)), (100000, rg L j w b)]
theorem tw_out (L : List UInt8) (d : Nat) (ns : List ByteArray) (acc : List J) (p : Nat) (s : ByteArray) (k j w b : Nat) (hw : w ≠ 0) : Exec T l1_thicketref10_reading_object (twE L d ns acc p s k j w b) = some (.exit 2, twE L d ns acc p s k j w b) := by
  have ho := c_rokN L j b hw
  simp only [rg_eq] at ho
  rw [ex1_thicketref10_reading_object]
  by_cases h : k < ns.length
  · simp [twE, oB, ho, h]
  · simp [twE, oB, h]
theorem tw_loop (L : List UInt8) (d : Nat) (ns : List ByteArray) (acc : List J) (p : Nat) (s : ByteArray) (j : Nat) (hn : ns.length ≤ 16777216) : ∀ (m k : Nat), ns.length - k = m → k ≤ ns.length →
    ∃ k', Exec T l1_thicketref10_reading_object (twE L d ns acc p s k j 0 0) = some (.exit 2, if seen s (ns.drop k) = true then twE L d ns acc p s k' j 102 p else twE L d ns acc p s k' j 0 0) := by
  intro m
  induction m with
  | zero =>
    intro k hm hk
    obtain rfl : k = ns.length := by omega
    refine ⟨ns.length, ?_⟩
    rw [ex1_thicketref10_reading_object]
    simp [twE, oB, seen]
  | succ m ih =>
    intro k hm hk
    have hlt : k < ns.length := by omega
    have hw := wrap_succ hlt (by omega)
    have ho := c_rok0 L j 0
    have h102 : ((102 : Nat) : Int) = 102 := rfl
    have hf := c_rfail L j 102 p
    simp only [rg_eq, Int.natCast_zero, h102] at ho hf
    obtain ⟨x, hx⟩ : ∃ x, ns[k] = x := ⟨_, rfl⟩
    have hdr : ns.drop k = x :: ns.drop (k + 1) := by rw [List.drop_eq_getElem_cons hlt, hx]
    have hseen : seen s (ns.drop k) = ((s == x) || seen s (ns.drop (k + 1))) := by rw [hdr]; rfl
    rw [hseen, ex1_thicketref10_reading_object]
    by_cases he : x = s
    · have hout := tw_out L d ns acc p s (k + 1) j 102 p (by decide)
      refine ⟨k + 1, ?_⟩
      have hss : (s == x) = true := by rw [he, bytes_eq_iff]; simp
      rw [hss, Bool.true_or, if_pos rfl]
      simp only [twE, oB, rg_eq, succ_cast, h102] at hout
      simpa [twE, oB, hlt, ho, hx, he, hf, hw] using hout
    · obtain ⟨k', h0⟩ := ih (k + 1) (by omega) (by omega)
      refine ⟨k', ?_⟩
      have hss : (s == x) = false := by rw [bytes_eq_iff]; simpa using fun h => he h.symm
      rw [hss, Bool.false_or]
      simp only [twE, oB, rg_eq, Int.natCast_zero, succ_cast] at h0
      simpa [twE, oB, hlt, ho, hx, he, hw] using h0
end Go.AM.F
