/- A JSON value, as the abstract machine has it; texts looked for, lists of texts held against each other. No conditions. -/
import Derived.Test.YtkcnnifgdhabgaaIr
namespace Go.AM.F
open Go Go.AM
set_option maxRecDepth 10000
set_option linter.unusedSimpArgs false

def str (s : ByteArray) : PV := .v (.string s)
@[simp] theorem str_eq (s : ByteArray) : str s = .v (.string s) := rfl
def strs (l : List ByteArray) : PV := .ro 1 (l.map str)
inductive J where
  | mk (k : Int) (t : ByteArray) (ns : List ByteArray) (is : List J)
mutual
def J.pv : J → PV
  | .mk k t ns is => .agg [.v (.int .u8 k), str t, strs ns, .ro 4 (J.pvL is)]
def J.pvL : List J → List PV
  | [] => []
  | j :: r => j.pv :: J.pvL r
end
theorem pvL_map (l : List J) : J.pvL l = l.map J.pv := by
  induction l with
  | nil => rfl
  | cons j r ih => simp [J.pvL, ih]
theorem wrap_i64 {v : Int} (h1 : -9223372036854775808 ≤ v) (h2 : v < 9223372036854775808) : IntKind.i64.wrap v = v := by
  simp only [IntKind.wrap, IntKind.signed, IntKind.bits]
  simp
  omega
theorem wrap_succ {k n : Nat} (h : k < n) (hn : n < 4611686018427387904) : IntKind.i64.wrap ((k : Int) + 1) = (k : Int) + 1 := by rw [wrap_i64] <;> omega
theorem succ_cast (k : Nat) : ((k + 1 : Nat) : Int) = (k : Int) + 1 := Int.natCast_succ k
/-- The first place of a text, or -1. -/
def firstAt (name : ByteArray) : List ByteArray → Nat → Int
  | [], _ => -1
  | x :: r, k => if name = x then k else firstAt name r (k + 1)
theorem index_loop (ns : List ByteArray) (name : ByteArray) (hl : ns.length < 4611686018427387904) : ∀ (n k : Nat), ns.length - k = n → k ≤ ns.length →
    (firstAt name (ns.drop k) k = -1 ∧ Exec T l0_slices_Index_string_string [(0, strs ns), (1, str name), (7, .v (.int .i64 ns.length)), (8, .v (.int .i64 k))] = some (.exit 0, [(0, strs ns), (1, str name), (7, .v (.int .i64 ns.length)), (8, .v (.int .i64 ns.length))])) ∨
    (0 ≤ firstAt name (ns.drop k) k ∧ Exec T l0_slices_Index_string_string [(0, strs ns), (1, str name), (7, .v (.int .i64 ns.length)), (8, .v (.int .i64 k))] = some (.ret, [(4, .v (.int .i64 (firstAt name (ns.drop k) k)))])) := by
  intro n
  induction n with
  | zero =>
    intro k hn hk
    obtain rfl : k = ns.length := by omega
    refine .inl ⟨by simp [firstAt], ?_⟩
    rw [ex0_slices_Index_string_string]
    simp [strs, str, w0_slices_Index_string_string]
  | succ n ih =>
    intro k hn hk
    have hlt : k < ns.length := by omega
    obtain ⟨v, hv⟩ : ∃ v, ns[k] = v := ⟨_, rfl⟩
    have hd : ns.drop k = v :: ns.drop (k + 1) := by rw [List.drop_eq_getElem_cons hlt, hv]
    have hw := wrap_succ hlt hl
    rw [hd]
    simp only [firstAt]
    rw [ex0_slices_Index_string_string]
    by_cases he : name = v
    · refine .inr ⟨by simp [he], ?_⟩
      subst he
      simp [strs, str, w0_slices_Index_string_string, j1_slices_Index_string_string, hlt, hv]
    · simp only [if_neg he]
      have h0 := ih (k + 1) (by omega) (by omega)
      simp only [strs, str, succ_cast] at h0 ⊢
      simpa [w0_slices_Index_string_string, j1_slices_Index_string_string, j0_slices_Index_string_string, hlt, hv, he, hw] using h0
theorem c_index (ns : List ByteArray) (name : ByteArray) (hl : ns.length < 4611686018427387904) : Cinf T n_slices_Index_string_string [strs ns, str name] = some (.v (.int .i64 (firstAt name ns 0)), [.dead, .dead]) := by
  rcases index_loop ns name hl ns.length 0 rfl (Nat.zero_le _) with ⟨h1, h2⟩ | ⟨h1, h2⟩ <;> simp only [List.drop_zero, strs, str, Int.natCast_zero] at h1 h2
  · simp [run_slices_Index_string_string, Run, a_slices_Index_string_string, b_slices_Index_string_string, j2_slices_Index_string_string, strs, str, h1, h2]
  · simp [run_slices_Index_string_string, Run, a_slices_Index_string_string, b_slices_Index_string_string, strs, str, h2]
theorem equal_loop (ns ms : List ByteArray) (hl : ns.length < 4611686018427387904) (hm : ns.length = ms.length) : ∀ (n k : Nat), ns.length - k = n → k ≤ ns.length →
    (ns.drop k = ms.drop k ∧ Exec T l0_slices_Equal_string_string [(0, strs ns), (1, strs ms), (12, .v (.int .i64 ns.length)), (13, .v (.int .i64 k))] = some (.exit 0, [(0, strs ns), (1, strs ms), (12, .v (.int .i64 ns.length)), (13, .v (.int .i64 ns.length))])) ∨
    (ns.drop k ≠ ms.drop k ∧ Exec T l0_slices_Equal_string_string [(0, strs ns), (1, strs ms), (12, .v (.int .i64 ns.length)), (13, .v (.int .i64 k))] = some (.ret, [(4, .v (.bool false))])) := by
  intro n
  induction n with
  | zero =>
    intro k hn hk
    obtain rfl : k = ns.length := by omega
    refine .inl ⟨by simp [hm], ?_⟩
    rw [ex0_slices_Equal_string_string]
    simp [strs, str, w0_slices_Equal_string_string]
  | succ n ih =>
    intro k hn hk
    have hlt : k < ns.length := by omega
    have hlt2 : k < ms.length := by omega
    obtain ⟨v, hv⟩ : ∃ v, ns[k] = v := ⟨_, rfl⟩
    obtain ⟨u, hu⟩ : ∃ u, ms[k] = u := ⟨_, rfl⟩
    have hd : ns.drop k = v :: ns.drop (k + 1) := by rw [List.drop_eq_getElem_cons hlt, hv]
    have hd2 : ms.drop k = u :: ms.drop (k + 1) := by rw [List.drop_eq_getElem_cons hlt2, hu]
    have hw := wrap_succ hlt hl
    rw [hd, hd2, ex0_slices_Equal_string_string]
    by_cases he : v = u
    · subst he
      have h0 := ih (k + 1) (by omega) (by omega)
      simp only [strs, str, succ_cast] at h0 ⊢
      simpa [w0_slices_Equal_string_string, j1_slices_Equal_string_string, j0_slices_Equal_string_string, hlt, hlt2, hv, hu, hw] using h0
    · refine .inr ⟨by simp [he], ?_⟩
      simp [strs, str, w0_slices_Equal_string_string, j1_slices_Equal_string_string, hlt, hlt2, hv, hu, he]
theorem c_equal (ns ms : List ByteArray) (hl : ns.length < 4611686018427387904) : Cinf T n_slices_Equal_string_string [strs ns, strs ms] = some (.v (.bool (decide (ns = ms))), [.dead, .dead]) := by
  by_cases hm : ns.length = ms.length
  · rcases equal_loop ns ms hl hm ns.length 0 rfl (Nat.zero_le _) with ⟨h1, h2⟩ | ⟨h1, h2⟩ <;> simp only [List.drop_zero, strs, str, Int.natCast_zero] at h1 h2
    · subst h1
      simp [run_slices_Equal_string_string, Run, a_slices_Equal_string_string, b_slices_Equal_string_string, j3_slices_Equal_string_string, j2_slices_Equal_string_string, strs, str, h2]
    · rw [hm] at h2
      simp [run_slices_Equal_string_string, Run, a_slices_Equal_string_string, b_slices_Equal_string_string, j3_slices_Equal_string_string, strs, str, h1, h2, hm]
  · have hne : ns ≠ ms := fun h => hm (by rw [h])
    have : ¬ (ns.length : Int) = ms.length := by omega
    simp [run_slices_Equal_string_string, Run, a_slices_Equal_string_string, b_slices_Equal_string_string, strs, str, hne, this, hm]
end Go.AM.F
