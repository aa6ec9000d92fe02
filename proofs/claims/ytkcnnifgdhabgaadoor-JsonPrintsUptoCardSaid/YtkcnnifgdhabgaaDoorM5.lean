/- JSON: the document's length of a character. No conditions. -/
import Derived.Test.YtkcnnifgdhabgaaDoorM4
namespace Go.AM.F
open Go Go.AM
set_option maxRecDepth 10000
set_option linter.unusedSimpArgs false

theorem and_all : (List.range 256).all (fun c => decide (IntKind.u8.wrap ((c % 2 ^ IntKind.u8.bits &&& 192 % 2 ^ IntKind.u8.bits : Nat) : Int) = 128) == cont c && decide (IntKind.u8.wrap ((c % 2 ^ IntKind.u8.bits &&& 63 % 2 ^ IntKind.u8.bits : Nat) : Int) = ((c % 64 : Nat) : Int))) = true := by kernel_rfl
theorem and_top {c : Nat} (h : c < 256) : (IntKind.u8.wrap ((c % 2 ^ IntKind.u8.bits &&& 192 % 2 ^ IntKind.u8.bits : Nat) : Int) = 128) = (cont c = true) := by
  have := List.all_eq_true.1 and_all c (by simpa using h)
  simp only [Bool.and_eq_true, beq_iff_eq] at this
  rw [← this.1, decide_eq_true_eq]
theorem and_low {c : Nat} (h : c < 256) : IntKind.u8.wrap ((c % 2 ^ IntKind.u8.bits &&& 63 % 2 ^ IntKind.u8.bits : Nat) : Int) = ((c % 64 : Nat) : Int) := by
  have := List.all_eq_true.1 and_all c (by simpa using h)
  simp only [Bool.and_eq_true, decide_eq_true_eq] at this
  exact this.2
theorem or_join {v r : Nat} (hr : r < 64) (hv : v < 16777216) : IntKind.i64.wrap ((((v * 64) % 2 ^ IntKind.i64.bits ||| r % 2 ^ IntKind.i64.bits : Nat)) : Int) = ((v * 64 + r : Nat) : Int) := by
  have h1 : (v * 64) % 2 ^ IntKind.i64.bits = v * 64 := by simp only [IntKind.bits]; omega
  have h2 : r % 2 ^ IntKind.i64.bits = r := by simp only [IntKind.bits]; omega
  rw [h1, h2]
  have h3 : v * 64 ||| r = v * 64 + r := by
    have := Nat.shiftLeft_add_eq_or_of_lt (show r < 2 ^ 6 by omega) v
    rw [Nat.shiftLeft_eq] at this
    exact this.symm
  rw [h3, wrap_i64] <;> omega
attribute [local simp] j0_thicketref10_Char j1_thicketref10_Char j2_thicketref10_Char w0_thicketref10_Char
abbrev chE (M : List UInt8) (n v q i : Nat) : Env := [(0, .ro 1 (bl M)), (3, .v (.int .i64 n)), (4, .v (.int .i64 v)), (5, .v (.int .i64 q)), (7, .v (.int .i64 i))]
theorem ch_step (M : List UInt8) (n i v q : Nat) (hi : i < M.length) (hn : i < n) (h4 : n ≤ 4) (hv : v < 16777216) : Exec T l0_thicketref10_Char (chE M n v q i) = if cont (lt M i) = true then Exec T l0_thicketref10_Char (chE M n (v * 64 + lt M i % 64) q (i + 1)) else some (.ret, [(2, .v (.int .i64 0))]) := by
  rw [ex0_thicketref10_Char]
  have hc := lt_small M i
  have a1 := and_top hc
  have a2 := and_low hc
  have hr : lt M i % 64 < 64 := by omega
  generalize lt M i % 64 = r at a2 hr ⊢
  have a3 : IntKind.i64.wrap ((v : Int) * 2 ^ min 6 IntKind.i64.bits) = ((v * 64 : Nat) : Int) := by
    rw [show min 6 IntKind.i64.bits = 6 from rfl, wrap_i64] <;> omega
  have a4 : IntKind.i64.wrap (r : Int) = r := by rw [wrap_i64] <;> omega
  have a5 := or_join hr hv
  have a6 : IntKind.i64.wrap ((i : Int) + 1) = ((i + 1 : Nat) : Int) := by rw [wrap_i64] <;> omega
  generalize v * 64 + r = s at a5 ⊢
  generalize v * 64 = s0 at a3 a5
  cases hx : cont (lt M i)
  · have a7 : ¬ (IntKind.u8.wrap ((lt M i % 2 ^ IntKind.u8.bits &&& 192 % 2 ^ IntKind.u8.bits : Nat) : Int) = 128) := by rw [a1, hx]; decide
    simp [hi, hn, bl_getE hi, a7]
  · rw [hx] at a1
    have a7 := eq_true (a1 ▸ rfl : IntKind.u8.wrap ((lt M i % 2 ^ IntKind.u8.bits &&& 192 % 2 ^ IntKind.u8.bits : Nat) : Int) = 128)
    simp [hi, hn, bl_getE hi, a7, a2, a3, a4, a5, a6, -Int.natCast_add]
def chV (M : List UInt8) : Nat → Nat → Nat → Option Nat
  | 0, _, v => some v
  | m + 1, i, v => if cont (lt M i) = true then chV M m (i + 1) (v * 64 + lt M i % 64) else none
theorem ch_loop (M : List UInt8) (n q : Nat) (h4 : n ≤ 4) (hM : n ≤ M.length) : ∀ (m i v : Nat), i + m = n → 1 ≤ i → v < 32 * 64 ^ (i - 1) →
    Exec T l0_thicketref10_Char (chE M n v q i) = match chV M m i v with
      | some u => some (.exit 1, chE M n u q n)
      | none => some (.ret, [(2, .v (.int .i64 0))]) := by
  intro m
  induction m with
  | zero =>
    intro i v hm h1 hv
    obtain rfl : i = n := by omega
    simp only [chV]
    rw [ex0_thicketref10_Char]
    simp
  | succ m ih =>
    intro i v hm h1 hv
    have hb : v < 16777216 := by
      have : i = 1 ∨ i = 2 ∨ i = 3 := by omega
      rcases this with rfl | rfl | rfl <;> simp at hv <;> omega
    rw [ch_step M n i v q (by omega) (by omega) h4 hb]
    simp only [chV]
    cases hx : cont (lt M i)
    · simp
    · simp only [if_true]
      refine ih (i + 1) _ (by omega) (by omega) ?_
      obtain ⟨k, rfl⟩ : ∃ k, i = k + 1 := ⟨i - 1, by omega⟩
      simp only [Nat.add_sub_cancel] at hv ⊢
      rw [Nat.pow_succ]
      generalize 64 ^ k = z at hv
      omega
def chT (M : List UInt8) (n q v : Nat) : Nat := if M.length < n then 0 else match chV M (n - 1) 1 v with
  | none => 0
  | some u => if u < q ∨ 1114111 < u ∨ (55296 ≤ u ∧ u < 57344) then 0 else n
attribute [local simp] j3_thicketref10_Char j4_thicketref10_Char j5_thicketref10_Char
theorem ch_end (M : List UInt8) (n q u : Nat) : Exec T j4_thicketref10_Char [(3, .v (.int .i64 n)), (4, .v (.int .i64 u)), (5, .v (.int .i64 q))] = some (.ret, [(2, .v (.int .i64 ((if u < q ∨ 1114111 < u ∨ (55296 ≤ u ∧ u < 57344) then 0 else n : Nat) : Int)))]) := by
  by_cases h1 : u < q
  · simp [h1]
  by_cases h2 : 1114111 < u
  · simp [h1, h2]
  by_cases h3 : 55296 ≤ u
  · by_cases h4 : u < 57344
    · simp [h1, h2, h3, h4]
    · simp [h1, h2, h3, h4]
  · simp [h1, h2, h3]
theorem ch_tail (M : List UInt8) (n q v : Nat) (h2 : 2 ≤ n) (h4 : n ≤ 4) (hv : v < 32) : Exec T j6_thicketref10_Char [(0, .ro 1 (bl M)), (3, .v (.int .i64 n)), (4, .v (.int .i64 v)), (5, .v (.int .i64 q))] = some (.ret, [(2, .v (.int .i64 (chT M n q v : Nat)))]) := by
  unfold chT
  by_cases hM : M.length < n
  · have hM2 : (M.length : Int) < n := by omega
    rw [if_pos hM]
    simp [j6_thicketref10_Char, hM, hM2]
  · rw [if_neg hM]
    have hM2 : ¬ (M.length : Int) < n := by omega
    have hl := ch_loop M n q h4 (by omega) (n - 1) 1 v (by omega) (Nat.le_refl _) (by simpa using hv)
    simp only [chE, Int.natCast_one] at hl
    cases hc : chV M (n - 1) 1 v with
    | none =>
      rw [hc] at hl
      simp [j6_thicketref10_Char, hM, hM2, hl]
    | some u =>
      rw [hc] at hl
      have he := ch_end M n q u
      simp only at hl
      simp only
      generalize (if u < q ∨ 1114111 < u ∨ (55296 ≤ u ∧ u < 57344) then 0 else n : Nat) = z at he ⊢
      simp [j6_thicketref10_Char, hM, hM2, hl, he, -j4_thicketref10_Char]
end Go.AM.F
