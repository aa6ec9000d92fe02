import Derived.Test.YtbghahcgjnlnlaaDoorT3
namespace Go.AM.F
open Go Go.AM
set_option maxRecDepth 10000

theorem wrap_u64 {v : Int} (h1 : 0 ≤ v) (h2 : v < 18446744073709551616) : IntKind.u64.wrap v = v := by
  simp only [IntKind.wrap, IntKind.signed, IntKind.bits]
  simp
  omega
theorem wrap_u64_neg {v : Int} (h1 : -18446744073709551616 ≤ v) (h2 : v < 0) : IntKind.u64.wrap v = v + 18446744073709551616 := by
  simp only [IntKind.wrap, IntKind.signed, IntKind.bits]
  simp
  omega
theorem sum_fold : ∀ (l : List Int) (hi lo : Int), (∀ v ∈ l, In64 v) → 0 ≤ lo → lo < 18446744073709551616 → -4611686018427387904 + l.length ≤ hi → hi + l.length ≤ 4611686018427387904 →
    ∃ hi' lo', l.foldl sumStep (hi, lo) = (hi', lo') ∧ 0 ≤ lo' ∧ lo' < 18446744073709551616 ∧ hi' * 18446744073709551616 + lo' = hi * 18446744073709551616 + lo + (pos l - neg l)
  | [], hi, lo, _, h1, h2, _, _ => ⟨hi, lo, rfl, h1, h2, by simp [pos, neg]⟩
  | v :: r, hi, lo, hv, h1, h2, h3, h4 => by
    have hv1 := hv v (by simp)
    obtain ⟨v1, v2⟩ := hv1
    simp only [List.length_cons] at h3 h4
    simp only [List.foldl_cons, sumStep]
    by_cases hn : v < 0
    · rw [wrap_u64_neg (by omega) hn, wrap_i64 (v := (lo + (v + 18446744073709551616)) / 18446744073709551616) (by omega) (by omega), wrap_i64 (v := hi + (lo + (v + 18446744073709551616)) / 18446744073709551616) (by omega) (by omega), if_pos hn, wrap_i64 (by omega) (by omega)]
      obtain ⟨hi', lo', k1, k2, k3, k4⟩ := sum_fold r (hi + (lo + (v + 18446744073709551616)) / 18446744073709551616 - 1) ((lo + (v + 18446744073709551616)) % 18446744073709551616) (fun x hx => hv x (by simp [hx])) (by omega) (by omega) (by omega) (by omega)
      refine ⟨hi', lo', k1, k2, k3, ?_⟩
      simp only [pos, neg, if_pos hn]
      omega
    · rw [wrap_u64 (v := v) (by omega) (by omega), wrap_i64 (v := (lo + v) / 18446744073709551616) (by omega) (by omega), wrap_i64 (v := hi + (lo + v) / 18446744073709551616) (by omega) (by omega), if_neg hn]
      obtain ⟨hi', lo', k1, k2, k3, k4⟩ := sum_fold r (hi + (lo + v) / 18446744073709551616) ((lo + v) % 18446744073709551616) (fun x hx => hv x (by simp [hx])) (by omega) (by omega) (by omega) (by omega)
      refine ⟨hi', lo', k1, k2, k3, ?_⟩
      simp only [pos, neg, if_neg hn]
      omega
theorem c_fixed_Sum' (l : List Int) (hl : l.length < 4611686018427387904) (hv : ∀ v ∈ l, In64 v) : Cinf T n_fixed_Sum [i64s l] = some (sumSays l, [.dead]) := by
  rw [c_fixed_Sum l hl]
  obtain ⟨hi, lo, k1, k2, k3, k4⟩ := sum_fold l 0 0 hv (by omega) (by omega) (by omega) (by omega)
  simp only [sumOf, k1, sumSays]
  by_cases h : In64 (pos l - neg l)
  · rw [if_pos h]
    obtain ⟨h1, h2⟩ := h
    rcases Int.lt_or_le (pos l - neg l) 0 with h0 | h0
    · have e1 : hi = -1 := by omega
      rw [if_pos (.inr ⟨e1, by omega⟩)]
      have : IntKind.i64.wrap lo = pos l - neg l := by
        simp only [IntKind.wrap, IntKind.signed, IntKind.bits]
        simp
        omega
      rw [this]
    · have e1 : hi = 0 := by omega
      rw [if_pos (.inl ⟨e1, by omega⟩), wrap_i64 (by omega) (by omega)]
      have : lo = pos l - neg l := by omega
      rw [this]
  · rw [if_neg h, if_neg]
    unfold In64 at h
    omega
/-! ### The document's sum -/
end Go.AM.F
