import Derived.Test.YtbghahcgjnlnlaaT3
namespace Go.AM.F
open Go Go.AM
set_option maxRecDepth 10000

theorem wrap_u64 {v : Int} (h1 : 0 ≤ v) (h2 : v < 18446744073709551616) : IntKind.u64.wrap v = v := by
  simp only [IntKind.wrap, IntKind.signed, IntKind.bits]
  simp
  omega
theorem wrap_u64_neg {v : Int} (h1 : -18446744073709551616 ≤ v) (h2 : v < 0) : IntKind.u64.wrap v = v + 18446744073709551616 := by
  simp only [IntKind.wrap, IntKind.signed, IntKind.bits]
  simp
  omega
theorem sum_fold : ∀ (l : List Int) (hi lo : Int), (∀ v ∈ l, In64 v) → 0 ≤ lo → lo < 18446744073709551616 → -4611686018427387904 + l.length ≤ hi → hi + l.length ≤ 4611686018427387904 →
    ∃ hi' lo', l.foldl sumStep (hi, lo) = (hi', lo') ∧ 0 ≤ lo' ∧ lo' < 18446744073709551616 ∧ hi' * 18446744073709551616 + lo' = hi * 18446744073709551616 + lo + (pos l - neg l)
  | [], hi, lo, _, h1, h2, _, _ => ⟨hi, lo, rfl, h1, h2, by simp [pos, neg]⟩
  | v :: r, hi, lo, hv, h1, h2, h3, h4 => by
    have hv1 := hv v (by simp)
    obtain ⟨v1, v2⟩ := hv1
    simp only [List.length_cons] at h3 h4
    simp only [List.foldl_cons, sumStep]
    by_cases hn : v < 0
    · rw [wrap_u64_neg (by omega) hn, wrap_i64 (v := (lo + (v + 18446744073709551616)) / 18446744073709551616) (by omega) (by omega), wrap_i64 (v := hi + (lo + (v + 18446744073709551616)) / 18446744073709551616) (by omega) (by omega), if_pos hn, wrap_i64 (by omega) (by omega)]
      obtain ⟨hi', lo', k1, k2, k3, k4⟩ := sum_fold r (hi + (lo + (v + 18446744073709551616)) / 18446744073709551616 - 1) ((lo + (v + 18446744073709551616)) % 18446744073709551616) (fun x hx => hv x (by simp [hx])) (by omega) (by omega) (by omega) (by omega)
      refine ⟨hi', lo', k1, k2, k3, ?_⟩
      simp only [pos, neg, if_pos hn]
      omega
    · rw [wrap_u64 (v := v) (by omega) (by omega), wrap_i64 (v := (lo + v) / 18446744073709551616) (by omega) (by omega), wrap_i64 (v := hi + (lo + v) / 18446744073709551616) (by omega) (by omega), if_neg hn]
      obtain ⟨hi', lo', k1, k2, k3, k4⟩ := sum_fold r (hi + (lo + v) / 18446744073709551616) ((lo + v) % 18446744073709551616) (fun x hx => hv x (by simp [hx])) (by omega) (by omega) (by omega) (by omega)
      refine ⟨hi', lo', k1, k2, k3, ?_⟩
      simp only [pos, neg, if_neg hn]
      omega
theorem c_fixed_Sum' (l : List Int) (hl : l.length < 4611686018427387904) (hv : ∀ v ∈ l, In64 v) : Cinf T n_fixed_Sum [i64s l] = some (sumSays l, [.dead]) := by
  rw [c_fixed_Sum l hl]
  obtain ⟨hi, lo, k1, k2, k3, k4⟩ := sum_fold l 0 0 hv (by omega) (by omega) (by omega) (by omega)
  simp only [sumOf, k1, sumSays]
  by_cases h : In64 (pos l - neg l)
  · rw [if_pos h]
    obtain ⟨h1, h2⟩ := h
    rcases Int.lt_or_le (pos l - neg l) 0 with h0 | h0
    · have e1 : hi = -1 := by omega
      rw [if_pos (.inr ⟨e1, by omega⟩)]
      have : IntKind.i64.wrap lo = pos l - neg l := by
        simp only [IntKind.wrap, IntKind.signed, IntKind.bits]
        simp
        omega
      rw [this]
    · have e1 : hi = 0 := by omega
      rw [if_pos (.inl ⟨e1, by omega⟩), wrap_i64 (by omega) (by omega)]
      have : lo = pos l - neg l := by omega
      rw [this]
  · rw [if_neg h, if_neg]
    unfold In64 at h
    omega
/-! ### The document's sum -/
theorem ref_loop (l : List Int) (hl : l.length < 4611686018427387904) (hv : ∀ v ∈ l, In64 v) : ∀ (n k : Nat) (a b c d : Int), l.length - k = n → k ≤ l.length → 0 ≤ a → a < 18446744073709551616 → 0 ≤ b → b < 18446744073709551616 → 0 ≤ c → c ≤ k → 0 ≤ d → d ≤ k →
    ∃ a' b' c' d', Exec T l0_thicketref04_Sum [(0, i64s l), (4, .box [.v (.int .u64 a), .v (.int .u64 b)]), (5, .box [.v (.int .u64 c), .v (.int .u64 d)]), (6, .v (.int .i64 k))] =
      some (.exit 0, [(0, i64s l), (4, .box [.v (.int .u64 a'), .v (.int .u64 b')]), (5, .box [.v (.int .u64 c'), .v (.int .u64 d')]), (6, .v (.int .i64 l.length))]) ∧
      0 ≤ a' ∧ a' < 18446744073709551616 ∧ 0 ≤ b' ∧ b' < 18446744073709551616 ∧ 0 ≤ c' ∧ c' ≤ l.length ∧ 0 ≤ d' ∧ d' ≤ l.length ∧
      c' * 18446744073709551616 + a' = c * 18446744073709551616 + a + pos (l.drop k) ∧ d' * 18446744073709551616 + b' = d * 18446744073709551616 + b + neg (l.drop k) := by
  intro n
  induction n with
  | zero =>
    intro k a b c d hn hk a1 a2 b1 b2 c1 c2 d1 d2
    obtain rfl : k = l.length := by omega
    refine ⟨a, b, c, d, ?_, a1, a2, b1, b2, c1, c2, d1, d2, by simp [pos], by simp [neg]⟩
    rw [ex0_thicketref04_Sum]
    simp [i64s, w0_thicketref04_Sum]
  | succ n ih =>
    intro k a b c d hn hk a1 a2 b1 b2 c1 c2 d1 d2
    have hlt : k < l.length := by omega
    obtain ⟨v, hlv⟩ : ∃ v, l[k] = v := ⟨_, rfl⟩
    have hd : l.drop k = v :: l.drop (k + 1) := by rw [List.drop_eq_getElem_cons hlt, hlv]
    obtain ⟨v1, v2⟩ : In64 v := hv v (by rw [← hlv]; exact List.getElem_mem hlt)
    have hkw : IntKind.i64.wrap ((k : Int) + 1) = (k : Int) + 1 := by rw [wrap_i64] <;> omega
    have hks : ((k + 1 : Nat) : Int) = (k : Int) + 1 := Int.natCast_succ k
    rw [ex0_thicketref04_Sum]
    have hca := c_amount v
    rw [hd]
    simp only [pos, neg]
    by_cases hn : v < 0
    · have hca' : Cinf T n_thicketref04_amount [.v (.int .i64 v)] = some (.v (.int .u64 (-v)), [.dead]) := by
        rw [hca, if_pos hn, wrap_u64_neg (v := v) (by omega) hn]
        by_cases h0 : v = -9223372036854775808
        · subst h0; rfl
        · rw [wrap_u64_neg (by omega) (by omega)]
          congr 4
          omega
      simp only [if_pos hn]
      rcases Int.lt_or_le (b + -v) 18446744073709551616 with hb | hb
      · have e1 : IntKind.u64.wrap (b + -v) = b + -v := wrap_u64 (by omega) (by omega)
        have e2 : ¬ b + -v < -v := by omega
        obtain ⟨a', b', c', d', k0, k1⟩ := ih (k + 1) a (b + -v) c d (by omega) (by omega) a1 a2 (by omega) (by omega) c1 (by omega) d1 (by omega)
        refine ⟨a', b', c', d', ?_, by omega⟩
        simp only [i64s, hks] at k0 ⊢
        simp [w0_thicketref04_Sum, j2_thicketref04_Sum, j1_thicketref04_Sum, j0_thicketref04_Sum, hlt, hlv, hkw, hn, hca', e1, e2, k0]
      · have e1 : IntKind.u64.wrap (b + -v) = b + -v - 18446744073709551616 := by
          simp only [IntKind.wrap, IntKind.signed, IntKind.bits]
          simp
          omega
        have e2 : b + -v - 18446744073709551616 < -v := by omega
        have e3 : IntKind.u64.wrap (d + 1) = d + 1 := wrap_u64 (by omega) (by omega)
        obtain ⟨a', b', c', d', k0, k1⟩ := ih (k + 1) a (b + -v - 18446744073709551616) c (d + 1) (by omega) (by omega) a1 a2 (by omega) (by omega) c1 (by omega) (by omega) (by omega)
        refine ⟨a', b', c', d', ?_, by omega⟩
        simp only [i64s, hks] at k0 ⊢
        simp [w0_thicketref04_Sum, j2_thicketref04_Sum, j1_thicketref04_Sum, j0_thicketref04_Sum, hlt, hlv, hkw, hn, hca', e1, e2, e3, k0]
    · have hca' : Cinf T n_thicketref04_amount [.v (.int .i64 v)] = some (.v (.int .u64 v), [.dead]) := by
        rw [hca, if_neg hn, wrap_u64 (v := v) (by omega) (by omega)]
      have hn' : 0 ≤ v := by omega
      simp only [if_neg hn]
      rcases Int.lt_or_le (a + v) 18446744073709551616 with hb | hb
      · have e1 : IntKind.u64.wrap (a + v) = a + v := wrap_u64 (by omega) (by omega)
        have e2 : ¬ a + v < v := by omega
        obtain ⟨a', b', c', d', k0, k1⟩ := ih (k + 1) (a + v) b c d (by omega) (by omega) (by omega) (by omega) b1 b2 c1 (by omega) d1 (by omega)
        refine ⟨a', b', c', d', ?_, by omega⟩
        simp only [i64s, hks] at k0 ⊢
        simp [w0_thicketref04_Sum, j2_thicketref04_Sum, j1_thicketref04_Sum, j0_thicketref04_Sum, hlt, hlv, hkw, hn, hca', e1, e2, k0]
      · have e1 : IntKind.u64.wrap (a + v) = a + v - 18446744073709551616 := by
          simp only [IntKind.wrap, IntKind.signed, IntKind.bits]
          simp
          omega
        have e2 : a + v - 18446744073709551616 < v := by omega
        have e3 : IntKind.u64.wrap (c + 1) = c + 1 := wrap_u64 (by omega) (by omega)
        obtain ⟨a', b', c', d', k0, k1⟩ := ih (k + 1) (a + v - 18446744073709551616) b (c + 1) d (by omega) (by omega) (by omega) (by omega) b1 b2 (by omega) (by omega) d1 (by omega)
        refine ⟨a', b', c', d', ?_, by omega⟩
        simp only [i64s, hks] at k0 ⊢
        simp [w0_thicketref04_Sum, j2_thicketref04_Sum, j1_thicketref04_Sum, j0_thicketref04_Sum, hlt, hlv, hkw, hn, hca', e1, e2, e3, k0]
end Go.AM.F
