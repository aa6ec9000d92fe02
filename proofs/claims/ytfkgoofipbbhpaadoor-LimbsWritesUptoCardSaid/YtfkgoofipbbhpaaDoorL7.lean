/- Sums of naturals, as the document has them. No conditions. -/
import Derived.Test.YtfkgoofipbbhpaaDoorL6
namespace Go.AM.F
open Go Go.AM
set_option maxRecDepth 10000
set_option linter.unusedSimpArgs false
attribute [local simp] j0_thicketref01_Add j1_thicketref01_Add j2_thicketref01_Add j3_thicketref01_Add w0_thicketref01_Add j4_thicketref01_Add b_thicketref01_Add a_thicketref01_Add
theorem radd_loop (a b : List Nat) (ha : Fit a) (hb : Fit b) : ∀ (n k c : Nat) (out : List Nat), max a.length b.length + 1 - k ≤ n → k ≤ max a.length b.length + 1 → (k = max a.length b.length + 1 → c = 0) → c ≤ 1 → Lim out → out.length = k → val (a.take k) + val (b.take k) = val out + 4294967296 ^ k * c →
    ∃ (out' : List Nat) (k' : Nat), Exec T l0_thicketref01_Add [(0, .ro 1 (ul a)), (1, .ro 1 (ul b)), (5, .own 1 (ul out)), (6, .v (.int .u64 c)), (7, .v (.int .i64 k)), (51, .dead)] =
      some (.exit 0, [(0, .ro 1 (ul a)), (1, .ro 1 (ul b)), (5, .own 1 (ul out')), (6, .v (.int .u64 0)), (7, .v (.int .i64 k')), (51, .dead)]) ∧ Lim out' ∧ out'.length ≤ max a.length b.length + 1 ∧ val out' = val a + val b := by
  intro n
  induction n with
  | zero =>
    intro k c out hn hk hkc hc hl ho hv
    have hk2 : k = max a.length b.length + 1 := by omega
    have n1 : ¬ k < a.length := by omega
    have n2 : ¬ k < b.length := by omega
    obtain rfl := hkc hk2
    refine ⟨out, k, ?_, hl, by omega, ?_⟩
    · rw [ex0_thicketref01_Add]
      simp [n1, n2]
    · rw [List.take_of_length_le (by omega), List.take_of_length_le (by omega)] at hv
      omega
  | succ n ih =>
    intro k c out hn hk hkc hc hl ho hv
    have hal := ha.2
    have hbl := hb.2
    have hw : IntKind.i64.wrap ((k : Int) + 1) = (k : Int) + 1 := by rw [wrap_i64] <;> omega
    obtain ⟨x, hx⟩ : ∃ x, at0 a k = x := ⟨_, rfl⟩
    obtain ⟨y, hy⟩ : ∃ y, at0 b k = y := ⟨_, rfl⟩
    have hxl := at0_lt ha.1 k
    have hyl := at0_lt hb.1 k
    rw [hx] at hxl
    rw [hy] at hyl
    by_cases hend : ¬ k < a.length ∧ ¬ k < b.length ∧ c = 0
    · obtain ⟨n1, n2, rfl⟩ := hend
      refine ⟨out, k, ?_, hl, by omega, ?_⟩
      · rw [ex0_thicketref01_Add]
        simp [n1, n2]
      · rw [List.take_of_length_le (by omega), List.take_of_length_le (by omega)] at hv
        omega
    · obtain ⟨t, ht⟩ : ∃ t, t = c + x := ⟨_, rfl⟩
      obtain ⟨s, hs⟩ : ∃ s, s = t + y := ⟨_, rfl⟩
      have w0 := u64_nat (k := x) (by omega)
      have w1 : IntKind.u64.wrap ((c : Int) + x) = (t : Int) := by rw [wrap_u64] <;> omega
      have w2 := u64_nat (k := y) (by omega)
      have w3 : IntKind.u64.wrap ((t : Int) + y) = (s : Int) := by rw [wrap_u64] <;> omega
      obtain ⟨lo, hlo⟩ : ∃ lo, lo = s % 4294967296 := ⟨_, rfl⟩
      obtain ⟨hi, hhi⟩ : ∃ hi, hi = s / 4294967296 := ⟨_, rfl⟩
      have m1 := mask32 s (by omega)
      have m2 := shr32 s
      rw [← hlo] at m1
      rw [← hhi] at m2
      have m3 := u32_nat (k := lo) (by omega)
      simp at m1 m2
      have hv2 : val (a.take (k + 1)) + val (b.take (k + 1)) = val (out ++ [lo]) + 4294967296 ^ (k + 1) * hi := by
        rw [val_take_succ, val_take_succ, val_snoc, ho, hx, hy, hlo, hhi]
        have := carry_step (s := x + y) hv
        rw [show c + (x + y) = s by omega] at this
        rw [← this, Nat.mul_add]
        omega
      have hk3 : k + 1 ≤ max a.length b.length + 1 := by
        by_cases h : k = max a.length b.length + 1
        · have := hkc h
          exact absurd ⟨by omega, by omega, this⟩ hend
        · omega
      have hfin : k + 1 = max a.length b.length + 1 → hi = 0 := by
        intro h
        have q1 : x = 0 := by rw [← hx]; exact at0_out (by omega)
        have q2 : y = 0 := by rw [← hy]; exact at0_out (by omega)
        omega
      obtain ⟨out', k', h0, h4, h5, h6⟩ := ih (k + 1) hi (out ++ [lo]) (by omega) hk3 hfin (by omega) (hl.append (Lim.one (by omega))) (by simp [ho]) hv2
      refine ⟨out', k', ?_, h4, h5, h6⟩
      rw [succ_cast, ul_snoc] at h0
      rw [← h0]
      have e1 : k ≤ 35184372088831 := by omega
      have e2 : k ≤ 4611686018427387903 := by omega
      have e3 : (k + 1) * 4 ≤ 140737488355328 := by omega
      rw [ex0_thicketref01_Add]
      by_cases hka : k < a.length
      · have hxa : a[k] = x := by rw [← hx, at0_in hka]
        by_cases hkb : k < b.length
        · have hyb : b[k] = y := by rw [← hy, at0_in hkb]
          simp [hka, hxa, hkb, hyb, hw, w0, w1, w2, w3, m1, m2, m3, ho, e1, e2, e3]
        · have hyb : y = 0 := by rw [← hy, at0_out hkb]
          have hst : s = t := by omega
          rw [hst] at m1 m2
          simp [hka, hxa, hkb, hw, w0, w1, m1, m2, m3, ho, e1, e2, e3]
      · have hxa : x = 0 := by rw [← hx, at0_out hka]
        have htc : t = c := by omega
        rw [htc] at w3
        by_cases hkb : k < b.length
        · have hyb : b[k] = y := by rw [← hy, at0_in hkb]
          simp [hka, hkb, hyb, hw, w2, w3, m1, m2, m3, ho, e1, e2, e3]
        · have hyb : y = 0 := by rw [← hy, at0_out hkb]
          have hst : s = c := by omega
          rw [hst] at m1 m2
          have hc0 : 0 < c := by omega
          simp [hka, hkb, hc0, hw, m1, m2, m3, ho, e1, e2, e3]
theorem c_rAdd (a b : List Nat) (ha : Fit a) (hb : Fit b) (hs : max a.length b.length + 1 ≤ 1099511627776) : Cinf T n_thicketref01_Add [.ro 1 (ul a), .ro 1 (ul b)] = some (.own 1 (ul (limbs (val a + val b))), [.dead, .dead]) := by
  obtain ⟨out, k', h0, h1, h2, h3⟩ := radd_loop a b ha hb (max a.length b.length + 1) 0 0 [] (by omega) (by omega) (fun _ => rfl) (by omega) Lim.nil rfl (by simp [val])
  simp only [ul_nil, Int.natCast_zero] at h0
  have t := c_rNorm out ⟨h1, by omega⟩
  rw [h3] at t
  rw [run_thicketref01_Add]
  simp [Run, h0, t]
end Go.AM.F
