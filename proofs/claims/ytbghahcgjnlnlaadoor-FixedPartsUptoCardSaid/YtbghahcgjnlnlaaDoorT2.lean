import Derived.Test.YtbghahcgjnlnlaaDoorT1
namespace Go.AM.F
open Go Go.AM
set_option maxRecDepth 10000

def i64s (l : List Int) : PV := .ro 1 (l.map fun v => .v (.int .i64 v))
def sumStep (p : Int × Int) (v : Int) : Int × Int :=
  let t := p.2 + IntKind.u64.wrap v
  let h := IntKind.i64.wrap (p.1 + IntKind.i64.wrap (t / 18446744073709551616))
  (if v < 0 then IntKind.i64.wrap (h - 1) else h, t % 18446744073709551616)
theorem wrap_u64_nonneg (v : Int) : 0 ≤ IntKind.u64.wrap v ∧ IntKind.u64.wrap v < 18446744073709551616 := by
  simp only [IntKind.wrap, IntKind.signed, IntKind.bits]
  simp
  omega
theorem wrap_i64 {v : Int} (h1 : -9223372036854775808 ≤ v) (h2 : v < 9223372036854775808) : IntKind.i64.wrap v = v := by
  simp only [IntKind.wrap, IntKind.signed, IntKind.bits]
  simp
  omega
theorem sum_loop (l : List Int) (hl : l.length < 4611686018427387904) : ∀ (n k : Nat) (hi lo : Int), l.length - k = n → k ≤ l.length → 0 ≤ lo →
    Exec T l0_fixed_Sum [(0, i64s l), (4, .v (.int .i64 hi)), (5, .v (.int .u64 lo)), (10, i64s l), (11, .v (.int .i64 l.length)), (12, .v (.int .i64 k))] =
      some (.exit 0, [(0, i64s l), (4, .v (.int .i64 ((l.drop k).foldl sumStep (hi, lo)).1)), (5, .v (.int .u64 ((l.drop k).foldl sumStep (hi, lo)).2)), (10, i64s l), (11, .v (.int .i64 l.length)), (12, .v (.int .i64 l.length))]) := by
  intro n
  induction n with
  | zero =>
    intro k hi lo hn hk hlo
    obtain rfl : k = l.length := by omega
    rw [ex0_fixed_Sum]
    simp [i64s, w0_fixed_Sum]
  | succ n ih =>
    intro k hi lo hn hk hlo
    have hlt : k < l.length := by omega
    obtain ⟨v, hv⟩ : ∃ v, l[k] = v := ⟨_, rfl⟩
    rw [ex0_fixed_Sum]
    have hw := wrap_u64_nonneg v
    have hkw : IntKind.i64.wrap ((k : Int) + 1) = ((k + 1 : Nat) : Int) := by rw [wrap_i64] <;> omega
    have hd : l.drop k = v :: l.drop (k + 1) := by rw [List.drop_eq_getElem_cons hlt, hv]
    have h3 : ∀ h, 0 ≤ (lo + IntKind.u64.wrap v) % 18446744073709551616 → Exec T l0_fixed_Sum [(0, i64s l), (4, .v (.int .i64 h)), (5, .v (.int .u64 ((lo + IntKind.u64.wrap v) % 18446744073709551616))), (10, i64s l), (11, .v (.int .i64 l.length)), (12, .v (.int .i64 ((k : Int) + 1)))] = _ := fun h hp => ih (k + 1) h _ (by omega) (by omega) hp
    have hp : 0 ≤ (lo + IntKind.u64.wrap v) % 18446744073709551616 := by omega
    simp only [i64s] at h3 ⊢
    simp [w0_fixed_Sum, j0_fixed_Sum, j1_fixed_Sum, hlt, hv, hlo, hw.1, hkw]
    rw [h3 _ hp, h3 _ hp, hd]
    simp only [List.foldl_cons, sumStep]
    split <;> rfl
def sumOf (l : List Int) : Int × Int := l.foldl sumStep (0, 0)
theorem c_fixed_Sum (l : List Int) (hl : l.length < 4611686018427387904) : Cinf T n_fixed_Sum [i64s l] = some (if ((sumOf l).1 = 0 ∧ (sumOf l).2 < 9223372036854775808) ∨ ((sumOf l).1 = -1 ∧ 9223372036854775808 ≤ (sumOf l).2) then .tup [.v (.int .i64 (IntKind.i64.wrap (sumOf l).2)), .v (.int .i64 0)] else .tup [.v (.int .i64 0), .v (.int .i64 41)], [.dead]) := by
  have h := sum_loop l hl l.length 0 0 0 rfl (Nat.zero_le _) (Int.le_refl _)
  simp only [List.drop_zero, ← sumOf.eq_1, i64s, Int.natCast_zero] at h
  generalize (sumOf l).1 = hi at h ⊢
  generalize (sumOf l).2 = lo at h ⊢
  rcases Int.lt_or_le lo 9223372036854775808 with h2 | h2
  · have h4 := Int.not_le.2 h2
    by_cases h1 : hi = 0 <;> by_cases h3 : hi = -1 <;> simp [run_fixed_Sum, Run, a_fixed_Sum, b_fixed_Sum, j3_fixed_Sum, j2_fixed_Sum, i64s, h, h1, h2, h3, h4]
  · have h4 := Int.not_lt.2 h2
    by_cases h1 : hi = 0 <;> by_cases h3 : hi = -1 <;> simp [run_fixed_Sum, Run, a_fixed_Sum, b_fixed_Sum, j3_fixed_Sum, j2_fixed_Sum, i64s, h, h1, h2, h3, h4]
end Go.AM.F
