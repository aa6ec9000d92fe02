/- How wide a character is. No conditions. -/
import Derived.Test.YtfnhfjpoeacoaaaDoorS14
namespace Go.AM.F
open Go Go.AM
set_option maxRecDepth 10000
set_option linter.unusedSimpArgs false
attribute [local simp] j0_thicketref03_wide j1_thicketref03_wide j2_thicketref03_wide w0_thicketref03_wide j3_thicketref03_wide j4_thicketref03_wide j5_thicketref03_wide j6_thicketref03_wide b_thicketref03_wide a_thicketref03_wide

def wideLen (c : Nat) : Nat := if 194 ≤ c ∧ c ≤ 223 then 2 else if 224 ≤ c ∧ c ≤ 239 then 3 else if 240 ≤ c ∧ c ≤ 244 then 4 else 0
def wideLow (c : Nat) : Nat := if c = 224 then 160 else if c = 240 then 144 else 128
def wideHigh (c : Nat) : Nat := if c = 237 then 159 else if c = 244 then 143 else 191
/-- The bytes behind the first, from place j on. -/
def wideTail (s : ByteArray) : Nat → Nat → Nat → Nat → Bool
  | 0, _, _, _ => true
  | n + 1, j, lo, hi => decide (lo ≤ ch s j ∧ ch s j ≤ hi) && wideTail s n (j + 1) 128 191
def wideN (s : ByteArray) (i : Nat) : Nat :=
  if ch s i < 128 then 1
  else if s.size < i + wideLen (ch s i) then 0
  else if wideTail s (wideLen (ch s i) - 1) (i + 1) (wideLow (ch s i)) (wideHigh (ch s i)) = true then wideLen (ch s i) else 0
theorem wide_loop (s : ByteArray) (hs : s.size ≤ 1048576) (i m : Nat) (hi : i + m ≤ s.size) : ∀ (n k lo hi : Nat), m - k = n → 1 ≤ k → (1 ≤ m → k ≤ m) → (m = 0 → n = 0) →
    andThen (inBlock 2 (Exec T l0_thicketref03_wide [(0, .v (.string s)), (1, .v (.int .i64 i)), (6, .v (.int .i64 m)), (7, .v (.int .u8 lo)), (8, .v (.int .u8 hi)), (9, .v (.int .i64 k))])) (Exec T k3_thicketref03_wide) = some (.ret, [(4, .v (.int .i64 (if wideTail s n (i + k) lo hi = true then m else 0 : Nat)))]) := by
  intro n
  induction n with
  | zero =>
    intro k lo hi' hn h1 h2 h3
    rw [ex0_thicketref03_wide]
    have : ¬ k < m := by omega
    simp [wideTail, this]
  | succ n ih =>
    intro k lo hi' hn h1 h2 h3
    have hlt : k < m := by omega
    have hw := wrap_add (k := k) 1 (by omega)
    have hwi : IntKind.i64.wrap ((i : Int) + k) = ((i + k : Nat) : Int) := by rw [wrap_i64] <;> omega
    have h0 := ih (k + 1) 128 191 (by omega) (by omega) (by omega) (by omega)
    rw [succ_cast] at h0
    have hik : i + k < s.size := by omega
    rw [ex0_thicketref03_wide]
    simp only [wideTail]
    obtain ⟨j, hj⟩ : ∃ j, i + k = j := ⟨_, rfl⟩
    have hj1 : i + (k + 1) = j + 1 := by omega
    rw [hj] at hwi hik ⊢
    rw [hj1] at h0
    obtain ⟨c, hcc⟩ : ∃ c, ch s j = c := ⟨_, rfl⟩
    simp only [hcc]
    by_cases c1 : c < lo
    · have : ¬ lo ≤ c := by omega
      simp [hlt, hwi, hik, ch_eq, hcc, c1, this]
    · have c1' : lo ≤ c := by omega
      by_cases c2 : hi' < c
      · have : ¬ c ≤ hi' := by omega
        simp [hlt, hwi, hik, ch_eq, hcc, eq_false c1, c1', c2, this]
      · have c2' : c ≤ hi' := by omega
        simp [hlt, hwi, hik, ch_eq, hcc, eq_false c1, c1', eq_false c2, c2', hw]
        exact h0
theorem wideLen_le (c : Nat) : wideLen c ≤ 4 ∧ wideLen c ≠ 1 := by
  unfold wideLen
  repeat' split
  all_goals omega
theorem c_wide (s : ByteArray) (hs : s.size ≤ 1048576) (i : Nat) (hi : i < s.size) : Cinf T n_thicketref03_wide [.v (.string s), .v (.int .i64 i)] = some (.v (.int .i64 (wideN s i : Nat)), [.dead, .dead]) := by
  rw [run_thicketref03_wide]
  unfold wideN
  have tail : ∀ m lo hi' : Nat, m ≤ 4 → m ≠ 1 → Exec T j5_thicketref03_wide [(0, .v (.string s)), (1, .v (.int .i64 i)), (6, .v (.int .i64 m)), (7, .v (.int .u8 lo)), (8, .v (.int .u8 hi'))] = some (.ret, [(4, .v (.int .i64 (if s.size < i + m then 0 else if wideTail s (m - 1) (i + 1) lo hi' = true then m else 0 : Nat)))]) := by
    intro m lo hi' h4 h1
    have hw : IntKind.i64.wrap ((i : Int) + m) = ((i + m : Nat) : Int) := by rw [wrap_i64] <;> omega
    by_cases h : s.size < i + m
    · have h' : ¬ (i : Int) + m ≤ s.size := by omega
      have h'' : (s.size : Int) < (i : Int) + m := by omega
      simp [hw, h, h', h'']
    · have h' : (i : Int) + m ≤ s.size := by omega
      have h'' : ¬ (s.size : Int) < (i : Int) + m := by omega
      have h0 := wide_loop s hs i m (by omega) (m - 1) 1 lo hi' (by omega) (Nat.le_refl _) (by omega) (by omega)
      simp only [Int.natCast_one] at h0
      simp [-tl3_thicketref03_wide, hw, eq_false h, eq_false h'', h', h0]
  have tl : ∀ m lo hi' : Nat, m ≤ 4 → m ≠ 1 → Exec T k5_thicketref03_wide [(0, .v (.string s)), (1, .v (.int .i64 i)), (6, .v (.int .i64 m)), (7, .v (.int .u8 lo)), (8, .v (.int .u8 hi'))] = some (.ret, [(4, .v (.int .i64 (if s.size < i + m then 0 else if wideTail s (m - 1) (i + 1) lo hi' = true then m else 0 : Nat)))]) := by
    intro m lo hi' h4 h1
    rw [← tail m lo hi' h4 h1, tl5_thicketref03_wide]
    rfl
  clear tail
  by_cases h1 : ch s i < 128
  · simp [Run, hi, ch_eq, h1]
  obtain ⟨c, hcc⟩ : ∃ c, ch s i = c := ⟨_, rfl⟩
  simp only [hcc] at h1 ⊢
  unfold wideLen wideLow wideHigh
  have lit : ∀ n : Nat, ((OfNat.ofNat n : Nat) : Int) = OfNat.ofNat n := fun n => rfl
  have hsm := ch_small s i
  rw [hcc] at hsm
  by_cases a : 128 ≤ c ∧ c ≤ 193
  · have := tl 0 128 191 (by decide) (by decide)
    simp only [lit] at this
    simp [-tl5_thicketref03_wide, Run, hi, ch_eq, hcc, eq_false h1, eq_false (show ¬ c = 224 by omega), eq_false (show ¬ c = 237 by omega), eq_false (show ¬ c = 240 by omega), eq_false (show ¬ c = 244 by omega), eq_false (show ¬ 194 ≤ c by omega), eq_true (show c ≤ 223 by omega), eq_false (show ¬ 224 ≤ c by omega), eq_true (show c ≤ 239 by omega), eq_false (show ¬ 240 ≤ c by omega), eq_true (show c ≤ 244 by omega), this]
  by_cases a : 194 ≤ c ∧ c ≤ 223
  · have := tl 2 128 191 (by decide) (by decide)
    simp only [lit] at this
    simp [-tl5_thicketref03_wide, Run, hi, ch_eq, hcc, eq_false h1, eq_false (show ¬ c = 224 by omega), eq_false (show ¬ c = 237 by omega), eq_false (show ¬ c = 240 by omega), eq_false (show ¬ c = 244 by omega), eq_true (show 194 ≤ c by omega), eq_true (show c ≤ 223 by omega), eq_false (show ¬ 224 ≤ c by omega), eq_true (show c ≤ 239 by omega), eq_false (show ¬ 240 ≤ c by omega), eq_true (show c ≤ 244 by omega), this]
  by_cases a : c = 224
  · have := tl 3 160 191 (by decide) (by decide)
    simp only [lit] at this
    simp [-tl5_thicketref03_wide, Run, hi, ch_eq, hcc, eq_false h1, eq_true (show c = 224 by omega), eq_false (show ¬ c = 237 by omega), eq_false (show ¬ c = 240 by omega), eq_false (show ¬ c = 244 by omega), eq_true (show 194 ≤ c by omega), eq_false (show ¬ c ≤ 223 by omega), eq_true (show 224 ≤ c by omega), eq_true (show c ≤ 239 by omega), eq_false (show ¬ 240 ≤ c by omega), eq_true (show c ≤ 244 by omega), this]
  by_cases a : c = 237
  · have := tl 3 128 159 (by decide) (by decide)
    simp only [lit] at this
    simp [-tl5_thicketref03_wide, Run, hi, ch_eq, hcc, eq_false h1, eq_false (show ¬ c = 224 by omega), eq_true (show c = 237 by omega), eq_false (show ¬ c = 240 by omega), eq_false (show ¬ c = 244 by omega), eq_true (show 194 ≤ c by omega), eq_false (show ¬ c ≤ 223 by omega), eq_true (show 224 ≤ c by omega), eq_true (show c ≤ 239 by omega), eq_false (show ¬ 240 ≤ c by omega), eq_true (show c ≤ 244 by omega), this]
  by_cases a : 225 ≤ c ∧ c ≤ 239
  · have := tl 3 128 191 (by decide) (by decide)
    simp only [lit] at this
    simp [-tl5_thicketref03_wide, Run, hi, ch_eq, hcc, eq_false h1, eq_false (show ¬ c = 224 by omega), eq_false (show ¬ c = 237 by omega), eq_false (show ¬ c = 240 by omega), eq_false (show ¬ c = 244 by omega), eq_true (show 194 ≤ c by omega), eq_false (show ¬ c ≤ 223 by omega), eq_true (show 224 ≤ c by omega), eq_true (show c ≤ 239 by omega), eq_false (show ¬ 240 ≤ c by omega), eq_true (show c ≤ 244 by omega), this]
  by_cases a : c = 240
  · have := tl 4 144 191 (by decide) (by decide)
    simp only [lit] at this
    simp [-tl5_thicketref03_wide, Run, hi, ch_eq, hcc, eq_false h1, eq_false (show ¬ c = 224 by omega), eq_false (show ¬ c = 237 by omega), eq_true (show c = 240 by omega), eq_false (show ¬ c = 244 by omega), eq_true (show 194 ≤ c by omega), eq_false (show ¬ c ≤ 223 by omega), eq_true (show 224 ≤ c by omega), eq_false (show ¬ c ≤ 239 by omega), eq_true (show 240 ≤ c by omega), eq_true (show c ≤ 244 by omega), this]
  by_cases a : c = 244
  · have := tl 4 128 143 (by decide) (by decide)
    simp only [lit] at this
    simp [-tl5_thicketref03_wide, Run, hi, ch_eq, hcc, eq_false h1, eq_false (show ¬ c = 224 by omega), eq_false (show ¬ c = 237 by omega), eq_false (show ¬ c = 240 by omega), eq_true (show c = 244 by omega), eq_true (show 194 ≤ c by omega), eq_false (show ¬ c ≤ 223 by omega), eq_true (show 224 ≤ c by omega), eq_false (show ¬ c ≤ 239 by omega), eq_true (show 240 ≤ c by omega), eq_true (show c ≤ 244 by omega), this]
  by_cases a : 241 ≤ c ∧ c ≤ 243
  · have := tl 4 128 191 (by decide) (by decide)
    simp only [lit] at this
    simp [-tl5_thicketref03_wide, Run, hi, ch_eq, hcc, eq_false h1, eq_false (show ¬ c = 224 by omega), eq_false (show ¬ c = 237 by omega), eq_false (show ¬ c = 240 by omega), eq_false (show ¬ c = 244 by omega), eq_true (show 194 ≤ c by omega), eq_false (show ¬ c ≤ 223 by omega), eq_true (show 224 ≤ c by omega), eq_false (show ¬ c ≤ 239 by omega), eq_true (show 240 ≤ c by omega), eq_true (show c ≤ 244 by omega), this]
  by_cases a : 245 ≤ c ∧ c ≤ 255
  · have := tl 0 128 191 (by decide) (by decide)
    simp only [lit] at this
    simp [-tl5_thicketref03_wide, Run, hi, ch_eq, hcc, eq_false h1, eq_false (show ¬ c = 224 by omega), eq_false (show ¬ c = 237 by omega), eq_false (show ¬ c = 240 by omega), eq_false (show ¬ c = 244 by omega), eq_true (show 194 ≤ c by omega), eq_false (show ¬ c ≤ 223 by omega), eq_true (show 224 ≤ c by omega), eq_false (show ¬ c ≤ 239 by omega), eq_true (show 240 ≤ c by omega), eq_false (show ¬ c ≤ 244 by omega), this]
  omega
end Go.AM.F
