/- Characters' widths, by the language and by the document. No conditions. -/
import Derived.Test.YtfnhfjpoeacoaaaDoorS15
namespace Go.AM.F
open Go Go.AM
set_option maxRecDepth 100000
set_option linter.unusedSimpArgs false

theorem get_ch (s : ByteArray) (j : Nat) : (s.get! j).toNat = ch s j := by
  unfold ch ByteArray.get!
  simp [Array.getElem!_eq_getD, Array.getD_eq_getD_getElem?]
  rfl
def c2 (s : ByteArray) (j : Nat) : Bool := decide (j < s.size) && ch s j / 64 == 2
/-- The width that the language's decoding tells. -/
def decW (s : ByteArray) (i : Nat) : Nat :=
  if ch s i < 128 then 1
  else if ch s i / 32 == 6 && c2 s (i + 1) then (if (ch s i % 32) * 64 + ch s (i + 1) % 64 ≥ 128 then 2 else 1)
  else if ch s i / 16 == 14 && c2 s (i + 1) && c2 s (i + 2) then (if (ch s i % 16) * 4096 + (ch s (i + 1) % 64) * 64 + ch s (i + 2) % 64 ≥ 2048 && Utf8.valid ((ch s i % 16) * 4096 + (ch s (i + 1) % 64) * 64 + ch s (i + 2) % 64 : Nat) then 3 else 1)
  else if ch s i / 8 == 30 && c2 s (i + 1) && c2 s (i + 2) && c2 s (i + 3) then (if (ch s i % 8) * 262144 + (ch s (i + 1) % 64) * 4096 + (ch s (i + 2) % 64) * 64 + ch s (i + 3) % 64 ≥ 65536 && Utf8.valid ((ch s i % 8) * 262144 + (ch s (i + 1) % 64) * 4096 + (ch s (i + 2) % 64) * 64 + ch s (i + 3) % 64 : Nat) then 4 else 1)
  else 1
theorem decode_w (s : ByteArray) (i : Nat) : (Utf8.decode s i).2 = decW s i := by
  have e : Utf8.decode s i = if ch s i < 128 then (ch s i, 1)
    else if (ch s i / 32 == 6 && c2 s (i + 1)) = true then (if (ch s i % 32) * 64 + ch s (i + 1) % 64 ≥ 128 then ((ch s i % 32) * 64 + ch s (i + 1) % 64, 2) else (Utf8.runeError, 1))
    else if (ch s i / 16 == 14 && c2 s (i + 1) && c2 s (i + 2)) = true then (if ((ch s i % 16) * 4096 + (ch s (i + 1) % 64) * 64 + ch s (i + 2) % 64 ≥ 2048 && Utf8.valid ((ch s i % 16) * 4096 + (ch s (i + 1) % 64) * 64 + ch s (i + 2) % 64 : Nat)) = true then ((ch s i % 16) * 4096 + (ch s (i + 1) % 64) * 64 + ch s (i + 2) % 64, 3) else (Utf8.runeError, 1))
    else if (ch s i / 8 == 30 && c2 s (i + 1) && c2 s (i + 2) && c2 s (i + 3)) = true then (if ((ch s i % 8) * 262144 + (ch s (i + 1) % 64) * 4096 + (ch s (i + 2) % 64) * 64 + ch s (i + 3) % 64 ≥ 65536 && Utf8.valid ((ch s i % 8) * 262144 + (ch s (i + 1) % 64) * 4096 + (ch s (i + 2) % 64) * 64 + ch s (i + 3) % 64 : Nat)) = true then ((ch s i % 8) * 262144 + (ch s (i + 1) % 64) * 4096 + (ch s (i + 2) % 64) * 64 + ch s (i + 3) % 64, 4) else (Utf8.runeError, 1))
    else (Utf8.runeError, 1) := by
    unfold c2
    rw [← get_ch s i, ← get_ch s (i + 1), ← get_ch s (i + 2), ← get_ch s (i + 3)]
    rfl
  rw [e]
  unfold decW
  by_cases h1 : ch s i < 128
  · rw [if_pos h1, if_pos h1]
  rw [if_neg h1, if_neg h1]
  by_cases h2 : (ch s i / 32 == 6 && c2 s (i + 1)) = true
  · rw [if_pos h2, if_pos h2]
    split <;> rfl
  rw [if_neg h2, if_neg h2]
  by_cases h3 : (ch s i / 16 == 14 && c2 s (i + 1) && c2 s (i + 2)) = true
  · rw [if_pos h3, if_pos h3]
    split <;> rfl
  rw [if_neg h3, if_neg h3]
  by_cases h4 : (ch s i / 8 == 30 && c2 s (i + 1) && c2 s (i + 2) && c2 s (i + 3)) = true
  · rw [if_pos h4, if_pos h4]
    split <;> rfl
  rw [if_neg h4, if_neg h4]
theorem valid_nat (n : Nat) : Utf8.valid (n : Int) = (decide (n < 55296) || decide (57344 ≤ n ∧ n ≤ 1114111)) := by
  unfold Utf8.valid
  rw [← Bool.decide_and, ← Bool.decide_and, ← Bool.decide_or, ← Bool.decide_or, decide_eq_decide]
  omega
theorem decW_wide (s : ByteArray) (i : Nat) : decW s i = if wideN s i = 0 then 1 else wideN s i := by
  have h0 := ch_small s i
  have h1 := ch_small s (i + 1)
  have h2 := ch_small s (i + 2)
  have h3 := ch_small s (i + 3)
  unfold decW wideN c2
  simp only [valid_nat]
  by_cases a : ch s i < 128
  · simp [a]
  simp only [if_neg a]
  by_cases b0 : ch s i < 194
  · have e1 : wideLen (ch s i) = 0 := by unfold wideLen; repeat' split
                                         all_goals omega
    simp only [e1, wideTail]
    have : ¬ ch s i / 16 = 14 := by omega
    have : ¬ ch s i / 8 = 30 := by omega
    by_cases c : ch s i / 32 = 6
    · simp [*]
      omega
    · simp [*]
  by_cases b1 : ch s i < 224
  · have e1 : wideLen (ch s i) = 2 := by unfold wideLen; repeat' split
                                         all_goals omega
    have e2 : wideLow (ch s i) = 128 := by unfold wideLow; repeat' split
                                           all_goals omega
    have e3 : wideHigh (ch s i) = 191 := by unfold wideHigh; repeat' split
                                            all_goals omega
    have : ¬ ch s i / 16 = 14 := by omega
    have : ¬ ch s i / 8 = 30 := by omega
    have : ch s i / 32 = 6 := by omega
    simp only [e1, e2, e3, wideTail]
    by_cases c : i + 1 < s.size
    · have : ¬ s.size < i + 2 := by omega
      by_cases d : ch s (i + 1) / 64 = 2
      · have : 128 ≤ ch s (i + 1) ∧ ch s (i + 1) ≤ 191 := by omega
        simp [*]
        omega
      · have : ¬ (128 ≤ ch s (i + 1) ∧ ch s (i + 1) ≤ 191) := by omega
        simp [*]
    · have : s.size < i + 2 := by omega
      simp [*]
  by_cases b2 : ch s i < 240
  · have e1 : wideLen (ch s i) = 3 := by unfold wideLen; repeat' split
                                         all_goals omega
    have : ¬ ch s i / 32 = 6 := by omega
    have : ¬ ch s i / 8 = 30 := by omega
    have : ch s i / 16 = 14 := by omega
    simp only [e1, wideTail]
    by_cases c : i + 2 < s.size
    · have : ¬ s.size < i + 3 := by omega
      have : i + 1 < s.size := by omega
      by_cases d : ch s (i + 1) / 64 = 2 ∧ ch s (i + 2) / 64 = 2
      · obtain ⟨d1, d2⟩ := d
        have : 128 ≤ ch s (i + 2) ∧ ch s (i + 2) ≤ 191 := by omega
        have key : (2048 ≤ (ch s i % 16) * 4096 + (ch s (i + 1) % 64) * 64 + ch s (i + 2) % 64 ∧ ((ch s i % 16) * 4096 + (ch s (i + 1) % 64) * 64 + ch s (i + 2) % 64 < 55296 ∨ 57344 ≤ (ch s i % 16) * 4096 + (ch s (i + 1) % 64) * 64 + ch s (i + 2) % 64 ∧ (ch s i % 16) * 4096 + (ch s (i + 1) % 64) * 64 + ch s (i + 2) % 64 ≤ 1114111)) ↔ wideLow (ch s i) ≤ ch s (i + 1) ∧ ch s (i + 1) ≤ wideHigh (ch s i) := by
          unfold wideLow wideHigh
          repeat' split
          all_goals omega
        by_cases k : wideLow (ch s i) ≤ ch s (i + 1) ∧ ch s (i + 1) ≤ wideHigh (ch s i)
        · have k' := key.2 k
          simp [*]
        · have k' := fun h => k (key.1 h)
          simp [*]
      · have hh : ¬ (128 ≤ ch s (i + 1) ∧ ch s (i + 1) ≤ 191 ∧ 128 ≤ ch s (i + 2) ∧ ch s (i + 2) ≤ 191) := by omega
        have low : ∀ x, wideLow x ≥ 128 := by
          intro x
          unfold wideLow
          repeat' split
          all_goals omega
        have high : ∀ x, wideHigh x ≤ 191 := by
          intro x
          unfold wideHigh
          repeat' split
          all_goals omega
        have l1 := low (ch s i)
        have l2 := high (ch s i)
        have lhs : ((ch s (i + 1) / 64 == 2) && (ch s (i + 2) / 64 == 2)) = false := by
          cases h : ((ch s (i + 1) / 64 == 2) && (ch s (i + 2) / 64 == 2)) with
          | false => rfl
          | true => exact absurd (by simpa using h) d
        have rhs : (decide (wideLow (ch s i) ≤ ch s (i + 1) ∧ ch s (i + 1) ≤ wideHigh (ch s i)) && (decide (128 ≤ ch s (i + 1 + 1) ∧ ch s (i + 1 + 1) ≤ 191) && true)) = false := by
          cases h : (decide (wideLow (ch s i) ≤ ch s (i + 1) ∧ ch s (i + 1) ≤ wideHigh (ch s i)) && (decide (128 ≤ ch s (i + 1 + 1) ∧ ch s (i + 1 + 1) ≤ 191) && true)) with
          | false => rfl
          | true =>
            refine absurd ?_ hh
            have h : (wideLow (ch s i) ≤ ch s (i + 1) ∧ ch s (i + 1) ≤ wideHigh (ch s i)) ∧ 128 ≤ ch s (i + 2) ∧ ch s (i + 2) ≤ 191 := by simpa using h
            omega
        simp only [rhs]
        have : (decide (i + 1 < s.size) && ch s (i + 1) / 64 == 2 && (decide (i + 2 < s.size) && ch s (i + 2) / 64 == 2)) = false := by
          have h5 : i + 1 < s.size := by omega
          simp only [decide_eq_true h5, decide_eq_true c, Bool.true_and]
          exact lhs
        rw [Bool.and_assoc, this]
        simp [*]
    · have : s.size < i + 3 := by omega
      simp [*]
  by_cases b3 : ch s i < 245
  · have e1 : wideLen (ch s i) = 4 := by unfold wideLen; repeat' split
                                         all_goals omega
    have : ¬ ch s i / 32 = 6 := by omega
    have : ch s i / 8 = 30 := by omega
    have : ¬ ch s i / 16 = 14 := by omega
    simp only [e1, wideTail]
    by_cases c : i + 3 < s.size
    · have : ¬ s.size < i + 4 := by omega
      have : i + 1 < s.size := by omega
      have : i + 2 < s.size := by omega
      by_cases d : ch s (i + 1) / 64 = 2 ∧ ch s (i + 2) / 64 = 2 ∧ ch s (i + 3) / 64 = 2
      · obtain ⟨d1, d2, d3⟩ := d
        have : 128 ≤ ch s (i + 2) ∧ ch s (i + 2) ≤ 191 := by omega
        have : 128 ≤ ch s (i + 3) ∧ ch s (i + 3) ≤ 191 := by omega
        have key : (65536 ≤ (ch s i % 8) * 262144 + (ch s (i + 1) % 64) * 4096 + (ch s (i + 2) % 64) * 64 + ch s (i + 3) % 64 ∧ ((ch s i % 8) * 262144 + (ch s (i + 1) % 64) * 4096 + (ch s (i + 2) % 64) * 64 + ch s (i + 3) % 64 < 55296 ∨ 57344 ≤ (ch s i % 8) * 262144 + (ch s (i + 1) % 64) * 4096 + (ch s (i + 2) % 64) * 64 + ch s (i + 3) % 64 ∧ (ch s i % 8) * 262144 + (ch s (i + 1) % 64) * 4096 + (ch s (i + 2) % 64) * 64 + ch s (i + 3) % 64 ≤ 1114111)) ↔ wideLow (ch s i) ≤ ch s (i + 1) ∧ ch s (i + 1) ≤ wideHigh (ch s i) := by
          unfold wideLow wideHigh
          repeat' split
          all_goals omega
        by_cases k : wideLow (ch s i) ≤ ch s (i + 1) ∧ ch s (i + 1) ≤ wideHigh (ch s i)
        · have k' := key.2 k
          simp [*]
        · have k' := fun h => k (key.1 h)
          simp [*]
      · have low : ∀ x, wideLow x ≥ 128 := by
          intro x
          unfold wideLow
          repeat' split
          all_goals omega
        have high : ∀ x, wideHigh x ≤ 191 := by
          intro x
          unfold wideHigh
          repeat' split
          all_goals omega
        have l1 := low (ch s i)
        have l2 := high (ch s i)
        have lhs : (ch s i / 8 == 30 && (decide (i + 1 < s.size) && ch s (i + 1) / 64 == 2) && (decide (i + 2 < s.size) && ch s (i + 2) / 64 == 2) && (decide (i + 3 < s.size) && ch s (i + 3) / 64 == 2)) = false := by
          cases h : (ch s i / 8 == 30 && (decide (i + 1 < s.size) && ch s (i + 1) / 64 == 2) && (decide (i + 2 < s.size) && ch s (i + 2) / 64 == 2) && (decide (i + 3 < s.size) && ch s (i + 3) / 64 == 2)) with
          | false => rfl
          | true =>
            refine absurd ?_ d
            simp only [Bool.and_eq_true, beq_iff_eq] at h
            exact ⟨h.1.1.2.2, h.1.2.2, h.2.2⟩
        have rhs : (decide (wideLow (ch s i) ≤ ch s (i + 1) ∧ ch s (i + 1) ≤ wideHigh (ch s i)) && (decide (128 ≤ ch s (i + 1 + 1) ∧ ch s (i + 1 + 1) ≤ 191) && (decide (128 ≤ ch s (i + 1 + 1 + 1) ∧ ch s (i + 1 + 1 + 1) ≤ 191) && true))) = false := by
          cases h : (decide (wideLow (ch s i) ≤ ch s (i + 1) ∧ ch s (i + 1) ≤ wideHigh (ch s i)) && (decide (128 ≤ ch s (i + 1 + 1) ∧ ch s (i + 1 + 1) ≤ 191) && (decide (128 ≤ ch s (i + 1 + 1 + 1) ∧ ch s (i + 1 + 1 + 1) ≤ 191) && true))) with
          | false => rfl
          | true =>
            refine absurd ?_ d
            simp only [Bool.and_eq_true, decide_eq_true_eq, and_true] at h
            obtain ⟨h1, h2, h3⟩ := h
            have h2 : 128 ≤ ch s (i + 2) ∧ ch s (i + 2) ≤ 191 := h2
            have h3 : 128 ≤ ch s (i + 3) ∧ ch s (i + 3) ≤ 191 := h3
            omega
        simp only [rhs, lhs]
        simp [*]
    · have : s.size < i + 4 := by omega
      simp [*]
  · have e1 : wideLen (ch s i) = 0 := by unfold wideLen; repeat' split
                                         all_goals omega
    have : ¬ ch s i / 32 = 6 := by omega
    have : ¬ ch s i / 16 = 14 := by omega
    simp only [e1, wideTail]
    by_cases c : ch s i / 8 = 30
    · have : 65536 ≤ (ch s i % 8) * 262144 + (ch s (i + 1) % 64) * 4096 + (ch s (i + 2) % 64) * 64 + ch s (i + 3) % 64 ∧ ¬ ((ch s i % 8) * 262144 + (ch s (i + 1) % 64) * 4096 + (ch s (i + 2) % 64) * 64 + ch s (i + 3) % 64 ≤ 1114111) := by omega
      have : ¬ ((ch s i % 8) * 262144 + (ch s (i + 1) % 64) * 4096 + (ch s (i + 2) % 64) * 64 + ch s (i + 3) % 64 < 55296) := by omega
      simp [*]
    · simp [*]
end Go.AM.F
