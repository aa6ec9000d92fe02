/- Every Quote. No conditions. -/
import Derived.Test.YtfnhfjpoeacoaaaDoorS11
namespace Go.AM.F
open Go Go.AM
set_option maxRecDepth 10000
set_option linter.unusedSimpArgs false
attribute [local simp] j0_scan_Quote j1_scan_Quote w0_scan_Quote j2_scan_Quote b_scan_Quote a_scan_Quote
def hexd (n : Nat) : Nat := (([48, 49, 50, 51, 52, 53, 54, 55, 56, 57, 97, 98, 99, 100, 101, 102] : List UInt8)[n]?.getD 0).toNat
theorem hexd_opt (n : Nat) : (([48, 49, 50, 51, 52, 53, 54, 55, 56, 57, 97, 98, 99, 100, 101, 102] : List UInt8)[n]?.getD 0).toNat = hexd n := rfl
theorem hexd_get (n : Nat) (h : n < ([48, 49, 50, 51, 52, 53, 54, 55, 56, 57, 97, 98, 99, 100, 101, 102] : List UInt8).length) : (([48, 49, 50, 51, 52, 53, 54, 55, 56, 57, 97, 98, 99, 100, 101, 102] : List UInt8)[n]'h).toNat = hexd n := by
  unfold hexd
  rw [List.getElem?_eq_getElem h]
  rfl
theorem size16 : ByteArray.size ⟨#[48, 49, 50, 51, 52, 53, 54, 55, 56, 57, 97, 98, 99, 100, 101, 102]⟩ = 16 := rfl
theorem shr4 : ∀ c < 256, ((c : Nat) : Int).fdiv (2 ^ min (4 : Int).toNat IntKind.u8.bits) = ((c / 16 : Nat) : Int) := by decide +kernel
theorem low4 : ∀ c < 256, IntKind.u8.wrap (BitVec.ofInt IntKind.u8.bits ((c : Nat) : Int) &&& BitVec.ofInt IntKind.u8.bits 15).toNat = ((c % 16 : Nat) : Int) := by decide +kernel
/-- How a byte is written in a quoted text. -/
def qbyte (c : Nat) : List Nat :=
  if c = 34 ∨ c = 92 then [92, c] else if c = 10 then [92, 110] else if c = 9 then [92, 116]
  else if c < 32 ∨ c = 127 then [92, 120, hexd (c / 16), hexd (c % 16)] else [c]
theorem qbyte_len (c : Nat) : (qbyte c).length ≤ 4 := by
  unfold qbyte
  split
  · simp
  · split
    · simp
    · split
      · simp
      · split <;> simp
def quoteL (s : ByteArray) : Nat → Nat → List Nat → List Nat
  | 0, _, acc => acc
  | n + 1, k, acc => quoteL s n (k + 1) (acc ++ qbyte (ch s k))
def quoteOf (s : ByteArray) : ByteArray := bytesOf (quoteL s s.size 0 [34] ++ [34])
@[simp] theorem bl_app (a b : List Nat) : bl (a ++ b) = bl a ++ bl b := by simp [bl]
theorem quote_loop (s : ByteArray) (hs : s.size ≤ 67108864) : ∀ (n k : Nat) (acc : List Nat), s.size - k = n → k ≤ s.size → acc.length ≤ 4 * k + 1 →
    Exec T l0_scan_Quote [(0, .v (.string s)), (3, .own 1 (bl acc)), (6, .dead), (8, .v (.int .i64 s.size)), (9, .v (.int .i64 k)), (18, .dead), (29, .dead), (35, .dead), (41, .dead), (57, .dead)] = some (.exit 0, [(0, .v (.string s)), (3, .own 1 (bl (quoteL s n k acc))), (6, .dead), (8, .v (.int .i64 s.size)), (9, .v (.int .i64 s.size)), (18, .dead), (29, .dead), (35, .dead), (41, .dead), (57, .dead)]) := by
  intro n
  induction n with
  | zero =>
    intro k acc hn hk ha
    obtain rfl : k = s.size := by omega
    rw [ex0_scan_Quote]
    simp [quoteL]
  | succ n ih =>
    intro k acc hn hk ha
    have hlt : k < s.size := by omega
    have hw := wrap_succ hlt (by omega)
    have hlen := qbyte_len (ch s k)
    have h0 := ih (k + 1) (acc ++ qbyte (ch s k)) (by omega) (by omega) (by simp; omega)
    have hsm := ch_small s k
    rw [succ_cast] at h0
    rw [ex0_scan_Quote]
    simp only [quoteL]
    obtain ⟨c, hcc⟩ : ∃ c, ch s k = c := ⟨_, rfl⟩
    rw [hcc] at h0 hsm ⊢
    have e1 : acc.length + 1 ≤ 140737488355328 := by omega
    have e2 : acc.length + 2 ≤ 140737488355328 := by omega
    have e3 : acc.length ≤ 140737488355324 := by omega
    have e4 : acc.length ≤ 4611686018427387900 := by omega
    have e5 : acc.length ≤ 140737488355326 := by omega
    have e6 : acc.length ≤ 4611686018427387902 := by omega
    have e7 : acc.length ≤ 140737488355327 := by omega
    have e8 : acc.length ≤ 4611686018427387903 := by omega
    rw [← h0]
    unfold qbyte
    by_cases h1 : c = 34 ∨ c = 92
    · rw [if_pos h1]
      by_cases h2 : c = 34
      · simp [hlt, ch_eq, hcc, eq_true h2, hw, bl, e5, e6]
      · simp [hlt, ch_eq, hcc, eq_false h2, eq_true (h1.resolve_left h2), hw, bl, e5, e6]
    rw [if_neg h1]
    have h1a : ¬ c = 34 := fun h => h1 (.inl h)
    have h1b : ¬ c = 92 := fun h => h1 (.inr h)
    by_cases h2 : c = 10
    · rw [if_pos h2]
      simp [hlt, ch_eq, hcc, eq_false h1a, eq_false h1b, eq_true h2, hw, bl, e5, e6]
    rw [if_neg h2]
    by_cases h3 : c = 9
    · rw [if_pos h3]
      simp [hlt, ch_eq, hcc, eq_false h1a, eq_false h1b, eq_false h2, eq_true h3, hw, bl, e5, e6]
    rw [if_neg h3]
    by_cases h4 : c < 32 ∨ c = 127
    · rw [if_pos h4]
      have g1 := shr4 c hsm
      have g2 := low4 c hsm
      obtain ⟨a, ha⟩ : ∃ a, c / 16 = a := ⟨_, rfl⟩
      obtain ⟨b, hb⟩ : ∃ b, c % 16 = b := ⟨_, rfl⟩
      have g3 : a < 16 := by omega
      have g4 : b < 16 := by omega
      rw [ha] at g1
      rw [hb] at g2
      rw [ha, hb]
      simp at g1 g2
      by_cases h5 : c < 32
      · simp [hlt, ch_eq, hcc, eq_false h1a, eq_false h1b, eq_false h2, eq_false h3, eq_true h5, hw, bl, hexd_opt, hexd_get, size16, e3, e4, g1, g2, g3, g4]
      · simp [hlt, ch_eq, hcc, eq_false h1a, eq_false h1b, eq_false h2, eq_false h3, eq_false h5, eq_true (h4.resolve_left h5), hw, bl, hexd_opt, hexd_get, size16, e3, e4, g1, g2, g3, g4]
    · rw [if_neg h4]
      have h5 : ¬ c < 32 := fun h => h4 (.inl h)
      have h6 : ¬ c = 127 := fun h => h4 (.inr h)
      simp [hlt, ch_eq, hcc, eq_false h1a, eq_false h1b, eq_false h2, eq_false h3, eq_false h5, eq_false h6, hw, bl, e7, e8]
theorem quoteL_len (s : ByteArray) : ∀ (n k : Nat) (acc : List Nat), (quoteL s n k acc).length ≤ acc.length + 4 * n
  | 0, k, acc => Nat.le_refl _
  | n + 1, k, acc => by
    have h1 := quoteL_len s n (k + 1) (acc ++ qbyte (ch s k))
    have h2 := qbyte_len (ch s k)
    simp only [quoteL]
    simp only [List.length_append] at h1
    omega
theorem c_Quote (s : ByteArray) (hs : s.size ≤ 67108864) : Cinf T n_scan_Quote [.v (.string s)] = some (.v (.string (quoteOf s)), [.dead]) := by
  have h0 := quote_loop s hs s.size 0 [34] rfl (Nat.zero_le _) (by simp)
  have hl := quoteL_len s s.size 0 [34]
  simp only [Int.natCast_zero] at h0
  unfold quoteOf
  generalize quoteL s s.size 0 [34] = l at h0 hl ⊢
  have e7 : l.length ≤ 140737488355327 := by simp at hl; omega
  have e8 : l.length ≤ 4611686018427387903 := by omega
  have hb := bl_bytes (l ++ [34])
  simp [bl, -bl_bytes] at h0 hb
  rw [run_scan_Quote]
  simp [Run, h0, e7, e8, hb, bytesOf]
end Go.AM.F
