/- Every Quote, as the document has it. No conditions. -/
import Derived.Test.YtfnhfjpoeacoaaaDoorS12
namespace Go.AM.F
open Go Go.AM
set_option maxRecDepth 10000
set_option linter.unusedSimpArgs false
attribute [local simp] j0_thicketref03_Quote j1_thicketref03_Quote w0_thicketref03_Quote j2_thicketref03_Quote b_thicketref03_Quote a_thicketref03_Quote

theorem quo16 : ∀ c < 256, IntKind.u8.wrap (((c : Nat) : Int).tdiv 16) = ((c / 16 : Nat) : Int) := by decide +kernel
theorem rem16 : ∀ c < 256, ((c : Nat) : Int).tmod 16 = ((c % 16 : Nat) : Int) := by decide +kernel
theorem rquote_loop (s : ByteArray) (hs : s.size ≤ 1048576) : ∀ (n k : Nat) (acc : List Nat), s.size - k = n → k ≤ s.size → acc.length ≤ 4 * k + 1 →
    Exec T l0_thicketref03_Quote [(0, .v (.string s)), (3, .own 1 (bl acc)), (4, .v (.int .i64 k)), (6, .dead), (19, .dead), (30, .dead), (36, .dead), (42, .dead), (58, .dead)] = some (.exit 0, [(0, .v (.string s)), (3, .own 1 (bl (quoteL s n k acc))), (4, .v (.int .i64 s.size)), (6, .dead), (19, .dead), (30, .dead), (36, .dead), (42, .dead), (58, .dead)]) := by
  intro n
  induction n with
  | zero =>
    intro k acc hn hk ha
    obtain rfl : k = s.size := by omega
    rw [ex0_thicketref03_Quote]
    simp [quoteL]
  | succ n ih =>
    intro k acc hn hk ha
    have hlt : k < s.size := by omega
    have hw := wrap_succ hlt (by omega)
    have hlen := qbyte_len (ch s k)
    have h0 := ih (k + 1) (acc ++ qbyte (ch s k)) (by omega) (by omega) (by simp; omega)
    have hsm := ch_small s k
    rw [succ_cast] at h0
    rw [ex0_thicketref03_Quote]
    simp only [quoteL]
    obtain ⟨c, hcc⟩ : ∃ c, ch s k = c := ⟨_, rfl⟩
    rw [hcc] at h0 hsm ⊢
    have e1 : acc.length + 1 ≤ 140737488355328 := by omega
    have e2 : acc.length + 2 ≤ 140737488355328 := by omega
    have e3 : acc.length ≤ 140737488355324 := by omega
    have e4 : acc.length ≤ 4611686018427387900 := by omega
    have e5 : acc.length ≤ 140737488355326 := by omega
    have e6 : acc.length ≤ 4611686018427387902 := by omega
    have e7 : acc.length ≤ 140737488355327 := by omega
    have e8 : acc.length ≤ 4611686018427387903 := by omega
    rw [← h0]
    unfold qbyte
    by_cases h1 : c = 34 ∨ c = 92
    · rw [if_pos h1]
      by_cases h2 : c = 34
      · simp [hlt, ch_eq, hcc, eq_true h2, hw, bl, e5, e6]
      · simp [hlt, ch_eq, hcc, eq_false h2, eq_true (h1.resolve_left h2), hw, bl, e5, e6]
    rw [if_neg h1]
    have h1a : ¬ c = 34 := fun h => h1 (.inl h)
    have h1b : ¬ c = 92 := fun h => h1 (.inr h)
    by_cases h2 : c = 10
    · rw [if_pos h2]
      simp [hlt, ch_eq, hcc, eq_false h1a, eq_false h1b, eq_true h2, hw, bl, e5, e6]
    rw [if_neg h2]
    by_cases h3 : c = 9
    · rw [if_pos h3]
      simp [hlt, ch_eq, hcc, eq_false h1a, eq_false h1b, eq_false h2, eq_true h3, hw, bl, e5, e6]
    rw [if_neg h3]
    by_cases h4 : c < 32 ∨ c = 127
    · rw [if_pos h4]
      have g1 := quo16 c hsm
      have g2 := rem16 c hsm
      obtain ⟨a, ha⟩ : ∃ a, c / 16 = a := ⟨_, rfl⟩
      obtain ⟨b, hb⟩ : ∃ b, c % 16 = b := ⟨_, rfl⟩
      have g3 : a < 16 := by omega
      have g4 : b < 16 := by omega
      rw [ha] at g1
      rw [hb] at g2
      rw [ha, hb]
      simp at g1 g2
      by_cases h5 : c < 32
      · simp [hlt, ch_eq, hcc, eq_false h1a, eq_false h1b, eq_false h2, eq_false h3, eq_true h5, hw, bl, hexd_opt, hexd_get, size16, e3, e4, g1, g2, g3, g4]
      · simp [hlt, ch_eq, hcc, eq_false h1a, eq_false h1b, eq_false h2, eq_false h3, eq_false h5, eq_true (h4.resolve_left h5), hw, bl, hexd_opt, hexd_get, size16, e3, e4, g1, g2, g3, g4]
    · rw [if_neg h4]
      have h5 : ¬ c < 32 := fun h => h4 (.inl h)
      have h6 : ¬ c = 127 := fun h => h4 (.inr h)
      simp [hlt, ch_eq, hcc, eq_false h1a, eq_false h1b, eq_false h2, eq_false h3, eq_false h5, eq_false h6, hw, bl, e7, e8]
theorem c_rQuote (s : ByteArray) (hs : s.size ≤ 1048576) : Cinf T n_thicketref03_Quote [.v (.string s)] = some (.v (.string (quoteOf s)), [.dead]) := by
  have h0 := rquote_loop s hs s.size 0 [34] rfl (Nat.zero_le _) (by simp)
  have hl := quoteL_len s s.size 0 [34]
  simp only [Int.natCast_zero] at h0
  unfold quoteOf
  generalize quoteL s s.size 0 [34] = l at h0 hl ⊢
  have e7 : l.length ≤ 140737488355327 := by simp at hl; omega
  have e8 : l.length ≤ 4611686018427387903 := by omega
  have hb := bl_bytes (l ++ [34])
  simp [bl, -bl_bytes] at h0 hb
  rw [run_thicketref03_Quote]
  simp [Run, h0, e7, e8, hb, bytesOf]
end Go.AM.F
