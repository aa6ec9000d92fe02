/- JSON: the program's reader: words, four hexadecimal digits, what is cut off, escapes. No conditions. -/
import Derived.Test.YtkcnnifgdhabgaaDoorK2
namespace Go.AM.F
open Go Go.AM
set_option maxRecDepth 10000
set_option linter.unusedSimpArgs false

/-- A word, letter by letter. -/
def pWord (s : ByteArray) (L : List UInt8) : Nat → Nat → Nat → PR Unit
  | 0, _, i => .ok i ()
  | m + 1, k, i => if i < L.length ∧ lt L i = ch s k then pWord s L m (k + 1) (i + 1) else .bad 100 i
def pWant (s : ByteArray) (L : List UInt8) (i : Nat) : PR Unit := pWord s L s.size 0 i
theorem pWord_le {s : ByteArray} {L : List UInt8} : ∀ {m k i j : Nat} {u : Unit}, i ≤ L.length → pWord s L m k i = .ok j u → j = i + m ∧ j ≤ L.length
  | 0, k, i, j, u, hi, h => by
    simp only [pWord] at h
    cases h
    exact ⟨rfl, hi⟩
  | m + 1, k, i, j, u, hi, h => by
    simp only [pWord] at h
    split at h
    · rename_i hc
      have := pWord_le (show i + 1 ≤ L.length by omega) h
      omega
    · cases h
attribute [local simp] j0_json_reader_want j1_json_reader_want j2_json_reader_want w0_json_reader_want b_json_reader_want a_json_reader_want
theorem want_loop (L : List UInt8) (s : ByteArray) (hl : L.length ≤ 16777216) (hs : s.size ≤ 16777216) : ∀ (m k i : Nat), s.size - k = m → k ≤ s.size → i ≤ L.length →
    match pWord s L m k i with
    | .ok j _ => Exec T l0_json_reader_want [(0, .ref 100000 []), (1, str s), (6, .v (.int .i64 s.size)), (7, .v (.int .i64 k)), (100000, rd L i)] = some (.exit 0, [(0, .ref 100000 []), (1, str s), (6, .v (.int .i64 s.size)), (7, .v (.int .i64 s.size)), (100000, rd L j)])
    | .bad w a => ∃ e', Exec T l0_json_reader_want [(0, .ref 100000 []), (1, str s), (6, .v (.int .i64 s.size)), (7, .v (.int .i64 k)), (100000, rd L i)] = some (.pan (wrong w a), e') := by
  intro m
  induction m with
  | zero =>
    intro k i hm hk hi
    obtain rfl : k = s.size := by omega
    simp only [pWord]
    rw [ex0_json_reader_want]
    simp
  | succ m ih =>
    intro k i hm hk hi
    have hlt : k < s.size := by omega
    have hw := wrap_succ hlt (by omega)
    have hb := c_byte L i
    simp only [rd_eq] at hb
    simp only [pWord]
    rw [ex0_json_reader_want]
    by_cases h1 : i < L.length
    · by_cases h2 : lt L i = ch s k
      · have h0 := ih (k + 1) (i + 1) (by omega) (by omega) (by omega)
        have hw2 := wrap_succ h1 (by omega)
        rw [if_pos ⟨h1, h2⟩]
        simp only [str_eq, rd_eq, succ_cast] at h0 ⊢
        split at h0
        · simpa [hlt, hb, h1, ch_eq, h2, hw, hw2] using h0
        · simpa [hlt, hb, h1, ch_eq, h2, hw, hw2] using h0
      · have hf := c_fail L i
        simp only [rd_eq] at hf
        rw [if_neg (fun h => h2 h.2)]
        have hne : ¬ ((lt L i : Int) = (ch s k : Int)) := by omega
        simp [hlt, hb, h1, ch_eq, hne, hf]
    · rw [if_neg (fun h => h1 h.1)]
      simp [hlt, hb, h1]
theorem c_want (L : List UInt8) (i : Nat) (s : ByteArray) (hi : i ≤ L.length) (hl : L.length ≤ 16777216) (hs : s.size ≤ 16777216) : Cinf T n_json_reader_want [rd L i, .v (.string s)] = res L 1 unitPV (pWant s L i) := by
  have h := want_loop L s hl hs s.size 0 i rfl (Nat.zero_le _) hi
  unfold pWant
  simp only [str_eq, rd_eq, Int.natCast_zero] at h
  split at h
  · rename_i j u he
    rw [he]
    simp [run_json_reader_want, Run, home, h]
  · rename_i w a he
    rw [he]
    obtain ⟨e', h⟩ := h
    simp [run_json_reader_want, Run, home, h]
/-- A hexadecimal digit. -/
def hexv (c : Nat) : Option Nat := if 48 ≤ c ∧ c ≤ 57 then some (c - 48) else if 97 ≤ c ∧ c ≤ 102 then some (c - 87) else if 65 ≤ c ∧ c ≤ 70 then some (c - 55) else none
theorem hexv_lt {c v : Nat} (h : hexv c = some v) : v < 16 := by
  unfold hexv at h
  split at h
  · cases h; omega
  · split at h
    · cases h; omega
    · split at h
      · cases h; omega
      · cases h
def pFour (L : List UInt8) : Nat → Nat → Nat → PR Nat
  | 0, v, i => .ok i v
  | m + 1, v, i => if i < L.length then (match hexv (lt L i) with | some h => pFour L m (16 * v + h) (i + 1) | none => .bad 100 i) else .bad 100 i
theorem pFour_le {L : List UInt8} : ∀ {m v i j u : Nat}, i ≤ L.length → pFour L m v i = .ok j u → j = i + m ∧ j ≤ L.length ∧ u < 16 ^ m * (v + 1)
  | 0, v, i, j, u, hi, h => by
    simp only [pFour] at h
    cases h
    exact ⟨rfl, hi, by simp⟩
  | m + 1, v, i, j, u, hi, h => by
    simp only [pFour] at h
    split at h
    · split at h
      · rename_i x hx
        have h1 := pFour_le (show i + 1 ≤ L.length by omega) h
        have h2 := hexv_lt hx
        refine ⟨by omega, h1.2.1, ?_⟩
        have h3 := h1.2.2
        have h4 : 16 ^ m * (16 * v + x + 1) ≤ 16 ^ m * (16 * (v + 1)) := Nat.mul_le_mul_left _ (by omega)
        have h5 : 16 ^ (m + 1) * (v + 1) = 16 ^ m * (16 * (v + 1)) := by rw [Nat.pow_succ, Nat.mul_assoc]
        omega
      · cases h
    · cases h
theorem wrap_i32 {v : Int} (h1 : -2147483648 ≤ v) (h2 : v < 2147483648) : IntKind.i32.wrap v = v := by
  simp only [IntKind.wrap, IntKind.signed, IntKind.bits]
  simp
  omega
attribute [local simp] j0_json_reader_four j1_json_reader_four j2_json_reader_four w0_json_reader_four j3_json_reader_four b_json_reader_four a_json_reader_four
theorem four_loop (L : List UInt8) (hl : L.length ≤ 16777216) : ∀ (m k v i : Nat), k + m = 4 → i ≤ L.length → v < 16 ^ k →
    match pFour L m v i with
    | .ok j u => Exec T l0_json_reader_four [(0, .ref 100000 []), (3, .v (.int .i32 v)), (5, .v (.int .i64 k)), (100000, rd L i)] = some (.exit 0, [(0, .ref 100000 []), (3, .v (.int .i32 u)), (5, .v (.int .i64 4)), (100000, rd L j)])
    | .bad w a => ∃ e', Exec T l0_json_reader_four [(0, .ref 100000 []), (3, .v (.int .i32 v)), (5, .v (.int .i64 k)), (100000, rd L i)] = some (.pan (wrong w a), e') := by
  intro m
  induction m with
  | zero =>
    intro k v i hm hi hv
    obtain rfl : k = 4 := by omega
    simp only [pFour]
    rw [ex0_json_reader_four]
    simp
  | succ m ih =>
    intro k v i hm hi hv
    have hlt : k < 4 := by omega
    have hw := wrap_succ hlt (by omega)
    have hb := c_byte L i
    simp only [rd_eq] at hb
    simp only [pFour]
    rw [ex0_json_reader_four]
    have hv2 : v < 4096 := by
      have : k = 0 ∨ k = 1 ∨ k = 2 ∨ k = 3 := by omega
      rcases this with rfl | rfl | rfl | rfl <;> simp at hv <;> omega
    have hsm := lt_small L i
    by_cases h1 : i < L.length
    · rw [if_pos h1]
      have hw2 := wrap_succ h1 (by omega)
      generalize hc : lt L i = c at hb hsm ⊢
      have m1 : IntKind.i32.wrap (16 * (v : Int)) = ((16 * v : Nat) : Int) := by rw [wrap_i32] <;> omega
      by_cases d1 : 48 ≤ c ∧ c ≤ 57
      · have hx : hexv c = some (c - 48) := by simp [hexv, d1]
        have h0 := ih (k + 1) (16 * v + (c - 48)) (i + 1) (by omega) (by omega) (by rw [Nat.pow_succ]; omega)
        have s1 : IntKind.u8.wrap ((c : Int) - 48) = ((c - 48 : Nat) : Int) := by rw [wrap_u8] <;> omega
        have s2 : IntKind.i32.wrap ((c - 48 : Nat) : Int) = ((c - 48 : Nat) : Int) := by rw [wrap_i32] <;> omega
        have s3 : IntKind.i32.wrap (((16 * v : Nat) : Int) + ((c - 48 : Nat) : Int)) = ((16 * v + (c - 48) : Nat) : Int) := by rw [wrap_i32] <;> omega
        rw [hx]
        simp only [rd_eq, succ_cast] at h0 ⊢
        split at h0
        · simpa [hlt, hb, h1, d1.1, d1.2, m1, s1, s2, s3, hw, hw2, -Int.natCast_add, -Int.natCast_mul] using h0
        · simpa [hlt, hb, h1, d1.1, d1.2, m1, s1, s2, s3, hw, hw2, -Int.natCast_add, -Int.natCast_mul] using h0
      by_cases d2 : 97 ≤ c ∧ c ≤ 102
      · have hx : hexv c = some (c - 87) := by simp [hexv, d1, d2]
        have h0 := ih (k + 1) (16 * v + (c - 87)) (i + 1) (by omega) (by omega) (by rw [Nat.pow_succ]; omega)
        have s1 : IntKind.u8.wrap ((c : Int) - 97) = ((c - 97 : Nat) : Int) := by rw [wrap_u8] <;> omega
        have s2 : IntKind.i32.wrap ((c - 97 : Nat) : Int) = ((c - 97 : Nat) : Int) := by rw [wrap_i32] <;> omega
        have s3 : IntKind.i32.wrap (((16 * v : Nat) : Int) + ((c - 97 : Nat) : Int)) = ((16 * v + (c - 97) : Nat) : Int) := by rw [wrap_i32] <;> omega
        have s4 : IntKind.i32.wrap (((16 * v + (c - 97) : Nat) : Int) + 10) = ((16 * v + (c - 87) : Nat) : Int) := by rw [wrap_i32] <;> omega
        have n1 : 48 ≤ c := by omega
        have n2 : ¬ c ≤ 57 := by omega
        rw [hx]
        simp only [rd_eq, succ_cast] at h0 ⊢
        split at h0
        · simpa [hlt, hb, h1, n1, n2, d2.1, d2.2, m1, s1, s2, s3, s4, hw, hw2, -Int.natCast_add, -Int.natCast_mul] using h0
        · simpa [hlt, hb, h1, n1, n2, d2.1, d2.2, m1, s1, s2, s3, s4, hw, hw2, -Int.natCast_add, -Int.natCast_mul] using h0
      by_cases d3 : 65 ≤ c ∧ c ≤ 70
      · have hx : hexv c = some (c - 55) := by simp [hexv, d1, d2, d3]
        have h0 := ih (k + 1) (16 * v + (c - 55)) (i + 1) (by omega) (by omega) (by rw [Nat.pow_succ]; omega)
        have s1 : IntKind.u8.wrap ((c : Int) - 65) = ((c - 65 : Nat) : Int) := by rw [wrap_u8] <;> omega
        have s2 : IntKind.i32.wrap ((c - 65 : Nat) : Int) = ((c - 65 : Nat) : Int) := by rw [wrap_i32] <;> omega
        have s3 : IntKind.i32.wrap (((16 * v : Nat) : Int) + ((c - 65 : Nat) : Int)) = ((16 * v + (c - 65) : Nat) : Int) := by rw [wrap_i32] <;> omega
        have s4 : IntKind.i32.wrap (((16 * v + (c - 65) : Nat) : Int) + 10) = ((16 * v + (c - 55) : Nat) : Int) := by rw [wrap_i32] <;> omega
        have n1 : 48 ≤ c := by omega
        have n2 : ¬ c ≤ 57 := by omega
        have n3 : ¬ 97 ≤ c := by omega
        rw [hx]
        simp only [rd_eq, succ_cast] at h0 ⊢
        split at h0
        · simpa [hlt, hb, h1, n1, n2, n3, d3.1, d3.2, m1, s1, s2, s3, s4, hw, hw2, -Int.natCast_add, -Int.natCast_mul] using h0
        · simpa [hlt, hb, h1, n1, n2, n3, d3.1, d3.2, m1, s1, s2, s3, s4, hw, hw2, -Int.natCast_add, -Int.natCast_mul] using h0
      · have hx : hexv c = none := by simp [hexv, d1, d2, d3]
        have hf := c_fail L i
        simp only [rd_eq] at hf
        have e1 : (decide (48 ≤ c) && decide (c ≤ 57)) = false := by simpa using d1
        have e2 : (decide (97 ≤ c) && decide (c ≤ 102)) = false := by simpa using d2
        have e3 : (decide (65 ≤ c) && decide (c ≤ 70)) = false := by simpa using d3
        rw [hx]
        by_cases f1 : 48 ≤ c <;> by_cases f2 : 97 ≤ c <;> by_cases f3 : 65 ≤ c <;>
          (simp only [f1, f2, f3, decide_true, decide_false, Bool.true_and, decide_eq_false_iff_not] at e1 e2 e3
           simp [hlt, hb, h1, f1, f2, f3, e1, e2, e3, hf])
    · rw [if_neg h1]
      simp [hlt, hb, h1]
theorem c_four (L : List UInt8) (i : Nat) (hi : i ≤ L.length) (hl : L.length ≤ 16777216) : Cinf T n_json_reader_four [rd L i] = res L 0 (fun (v : Nat) => .v (.int .i32 (v : Int))) (pFour L 4 0 i) := by
  have h := four_loop L hl 4 0 0 i rfl hi (by decide)
  simp only [rd_eq, Int.natCast_zero] at h
  split at h
  · rename_i j u he
    rw [he]
    simp [run_json_reader_four, Run, home, h]
  · rename_i w a he
    rw [he]
    obtain ⟨e', h⟩ := h
    simp [run_json_reader_four, Run, home, h]
end Go.AM.F
