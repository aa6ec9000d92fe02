/- JSON: the program's reader: words, four hexadecimal digits, what is cut off, escapes. No conditions. -/
import Derived.Test.YtkcnnifgdhabgaaDoorK2
namespace Go.AM.F
open Go Go.AM
set_option maxRecDepth 10000
set_option linter.unusedSimpArgs false

/-- A word, letter by letter. -/
def pWord (s : ByteArray) (L : List UInt8) : Nat → Nat → Nat → PR Unit
  | 0, _, i => .ok i ()
  | m + 1, k, i => if i < L.length ∧ lt L i = ch s k then pWord s L m (k + 1) (i + 1) else .bad 100 i
def pWant (s : ByteArray) (L : List UInt8) (i : Nat) : PR Unit := pWord s L s.size 0 i
theorem pWord_le {s : ByteArray} {L : List UInt8} : ∀ {m k i j : Nat} {u : Unit}, i ≤ L.length → pWord s L m k i = .ok j u → j = i + m ∧ j ≤ L.length
  | 0, k, i, j, u, hi, h => by
    simp only [pWord] at h
    cases h
    exact ⟨rfl, hi⟩
  | m + 1, k, i, j, u, hi, h => by
    simp only [pWord] at h
    split at h
    · rename_i hc
      have := pWord_le (show i + 1 ≤ L.length by omega) h
      omega
    · cases h
/-- A hexadecimal digit. -/
def hexv (c : Nat) : Option Nat := if 48 ≤ c ∧ c ≤ 57 then some (c - 48) else if 97 ≤ c ∧ c ≤ 102 then some (c - 87) else if 65 ≤ c ∧ c ≤ 70 then some (c - 55) else none
theorem hexv_lt {c v : Nat} (h : hexv c = some v) : v < 16 := by
  unfold hexv at h
  split at h
  · cases h; omega
  · split at h
    · cases h; omega
    · split at h
      · cases h; omega
      · cases h
def pFour (L : List UInt8) : Nat → Nat → Nat → PR Nat
  | 0, v, i => .ok i v
  | m + 1, v, i => if i < L.length then (match hexv (lt L i) with | some h => pFour L m (16 * v + h) (i + 1) | none => .bad 100 i) else .bad 100 i
theorem pFour_le {L : List UInt8} : ∀ {m v i j u : Nat}, i ≤ L.length → pFour L m v i = .ok j u → j = i + m ∧ j ≤ L.length ∧ u < 16 ^ m * (v + 1)
  | 0, v, i, j, u, hi, h => by
    simp only [pFour] at h
    cases h
    exact ⟨rfl, hi, by simp⟩
  | m + 1, v, i, j, u, hi, h => by
    simp only [pFour] at h
    split at h
    · split at h
      · rename_i x hx
        have h1 := pFour_le (show i + 1 ≤ L.length by omega) h
        have h2 := hexv_lt hx
        refine ⟨by omega, h1.2.1, ?_⟩
        have h3 := h1.2.2
        have h4 : 16 ^ m * (16 * v + x + 1) ≤ 16 ^ m * (16 * (v + 1)) := Nat.mul_le_mul_left _ (by omega)
        have h5 : 16 ^ (m + 1) * (v + 1) = 16 ^ m * (16 * (v + 1)) := by rw [Nat.pow_succ, Nat.mul_assoc]
        omega
      · cases h
    · cases h
theorem wrap_i32 {v : Int} (h1 : -2147483648 ≤ v) (h2 : v < 2147483648) : IntKind.i32.wrap v = v := by
  simp only [IntKind.wrap, IntKind.signed, IntKind.bits]
  simp
  omega
end Go.AM.F
