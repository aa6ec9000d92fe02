/- The document's division, bit by bit. No conditions. -/
import Derived.Test.YtlokekpiajholaaDoorL25
namespace Go.AM.F
open Go Go.AM
set_option maxRecDepth 10000
set_option linter.unusedSimpArgs false
theorem shl1_32 {x e : Nat} (h : 2 * x % 4294967296 = e) : binInt .shl .u32 x 1 = some (.int .u32 (e : Nat)) := by
  have h2 : IntKind.u32.wrap ((x : Int) * 2) = (e : Int) := by rw [show (x : Int) * 2 = ((2 * x : Nat) : Int) by omega, mod_u32, h]
  rw [binInt_shl, if_neg (by decide), show (2 : Int) ^ min (1 : Int).toNat IntKind.u32.bits = 2 from rfl, h2]
theorem or_even {x c : Nat} (hx : x % 2 = 0) (hc : c ≤ 1) : x ||| c = x + c := by
  obtain ⟨y, rfl⟩ : ∃ y, x = y * 2 ^ 1 := ⟨x / 2, by omega⟩
  rw [Nat.or_comm, or_low (by omega)]
  omega
theorem double_step {A o P c b x lo hi : Nat} (hv : o + P * c = 2 * A + b) (h : lo + 4294967296 * hi = 2 * x + c) : o + P * lo + P * 4294967296 * hi = 2 * (A + P * x) + b := by
  have e1 : P * lo + P * (4294967296 * hi) = P * (2 * x) + P * c := by rw [← Nat.mul_add, ← Nat.mul_add, h]
  rw [Nat.mul_assoc, Nat.mul_add 2, Nat.mul_left_comm 2 P]
  omega
/-- A bit's word, and what it is worth. -/
theorem bit_word {q : List Nat} (hq : Lim q) {k Q : Nat} (hk : k / 32 < q.length) (hv : val q = 2 ^ (k + 1) * Q) {w : Nat} (hw : q[k / 32] = w) : w ||| 2 ^ (k % 32) = w + 2 ^ (k % 32) ∧ w + 2 ^ (k % 32) < 4294967296 := by
  have h1 := val_drop hq (k / 32)
  rw [val_drop_cons hk, hw, hv] at h1
  have h2 : 2 ^ (k + 1) * Q = 4294967296 ^ (k / 32) * (2 ^ (k % 32 + 1) * Q) := by
    rw [Nat.pow_succ, pow_split k, Nat.pow_succ]
    simp only [Nat.mul_assoc]
  rw [h2, Nat.mul_div_cancel_left _ (Nat.pow_pos (by decide))] at h1
  have hwl : w < 4294967296 := by rw [← hw]; exact hq.get _
  have hr : k % 32 < 32 := Nat.mod_lt _ (by decide)
  have hP := pow_half hr
  obtain ⟨c, hc⟩ : ∃ c, 2 ^ (32 - (k % 32 + 1)) = c := ⟨_, rfl⟩
  have hP2 : 2 ^ (k % 32 + 1) * c = 4294967296 := by rw [← hc, ← Nat.pow_add, show k % 32 + 1 + (32 - (k % 32 + 1)) = 32 by omega]
  obtain ⟨x, hx⟩ : ∃ x, w = x * 2 ^ (k % 32 + 1) := by
    have h3 : 2 ^ (k % 32 + 1) ∣ w + 4294967296 * val (q.drop (k / 32 + 1)) := ⟨_, h1⟩
    have h4 : 2 ^ (k % 32 + 1) ∣ 4294967296 * val (q.drop (k / 32 + 1)) := by rw [← hP2, Nat.mul_assoc]; exact Nat.dvd_mul_right _ _
    obtain ⟨x, hx⟩ := (Nat.dvd_add_iff_left h4).2 h3
    exact ⟨x, by rw [hx, Nat.mul_comm]⟩
  have hlow := or_low (c := 2 ^ (k % 32)) (x := x) (r := k % 32 + 1) (by rw [Nat.pow_succ]; have := Nat.two_pow_pos (k % 32); omega)
  refine ⟨by rw [Nat.or_comm, hx, hlow, Nat.add_comm], ?_⟩
  rw [hx] at hwl ⊢
  have h5 : x * 2 ^ (k % 32 + 1) < c * 2 ^ (k % 32 + 1) := by rw [Nat.mul_comm c, hP2]; exact hwl
  have h6 := Nat.lt_of_mul_lt_mul_right h5
  have h7 : (x + 1) * 2 ^ (k % 32 + 1) ≤ c * 2 ^ (k % 32 + 1) := Nat.mul_le_mul_right _ h6
  rw [Nat.mul_comm c, hP2, Nat.add_mul, Nat.one_mul] at h7
  have h8 : 2 ^ (k % 32) < 2 ^ (k % 32 + 1) := by rw [Nat.pow_succ]; have := Nat.two_pow_pos (k % 32); omega
  omega
end Go.AM.F
