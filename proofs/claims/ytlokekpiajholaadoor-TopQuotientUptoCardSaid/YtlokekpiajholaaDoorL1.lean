/- Naturals as lists of limbs. No conditions. -/
import Derived.Test.YtlokekpiajholaaDoorIr
import Derived.Test.YtlokekpiajholaaDoorAmNum
namespace Go.AM.F
open Go Go.AM
set_option maxRecDepth 10000

def val : List Nat → Nat
  | [] => 0
  | x :: r => x + 4294967296 * val r
def Lim (l : List Nat) : Prop := ∀ x ∈ l, x < 4294967296
def limbs (n : Nat) : List Nat := if h : n = 0 then [] else n % 4294967296 :: limbs (n / 4294967296)
termination_by n
decreasing_by omega
theorem limbs_zero : limbs 0 = [] := by rw [limbs]; simp
theorem limbs_pos {n : Nat} (h : n ≠ 0) : limbs n = n % 4294967296 :: limbs (n / 4294967296) := by rw [limbs]; simp [h]
theorem Lim.tail {x : Nat} {r : List Nat} (h : Lim (x :: r)) : Lim r := fun y hy => h y (by simp [hy])
theorem Lim.head {x : Nat} {r : List Nat} (h : Lim (x :: r)) : x < 4294967296 := h x (by simp)
theorem Lim.take {l : List Nat} (h : Lim l) (n : Nat) : Lim (l.take n) := fun x hx => h x (List.mem_of_mem_take hx)
theorem Lim.drop {l : List Nat} (h : Lim l) (n : Nat) : Lim (l.drop n) := fun x hx => h x (List.mem_of_mem_drop hx)
theorem Lim.get {l : List Nat} (h : Lim l) {i : Nat} (hi : i < l.length) : l[i] < 4294967296 := h _ (List.getElem_mem hi)
theorem Lim.append {l r : List Nat} (h : Lim l) (k : Lim r) : Lim (l ++ r) := fun x hx => (List.mem_append.1 hx).elim (h x) (k x)
theorem Lim.nil : Lim [] := fun _ h => by cases h
theorem Lim.one {x : Nat} (h : x < 4294967296) : Lim [x] := fun y hy => by simp at hy; omega
theorem limbs_lim (n : Nat) : Lim (limbs n) := by
  induction n using Nat.strongRecOn with
  | _ n ih =>
    by_cases h : n = 0
    · rw [h, limbs_zero]; exact Lim.nil
    · rw [limbs_pos h]
      intro x hx
      rcases List.mem_cons.1 hx with rfl | hx
      · omega
      · exact ih _ (by omega) x hx
theorem val_limbs (n : Nat) : val (limbs n) = n := by
  induction n using Nat.strongRecOn with
  | _ n ih =>
    by_cases h : n = 0
    · rw [h, limbs_zero]; rfl
    · rw [limbs_pos h, val, ih _ (by omega)]
      omega
theorem val_append (a b : List Nat) : val (a ++ b) = val a + 4294967296 ^ a.length * val b := by
  induction a with
  | nil => simp [val]
  | cons x r ih => simp only [List.cons_append, val, ih, List.length_cons, Nat.pow_succ, Nat.mul_add]; rw [Nat.add_assoc, ← Nat.mul_assoc, Nat.mul_comm (4294967296 ^ r.length)]
theorem val_lt {l : List Nat} (h : Lim l) : val l < 4294967296 ^ l.length := by
  induction l with
  | nil => simp [val]
  | cons x r ih =>
    have h1 := ih h.tail
    have h2 := h.head
    simp only [val, List.length_cons, Nat.pow_succ]
    have : 4294967296 * (val r + 1) ≤ 4294967296 * 4294967296 ^ r.length := Nat.mul_le_mul_left _ h1
    rw [Nat.mul_comm (4294967296 ^ r.length)]
    omega
theorem val_zeros (n : Nat) : val (List.replicate n 0) = 0 := by
  induction n with
  | zero => rfl
  | succ n ih => simp [List.replicate_succ, val, ih]
/-- How many limbs are left without the needless ones. -/
def nlen : List Nat → Nat
  | [] => 0
  | x :: r => if nlen r = 0 ∧ x = 0 then 0 else nlen r + 1
theorem nlen_le (l : List Nat) : nlen l ≤ l.length := by
  induction l with
  | nil => simp [nlen]
  | cons x r ih =>
    simp only [nlen]
    split
    · omega
    · simp; omega
theorem nlen_zero {l : List Nat} : nlen l = 0 ↔ ∀ x ∈ l, x = 0 := by
  induction l with
  | nil => simp [nlen]
  | cons x r ih =>
    simp only [nlen, List.mem_cons, forall_eq_or_imp]
    constructor
    · intro h
      split at h
      · rename_i hc
        exact ⟨hc.2, ih.1 hc.1⟩
      · omega
    · rintro ⟨h1, h2⟩
      rw [if_pos ⟨ih.2 h2, h1⟩]
theorem val_nlen {l : List Nat} (h : nlen l = 0) : val l = 0 := by
  induction l with
  | nil => rfl
  | cons x r ih =>
    simp only [nlen] at h
    split at h
    · rename_i hc
      simp [val, hc.2, ih hc.1]
    · omega
theorem limbs_val {l : List Nat} (h : Lim l) : limbs (val l) = l.take (nlen l) := by
  induction l with
  | nil => simp [val, limbs_zero, nlen]
  | cons x r ih =>
    have h1 := ih h.tail
    have h2 := h.head
    simp only [val, nlen]
    split
    · rename_i hc
      rw [val_nlen hc.1, hc.2]
      simp [limbs_zero]
    · rename_i hc
      have hv : val r = 0 → nlen r = 0 := by
        intro hv
        rw [hv, limbs_zero] at h1
        have := congrArg List.length h1
        have h3 := nlen_le r
        simp at this
        omega
      have hne : x + 4294967296 * val r ≠ 0 := by
        intro h0
        exact hc ⟨hv (by omega), by omega⟩
      rw [limbs_pos hne, List.take_succ_cons, ← h1]
      congr 1
      · omega
      · congr 1; omega
/-- The place behind the last limb that is needed, sought from above. -/
theorem nlen_step {l : List Nat} {n : Nat} (h : n < l.length) (hz : ∀ x ∈ l.drop (n + 1), x = 0) (h0 : l[n] = 0) : ∀ x ∈ l.drop n, x = 0 := by
  intro x hx
  rw [List.drop_eq_getElem_cons h] at hx
  rcases List.mem_cons.1 hx with rfl | hx
  · exact h0
  · exact hz x hx
theorem nlen_at {l : List Nat} {n : Nat} (h : n < l.length) (hz : ∀ x ∈ l.drop (n + 1), x = 0) (h0 : l[n] ≠ 0) : nlen l = n + 1 := by
  induction l generalizing n with
  | nil => simp at h
  | cons x r ih =>
    cases n with
    | zero =>
      simp only [List.drop_succ_cons, List.drop_zero, List.getElem_cons_zero] at hz h0
      simp only [nlen]
      rw [nlen_zero.2 hz, if_neg (fun h => h0 h.2)]
    | succ n =>
      simp only [List.drop_succ_cons, List.getElem_cons_succ, List.length_cons] at hz h0 h
      have := ih (by omega) hz h0
      simp only [nlen, this]
      rw [if_neg (fun h => by omega)]
theorem nlen_none {l : List Nat} (hz : ∀ x ∈ l.drop 0, x = 0) : nlen l = 0 := nlen_zero.2 hz
theorem nlen_take {l : List Nat} : nlen (l.take (nlen l)) = nlen l := by
  induction l with
  | nil => rfl
  | cons x r ih =>
    by_cases hc : nlen r = 0 ∧ x = 0
    · simp [nlen, hc]
    · simp only [nlen, if_neg hc, List.take_succ_cons, ih]
theorem val_take {l : List Nat} (h : Lim l) : val (l.take (nlen l)) = val l := by rw [← limbs_val h, val_limbs]
theorem limbs_len_le {n k : Nat} (h : n < 4294967296 ^ k) : (limbs n).length ≤ k := by
  induction k generalizing n with
  | zero =>
    have : n = 0 := by simpa using h
    rw [this, limbs_zero]; simp
  | succ k ih =>
    by_cases h0 : n = 0
    · rw [h0, limbs_zero]; simp
    · rw [limbs_pos h0, List.length_cons]
      have := ih (n := n / 4294967296) (by rw [Nat.pow_succ] at h; exact Nat.div_lt_of_lt_mul (by rw [Nat.mul_comm]; exact h))
      omega
theorem limbs_len {l : List Nat} (h : Lim l) : (limbs (val l)).length ≤ l.length := limbs_len_le (val_lt h)
theorem limbs_inj {a b : Nat} (h : limbs a = limbs b) : a = b := by rw [← val_limbs a, h, val_limbs]
def ul (l : List Nat) : List PV := l.map fun x => .v (.int .u32 (x : Nat))
@[simp] theorem ul_length (l : List Nat) : (ul l).length = l.length := by simp [ul]
@[simp] theorem ul_get (l : List Nat) (i : Nat) (h : i < (ul l).length) : (ul l)[i] = .v (.int .u32 (l[i]'(by simpa using h) : Nat)) := by simp [ul]
theorem ul_take (l : List Nat) (n : Nat) : (ul l).take n = ul (l.take n) := by simp [ul]
theorem ul_drop (l : List Nat) (n : Nat) : (ul l).drop n = ul (l.drop n) := by simp [ul]
theorem ul_append (a b : List Nat) : ul (a ++ b) = ul a ++ ul b := by simp [ul]
theorem ul_snoc (a : List Nat) (x : Nat) : ul (a ++ [x]) = ul a ++ [.v (.int .u32 (x : Nat))] := by simp [ul]
theorem ul_set (a : List Nat) (i x : Nat) : (ul a).set i (.v (.int .u32 (x : Nat))) = ul (a.set i x) := by simp [ul, List.map_set]
@[simp] theorem ul_nil : ul [] = [] := rfl
@[simp] theorem ul_cons (x : Nat) (r : List Nat) : ul (x :: r) = .v (.int .u32 (x : Nat)) :: ul r := rfl
@[simp] theorem noRoL_ul (l : List Nat) : PV.noRoL (ul l) = true := by
  induction l with
  | nil => rfl
  | cons x r ih => simp only [ul_cons, PV.noRoL, ih]; rfl
@[simp] theorem immL_ul (l : List Nat) : PV.immL (ul l) = true := by
  induction l with
  | nil => rfl
  | cons x r ih => simp only [ul_cons, PV.immL, ih]; rfl
@[simp] theorem freezeL_ul (l : List Nat) : PV.freezeL (ul l) = ul l := by
  induction l with
  | nil => rfl
  | cons x r ih => simp only [ul_cons, PV.freezeL, ih]; rfl
end Go.AM.F
