/- Digits written: the texts. No conditions. -/
import Derived.Test.YtlokekpiajholaaDoorL30
namespace Go.AM.F
open Go Go.AM
set_option maxRecDepth 10000
set_option linter.unusedSimpArgs false
attribute [local simp] j0_limbs_Print j1_limbs_Print w1_limbs_Print j2_limbs_Print j3_limbs_Print w2_limbs_Print j4_limbs_Print j5_limbs_Print j6_limbs_Print w0_limbs_Print j7_limbs_Print j8_limbs_Print w3_limbs_Print j9_limbs_Print j10_limbs_Print j11_limbs_Print b_limbs_Print a_limbs_Print
attribute [local simp] j0_strings_trimLeftByte w0_strings_trimLeftByte j1_strings_trimLeftByte b_strings_trimLeftByte a_strings_trimLeftByte j2_strings_TrimLeft b_strings_TrimLeft a_strings_TrimLeft
theorem dpad_zero (n : Nat) : dpad n 0 = List.replicate n 48 := by
  induction n with
  | zero => rfl
  | succ n ih => rw [dpad, Nat.zero_div, ih]; rfl
theorem dpad_revD (n : Nat) : ∀ v, v < 10 ^ n → ∃ m, dpad n v = revD v ++ List.replicate m 48 := by
  induction n with
  | zero => intro v hv; exact ⟨0, by rw [show v = 0 by simpa using hv, revD_zero]; rfl⟩
  | succ n ih =>
    intro v hv
    by_cases h0 : v = 0
    · exact ⟨n + 1, by rw [h0, dpad_zero, revD_zero]; rfl⟩
    · obtain ⟨m, hm⟩ := ih (v / 10) (by rw [Nat.pow_succ] at hv; exact Nat.div_lt_of_lt_mul (by rw [Nat.mul_comm]; exact hv))
      exact ⟨m, by rw [dpad, hm, revD_pos h0]; rfl⟩
theorem revD_cut (n : Nat) : ∀ v, v / 10 ^ n ≠ 0 → revD v = dpad n (v % 10 ^ n) ++ revD (v / 10 ^ n) := by
  induction n with
  | zero => intro v _; simp [dpad]
  | succ n ih =>
    intro v hv
    have h0 : v ≠ 0 := by rintro rfl; simp at hv
    have h1 : v / 10 / 10 ^ n = v / 10 ^ (n + 1) := by rw [Nat.div_div_eq_div_mul, Nat.pow_succ, Nat.mul_comm]
    have h2 := ih (v / 10) (by rw [h1]; exact hv)
    have h3 : v % 10 ^ (n + 1) % 10 = v % 10 := by rw [Nat.pow_succ, Nat.mul_comm]; exact Nat.mod_mul_right_mod v 10 (10 ^ n)
    have h4 : v % 10 ^ (n + 1) / 10 = v / 10 % 10 ^ n := by rw [Nat.pow_succ, Nat.mul_comm]; exact Nat.mod_mul_right_div_self v 10 (10 ^ n)
    rw [revD_pos h0, h2, h1, dpad, h3, h4]
    rfl
theorem chunks_revD : ∀ v, ∃ m, (chunks v).flatMap (dpad 9) = revD v ++ List.replicate m 48 := by
  intro v
  induction v using Nat.strongRecOn with
  | _ v ih =>
    by_cases h0 : v = 0
    · exact ⟨0, by rw [h0, chunks_zero, revD_zero]; rfl⟩
    · rw [chunks_pos h0, List.flatMap_cons]
      by_cases h1 : v / 1000000000 = 0
      · rw [h1, chunks_zero, Nat.mod_eq_of_lt (by omega)]
        obtain ⟨m, hm⟩ := dpad_revD 9 v (by omega)
        exact ⟨m, by rw [hm]; simp⟩
      · obtain ⟨m, hm⟩ := ih (v / 1000000000) (by omega)
        have h2 := revD_cut 9 v h1
        exact ⟨m, by rw [hm, h2, List.append_assoc]⟩
/-- The first digit is none that could be left out. -/
theorem revD_top : ∀ v, v ≠ 0 → ∃ d l, (revD v).reverse = db d :: l ∧ 1 ≤ d ∧ d < 10 := by
  intro v
  induction v using Nat.strongRecOn with
  | _ v ih =>
    intro h0
    rw [revD_pos h0]
    by_cases h1 : v / 10 = 0
    · exact ⟨v % 10, [], by rw [h1, revD_zero]; rfl, by omega, by omega⟩
    · obtain ⟨d, l, h2, h3⟩ := ih (v / 10) (by omega) h1
      exact ⟨d, l ++ [db (v % 10)], by rw [List.reverse_cons, h2]; rfl, h3⟩
theorem chunks_len : ∀ k v, v < 1000000000 ^ k → (chunks v).length ≤ k
  | 0, v, h => by rw [show v = 0 by simpa using h, chunks_zero]; simp
  | k + 1, v, h => by
    by_cases h0 : v = 0
    · rw [h0, chunks_zero]; simp
    · rw [chunks_pos h0, List.length_cons]
      have := chunks_len k (v / 1000000000) (by rw [Nat.pow_succ] at h; exact Nat.div_lt_of_lt_mul (by rw [Nat.mul_comm]; exact h))
      omega
theorem chunks_limbs (v : Nat) : (chunks v).length ≤ 2 * (limbs v).length := by
  refine chunks_len _ _ ?_
  have h := val_lt (limbs_lim v)
  rw [val_limbs] at h
  refine Nat.lt_of_lt_of_le h ?_
  rw [Nat.pow_mul]
  exact Nat.pow_le_pow_left (by decide) _
theorem strs_append (a b : List Nat) : strs (a ++ b) = strs a ++ strs b := by simp [strs]
@[simp] theorem strs_length (a : List Nat) : (strs a).length = a.length := by simp [strs]
theorem immL_strs (a : List Nat) : PV.immL (strs a) = true ∧ PV.noRoL (strs a) = true ∧ PV.freezeL (strs a) = strs a := by
  induction a with
  | nil => exact ⟨rfl, rfl, rfl⟩
  | cons x r ih =>
    obtain ⟨h1, h2, h3⟩ := ih
    simp only [strs, List.map_cons] at h1 h2 h3 ⊢
    exact ⟨by simp only [PV.immL, h1]; rfl, by simp only [PV.noRoL, h2]; rfl, by simp only [PV.freezeL, h3]; rfl⟩
theorem parts_loop : ∀ (v : Nat) (cs : List Nat), Fit (limbs v) → cs.length + (chunks v).length ≤ 4398046511104 →
    Exec T l0_limbs_Print [(0, .own 1 (ul (limbs v))), (3, .own 1 (strs cs)), (10, .dead), (41, .dead), (57, .dead)] = some (.exit 0, [(0, .own 1 []), (3, .own 1 (strs (cs ++ chunks v))), (10, .dead), (41, .dead), (57, .dead)]) := by
  intro v
  induction v using Nat.strongRecOn with
  | _ v ih =>
    intro cs hv hcs
    by_cases h0 : v = 0
    · subst h0
      rw [limbs_zero, chunks_zero, List.append_nil, ex0_limbs_Print]
      simp
    · have hne : ¬ limbs v = [] := by rw [limbs_pos h0]; simp
      have hpos : 0 < (limbs v).length := List.length_pos_iff.2 hne
      obtain ⟨q', r', k0, k1, k2, k3, k4⟩ := tdiv_loop (limbs v) hv (.own 1 (strs cs)) (fun _ _ => rfl) (limbs v).length (limbs v) 0 (Nat.le_refl _) rfl hv.1 (by decide) rfl (by simp [val])
      rw [val_limbs] at k4
      have hq : val q' = v / 1000000000 := by omega
      have hr : r' = v % 1000000000 := by omega
      have hvl := hv.2
      have t := c_trimO q' (by omega)
      rw [← limbs_val k1, hq] at t
      obtain ⟨r2, k5⟩ := pad_loop9 (limbs (v / 1000000000)) (.own 1 (strs cs)) (fun _ _ => rfl) 9 0 r' [] rfl rfl (by omega)
      have hmono := limbs_mono (m := v / 1000000000) (n := v) (by omega)
      rw [chunks_pos h0, List.length_cons] at hcs
      have h1 := ih (v / 1000000000) (by omega) (cs ++ [v % 1000000000]) ⟨limbs_lim _, by omega⟩ (by simp; omega)
      rw [List.append_assoc, List.singleton_append, ← chunks_pos h0, strs_append] at h1
      rw [hr] at k0 k5
      simp only [Int.natCast_zero, List.append_nil] at k0 k5
      have w : IntKind.i64.wrap (((limbs v).length : Int) - 1) = ((limbs v).length : Int) - 1 := by rw [wrap_i64] <;> omega
      have e1 : (cs.length + 1) * 16 ≤ 140737488355328 := by omega
      have e2 : cs.length ≤ 8796093022207 := by omega
      have e3 : cs.length ≤ 4611686018427387903 := by omega
      have e4 : tx [] = ⟨#[]⟩ := rfl
      rw [e4] at k5
      have hst : strs [v % 1000000000] = [.v (.string (tx (dpad 9 (v % 1000000000)).reverse))] := rfl
      rw [hst] at h1
      obtain ⟨R, hR⟩ : ∃ R, v % 1000000000 = R := ⟨_, rfl⟩
      rw [hR] at k0 k5 h1
      rw [← h1, ex0_limbs_Print]
      simp [hpos, hne, w, k0, t, k5, e1, e2, e3]
/-- The parts are joined, the last first. -/
theorem join_loop (cs : List Nat) (hcs : cs.length ≤ 4398046511104) : ∀ (k : Nat) (l : List UInt8), k ≤ cs.length → l.length + 9 * k ≤ 140737488355328 →
    Exec T l3_limbs_Print [(3, .own 1 (strs cs)), (7, .bld 59 5 l), (8, .v (.int .i64 ((k : Int) - 1))), (57, .dead)] = some (.exit 6, [(3, .own 1 (strs cs)), (7, .bld 59 5 (l ++ ((cs.take k).flatMap (dpad 9)).reverse)), (8, .v (.int .i64 (-1))), (57, .dead)]) := by
  intro k
  induction k with
  | zero =>
    intro l hk hl
    rw [ex3_limbs_Print]
    simp
  | succ k ih =>
    intro l hk hl
    have hlt : k < cs.length := by omega
    obtain ⟨x, hx⟩ : ∃ x, cs[k] = x := ⟨_, rfl⟩
    have hg : (strs cs)[k]? = some (.v (.string (padT x))) := by simp [strs, hlt, hx]
    have hp : (padT x).size = 9 := by simp [padT, dpad_length]
    have hw := x_strings_Builder_WriteString [.bld 59 5 l, .v (.string (padT x))] (r := (.tup [.v (.int .i64 9), .v .nilIface], [.bld 59 5 (l ++ (padT x).data.toList), .dead])) (by
      simp only [xWriteString]
      rw [if_pos ⟨trivial, trivial, by omega⟩, hp]
      rfl)
    have h0 := ih (l ++ (dpad 9 x).reverse) (by omega) (by simp [dpad_length]; omega)
    have ht : (cs.take (k + 1)).flatMap (dpad 9) = (cs.take k).flatMap (dpad 9) ++ dpad 9 x := by rw [List.take_succ_eq_append_getElem hlt, List.flatMap_append, hx]; simp
    rw [ht, List.reverse_append, ← List.append_assoc, ← h0, show ((k + 1 : Nat) : Int) - 1 = (k : Int) by omega, ex3_limbs_Print]
    have w5 : IntKind.i64.wrap ((k : Int) - 1) = (k : Int) - 1 := by rw [wrap_i64] <;> omega
    have hg2 : (strs cs)[k]'(by simpa using hlt) = .v (.string (padT x)) := by
      have := List.getElem?_eq_some_iff.1 hg
      exact this.2
    have e5 : (padT x).data.toList = (dpad 9 x).reverse := by simp [padT]
    rw [e5] at hw
    simp [hlt, hg2, hw, w5]
theorem trim_loop0 (b : UInt8) (hb : b ≠ 48) (r : List UInt8) : ∀ m : Nat, Exec T l0_strings_trimLeftByte [(0, .v (.string (tx (List.replicate m 48 ++ b :: r)))), (1, .v (.int .u8 48))] = some (.exit 0, [(0, .v (.string (tx (b :: r)))), (1, .v (.int .u8 48))]) := by
  intro m
  induction m with
  | zero =>
    have hc : ch (tx (b :: r)) 0 = b.toNat := by rw [ch_tx]; rfl
    have hb2 : ¬ b.toNat = 48 := fun h => hb (UInt8.toNat_inj.1 h)
    rw [List.replicate_zero, List.nil_append, ex0_strings_trimLeftByte]
    simp [ch_eq, hc, hb2]
  | succ m ih =>
    have hc : ch (tx (List.replicate (m + 1) 48 ++ b :: r)) 0 = 48 := by rw [ch_tx]; rfl
    have hd := tx_drop (List.replicate (m + 1) 48 ++ b :: r) 1
    rw [show (List.replicate (m + 1) (48 : UInt8) ++ b :: r).drop 1 = List.replicate m 48 ++ b :: r from rfl] at hd
    have hl : (List.replicate (m + 1) (48 : UInt8) ++ b :: r).length = m + 2 + r.length := by simp; omega
    rw [hl] at hd
    have hs := tx_size (List.replicate (m + 1) (48 : UInt8) ++ b :: r)
    rw [hl] at hs
    rw [← ih, ex0_strings_trimLeftByte]
    obtain ⟨t, ht⟩ : ∃ t, tx (List.replicate (m + 1) 48 ++ b :: r) = t := ⟨_, rfl⟩
    rw [ht] at hc hd hs ⊢
    have e1 : 0 < t.size := by omega
    have e2 : 1 ≤ t.size := by omega
    rw [← hs] at hd
    simp [ch_eq, hc, hd, e1, e2]
theorem c_TrimLeft0 (b : UInt8) (hb : b ≠ 48) (r : List UInt8) (m : Nat) : Cinf T n_strings_TrimLeft [.v (.string (tx (List.replicate m 48 ++ b :: r))), .v (.string ⟨#[48]⟩)] = some (.v (.string (tx (b :: r))), [.dead, .dead]) := by
  have h0 := trim_loop0 b hb r m
  have h1 : Cinf T n_strings_trimLeftByte [.v (.string (tx (List.replicate m 48 ++ b :: r))), .v (.int .u8 48)] = some (.v (.string (tx (b :: r))), [.dead, .dead]) := by
    rw [run_strings_trimLeftByte]
    simp [Run, h0]
  obtain ⟨t, ht⟩ : ∃ t, tx (List.replicate m 48 ++ b :: r) = t := ⟨_, rfl⟩
  rw [ht] at h1 ⊢
  have hne : ¬ t = ⟨#[]⟩ := by
    rw [← ht]
    intro h
    have := congrArg ByteArray.size h
    rw [tx_size, List.length_append, List.length_cons] at this
    have e : (ByteArray.mk #[]).size = 0 := rfl
    omega
  have h48 : ¬ (ByteArray.mk #[48]) = ⟨#[]⟩ := by intro h; have := congrArg ByteArray.size h; exact absurd this (by decide)
  have hsz : (ByteArray.mk #[48]).size = 1 := rfl
  rw [run_strings_TrimLeft]
  simp [Run, hne, h48, hsz, h1]
/-- A natural's text. -/
def printT (v : Nat) : ByteArray := if v = 0 then ⟨#[48]⟩ else tx (revD v).reverse
theorem c_Print (l : List Nat) (h : Fit l) : Cinf T n_limbs_Print [.ro 1 (ul l)] = some (.v (.string (printT (val l))), [.dead]) := by
  have h0 := c_Norm l h
  have hf := h.limbs
  rw [run_limbs_Print]
  unfold printT
  by_cases hv : val l = 0
  · rw [if_pos hv]
    rw [hv, limbs_zero, ul_nil] at h0
    simp [Run, h0]
  · rw [if_neg hv]
    have hne : ¬ limbs (val l) = [] := by rw [limbs_pos hv]; simp
    have hcl := chunks_limbs (val l)
    have hfl := hf.2
    have h1 := parts_loop (val l) [] hf (by simp; omega)
    rw [List.nil_append] at h1
    have h2 := join_loop (chunks (val l)) (by omega) (chunks (val l)).length [] (Nat.le_refl _) (by simp; omega)
    rw [List.take_of_length_le (Nat.le_refl _), List.nil_append] at h2
    obtain ⟨m, hm⟩ := chunks_revD (val l)
    obtain ⟨d, r, hr, hd1, hd2⟩ := revD_top (val l) hv
    rw [hm, List.reverse_append, List.reverse_replicate, hr] at h2
    have hb : db d ≠ 48 := by
      intro h
      have := congrArg UInt8.toNat h
      rw [db_nat hd2] at this
      have h48 : (48 : UInt8).toNat = 48 := rfl
      omega
    have h3 := c_TrimLeft0 (db d) hb r m
    have hnil : List.replicate m 48 ++ db d :: r ≠ [] := by simp
    obtain ⟨B, hB⟩ : ∃ B, List.replicate m 48 ++ db d :: r = B := ⟨_, rfl⟩
    rw [hB] at h2 h3 hnil
    have h4 := x_strings_Builder_String [.bld 59 5 B] (r := (.v (.string (tx B)), [.dead])) (by
      simp only [xString]
      rw [if_pos ⟨trivial, trivial, hnil⟩]
      rfl)
    have w : IntKind.i64.wrap (((chunks (val l)).length : Int) - 1) = ((chunks (val l)).length : Int) - 1 := by rw [wrap_i64] <;> omega
    rw [hr]
    have e1 : strs [] = [] := rfl
    rw [e1] at h1
    simp [Run, h0, hne, h1, w, h2, h3, h4]
end Go.AM.F
