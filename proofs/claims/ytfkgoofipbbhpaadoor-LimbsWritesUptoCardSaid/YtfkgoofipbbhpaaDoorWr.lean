/- Quotients written out, and rounded: every Write and Decimal. No conditions. -/
import Derived.Test.YtfkgoofipbbhpaaDoorL17
import Derived.Test.YtfkgoofipbbhpaaDoorL29
import Derived.Test.YtfkgoofipbbhpaaDoorL32
import Derived.Test.YtfkgoofipbbhpaaDoorL34
import Derived.Test.YtfkgoofipbbhpaaDoorL0
/- Quotients written out, rounded: the plain part. No conditions. -/
namespace Go.AM.F
open Go Go.AM

/-- The quotient rounded to the nearest, halves to the even one. -/
def rndq (A B : Nat) : Nat := A / B + (if B < 2 * (A % B) ∨ (B = 2 * (A % B) ∧ A / B % 2 = 1) then 1 else 0)
theorem rndq_scale {g : Nat} (hg : 0 < g) (A B : Nat) : rndq (g * A) (g * B) = rndq A B := by
  unfold rndq
  rw [Nat.mul_div_mul_left _ _ hg, Nat.mul_mod_mul_left]
  have e1 : (g * B < 2 * (g * (A % B))) ↔ B < 2 * (A % B) := by
    rw [Nat.mul_left_comm]
    exact Nat.mul_lt_mul_left hg
  have e2 : (g * B = 2 * (g * (A % B))) ↔ B = 2 * (A % B) := by
    rw [Nat.mul_left_comm]
    exact Nat.mul_right_inj (by omega)
  simp only [e1, e2]
theorem rndq_zero {B : Nat} (h : 0 < B) : rndq 0 B = 0 := by
  unfold rndq
  rw [Nat.zero_div, Nat.zero_mod, if_neg (by omega)]
theorem rndq_gcd {n d : Nat} (hd : d ≠ 0) (t : Nat) : rndq (n / Nat.gcd n d * t) (d / Nat.gcd n d) = rndq (n * t) d := by
  have hg : 0 < Nat.gcd n d := Nat.gcd_pos_of_pos_right _ (by omega)
  obtain ⟨g, eg⟩ : ∃ g, Nat.gcd n d = g := ⟨_, rfl⟩
  have h1 : n = g * (n / g) := by rw [Nat.mul_div_cancel']; rw [← eg]; exact Nat.gcd_dvd_left _ _
  have h2 : d = g * (d / g) := by rw [Nat.mul_div_cancel']; rw [← eg]; exact Nat.gcd_dvd_right _ _
  rw [eg] at hg ⊢
  obtain ⟨a, ha⟩ : ∃ a, n / g = a := ⟨_, rfl⟩
  obtain ⟨b, hb⟩ : ∃ b, d / g = b := ⟨_, rfl⟩
  rw [ha] at h1 ⊢
  rw [hb] at h2 ⊢
  rw [h1, h2, Nat.mul_assoc, rndq_scale hg]
theorem rndq_le (A B : Nat) : rndq A B ≤ A + 1 := by
  have := Nat.div_le_self A B
  unfold rndq
  split <;> omega
theorem printT_size (v : Nat) : (printT v).size ≤ 18 * (limbs v).length + 1 := by
  unfold printT
  split
  · exact Nat.le_add_left _ _
  · have h1 := revD_len v
    have h2 := chunks_limbs v
    rw [tx_size, List.length_reverse]
    omega
theorem repL48 : ∀ m, repL [48] m = List.replicate m 48
  | 0 => rfl
  | m + 1 => by rw [repL, repL48 m]; rfl
/-- Zeros ahead, so that a text is longer than k. -/
def zpadT (k : Nat) (s : ByteArray) : ByteArray := if s.size ≤ k then tx (repL [48] (k + 1 - s.size)) ++ s else s
theorem pad_step {k : Nat} {s : ByteArray} (h : s.size ≤ k) : zpadT k (tx [48] ++ s) = zpadT k s := by
  obtain ⟨l, rfl⟩ : ∃ l, s = tx l := ⟨s.data.toList, (tx_data2 s).symm⟩
  rw [tx_size] at h
  unfold zpadT
  rw [tx_append, tx_size, tx_size, if_pos h, tx_append, tx_append]
  obtain ⟨m, hm⟩ : ∃ m, k + 1 - l.length = m + 1 := ⟨k - l.length, by omega⟩
  rw [hm]
  have hl : ([48] ++ l).length = l.length + 1 := by simp
  have e : repL [48] (m + 1) ++ l = repL [48] m ++ ([48] ++ l) := by rw [repL48, repL48, List.replicate_succ', List.append_assoc]
  rw [hl, e]
  by_cases h2 : l.length + 1 ≤ k
  · rw [if_pos h2, show k + 1 - (l.length + 1) = m by omega]
  · rw [if_neg h2, show m = 0 by omega]
    rfl
theorem pad_stop {k : Nat} {s : ByteArray} (h : ¬ s.size ≤ k) : zpadT k s = s := if_neg h
theorem pad_size (k : Nat) (s : ByteArray) : k < (zpadT k s).size ∧ (zpadT k s).size ≤ s.size + k + 1 := by
  unfold zpadT
  split
  · rw [ByteArray.size_append, tx_size, repL48, List.length_replicate]
    omega
  · omega
def dotT (k : Nat) (s : ByteArray) : ByteArray := if 0 < k then (s.extract 0 (s.size - k) ++ tx [46]) ++ s.extract (s.size - k) s.size else s
def signT (b : Bool) (s : ByteArray) : ByteArray := if b then tx [45] ++ s else s
def decT (b : Bool) (k q : Nat) : ByteArray := signT (b && decide (q ≠ 0)) (dotT k (zpadT k (printT q)))
def wrS (b : Bool) (n d : Nat) : ByteArray := if d = 1 then signT b (printT n) else signT b (printT n) ++ (tx [47] ++ printT d)
theorem cat_assoc (a b c : ByteArray) : a ++ b ++ c = a ++ (b ++ c) := by
  obtain ⟨x, rfl⟩ : ∃ l, a = tx l := ⟨a.data.toList, (tx_data2 a).symm⟩
  obtain ⟨y, rfl⟩ : ∃ l, b = tx l := ⟨b.data.toList, (tx_data2 b).symm⟩
  obtain ⟨z, rfl⟩ : ∃ l, c = tx l := ⟨c.data.toList, (tx_data2 c).symm⟩
  rw [tx_append, tx_append, tx_append, tx_append, List.append_assoc]
theorem ten_len (k : Nat) : (limbs (10 ^ k)).length ≤ k + 1 := by
  refine limbs_len_le ?_
  have : (10 : Nat) ^ k ≤ 4294967296 ^ k := Nat.pow_le_pow_left (by decide) k
  have h2 : (4294967296 : Nat) ^ k < 4294967296 ^ (k + 1) := Nat.pow_lt_pow_right (by decide) (by omega)
  omega
end Go.AM.F

/- Quotients written out. No conditions. -/
namespace Go.AM.F
open Go Go.AM
set_option maxRecDepth 10000
set_option linter.unusedSimpArgs false
attribute [local simp] j0_limbs_Write j1_limbs_Write j2_limbs_Write b_limbs_Write a_limbs_Write j0_thicketref01_Write j1_thicketref01_Write j2_thicketref01_Write b_thicketref01_Write a_thicketref01_Write
theorem cmp_one_ne {d : Nat} (h : d ≠ 1) : cmpN d 1 ≠ 0 := by
  rcases Nat.lt_or_gt_of_ne h with h | h
  · rw [cmp_lt h]; decide
  · rw [cmp_gt h]; decide
theorem c_Write (neg : Bool) (n d : List Nat) (hn : Fit n) (hd : Fit d) (s : Bool) (n' d' : Nat) (ho : overR neg (val n) (val d) = .tup [rat s n' d', .v (.int .i64 0)]) (k1 : (limbs n').length ≤ 16777216) (k2 : (limbs d').length ≤ 16777216) :
    Cinf T n_limbs_Write [ratA neg n d] = some (.tup [.v (.string (wrS s n' d')), .v (.int .i64 0)], [.dead]) := by
  have o1 := c_Over neg n d hn hd
  rw [ho] at o1
  have p1 := c_Print (limbs n') ⟨limbs_lim _, by omega⟩
  have p2 := c_Print (limbs d') ⟨limbs_lim _, by omega⟩
  have c1 := c_Cmp (limbs d') [1] ⟨limbs_lim _, by omega⟩ ⟨Lim.one (by decide), by simp⟩
  rw [val_limbs] at p1 p2 c1
  have z1 := printT_size n'
  have z2 := printT_size d'
  obtain ⟨a, ha⟩ : ∃ a, printT n' = a := ⟨_, rfl⟩
  obtain ⟨b, hb⟩ : ∃ b, printT d' = b := ⟨_, rfl⟩
  have hv1 : val [1] = 1 := by simp [val]
  rw [hv1] at c1
  unfold wrS signT
  rw [ha] at p1 z1 ⊢
  rw [hb] at p2 z2 ⊢
  have e0 : (⟨#[45]⟩ : ByteArray) = tx [45] := rfl
  have e1 : (⟨#[47]⟩ : ByteArray) = tx [47] := rfl
  have f1 : 1 + a.size ≤ 9223372036854775807 := by omega
  have f2 : 1 + b.size ≤ 9223372036854775807 := by omega
  have f3 : a.size + (1 + b.size) ≤ 9223372036854775807 := by omega
  have f4 : 1 + a.size + (1 + b.size) ≤ 9223372036854775807 := by omega
  simp only [ratA, rat] at *
  simp at c1
  rw [run_limbs_Write]
  by_cases h1 : d' = 1
  · subst h1
    have e : cmpN 1 1 = 0 := by simp [cmpN]
    rw [e] at c1
    cases s <;> simp [Run, o1, p1, p2, c1, e0, e1, f1]
  · have h2 := cmp_one_ne h1
    cases s <;> simp [Run, o1, p1, p2, c1, e0, e1, f1, f2, f3, f4, h1, h2, ByteArray.size_append]
theorem c_rWrite (neg : Bool) (n d : List Nat) (hn : Fit n) (hd : Fit d) (hnl : n.length ≤ 17179869184) (hdl : d.length ≤ 17179869184) (s : Bool) (n' d' : Nat) (ho : overR neg (val n) (val d) = .tup [rat s n' d', .v (.int .i64 0)]) (k1 : (limbs n').length ≤ 16777216) (k2 : (limbs d').length ≤ 16777216) :
    Cinf T n_thicketref01_Write [ratA neg n d] = some (.tup [.v (.string (wrS s n' d')), .v (.int .i64 0)], [.dead]) := by
  have o1 := c_rOver neg n d hn hd hnl hdl
  rw [ho] at o1
  have p1 := c_rPrint (limbs n') ⟨limbs_lim _, by omega⟩ (by omega)
  have p2 := c_rPrint (limbs d') ⟨limbs_lim _, by omega⟩ (by omega)
  have r1 := c_rFrom 1 (by decide)
  have c1 := c_rCmp (limbs d') (limbs 1) ⟨limbs_lim _, by omega⟩ ⟨limbs_lim _, by rw [limbs_one]; simp⟩
  rw [val_limbs] at p1 p2
  rw [val_limbs, val_limbs] at c1
  have z1 := printT_size n'
  have z2 := printT_size d'
  obtain ⟨a, ha⟩ : ∃ a, printT n' = a := ⟨_, rfl⟩
  obtain ⟨b, hb⟩ : ∃ b, printT d' = b := ⟨_, rfl⟩
  unfold wrS signT
  rw [ha] at p1 z1 ⊢
  rw [hb] at p2 z2 ⊢
  have e0 : (⟨#[45]⟩ : ByteArray) = tx [45] := rfl
  have e1 : (⟨#[47]⟩ : ByteArray) = tx [47] := rfl
  have f1 : 1 + a.size ≤ 9223372036854775807 := by omega
  have f2 : a.size + 1 ≤ 9223372036854775807 := by omega
  have f3 : a.size + 1 + b.size ≤ 9223372036854775807 := by omega
  have f4 : 1 + a.size + 1 + b.size ≤ 9223372036854775807 := by omega
  have f5 : 1 + a.size + 1 ≤ 9223372036854775807 := by omega
  have f6 : 1 + (a.size + 1) + b.size ≤ 9223372036854775807 := by omega
  have f7 : 1 + (a.size + 1) ≤ 9223372036854775807 := by omega
  simp only [ratA, rat] at *
  simp only [Int.natCast_one] at r1
  rw [run_thicketref01_Write]
  by_cases h1 : d' = 1
  · subst h1
    have e : cmpN 1 1 = 0 := by simp [cmpN]
    rw [e] at c1
    cases s <;> simp [Run, o1, p1, p2, r1, c1, e0, e1, f1]
  · have h2 := cmp_one_ne h1
    cases s <;> simp [Run, o1, p1, p2, r1, c1, e0, e1, f1, f2, f3, f4, f5, f6, f7, h1, h2, ByteArray.size_append, cat_assoc]
end Go.AM.F

/- Quotients rounded to so many digits: the program. No conditions. -/
namespace Go.AM.F
open Go Go.AM
set_option maxRecDepth 10000
set_option linter.unusedSimpArgs false
attribute [local simp] j0_limbs_Decimal j1_limbs_Decimal w0_limbs_Decimal j2_limbs_Decimal j3_limbs_Decimal j4_limbs_Decimal j5_limbs_Decimal j6_limbs_Decimal j7_limbs_Decimal j8_limbs_Decimal b_limbs_Decimal a_limbs_Decimal
theorem dec_loop (s : Bool) (n' d' k : Nat) (hk : k ≤ 1000) : ∀ (m i : Nat) (l : List Nat), k - i = m → i ≤ k → Lim l → l.length ≤ i + 1 → val l = 10 ^ i →
    ∃ l', Exec T l0_limbs_Decimal [(1, .v (.int .i64 k)), (6, .box [.v (.bool s), .own 1 (ul (limbs n')), .own 1 (ul (limbs d'))]), (8, .own 1 (ul l)), (33, .dead), (34, .v (.int .i64 k)), (35, .v (.int .i64 i)), (38, .dead)] =
      some (.exit 0, [(1, .v (.int .i64 k)), (6, .box [.v (.bool s), .own 1 (ul (limbs n')), .own 1 (ul (limbs d'))]), (8, .own 1 (ul l')), (33, .dead), (34, .v (.int .i64 k)), (35, .v (.int .i64 k)), (38, .dead)]) ∧ Lim l' ∧ l'.length ≤ k + 1 ∧ val l' = 10 ^ k := by
  intro m
  induction m with
  | zero =>
    intro i l hm hi hl hn hv
    obtain rfl : i = k := by omega
    refine ⟨l, ?_, hl, hn, hv⟩
    rw [ex0_limbs_Decimal]
    simp
  | succ m ih =>
    intro i l hm hi hl hn hv
    have hlt : i < k := by omega
    have hw := wrap_succ hlt (by omega)
    obtain ⟨l2, g1, g2, g3, g4⟩ := c_grow l ⟨hl, by omega⟩ 10 0 (by decide) (by decide)
    obtain ⟨l', h0, h1⟩ := ih (i + 1) l2 (by omega) (by omega) g2 (by omega) (by rw [g4, hv, Nat.pow_succ, Nat.add_zero])
    refine ⟨l', ?_, h1⟩
    rw [succ_cast] at h0
    rw [← h0, ex0_limbs_Decimal]
    simp at g1
    simp [hlt, hw, g1]
def decE (s : Bool) (n' d' q k : Nat) : Env := [(1, .v (.int .i64 k)), (6, .box [.v (.bool s), .own 1 (ul (limbs n')), .own 1 (ul (limbs d'))]), (9, .own 1 (ul (limbs q))), (40, .tup [.ref 47 [0], .ref 47 [1], .v (.int .i64 0)]), (47, .tup [.dead, .dead, .v (.int .i64 0)]), (48, .ref 47 [0]), (68, .dead)]
def decF (s : Bool) (n' d' q : Nat) (t : ByteArray) : Env := [(6, .box [.v (.bool s), .own 1 (ul (limbs n')), .own 1 (ul (limbs d'))]), (9, .own 1 (ul (limbs q))), (13, .v (.string t)), (40, .tup [.ref 47 [0], .ref 47 [1], .v (.int .i64 0)]), (47, .tup [.dead, .dead, .v (.int .i64 0)]), (48, .ref 47 [0]), (68, .dead)]
/-- The sign. -/
theorem dec_sign (s : Bool) (n' d' q : Nat) (t : ByteArray) (ht : t.size ≤ 9223372036854775000) : Exec T k3_limbs_Decimal (decF s n' d' q t) = some (.ret, [(4, .v (.string (signT (s && decide (q ≠ 0)) t))), (5, .v (.int .i64 0))]) := by
  have e0 : (⟨#[45]⟩ : ByteArray) = tx [45] := rfl
  have f1 : 1 + t.size ≤ 9223372036854775807 := by omega
  unfold decF signT
  by_cases hq : q = 0
  · subst hq
    cases s <;> simp [limbs_zero, e0, f1]
  · have hne : limbs q ≠ [] := by rw [limbs_pos hq]; simp
    have hl : 0 < (limbs q).length := List.length_pos_iff.2 hne
    cases s <;> simp [hl, hq, hne, e0, f1]
/-- The point. -/
theorem dec_dot (s : Bool) (n' d' q k : Nat) (t : ByteArray) (hk : k < t.size) (ht : t.size ≤ 4611686018427387903) : Exec T k4_limbs_Decimal ((1, .v (.int .i64 k)) :: decF s n' d' q t) = some (.ret, [(4, .v (.string (signT (s && decide (q ≠ 0)) (dotT k t)))), (5, .v (.int .i64 0))]) := by
  have e0 : (⟨#[46]⟩ : ByteArray) = tx [46] := rfl
  have hw : IntKind.i64.wrap ((t.size : Int) - k) = ((t.size - k : Nat) : Int) := by rw [wrap_i64] <;> omega
  obtain ⟨m, hm⟩ : ∃ m, t.size - k = m := ⟨_, rfl⟩
  have hmt : m ≤ t.size := by omega
  have z0 : (t.extract 0 m).size = m := by rw [ByteArray.size_extract]; omega
  have z1 : (t.extract m t.size).size = k := by rw [ByteArray.size_extract]; omega
  have f1 : m + 1 ≤ 9223372036854775807 := by omega
  have f2 : m + 1 + k ≤ 9223372036854775807 := by omega
  have hd : (dotT k t).size ≤ t.size + 1 := by
    unfold dotT
    split
    · rw [ByteArray.size_append, ByteArray.size_append, hm, z0, z1, tx_size]
      simp
      omega
    · omega
  have h0 := dec_sign s n' d' q (dotT k t) (by omega)
  rw [hm] at hw
  rw [← h0]
  unfold dotT decF
  rw [hm]
  by_cases h : 0 < k
  · simp [-tl3_limbs_Decimal, h, hw, hmt, z0, z1, f1, f2, e0, ByteArray.size_append]
  · simp [-tl3_limbs_Decimal, h]
    rw [tl3_limbs_Decimal, tl3_limbs_Decimal]
    simp [-j3_limbs_Decimal]
/-- Zeros ahead. -/
theorem dec_pad (s : Bool) (n' d' q k : Nat) (hk : k ≤ 1000) (hq : (limbs q).length ≤ 33554432) : Exec T k5_limbs_Decimal (decE s n' d' q k) = some (.ret, [(4, .v (.string (decT s k q))), (5, .v (.int .i64 0))]) := by
  have p1 := c_Print (limbs q) ⟨limbs_lim _, by omega⟩
  rw [val_limbs] at p1
  have z1 := printT_size q
  unfold decT
  obtain ⟨a, ha⟩ : ∃ a, printT q = a := ⟨_, rfl⟩
  rw [ha] at p1 z1 ⊢
  have zp := pad_size k a
  have h0 := dec_dot s n' d' q k (zpadT k a) zp.1 (by omega)
  rw [← h0]
  unfold zpadT decE decF
  by_cases h : a.size ≤ k
  · have w1 : IntKind.i64.wrap ((k : Int) + 1) = ((k + 1 : Nat) : Int) := by rw [wrap_i64] <;> omega
    have w2 : IntKind.i64.wrap (((k + 1 : Nat) : Int) - a.size) = ((k + 1 - a.size : Nat) : Int) := by rw [wrap_i64] <;> omega
    obtain ⟨m, hm⟩ : ∃ m, k + 1 - a.size = m := ⟨_, rfl⟩
    rw [hm] at w2 ⊢
    have r1 := x_strings_Repeat [.v (.string (tx [48])), .v (.int .i64 m)] (r := (.v (.string (tx (repL [48] m))), [.dead, .dead])) (by
      simp only [xRepeat]
      rw [if_pos ⟨by omega, by omega, by simp; omega⟩]
      simp [tx])
    have e0 : (⟨#[48]⟩ : ByteArray) = tx [48] := rfl
    have z2 : (tx (repL [48] m)).size = m := by rw [tx_size, repL48, List.length_replicate]
    have f1 : m + a.size ≤ 9223372036854775807 := by omega
    rw [if_pos h]
    rw [succ_cast] at w2
    simp [-tl4_limbs_Decimal, p1, h, w1, w2, e0, r1, z2, f1, -tx_size]
  · rw [if_neg h]
    simp [-tl4_limbs_Decimal, p1, h]
theorem c_Decimal (neg : Bool) (n d : List Nat) (hn : Fit n) (hd : Fit d) (s : Bool) (n' d' : Nat) (ho : overR neg (val n) (val d) = .tup [rat s n' d', .v (.int .i64 0)]) (hd0 : d' ≠ 0) (k1 : (limbs n').length ≤ 16777216) (k2 : (limbs d').length ≤ 16777216) (k : Nat) (hk : k ≤ 1000) :
    Cinf T n_limbs_Decimal [ratA neg n d, .v (.int .i64 k)] = some (.tup [.v (.string (decT s k (rndq (n' * 10 ^ k) d'))), .v (.int .i64 0)], [.dead, .dead]) := by
  have o1 := c_Over neg n d hn hd
  rw [ho] at o1
  have hk1 : ¬ (k : Int) < 0 := by omega
  have hk2 : ¬ (1000 : Int) < k := by omega
  obtain ⟨l, h0, hl, hll, hlv⟩ := dec_loop s n' d' k hk k 0 [1] (by omega) (by omega) (Lim.one (by decide)) (by simp) (by simp [val])
  have h1l : ul [1] = [.v (.int .u32 1)] := by simp [ul]
  simp only [h1l, Int.natCast_zero] at h0
  have m1 := c_Mul (limbs n') l ⟨limbs_lim _, by omega⟩ ⟨hl, by omega⟩
  have ml := limbs_mul_len (limbs_lim n') hl
  rw [val_limbs, hlv] at m1 ml
  obtain ⟨A, hA⟩ : ∃ A, n' * 10 ^ k = A := ⟨_, rfl⟩
  rw [hA] at m1 ml ⊢
  have fA : Fit (limbs A) := ⟨limbs_lim _, by omega⟩
  have v1 := c_DivMod (limbs A) (limbs d') fA ⟨limbs_lim _, by omega⟩
  rw [val_limbs, val_limbs, divR_pos hd0] at v1
  have lq := limbs_mono (Nat.div_le_self A d')
  have lr := limbs_mono (Nat.mod_le A d')
  have u1 := c_up (limbs (A % d')) ⟨limbs_lim _, by omega⟩ 1 (by decide)
  rw [val_limbs, show A % d' * 2 ^ 1 = 2 * (A % d') by omega] at u1
  simp only [Int.natCast_one] at u1
  have l2 := limbs_mono (Nat.mul_le_mul_left 2 (Nat.mod_le A d'))
  have l3 := limbs_mul_len (limbs_lim 2) (limbs_lim A)
  have l4 : (limbs 2).length ≤ 1 := limbs_len_le (by decide)
  rw [val_limbs, val_limbs] at l3
  have c1 := c_Cmp (limbs (2 * (A % d'))) (limbs d') ⟨limbs_lim _, by omega⟩ ⟨limbs_lim _, by omega⟩
  rw [val_limbs, val_limbs] at c1
  have b1 := c_Bit (limbs (A / d')) ⟨limbs_lim _, by omega⟩ 0 (by decide)
  have b2 : bitV (limbs (A / d')) 0 = decide (A / d' % 2 = 1) := by unfold bitV; simp [val_limbs]
  rw [b2] at b1
  have a1 := c_Add (limbs (A / d')) [1] ⟨limbs_lim _, by omega⟩ ⟨Lim.one (by decide), by simp⟩
  rw [val_limbs, h1l, show val [1] = 1 by simp [val]] at a1
  have hz := rndq_le A d'
  have hzl := limbs_mono hz
  have l5 : (limbs (A + 1)).length ≤ (limbs A).length + 2 := by
    have := limbs_mono (show A + 1 ≤ 2 * A + 1 by omega)
    have e := limbs_len_le (n := 2 * A + 1) (k := (limbs A).length + 1) (by
      have := val_lt (limbs_lim A)
      rw [val_limbs] at this
      rw [Nat.pow_succ]
      omega)
    omega
  unfold rndq at hzl ⊢
  obtain ⟨q, hq⟩ : ∃ q, A / d' = q := ⟨_, rfl⟩
  obtain ⟨r, hr⟩ : ∃ r, A % d' = r := ⟨_, rfl⟩
  obtain ⟨t, ht⟩ : ∃ t, 2 * r = t := ⟨_, rfl⟩
  simp only [hq, hr, ht] at *
  have hp := fun q h => dec_pad s n' d' q k hk h
  unfold decE at hp
  simp only [ratA, rat] at *
  rw [run_limbs_Decimal]
  rcases Nat.lt_trichotomy t d' with hl | hl | hl
  · rw [cmp_lt hl] at c1
    rw [if_neg (by omega), Nat.add_zero] at hzl ⊢
    have hp := hp _ (Nat.le_trans hzl (by omega))
    simp [-tl5_limbs_Decimal, Run, o1, hk1, hk2, h0, m1, v1, u1, c1, hp]
  · subst hl
    have e3 : cmpN t t = 0 := by simp [cmpN]
    rw [e3] at c1
    by_cases ho1 : q % 2 = 1
    · rw [if_pos (by omega)] at hzl ⊢
      have hp := hp _ (Nat.le_trans hzl (by omega))
      simp [-tl5_limbs_Decimal, Run, o1, hk1, hk2, h0, m1, v1, u1, c1, b1, a1, ho1, hp]
    · rw [if_neg (by omega), Nat.add_zero] at hzl ⊢
      have hp := hp _ (Nat.le_trans hzl (by omega))
      simp [-tl5_limbs_Decimal, Run, o1, hk1, hk2, h0, m1, v1, u1, c1, b1, a1, ho1, hp]
  · rw [cmp_gt hl] at c1
    rw [if_pos (by omega)] at hzl ⊢
    have hp := hp _ (Nat.le_trans hzl (by omega))
    simp [-tl5_limbs_Decimal, Run, o1, hk1, hk2, h0, m1, v1, u1, c1, a1, hp]
end Go.AM.F

/- Quotients rounded to so many digits: the document. No conditions. -/
namespace Go.AM.F
open Go Go.AM
set_option maxRecDepth 10000
set_option linter.unusedSimpArgs false
attribute [local simp] j0_thicketref01_Decimal j1_thicketref01_Decimal w0_thicketref01_Decimal j2_thicketref01_Decimal w1_thicketref01_Decimal j3_thicketref01_Decimal j4_thicketref01_Decimal j5_thicketref01_Decimal j6_thicketref01_Decimal j7_thicketref01_Decimal j8_thicketref01_Decimal j9_thicketref01_Decimal b_thicketref01_Decimal a_thicketref01_Decimal
theorem rdec_loop (neg : Bool) (n d : List Nat) (k : Nat) (hk : k ≤ 1000) : ∀ (m i : Nat), k - i = m → i ≤ k →
    Exec T l0_thicketref01_Decimal [(1, .v (.int .i64 k)), (2, .box [.v (.bool neg), .ro 1 (ul n), .ro 1 (ul d)]), (6, .own 1 (ul (limbs (10 ^ i)))), (7, .v (.int .i64 i)), (23, .dead), (31, .dead)] =
      some (.exit 0, [(1, .v (.int .i64 k)), (2, .box [.v (.bool neg), .ro 1 (ul n), .ro 1 (ul d)]), (6, .own 1 (ul (limbs (10 ^ k)))), (7, .v (.int .i64 k)), (23, .dead), (31, .dead)]) := by
  intro m
  induction m with
  | zero =>
    intro i hm hi
    obtain rfl : i = k := by omega
    rw [ex0_thicketref01_Decimal]
    simp
  | succ m ih =>
    intro i hm hi
    have hlt : i < k := by omega
    have hw := wrap_succ hlt (by omega)
    have hl := ten_len i
    have f1 := c_rFrom 10 (by decide)
    have ht : (limbs 10).length ≤ 1 := limbs_len_le (by decide)
    have g1 := c_rMul (limbs (10 ^ i)) (limbs 10) ⟨limbs_lim _, by omega⟩ ⟨limbs_lim _, by omega⟩ (by omega)
    rw [val_limbs, val_limbs, ← Nat.pow_succ] at g1
    have h0 := ih (i + 1) (by omega) (by omega)
    have hc : ((10 : Nat) : Int) = 10 := rfl
    rw [hc] at f1
    rw [succ_cast] at h0
    generalize 10 ^ (i + 1) = P1 at *
    generalize 10 ^ i = P0 at *
    rw [← h0, ex0_thicketref01_Decimal]
    simp [hlt, hw, f1, g1]
def rdecE (s : Bool) (n d : List Nat) (q k : Nat) : Env := [(1, .v (.int .i64 k)), (2, .box [.v (.bool s), .ro 1 (ul n), .ro 1 (ul d)]), (8, .own 1 (ul (limbs q))), (32, .tup [.ref 39 [0], .ref 39 [1], .v (.int .i64 0)]), (39, .tup [.dead, .dead, .v (.int .i64 0)]), (40, .ref 39 [0]), (61, .dead)]
def rdecF (s : Bool) (n d : List Nat) (q : Nat) (t : ByteArray) : Env := [(2, .box [.v (.bool s), .ro 1 (ul n), .ro 1 (ul d)]), (8, .own 1 (ul (limbs q))), (12, .v (.string t)), (32, .tup [.ref 39 [0], .ref 39 [1], .v (.int .i64 0)]), (39, .tup [.dead, .dead, .v (.int .i64 0)]), (40, .ref 39 [0]), (61, .dead)]
/-- The sign. -/
theorem rdec_sign (s : Bool) (n d : List Nat) (q : Nat) (t : ByteArray) (ht : t.size ≤ 9223372036854775000) : Exec T k4_thicketref01_Decimal (rdecF s n d q t) = some (.ret, [(4, .v (.string (signT (s && decide (q ≠ 0)) t))), (5, .v (.int .i64 0))]) := by
  have e0 : (⟨#[45]⟩ : ByteArray) = tx [45] := rfl
  have f1 : 1 + t.size ≤ 9223372036854775807 := by omega
  unfold rdecF signT
  by_cases hq : q = 0
  · subst hq
    cases s <;> simp [limbs_zero, e0, f1]
  · have hne : limbs q ≠ [] := by rw [limbs_pos hq]; simp
    have hl : 0 < (limbs q).length := List.length_pos_iff.2 hne
    cases s <;> simp [hl, hq, hne, e0, f1]
/-- The point. -/
theorem rdec_dot (s : Bool) (n d : List Nat) (q k : Nat) (t : ByteArray) (hk : k < t.size) (ht : t.size ≤ 4611686018427387903) : Exec T k5_thicketref01_Decimal ((1, .v (.int .i64 k)) :: rdecF s n d q t) = some (.ret, [(4, .v (.string (signT (s && decide (q ≠ 0)) (dotT k t)))), (5, .v (.int .i64 0))]) := by
  have e0 : (⟨#[46]⟩ : ByteArray) = tx [46] := rfl
  have hw : IntKind.i64.wrap ((t.size : Int) - k) = ((t.size - k : Nat) : Int) := by rw [wrap_i64] <;> omega
  obtain ⟨m, hm⟩ : ∃ m, t.size - k = m := ⟨_, rfl⟩
  have hmt : m ≤ t.size := by omega
  have z0 : (t.extract 0 m).size = m := by rw [ByteArray.size_extract]; omega
  have z1 : (t.extract m t.size).size = k := by rw [ByteArray.size_extract]; omega
  have f1 : m + 1 ≤ 9223372036854775807 := by omega
  have f2 : m + 1 + k ≤ 9223372036854775807 := by omega
  have hd : (dotT k t).size ≤ t.size + 1 := by
    unfold dotT
    split
    · rw [ByteArray.size_append, ByteArray.size_append, hm, z0, z1, tx_size]
      simp
      omega
    · omega
  have h0 := rdec_sign s n d q (dotT k t) (by omega)
  rw [hm] at hw
  rw [← h0]
  unfold dotT rdecF
  rw [hm]
  by_cases h : 0 < k
  · simp [-tl4_thicketref01_Decimal, h, hw, hmt, z0, z1, f1, f2, e0, ByteArray.size_append]
  · simp [-tl4_thicketref01_Decimal, h]
    rw [tl4_thicketref01_Decimal, tl4_thicketref01_Decimal]
    simp [-j4_thicketref01_Decimal]
/-- Zeros ahead. -/
theorem rpad_loop (s : Bool) (n d : List Nat) (q k : Nat) (hk : k ≤ 1000) : ∀ (m : Nat) (t : ByteArray), k + 1 - t.size = m → Exec T l1_thicketref01_Decimal ((1, .v (.int .i64 k)) :: rdecF s n d q t) = some (.exit 2, (1, .v (.int .i64 k)) :: rdecF s n d q (zpadT k t)) := by
  intro m
  have e0 : (⟨#[48]⟩ : ByteArray) = tx [48] := rfl
  induction m with
  | zero =>
    intro t hm
    have h : ¬ t.size ≤ k := by omega
    rw [pad_stop h, ex1_thicketref01_Decimal]
    unfold rdecF
    simp [h]
  | succ m ih =>
    intro t hm
    have h : t.size ≤ k := by omega
    have f1 : 1 + t.size ≤ 9223372036854775807 := by omega
    have h0 := ih (tx [48] ++ t) (by rw [ByteArray.size_append, tx_size]; simp; omega)
    rw [pad_step h] at h0
    rw [← h0, ex1_thicketref01_Decimal]
    unfold rdecF
    simp [h, e0, f1]
theorem rdec_pad (s : Bool) (n d : List Nat) (q k : Nat) (hk : k ≤ 1000) (hq : (limbs q).length ≤ 33554432) : Exec T k6_thicketref01_Decimal (rdecE s n d q k) = some (.ret, [(4, .v (.string (decT s k q))), (5, .v (.int .i64 0))]) := by
  have p1 := c_rPrint (limbs q) ⟨limbs_lim _, by omega⟩ (by omega)
  rw [val_limbs] at p1
  have z1 := printT_size q
  unfold decT
  obtain ⟨a, ha⟩ : ∃ a, printT q = a := ⟨_, rfl⟩
  rw [ha] at p1 z1 ⊢
  have zp := pad_size k a
  have h0 := rdec_dot s n d q k (zpadT k a) zp.1 (by omega)
  have h1 := rpad_loop s n d q k hk _ a rfl
  rw [← h0]
  unfold rdecF at h1 ⊢
  unfold rdecE
  simp [-tl5_thicketref01_Decimal, p1, h1]
theorem c_rDecimal (neg : Bool) (n d : List Nat) (hn : Fit n) (hd : Fit d) (hd0 : val d ≠ 0) (k1 : n.length ≤ 16777216) (k2 : d.length ≤ 16777216) (k : Nat) (hk : k ≤ 1000) :
    Cinf T n_thicketref01_Decimal [ratA neg n d, .v (.int .i64 k)] = some (.tup [.v (.string (decT neg k (rndq (val n * 10 ^ k) (val d)))), .v (.int .i64 0)], [.dead, .dead]) := by
  have hne : ¬ nbits (val d) = 0 := fun h => hd0 (nbits_eq_zero.1 h)
  have l1 := c_rLen d hd
  have hk1 : ¬ (k : Int) < 0 := by omega
  have hk2 : ¬ (1000 : Int) < k := by omega
  have r1 := c_rFrom 1 (by decide)
  simp only [Int.natCast_one] at r1
  have h0 := rdec_loop neg n d k hk k 0 (by omega) (by omega)
  rw [Nat.pow_zero] at h0
  simp only [Int.natCast_zero] at h0
  have ht := ten_len k
  have m1 := c_rMul n (limbs (10 ^ k)) hn ⟨limbs_lim _, by omega⟩ (by omega)
  have ml := limbs_mul_len hn.1 (limbs_lim (10 ^ k))
  rw [val_limbs] at m1 ml
  obtain ⟨A, hA⟩ : ∃ A, val n * 10 ^ k = A := ⟨_, rfl⟩
  obtain ⟨t10, ht10⟩ : ∃ t10, 10 ^ k = t10 := ⟨_, rfl⟩
  rw [hA] at m1 ml ⊢
  rw [ht10] at h0 m1
  have fA : Fit (limbs A) := ⟨limbs_lim _, by omega⟩
  have v1 := c_rDivMod (limbs A) d fA hd (by omega) (by omega)
  rw [val_limbs, divR_pos hd0] at v1
  have lq := limbs_mono (Nat.div_le_self A (val d))
  have lr := limbs_mono (Nat.mod_le A (val d))
  have u1 := c_rAdd (limbs (A % val d)) (limbs (A % val d)) ⟨limbs_lim _, by omega⟩ ⟨limbs_lim _, by omega⟩ (by omega)
  rw [val_limbs, ← Nat.two_mul] at u1
  have l2 := limbs_mono (Nat.mul_le_mul_left 2 (Nat.mod_le A (val d)))
  have l3 := limbs_mul_len (limbs_lim 2) (limbs_lim A)
  have l4 : (limbs 2).length ≤ 1 := limbs_len_le (by decide)
  rw [val_limbs, val_limbs] at l3
  have c1 := c_rCmp (limbs (2 * (A % val d))) d ⟨limbs_lim _, by omega⟩ hd
  rw [val_limbs] at c1
  have b1 := c_rBit (limbs (A / val d)) ⟨limbs_lim _, by omega⟩ 0 (by decide)
  have b2 : bitV (limbs (A / val d)) 0 = decide (A / val d % 2 = 1) := by unfold bitV; simp [val_limbs]
  rw [b2] at b1
  have lo : (limbs 1).length ≤ 1 := limbs_len_le (by decide)
  have a1 := c_rAdd (limbs (A / val d)) (limbs 1) ⟨limbs_lim _, by omega⟩ ⟨limbs_lim _, by omega⟩ (by omega)
  rw [val_limbs, val_limbs] at a1
  have hz := rndq_le A (val d)
  have hzl := limbs_mono hz
  have l5 : (limbs (A + 1)).length ≤ (limbs A).length + 2 := by
    have := limbs_mono (show A + 1 ≤ 2 * A + 1 by omega)
    have e := limbs_len_le (n := 2 * A + 1) (k := (limbs A).length + 1) (by
      have := val_lt (limbs_lim A)
      rw [val_limbs] at this
      rw [Nat.pow_succ]
      omega)
    omega
  unfold rndq at hzl ⊢
  obtain ⟨D, hD⟩ : ∃ D, val d = D := ⟨_, rfl⟩
  simp only [hD] at hd0 hne l1 v1 lq lr u1 l2 c1 b1 a1 hzl ⊢
  obtain ⟨q, hq⟩ : ∃ q, A / D = q := ⟨_, rfl⟩
  obtain ⟨r, hr⟩ : ∃ r, A % D = r := ⟨_, rfl⟩
  obtain ⟨t, ht⟩ : ∃ t, 2 * r = t := ⟨_, rfl⟩
  simp only [hq, hr, ht] at v1 lq lr u1 l2 c1 b1 a1 hzl ⊢
  have hp := fun q h => rdec_pad neg n d q k hk h
  unfold rdecE at hp
  simp only [ratA] at *
  rw [run_thicketref01_Decimal]
  rcases Nat.lt_trichotomy t D with hl | hl | hl
  · rw [cmp_lt hl] at c1
    rw [if_neg (by omega), Nat.add_zero] at hzl ⊢
    have hp := hp _ (Nat.le_trans hzl (by omega))
    simp [-tl6_thicketref01_Decimal, Run, l1, hne, hk1, hk2, r1, h0, m1, v1, u1, c1, hp]
  · subst hl
    have e3 : cmpN t t = 0 := by simp [cmpN]
    rw [e3] at c1
    by_cases ho1 : q % 2 = 1
    · rw [if_pos (by omega)] at hzl ⊢
      have hp := hp _ (Nat.le_trans hzl (by omega))
      simp [-tl6_thicketref01_Decimal, Run, l1, hne, hk1, hk2, r1, h0, m1, v1, u1, c1, b1, a1, ho1, hp]
    · rw [if_neg (by omega), Nat.add_zero] at hzl ⊢
      have hp := hp _ (Nat.le_trans hzl (by omega))
      simp [-tl6_thicketref01_Decimal, Run, l1, hne, hk1, hk2, r1, h0, m1, v1, u1, c1, b1, a1, ho1, hp]
  · rw [cmp_gt hl] at c1
    rw [if_pos (by omega)] at hzl ⊢
    have hp := hp _ (Nat.le_trans hzl (by omega))
    simp [-tl6_thicketref01_Decimal, Run, l1, hne, hk1, hk2, r1, h0, m1, v1, u1, c1, a1, hp]
end Go.AM.F

/- Every Write and Decimal: LimbsWrites. No conditions. -/
namespace Go.AM.F
open Go Go.AM
set_option maxRecDepth 10000
set_option linter.unusedSimpArgs false
attribute [local simp] j0_limbs_Write j1_limbs_Write j2_limbs_Write b_limbs_Write a_limbs_Write j0_thicketref01_Write j1_thicketref01_Write j2_thicketref01_Write b_thicketref01_Write a_thicketref01_Write
attribute [local simp] j8_limbs_Decimal b_limbs_Decimal a_limbs_Decimal j9_thicketref01_Decimal b_thicketref01_Decimal a_thicketref01_Decimal
attribute [local simp] b_thicketlaw01_LimbsWrites a_thicketlaw01_LimbsWrites
theorem c_Write0 (neg : Bool) (n d : List Nat) (hn : Fit n) (hd : Fit d) (h0 : val d = 0) : Cinf T n_limbs_Write [ratA neg n d] = some (.tup [.v (.string ⟨#[]⟩), .v (.int .i64 11)], [.dead]) := by
  have o1 := c_Over neg n d hn hd
  unfold overR at o1
  rw [if_pos h0] at o1
  simp only [ratA, rat] at *
  rw [run_limbs_Write]
  simp [Run, o1]
theorem c_rWrite0 (neg : Bool) (n d : List Nat) (hn : Fit n) (hd : Fit d) (hnl : n.length ≤ 17179869184) (hdl : d.length ≤ 17179869184) (h0 : val d = 0) : Cinf T n_thicketref01_Write [ratA neg n d] = some (.tup [.v (.string ⟨#[]⟩), .v (.int .i64 11)], [.dead]) := by
  have o1 := c_rOver neg n d hn hd hnl hdl
  unfold overR at o1
  rw [if_pos h0] at o1
  simp only [ratA, rat] at *
  rw [run_thicketref01_Write]
  simp [Run, o1]
theorem c_Decimal0 (neg : Bool) (n d : List Nat) (hn : Fit n) (hd : Fit d) (h0 : val d = 0) (k : Int) : Cinf T n_limbs_Decimal [ratA neg n d, .v (.int .i64 k)] = some (.tup [.v (.string ⟨#[]⟩), .v (.int .i64 11)], [.dead, .dead]) := by
  have o1 := c_Over neg n d hn hd
  unfold overR at o1
  rw [if_pos h0] at o1
  simp only [ratA, rat] at *
  rw [run_limbs_Decimal]
  simp [Run, o1]
theorem c_rDecimal0 (neg : Bool) (n d : List Nat) (hd : Fit d) (h0 : val d = 0) (k : Int) : Cinf T n_thicketref01_Decimal [ratA neg n d, .v (.int .i64 k)] = some (.tup [.v (.string ⟨#[]⟩), .v (.int .i64 11)], [.dead, .dead]) := by
  have l1 := c_rLen d hd
  rw [h0, nbits_zero] at l1
  simp only [Int.natCast_zero] at l1
  simp only [ratA] at *
  rw [run_thicketref01_Decimal]
  simp [Run, l1]
theorem c_DecimalR (neg : Bool) (n d : List Nat) (hn : Fit n) (hd : Fit d) (s : Bool) (n' d' : Nat) (ho : overR neg (val n) (val d) = .tup [rat s n' d', .v (.int .i64 0)]) (k : Int) (hk : k < 0 ∨ 1000 < k) : Cinf T n_limbs_Decimal [ratA neg n d, .v (.int .i64 k)] = some (.tup [.v (.string ⟨#[]⟩), .v (.int .i64 2)], [.dead, .dead]) := by
  have o1 := c_Over neg n d hn hd
  rw [ho] at o1
  simp only [ratA, rat] at *
  rw [run_limbs_Decimal]
  rcases hk with h | h
  · simp [Run, o1, h]
  · have h2 : ¬ k < 0 := by omega
    simp [Run, o1, h, h2]
theorem c_rDecimalR (neg : Bool) (n d : List Nat) (hd : Fit d) (h0 : val d ≠ 0) (k : Int) (hk : k < 0 ∨ 1000 < k) : Cinf T n_thicketref01_Decimal [ratA neg n d, .v (.int .i64 k)] = some (.tup [.v (.string ⟨#[]⟩), .v (.int .i64 2)], [.dead, .dead]) := by
  have hne : ¬ nbits (val d) = 0 := fun h => h0 (nbits_eq_zero.1 h)
  have l1 := c_rLen d hd
  simp only [ratA] at *
  rw [run_thicketref01_Decimal]
  rcases hk with h | h
  · simp [Run, l1, hne, h]
  · have h2 : ¬ k < 0 := by omega
    simp [Run, l1, hne, h, h2]
theorem over_dec {neg : Bool} {n d : Nat} (hd : d ≠ 0) : ∃ s n' d', overR neg n d = .tup [rat s n' d', .v (.int .i64 0)] ∧ d' ≠ 0 ∧ n' ≤ n ∧ d' ≤ d ∧ ∀ k t, decT s k (rndq (n' * t) d') = decT neg k (rndq (n * t) d) := by
  unfold overR rightR
  rw [if_neg hd]
  by_cases hn : n = 0
  · subst hn
    refine ⟨false, 0, 1, by rw [if_pos rfl], by decide, Nat.le_refl _, by omega, fun k t => ?_⟩
    rw [Nat.zero_mul, rndq_zero (by decide), rndq_zero (by omega)]
    simp [decT]
  · have hg : 0 < Nat.gcd n d := Nat.gcd_pos_of_pos_right _ (by omega)
    refine ⟨neg, _, _, by rw [if_neg hn], ?_, Nat.div_le_self _ _, Nat.div_le_self _ _, fun k t => by rw [rndq_gcd hd]⟩
    have := Nat.div_pos (Nat.gcd_le_right n (by omega : 0 < d)) hg
    omega
theorem c_LimbsWrites (neg : Bool) (n d : List Nat) (k : Int) (h1 : Lim n) (h2 : Lim d) (l1 : n.length ≤ 16777216) (l2 : d.length ≤ 16777216) (k1 : -9223372036854775808 ≤ k) (k2 : k < 9223372036854775808) :
    ∃ backs, Cinf T n_thicketlaw01_LimbsWrites [ratA neg n d, .v (.int .i64 k)] = some (.v (.bool true), backs) := by
  have _ := k1
  have _ := k2
  have fn : Fit n := ⟨h1, by omega⟩
  have fd : Fit d := ⟨h2, by omega⟩
  have key : ∃ a b : ByteArray, ∃ e f : Int, Cinf T n_limbs_Write [ratA neg n d] = some (.tup [.v (.string a), .v (.int .i64 e)], [.dead]) ∧ Cinf T n_thicketref01_Write [ratA neg n d] = some (.tup [.v (.string a), .v (.int .i64 e)], [.dead]) ∧
      Cinf T n_limbs_Decimal [ratA neg n d, .v (.int .i64 k)] = some (.tup [.v (.string b), .v (.int .i64 f)], [.dead, .dead]) ∧ Cinf T n_thicketref01_Decimal [ratA neg n d, .v (.int .i64 k)] = some (.tup [.v (.string b), .v (.int .i64 f)], [.dead, .dead]) := by
    by_cases hd : val d = 0
    · exact ⟨_, _, _, _, c_Write0 neg n d fn fd hd, c_rWrite0 neg n d fn fd (by omega) (by omega) hd, c_Decimal0 neg n d fn fd hd k, c_rDecimal0 neg n d fd hd k⟩
    · obtain ⟨s, n', d', ho, hd', hnl, hdl, hdec⟩ := over_dec (neg := neg) (n := val n) hd
      have m1 := Nat.le_trans (limbs_mono hnl) (limbs_len h1)
      have m2 := Nat.le_trans (limbs_mono hdl) (limbs_len h2)
      have w1 := c_Write neg n d fn fd s n' d' ho (by omega) (by omega)
      have w2 := c_rWrite neg n d fn fd (by omega) (by omega) s n' d' ho (by omega) (by omega)
      by_cases hk : k < 0 ∨ 1000 < k
      · exact ⟨_, _, _, _, w1, w2, c_DecimalR neg n d fn fd s n' d' ho k hk, c_rDecimalR neg n d fd hd k hk⟩
      · obtain ⟨j, rfl⟩ : ∃ j : Nat, k = j := ⟨k.toNat, by omega⟩
        have e1 := c_Decimal neg n d fn fd s n' d' ho hd' (by omega) (by omega) j (by omega)
        rw [hdec] at e1
        exact ⟨_, _, _, _, w1, w2, e1, c_rDecimal neg n d fn fd hd (by omega) (by omega) j (by omega)⟩
  obtain ⟨a, b, e, f, q1, q2, q3, q4⟩ := key
  rw [run_thicketlaw01_LimbsWrites]
  simp only [ratA] at *
  exact ⟨_, by simp [Run, c_lives, q1, q2, q3, q4]; rfl⟩
end Go.AM.F
