/- Digits read, by the program and by the document. No conditions. -/
import Derived.Test.YtlokekpiajholaaDoorL19
import Derived.Test.YtlokekpiajholaaDoorAmTxt
namespace Go.AM.F
open Go Go.AM
set_option maxRecDepth 10000
set_option linter.unusedSimpArgs false
attribute [local simp] j0_limbs_grow j1_limbs_grow w0_limbs_grow j2_limbs_grow j3_limbs_grow b_limbs_grow a_limbs_grow
attribute [local simp] j0_limbs_Read j1_limbs_Read w0_limbs_Read j2_limbs_Read j3_limbs_Read w2_limbs_Read j4_limbs_Read j5_limbs_Read w1_limbs_Read j6_limbs_Read j7_limbs_Read j8_limbs_Read b_limbs_Read a_limbs_Read
/-- Each limb times a number, in place: the limbs that are left are the old ones. -/
theorem grow_loop (l : List Nat) (h : Fit l) (k d : Nat) (hk : k < 4294967296) : ∀ (n i c : Nat) (o : List Nat), l.length - i = n → i ≤ l.length → c < 4294967296 → Lim o → o.length = l.length → o.drop i = l.drop i → val (o.take i) + 4294967296 ^ i * c = val (l.take i) * k + d →
    ∃ (o' : List Nat) (c' : Nat), Exec T l0_limbs_grow [(0, .ref 100000 []), (1, .v (.int .u32 k)), (7, .v (.int .u64 c)), (12, .v (.int .i64 l.length)), (13, .v (.int .i64 i)), (40, .dead), (100000, .own 1 (ul o))] = some (.exit 0, [(0, .ref 100000 []), (1, .v (.int .u32 k)), (7, .v (.int .u64 c')), (12, .v (.int .i64 l.length)), (13, .v (.int .i64 l.length)), (40, .dead), (100000, .own 1 (ul o'))]) ∧ c' < 4294967296 ∧ Lim o' ∧ o'.length = l.length ∧ val o' + 4294967296 ^ l.length * c' = val l * k + d := by
  intro n
  induction n with
  | zero =>
    intro i c o hn hi hc hl ho hd hv
    obtain rfl : i = l.length := by omega
    refine ⟨o, c, ?_, hc, hl, ho, ?_⟩
    · rw [ex0_limbs_grow]
      simp
    · rwa [List.take_of_length_le (Nat.le_refl _), List.take_of_length_le (Nat.le_of_eq ho)] at hv
  | succ n ih =>
    intro i c o hn hi hc hl ho hd hv
    have hal := h.2
    have hlt : i < l.length := by omega
    have hlo : i < o.length := by omega
    have hw := wrap_succ hlt (by omega)
    obtain ⟨x, hx⟩ : ∃ x, o[i] = x := ⟨_, rfl⟩
    have hxl := hl.get hlo
    rw [hx] at hxl
    have hxa : l[i] = x := by
      have := congrArg List.head? hd
      rw [List.drop_eq_getElem_cons hlo, List.drop_eq_getElem_cons hlt] at this
      simp only [List.head?_cons, Option.some.injEq] at this
      rw [← this, hx]
    have hp : x * k ≤ 4294967295 * 4294967295 := Nat.mul_le_mul (by omega) (by omega)
    obtain ⟨p, hpp⟩ : ∃ p, x * k = p := ⟨_, rfl⟩
    have hpi : (x : Int) * (k : Int) = (p : Int) := by rw [← hpp]; exact (Int.natCast_mul x k).symm
    rw [hpp] at hp
    obtain ⟨s, hs⟩ : ∃ s, c + p = s := ⟨_, rfl⟩
    have w0 := u64_nat (k := x) (by omega)
    have w1 := u64_nat (k := k) (by omega)
    have w2 := u64_nat (k := p) (by omega)
    have w3 : IntKind.u64.wrap ((c : Int) + p) = (s : Int) := by rw [wrap_u64] <;> omega
    have h1 := c_low s (by omega)
    have h2 := c_high s
    have hv2 : val ((o.set i (s % 4294967296)).take (i + 1)) + 4294967296 ^ (i + 1) * (s / 4294967296) = val (l.take (i + 1)) * k + d := by
      have h3 : (o.take i).length = i := by simp; omega
      rw [take_set_succ hlo, val_snoc, h3, val_take_succ' hlt hxa, Nat.add_mul, Nat.mul_assoc _ x k, hpp]
      have e1 := carry_step (s := p) hv.symm
      rw [hs] at e1
      omega
    obtain ⟨lo, hlo2⟩ : ∃ lo, s % 4294967296 = lo := ⟨_, rfl⟩
    obtain ⟨hi2, hhi⟩ : ∃ hi, s / 4294967296 = hi := ⟨_, rfl⟩
    rw [hlo2] at h1 hv2
    rw [hhi] at h2 hv2
    obtain ⟨o', c', h0, h3⟩ := ih (i + 1) hi2 (o.set i lo) (by omega) (by omega) (by omega) (hl.set (by omega)) (by simp [ho]) (by rw [drop_set_succ, ← List.drop_drop, hd, List.drop_drop]) hv2
    refine ⟨o', c', ?_, h3⟩
    rw [succ_cast] at h0
    rw [← h0, ex0_limbs_grow]
    simp [hlt, hlo, hx, hw, w0, w1, w2, w3, hpi, h1, h2, ul_set]
theorem c_grow (l : List Nat) (h : Fit l) (k d : Nat) (hk : k < 4294967296) (hd : d < 4294967296) : ∃ l', Cinf T n_limbs_grow [.own 1 (ul l), .v (.int .u32 k), .v (.int .u32 d)] = some (.own 1 (ul l'), [.dead, .dead, .dead]) ∧ Lim l' ∧ l'.length ≤ l.length + 1 ∧ val l' = val l * k + d := by
  obtain ⟨o, c, h0, h1, h2, h3, h4⟩ := grow_loop l h k d hk l.length 0 d l rfl (Nat.zero_le _) hd h.1 rfl rfl (by simp [val])
  simp only [Int.natCast_zero] at h0
  have hal := h.2
  have w0 := u64_nat (k := d) (by omega)
  have w1 := u32_nat (k := c) h1
  have e1 : l.length ≤ 35184372088831 := by omega
  have e2 : l.length ≤ 4611686018427387903 := by omega
  have e3 : (l.length + 1) * 4 ≤ 140737488355328 := by omega
  by_cases hc : c = 0
  · subst hc
    refine ⟨o, ?_, h2, by omega, by omega⟩
    rw [run_limbs_grow]
    simp at h0
    simp [Run, home, w0, h0]
  · refine ⟨o ++ [c], ?_, h2.append (Lim.one h1), by simp; omega, by rw [val_snoc, h3, h4]⟩
    have hc2 : 0 < c := by omega
    rw [run_limbs_grow, ul_snoc]
    simp [Run, home, w0, h0, hc2, w1, h3, e1, e2, e3]
/-- The number that n digits from k on say. -/
def decN (s : ByteArray) (k : Nat) : Nat → Nat
  | 0 => 0
  | n + 1 => 10 * decN s k n + (ch s (k + n) - 48)
def badDig (s : ByteArray) (k : Nat) : Bool := decide (ch s k < 48) || decide (57 < ch s k)
def fault (s : ByteArray) : Nat := stop (badDig s) s.size 0
theorem decN_add (s : ByteArray) (k : Nat) (m : Nat) : ∀ n, decN s k (m + n) = 10 ^ n * decN s k m + decN s (k + m) n
  | 0 => by simp [decN]
  | n + 1 => by
    rw [← Nat.add_assoc, decN, decN_add s k m n, decN, Nat.pow_succ, ← Nat.add_assoc k m n, Nat.mul_add, Nat.mul_comm (10 ^ n) 10, Nat.mul_assoc]
    omega
/-- What Read answers. -/
def readR (s : ByteArray) : PV := if fault s < s.size then .tup [.own 1 [], .v (.int .i64 10), .v (.int .i64 (fault s : Nat))] else if s.size = 0 then .tup [.own 1 [], .v (.int .i64 10), .v (.int .i64 0)] else .tup [.own 1 (ul (limbs (decN s 0 s.size))), .v (.int .i64 0), .v (.int .i64 0)]
theorem bad_loop (s : ByteArray) (hs : s.size ≤ 4611686018427387903) : ∀ (n k : Nat), s.size - k = n → k ≤ s.size →
    Exec T l0_limbs_Read [(0, .v (.string s)), (12, .v (.int .i64 s.size)), (13, .v (.int .i64 k))] = if stop (badDig s) n k < s.size then some (.ret, [(2, .own 1 []), (3, .v (.int .i64 10)), (4, .v (.int .i64 (stop (badDig s) n k : Nat))), (59, .dead)]) else some (.exit 0, [(0, .v (.string s)), (12, .v (.int .i64 s.size)), (13, .v (.int .i64 s.size))]) := by
  intro n
  induction n with
  | zero =>
    intro k hn hk
    obtain rfl : k = s.size := by omega
    rw [ex0_limbs_Read]
    simp [stop]
  | succ n ih =>
    intro k hn hk
    have hlt : k < s.size := by omega
    have h0 := ih (k + 1) (by omega) (by omega)
    rw [succ_cast] at h0
    have hw := wrap_succ hlt (by omega)
    rw [ex0_limbs_Read]
    by_cases h1 : ch s k < 48
    · simp [hlt, stop, badDig, h1, ch_eq]
    · by_cases h2 : 57 < ch s k
      · simp [hlt, stop, badDig, h1, h2, ch_eq]
      · simp [hlt, stop, badDig, h1, h2, ch_eq, hw]
        exact h0
theorem decN_lt (s : ByteArray) (k : Nat) : ∀ n, (∀ r, r < n → ch s (k + r) ≤ 57) → decN s k n < 10 ^ n
  | 0, _ => by simp [decN]
  | n + 1, h => by
    have h1 := decN_lt s k n fun r hr => h r (by omega)
    have h2 := h n (by omega)
    rw [decN, Nat.pow_succ]
    omega
theorem good_dig {s : ByteArray} {k : Nat} (h : badDig s k = false) : 48 ≤ ch s k ∧ ch s k ≤ 57 := by
  unfold badDig at h
  simp at h
  omega
theorem pow9 {i : Nat} (h : i ≤ 9) : 10 ^ i ≤ 1000000000 := Nat.le_trans (Nat.pow_le_pow_right (by decide) h) (by decide)
/-- A chunk of digits. -/
theorem chunk_loop (s : ByteArray) (j n : Nat) (hn : n ≤ 9) (hjn : j + n ≤ s.size) (hd : ∀ k, k < s.size → badDig s k = false) (a : List Nat) : ∀ (m i p d : Nat), n - i = m → i ≤ n → 10 ^ i = p → decN s j i = d →
    Exec T l2_limbs_Read [(0, .v (.string (s.extract j s.size))), (6, .own 1 (ul a)), (7, .v (.int .i64 n)), (8, .v (.int .u32 p)), (9, .v (.int .u32 d)), (36, .v (.int .i64 n)), (37, .v (.int .i64 i)), (54, .dead)] =
      some (.exit 4, [(0, .v (.string (s.extract j s.size))), (6, .own 1 (ul a)), (7, .v (.int .i64 n)), (8, .v (.int .u32 (10 ^ n : Nat))), (9, .v (.int .u32 (decN s j n : Nat))), (36, .v (.int .i64 n)), (37, .v (.int .i64 n)), (54, .dead)]) := by
  intro m
  induction m with
  | zero =>
    intro i p d hm hi hp hdd
    obtain rfl : i = n := by omega
    rw [ex2_limbs_Read, ← hp, ← hdd]
    simp
  | succ m ih =>
    intro i p d hm hi hp hdd
    have hlt : i < n := by omega
    have hw := wrap_succ hlt (by omega)
    have hdg := good_dig (hd (j + i) (by omega))
    have hdl := decN_lt s j i fun r hr => (good_dig (hd (j + r) (by omega))).2
    rw [hdd, hp] at hdl
    have hp2 : 10 ^ (i + 1) = p * 10 := by rw [Nat.pow_succ, hp]
    have hd2 : decN s j (i + 1) = 10 * d + (ch s (j + i) - 48) := by rw [decN, hdd]
    have hp3 := pow9 (i := i + 1) (by omega)
    rw [hp2] at hp3
    have hce := ch_extract s j s.size i (by omega) (Nat.le_refl _)
    have hsz := extract_size s j s.size (by omega) (Nat.le_refl _)
    obtain ⟨t, ht⟩ : ∃ t, s.extract j s.size = t := ⟨_, rfl⟩
    rw [ht] at hce hsz ih ⊢
    obtain ⟨c, hc⟩ : ∃ c, ch s (j + i) = c := ⟨_, rfl⟩
    rw [hc] at hdg hce hd2
    obtain ⟨e, he⟩ : ∃ e, c - 48 = e := ⟨_, rfl⟩
    rw [he] at hd2
    obtain ⟨p2, hp4⟩ : ∃ q, p * 10 = q := ⟨_, rfl⟩
    rw [hp4] at hp2 hp3
    obtain ⟨f, hf⟩ : ∃ q, 10 * d = q := ⟨_, rfl⟩
    rw [hf] at hd2
    obtain ⟨d2, hd3⟩ : ∃ q, f + e = q := ⟨_, rfl⟩
    rw [hd3] at hd2
    have h0 := ih (i + 1) p2 d2 (by omega) (by omega) hp2 hd2
    rw [succ_cast] at h0
    have hit : i < t.size := by omega
    have w0 : IntKind.u32.wrap ((p : Int) * 10) = (p2 : Int) := by rw [wrap_u32] <;> omega
    have w1 : IntKind.u32.wrap (10 * (d : Int)) = (f : Int) := by rw [wrap_u32] <;> omega
    have w2 : IntKind.u8.wrap ((c : Int) - 48) = (e : Int) := by rw [wrap_u8] <;> omega
    have w3 := u32_nat (k := e) (by omega)
    have w4 : IntKind.u32.wrap ((f : Int) + e) = (d2 : Int) := by rw [wrap_u32] <;> omega
    rw [← h0, ex2_limbs_Read]
    simp [hlt, hit, ch_eq, hce, hw, w0, w1, w2, w3, w4]
theorem read_loop (s : ByteArray) (hs : s.size ≤ 1099511627000) (hd : ∀ k, k < s.size → badDig s k = false) : ∀ (n j : Nat) (a : List Nat), s.size - j ≤ n → j ≤ s.size → Lim a → a.length ≤ j → val a = decN s 0 j →
    ∃ a', Exec T l1_limbs_Read [(0, .v (.string (s.extract j s.size))), (6, .own 1 (ul a)), (54, .dead)] = some (.exit 2, [(0, .v (.string (s.extract s.size s.size))), (6, .own 1 (ul a')), (54, .dead)]) ∧ Lim a' ∧ a'.length ≤ s.size ∧ val a' = decN s 0 s.size := by
  intro n
  induction n with
  | zero =>
    intro j a hn hj hl ha hv
    obtain rfl : j = s.size := by omega
    refine ⟨a, ?_, hl, ha, hv⟩
    have hsz := extract_size s s.size s.size (Nat.le_refl _) (Nat.le_refl _)
    obtain ⟨t, ht⟩ : ∃ t, s.extract s.size s.size = t := ⟨_, rfl⟩
    rw [ht] at hsz ⊢
    rw [ex1_limbs_Read]
    simp [hsz]
  | succ n ih =>
    intro j a hn hj hl ha hv
    by_cases hend : j = s.size
    · subst hend
      refine ⟨a, ?_, hl, ha, hv⟩
      have hsz := extract_size s s.size s.size (Nat.le_refl _) (Nat.le_refl _)
      obtain ⟨t, ht⟩ : ∃ t, s.extract s.size s.size = t := ⟨_, rfl⟩
      rw [ht] at hsz ⊢
      rw [ex1_limbs_Read]
      simp [hsz]
    · obtain ⟨m, hm⟩ : ∃ m, min 9 (s.size - j) = m := ⟨_, rfl⟩
      have hm9 : m ≤ 9 := by omega
      have hm0 : 0 < m := by omega
      have hjm : j + m ≤ s.size := by omega
      have hc := chunk_loop s j m hm9 hjm hd a m 0 1 0 rfl (Nat.zero_le _) rfl rfl
      have hp := pow9 hm9
      have hdl := decN_lt s j m fun r hr => (good_dig (hd (j + r) (by omega))).2
      have hadd := decN_add s 0 j m
      rw [← hv, Nat.zero_add] at hadd
      obtain ⟨P, hP⟩ : ∃ P, 10 ^ m = P := ⟨_, rfl⟩
      obtain ⟨D, hD⟩ : ∃ D, decN s j m = D := ⟨_, rfl⟩
      rw [hP, hD] at hc hadd hdl
      rw [hP] at hp
      obtain ⟨a1, g0, g1, g2, g3⟩ := c_grow a ⟨hl, by omega⟩ P D (by omega) (by omega)
      have hsz := extract_size s j s.size (by omega) (Nat.le_refl _)
      have htl := extract_tail s j m hjm
      obtain ⟨a', k0, k1⟩ := ih (j + m) a1 (by omega) hjm g1 (by omega) (by rw [g3, hadd, Nat.mul_comm])
      refine ⟨a', ?_, k1⟩
      rw [← hsz] at htl
      obtain ⟨t, ht⟩ : ∃ t, s.extract j s.size = t := ⟨_, rfl⟩
      rw [ht] at hsz htl hc ⊢
      rw [← k0, ex1_limbs_Read]
      have e1 : 0 < t.size := by omega
      have e2 : m ≤ t.size := by omega
      have e3 : (if t.size < 9 then (t.size : Int) else 9) = (m : Int) := by split <;> omega
      simp only [Int.natCast_zero] at hc
      simp at hc
      simp [e1, e2, e3, hc, g0, htl]
theorem c_Read (s : ByteArray) (hs : s.size ≤ 1099511627000) : Cinf T n_limbs_Read [.v (.string s)] = some (readR s, [.dead]) := by
  have hb := bad_loop s (by omega) s.size 0 (by omega) (Nat.zero_le _)
  rw [run_limbs_Read]
  unfold readR fault
  by_cases h1 : stop (badDig s) s.size 0 < s.size
  · rw [if_pos h1] at hb ⊢
    simp only [Int.natCast_zero] at hb
    simp [Run, hb]
  · rw [if_neg h1] at hb ⊢
    simp only [Int.natCast_zero] at hb
    by_cases h2 : s.size = 0
    · rw [if_pos h2]
      have h3 : s = ⟨#[]⟩ := ByteArray.ext (Array.eq_empty_of_size_eq_zero h2)
      subst h3
      simp [Run, hb]
    · rw [if_neg h2]
      have h3 : ¬ s = ⟨#[]⟩ := by rintro rfl; exact h2 rfl
      have hd : ∀ k, k < s.size → badDig s k = false := fun k hk => stop_not (badDig s) s.size 0 k (Nat.zero_le _) (by omega)
      obtain ⟨a', k0, k1, k2, k3⟩ := read_loop s hs hd s.size 0 [] (by omega) (Nat.zero_le _) Lim.nil (by simp) rfl
      rw [extract_all, ul_nil] at k0
      have t := c_trimO a' (by omega)
      rw [← limbs_val k1, k3] at t
      simp [Run, hb, h3, k0, t]
theorem decN_fit {s : ByteArray} (hd : ∀ k, k < s.size → badDig s k = false) {j : Nat} (hj : j ≤ s.size) : (limbs (decN s 0 j)).length ≤ j := by
  refine limbs_len_le (Nat.lt_of_lt_of_le (decN_lt s 0 j fun r hr => (good_dig (hd (0 + r) (by omega))).2) ?_)
  exact Nat.pow_le_pow_left (by decide) j
end Go.AM.F
