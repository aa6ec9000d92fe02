/- The laws of naturals, without the document. No conditions. -/
import Derived.Test.YtfkgoofipbbhpaaDoorL32
namespace Go.AM.F
open Go Go.AM
set_option maxRecDepth 10000
set_option linter.unusedSimpArgs false
attribute [local simp] j0_thicketlaw01_LimbsLaws j1_thicketlaw01_LimbsLaws j2_thicketlaw01_LimbsLaws j3_thicketlaw01_LimbsLaws j4_thicketlaw01_LimbsLaws b_thicketlaw01_LimbsLaws a_thicketlaw01_LimbsLaws

theorem decN_congr {s t : ByteArray} {k : Nat} : ∀ n, (∀ r, r < n → ch s (k + r) = ch t (k + r)) → decN s k n = decN t k n
  | 0, _ => rfl
  | n + 1, h => by rw [decN, decN, decN_congr n fun r hr => h r (by omega), h n (by omega)]
theorem ch_left (l m : List UInt8) {k : Nat} (h : k < l.length) : ch (tx (l ++ m)) k = ch (tx l) k := by
  rw [ch_tx, ch_tx, List.getElem?_append_left h]
theorem ch_mid (l : List UInt8) (x : UInt8) : ch (tx (l ++ [x])) l.length = x.toNat := by
  rw [ch_tx]
  simp
theorem revD_digits : ∀ v, ∀ x ∈ revD v, ∃ d, d < 10 ∧ x = db d := by
  intro v
  induction v using Nat.strongRecOn with
  | _ v ih =>
    by_cases h0 : v = 0
    · rw [h0, revD_zero]; intro x hx; cases hx
    · rw [revD_pos h0]
      intro x hx
      rcases List.mem_cons.1 hx with rfl | hx
      · exact ⟨v % 10, Nat.mod_lt _ (by decide), rfl⟩
      · exact ih (v / 10) (by omega) x hx
theorem dec_revD : ∀ v, decN (tx (revD v).reverse) 0 (revD v).length = v := by
  intro v
  induction v using Nat.strongRecOn with
  | _ v ih =>
    by_cases h0 : v = 0
    · rw [h0, revD_zero]; rfl
    · have h1 := ih (v / 10) (by omega)
      have hl : (revD (v / 10)).reverse.length = (revD (v / 10)).length := List.length_reverse
      rw [revD_pos h0, List.reverse_cons, List.length_cons, decN, Nat.zero_add, ← hl, ch_mid, hl, db_nat (Nat.mod_lt _ (by decide))]
      rw [decN_congr (t := tx (revD (v / 10)).reverse) (revD (v / 10)).length fun r hr => ch_left _ _ (by rw [hl]; omega), h1]
      omega
theorem good_all {l : List UInt8} (h : ∀ x ∈ l, ∃ d, d < 10 ∧ x = db d) (k : Nat) (hk : k < l.length) : badDig (tx l) k = false := by
  obtain ⟨d, hd, hx⟩ := h l[k] (List.getElem_mem hk)
  have hc : ch (tx l) k = 48 + d := by
    rw [ch_tx, List.getElem?_eq_getElem hk, Option.getD_some, hx, db_nat hd]
  unfold badDig
  rw [hc]
  simp
  omega
theorem read_print (v : Nat) : readR (printT v) = .tup [.own 1 (ul (limbs v)), .v (.int .i64 0), .v (.int .i64 0)] := by
  have key : ∀ (l : List UInt8) (w : Nat), l ≠ [] → (∀ x ∈ l, ∃ d, d < 10 ∧ x = db d) → decN (tx l) 0 l.length = w → readR (tx l) = .tup [.own 1 (ul (limbs w)), .v (.int .i64 0), .v (.int .i64 0)] := by
    intro l w hl hd hw
    have hf : ¬ fault (tx l) < (tx l).size := by
      intro h
      unfold fault at h
      have h1 := stop_is (badDig (tx l)) (tx l).size 0 (by omega)
      rw [good_all hd _ (by rw [tx_size] at h; exact h)] at h1
      cases h1
    have hne : ¬ (tx l).size = 0 := by rw [tx_size]; intro h; exact hl (List.eq_nil_of_length_eq_zero h)
    unfold readR
    rw [if_neg hf, if_neg hne, tx_size, hw]
  unfold printT
  by_cases h0 : v = 0
  · rw [if_pos h0, h0]
    exact key [48] 0 (by simp) (fun x hx => ⟨0, by decide, by rw [List.mem_singleton.1 hx]; rfl⟩) rfl
  · rw [if_neg h0]
    refine key _ v ?_ (fun x hx => revD_digits v x (List.mem_reverse.1 hx)) ?_
    · rw [revD_pos h0]; simp
    · rw [List.length_reverse, dec_revD]
theorem printT_size (v : Nat) : (printT v).size ≤ 18 * (limbs v).length + 1 := by
  unfold printT
  split
  · show 1 ≤ _
    omega
  · rw [tx_size, List.length_reverse]
    have := revD_len v
    have := chunks_limbs v
    omega
theorem cmpN_self (v : Nat) : cmpN v v = 0 := by unfold cmpN; rw [if_neg (by omega), if_pos rfl]
theorem c_LimbsLaws (a b c : List Nat) (ha : Lim a) (hb : Lim b) (hc : Lim c) (la : a.length ≤ 16777216) (lb : b.length ≤ 16777216) (lc : c.length ≤ 16777216) : ∃ backs, Cinf T n_thicketlaw01_LimbsLaws [.ro 1 (ul a), .ro 1 (ul b), .ro 1 (ul c)] = some (.v (.bool true), backs) := by
  have fa : Fit a := ⟨ha, by omega⟩
  have fb : Fit b := ⟨hb, by omega⟩
  have fc : Fit c := ⟨hc, by omega⟩
  have big : ∀ {v k : Nat} {l : List Nat}, Lim l → v ≤ val l → l.length ≤ k → k ≤ 1099511627776 → Fit (limbs v) := fun hl hv h1 h2 => ⟨limbs_lim _, by have := limbs_le hl hv; omega⟩
  obtain ⟨A, hA⟩ : ∃ A, val a = A := ⟨_, rfl⟩
  obtain ⟨B, hB⟩ : ∃ B, val b = B := ⟨_, rfl⟩
  obtain ⟨C, hC⟩ : ∃ C, val c = C := ⟨_, rfl⟩
  have lenA : (limbs A).length ≤ a.length := by rw [← hA]; exact limbs_len ha
  have lenAB : (limbs (A + B)).length ≤ a.length + b.length + 1 := by rw [← hA, ← hB]; exact limbs_add_len ha hb
  have lenBC : (limbs (B + C)).length ≤ b.length + c.length + 1 := by rw [← hC, ← hB]; exact limbs_add_len hb hc
  have lenmAB : (limbs (A * B)).length ≤ a.length + b.length := by rw [← hA, ← hB]; exact limbs_mul_len ha hb
  have lenmAC : (limbs (A * C)).length ≤ a.length + c.length := by rw [← hA, ← hC]; exact limbs_mul_len ha hc
  have lenmBC : (limbs (B * C)).length ≤ b.length + c.length := by rw [← hB, ← hC]; exact limbs_mul_len hb hc
  have fit : ∀ {v : Nat}, (limbs v).length ≤ 200000000 → Fit (limbs v) := fun h => ⟨limbs_lim _, by omega⟩
  have fAB := fit (v := A + B) (by omega)
  have fBC := fit (v := B + C) (by omega)
  have fmAB := fit (v := A * B) (by omega)
  have fmAC := fit (v := A * C) (by omega)
  have fmBC := fit (v := B * C) (by omega)
  have fA := fit (v := A) (by omega)
  have h1 := c_Add a b fa fb
  have h2 := c_Add b a fb fa
  have h3 := c_Mul a b fa fb
  have h4 := c_Mul b a fb fa
  have h5 := c_Add b c fb fc
  have h6 := c_Mul a (limbs (B + C)) fa fBC
  have h7 := c_Mul a c fa fc
  have h8 := c_Add (limbs (A * B)) (limbs (A * C)) fmAB fmAC
  have h9 := c_Mul (limbs (A * B)) c fmAB fc
  have h10 := c_Mul b c fb fc
  have h11 := c_Mul a (limbs (B * C)) fa fmBC
  have h12 := c_Sub (limbs (A + B)) b fAB fb
  have h13 := c_DivMod a b fa fb
  have h14 := c_Len b fb
  have h15 := c_Print a fa
  have k5 := c_Cmp (limbs A) a fA fa
  have hsz := printT_size A
  have h16 := c_Read (printT A) (by omega)
  rw [read_print] at h16
  simp only [val_limbs, hA, hB, hC] at h1 h2 h3 h4 h5 h6 h7 h8 h9 h10 h11 h12 h13 h14 h15 k5
  rw [Nat.add_comm B A] at h2
  rw [Nat.mul_comm B A] at h4
  rw [← Nat.mul_add] at h8
  rw [← Nat.mul_assoc] at h11
  rw [cmpN_self] at k5
  have len5 : (limbs (A * (B + C))).length ≤ 200000000 := by
    have := limbs_mul_len ha (limbs_lim (B + C))
    rw [hA, val_limbs] at this
    omega
  have len6 : (limbs (A * B * C)).length ≤ 200000000 := by
    have := limbs_mul_len (limbs_lim (A * B)) hc
    rw [hC, val_limbs] at this
    omega
  have self : ∀ v, (limbs v).length ≤ 200000000 → Cinf T n_limbs_Cmp [.ro 1 (ul (limbs v)), .ro 1 (ul (limbs v))] = some (.v (.int .i64 0), [.dead, .dead]) := by
    intro v hv
    have := c_Cmp (limbs v) (limbs v) (fit hv) (fit hv)
    rwa [val_limbs, cmpN_self] at this
  have k1 := self _ (Nat.le_trans lenAB (by omega))
  have k2 := self _ (Nat.le_trans lenmAB (by omega))
  have k3 := self _ len5
  have k4 := self _ len6
  unfold subR at h12
  rw [if_neg (by omega), Nat.add_sub_cancel] at h12
  rw [run_thicketlaw01_LimbsLaws]
  by_cases hB0 : B = 0
  · rw [hB0, divR_zero] at h13
    rw [hB0, nbits_zero] at h14
    simp only [Int.natCast_zero] at h14
    exact ⟨_, by simp [Run, c_lives, h1, h2, h3, h4, h5, h6, h7, h8, h9, h10, h11, h12, h13, h14, h15, h16, k1, k2, k3, k4, k5]; rfl⟩
  · rw [divR_pos hB0] at h13
    have hn0 : ¬ nbits B = 0 := by rw [nbits_pos hB0]; omega
    have hq := Nat.div_le_self A B
    have hm := Nat.mod_le A B
    have fQ := big (v := A / B) ha (by omega) (Nat.le_refl _) fa.2
    have fR := big (v := A % B) ha (by omega) (Nat.le_refl _) fa.2
    have g1 := c_Mul (limbs (A / B)) b fQ fb
    rw [val_limbs, hB] at g1
    have hqb : A / B * B ≤ A := Nat.div_mul_le_self A B
    have fQB := big (v := A / B * B) ha (by omega) (Nat.le_refl _) fa.2
    have g2 := c_Add (limbs (A / B * B)) (limbs (A % B)) fQB fR
    rw [val_limbs, val_limbs, show A / B * B + A % B = A by rw [Nat.mul_comm]; exact Nat.div_add_mod A B] at g2
    have g3 := c_Cmp (limbs (A % B)) b fR fb
    rw [val_limbs, hB, cmp_lt (Nat.mod_lt A (by omega))] at g3
    exact ⟨_, by simp [Run, c_lives, h1, h2, h3, h4, h5, h6, h7, h8, h9, h10, h11, h12, h13, h14, h15, h16, k1, k2, k3, k4, k5, hn0, g1, g2, g3]; rfl⟩
end Go.AM.F
