/- JSON: texts that end too early. No conditions. -/
import Derived.Test.YtkcnnifgdhabgaaDoorBx
namespace Go.AM.F
open Go Go.AM
set_option maxRecDepth 10000
set_option linter.unusedSimpArgs false

/-- The place that is told of a text that ends at k. -/
def Cut (L : List UInt8) (k p : Nat) : Prop := p = k ∨ (p < k ∧ k ≤ p + 3 ∧ 192 ≤ lt L p)
theorem word_keep {s : ByteArray} {L : List UInt8} {k : Nat} (hk : k ≤ L.length) : ∀ {m q i j : Nat} {u : Unit}, pWord s L m q i = .ok j u → j ≤ k → pWord s (L.take k) m q i = .ok j u := by
  intro m
  induction m with
  | zero => intro q i j u h _; exact h
  | succ m ih =>
    intro q i j u h hj
    simp only [pWord] at h ⊢
    split at h
    · rename_i hc
      have hle := pWord_le (by omega) h
      rw [lt_take (by omega), take_len hk, if_pos ⟨by omega, hc.2⟩]
      exact ih h hj
    · cases h
theorem word_cut {s : ByteArray} {L : List UInt8} {k : Nat} (hk : k ≤ L.length) : ∀ {m q i j : Nat} {u : Unit}, pWord s L m q i = .ok j u → i ≤ k → k < j → pWord s (L.take k) m q i = .bad 100 k := by
  intro m
  induction m with
  | zero => intro q i j u h hi hj; cases h; omega
  | succ m ih =>
    intro q i j u h hi hj
    simp only [pWord] at h ⊢
    by_cases hik : i = k
    · subst hik
      rw [take_len hk, if_neg (by omega)]
    · split at h
      · rename_i hc
        rw [lt_take (by omega), take_len hk, if_pos ⟨by omega, hc.2⟩]
        exact ih h (by omega) hj
      · cases h
theorem want_keep {s : ByteArray} {L : List UInt8} {k i j : Nat} {u : Unit} (hk : k ≤ L.length) (h : pWant s L i = .ok j u) (hj : j ≤ k) : pWant s (L.take k) i = .ok j u := word_keep hk h hj
theorem want_cut {s : ByteArray} {L : List UInt8} {k i j : Nat} {u : Unit} (hk : k ≤ L.length) (h : pWant s L i = .ok j u) (hi : i ≤ k) (hj : k < j) : pWant s (L.take k) i = .bad 100 k := word_cut hk h hi hj
theorem comma_end {L : List UInt8} {k : Nat} (hk : k ≤ L.length) : pWant sComma (L.take k) k = .bad 100 k := by
  unfold pWant
  rw [show sComma.size = 1 from rfl]
  simp only [pWord]
  rw [take_len hk, if_neg (by omega)]
theorem colon_end {L : List UInt8} {k : Nat} (hk : k ≤ L.length) : pWant sColon (L.take k) k = .bad 100 k := by
  unfold pWant
  rw [show sColon.size = 1 from rfl]
  simp only [pWord]
  rw [take_len hk, if_neg (by omega)]
theorem four_keep {L : List UInt8} {k : Nat} (hk : k ≤ L.length) : ∀ {m v i j u : Nat}, pFour L m v i = .ok j u → i ≤ L.length → j ≤ k → pFour (L.take k) m v i = .ok j u := by
  intro m
  induction m with
  | zero => intro v i j u h _ _; exact h
  | succ m ih =>
    intro v i j u h hi hj
    have hle := pFour_le hi h
    simp only [pFour] at h ⊢
    split at h
    · rename_i hc
      rw [lt_take (by omega), take_len hk, if_pos (by omega)]
      split at h
      · rename_i hx hh
        try rw [hh]
        exact ih h (by omega) hj
      · cases h
    · cases h
theorem four_cut {L : List UInt8} {k : Nat} (hk : k ≤ L.length) : ∀ {m v i j u : Nat}, pFour L m v i = .ok j u → i ≤ k → k < j → pFour (L.take k) m v i = .bad 100 k := by
  intro m
  induction m with
  | zero => intro v i j u h _ _; cases h; omega
  | succ m ih =>
    intro v i j u h hi hj
    simp only [pFour] at h ⊢
    by_cases hik : i = k
    · subst hik
      rw [take_len hk, if_neg (by omega)]
    · split at h
      · rename_i hc
        rw [lt_take (by omega), take_len hk, if_pos (by omega)]
        split at h
        · rename_i hx hh
          try rw [hh]
          exact ih h (by omega) hj
        · cases h
      · cases h
theorem escape_keep {L : List UInt8} {k i j : Nat} {s : ByteArray} (hk : k ≤ L.length) (h : pEscape L i = .ok j s) (hj : j ≤ k) : pEscape (L.take k) i = .ok j s := by
  have hle := pEscape_le h
  have h2 : i + 1 < k := by
    unfold pEscape at h
    split at h
    · split at h
      · cases h
        omega
      · split at h
        · cases hp : pFour L 4 0 (i + 2) with
          | bad w a => rw [hp] at h; cases h
          | ok q v =>
            rw [hp, PR.bind_ok] at h
            have := pFour_le (by omega) hp
            split at h
            · cases h
            · split at h
              · cases h
                omega
              · have := pPair_le h
                omega
        · cases h
    · cases h
  unfold pEscape at h ⊢
  rw [take_len hk, if_pos h2, lt_take (by omega)]
  rw [if_pos (by omega)] at h
  split at h
  · rename_i e he
    try rw [he]
    exact h
  · rename_i he
    try rw [he]
    try simp only
    split at h
    · rename_i c117
      rw [if_pos c117]
      cases hp : pFour L 4 0 (i + 2) with
      | bad w a => rw [hp] at h; cases h
      | ok q v =>
        rw [hp, PR.bind_ok] at h
        have hq := pFour_le (by omega) hp
        split at h
        · cases h
        · rename_i n1
          split at h
          · rename_i n2
            cases h
            rw [four_keep hk hp (by omega) hj, PR.bind_ok, if_neg n1, if_pos n2]
          · rename_i n2
            have hpl := pPair_le h
            rw [four_keep hk hp (by omega) (by omega), PR.bind_ok, if_neg n1, if_neg n2]
            unfold pPair at h ⊢
            split at h
            · rename_i hc
              cases hr : pFour L 4 0 (q + 2) with
              | bad w a => rw [hr] at h; cases h
              | ok r u =>
                rw [hr, PR.bind_ok] at h
                have hr2 := pFour_le (by omega) hr
                split at h
                · cases h
                · rename_i n3
                  cases h
                  rw [take_len hk, lt_take (by omega), lt_take (by omega), if_pos ⟨by omega, hc.2⟩, four_keep hk hr (by omega) hj, PR.bind_ok, if_neg n3]
            · cases h
    · cases h
theorem escape_cut {L : List UInt8} {k i j : Nat} {s : ByteArray} (hk : k ≤ L.length) (h : pEscape L i = .ok j s) (hi : i < k) (hj : k < j) : pEscape (L.take k) i = .bad 100 k := by
  by_cases hk1 : k = i + 1
  · unfold pEscape
    rw [take_len hk, if_neg (by omega), hk1]
  have h2 : i + 1 < k := by omega
  unfold pEscape at h ⊢
  rw [take_len hk, if_pos h2, lt_take (by omega)]
  rw [if_pos (by omega)] at h
  split at h
  · rename_i e he
    cases h
    omega
  · rename_i he
    try rw [he]
    try simp only
    split at h
    · rename_i c117
      rw [if_pos c117]
      cases hp : pFour L 4 0 (i + 2) with
      | bad w a => rw [hp] at h; cases h
      | ok q v =>
        rw [hp, PR.bind_ok] at h
        have hq := pFour_le (by omega) hp
        by_cases hqk : k < q
        · rw [four_cut hk hp (by omega) hqk]
          rfl
        split at h
        · cases h
        · rename_i n1
          split at h
          · cases h
            omega
          · rename_i n2
            rw [four_keep hk hp (by omega) (by omega), PR.bind_ok, if_neg n1, if_neg n2]
            unfold pPair at h ⊢
            split at h
            · rename_i hc
              by_cases hq1 : q + 1 < k
              · cases hr : pFour L 4 0 (q + 2) with
                | bad w a => rw [hr] at h; cases h
                | ok r u =>
                  rw [hr, PR.bind_ok] at h
                  split at h
                  · cases h
                  · rename_i n3
                    cases h
                    rw [take_len hk, lt_take (by omega), lt_take (by omega), if_pos ⟨by omega, hc.2⟩, four_cut hk hr (by omega) hj]
                    rfl
              · have hcut : cut (L.take k) q = true := by
                  unfold cut
                  by_cases hqe : q = k
                  · have : (L.take k).drop q = [] := List.drop_of_length_le (by rw [take_len hk]; omega)
                    simp [this]
                  · have hqq : q + 1 = k := by omega
                    have hlen : q < (L.take k).length := by rw [take_len hk]; omega
                    have hd : (L.take k).drop q = [(L.take k)[q]] := by
                      rw [List.drop_eq_getElem_cons hlen, List.drop_of_length_le (by rw [take_len hk]; omega)]
                    have h92 : (L.take k)[q] = 92 := by
                      apply UInt8.toNat_inj.1
                      rw [← lt_of hlen, lt_take (by omega), hc.2.1]
                      rfl
                    rw [h92] at hd
                    simp [hd]
                rw [take_len hk, if_neg (by omega), hcut]
                rfl
            · cases h
    · cases h
theorem uc_cut {M : List UInt8} {r : Nat} (h0 : 0 < r) (hr : r < uc M) : uc (M.take r) = 0 := by
  have hle := uc_le M
  have h1 : lt (M.take r) 0 = lt M 0 := lt_take h0
  have hl : (M.take r).length = r := by
    rw [List.length_take]
    omega
  have n1 : ¬ r = 0 := by omega
  have n2 : ¬ M.length = 0 := by omega
  unfold uc at hr
  rw [if_neg n2] at hr
  unfold uc
  rw [h1, hl, if_neg n1]
  split at hr
  · omega
  rename_i c1
  rw [if_neg c1]
  split at hr
  · omega
  rename_i c2
  rw [if_neg c2]
  split at hr
  · rename_i c3
    rw [if_pos c3]
    split at hr
    · rw [if_neg (by omega)]
    · omega
  rename_i c3
  rw [if_neg c3]
  split at hr
  · rename_i c4
    rw [if_pos c4]
    split at hr
    · rw [if_neg (by omega)]
    · omega
  rename_i c4
  rw [if_neg c4]
  split at hr
  · rename_i c5
    rw [if_pos c5]
    split at hr
    · rw [if_neg (by omega)]
    · omega
  · omega
theorem uc_big {M : List UInt8} (h : 1 < uc M) : 192 ≤ lt M 0 := by
  unfold uc at h
  split at h
  · omega
  split at h
  · omega
  split at h
  · omega
  omega
theorem drop_take_comm (L : List UInt8) (i k : Nat) : (L.take k).drop i = (L.drop i).take (k - i) := List.drop_take ..
theorem tx_keep {L : List UInt8} {k : Nat} (hk : k ≤ L.length) : ∀ {m i j : Nat} {acc : List UInt8} {s : ByteArray}, pTx L m acc i = .ok j s → i ≤ L.length → j ≤ k → ∀ m', k - i < m' → pTx (L.take k) m' acc i = .ok j s := by
  intro m
  induction m with
  | zero => intro i j acc s h; cases h
  | succ m ih =>
    intro i j acc s h hi hj m' hm
    have hle := pTx_le hi h
    obtain ⟨n, rfl⟩ : ∃ n, m' = n + 1 := ⟨m' - 1, by omega⟩
    simp only [pTx] at h ⊢
    rw [take_len hk, if_pos (by omega), lt_take (by omega)]
    rw [if_pos (by omega)] at h
    split at h
    · rename_i c
      rw [if_pos c]
      exact h
    rename_i c34
    rw [if_neg c34]
    split at h
    · rename_i c
      rw [if_pos c]
      cases hp : pEscape L i with
      | bad w a => rw [hp] at h; cases h
      | ok e u =>
        rw [hp, PR.bind_ok] at h
        have he := pEscape_le hp
        have hq := pTx_le he.2.1 h
        rw [escape_keep hk hp (by omega), PR.bind_ok]
        exact ih h he.2.1 hj n (by omega)
    rename_i c92
    rw [if_neg c92]
    split at h
    · cases h
    rename_i c32
    rw [if_neg c32]
    split at h
    · cases h
    rename_i hu
    have hul := uc_le (L.drop i)
    rw [List.length_drop] at hul
    have hq := pTx_le (show i + uc (L.drop i) ≤ L.length by omega) h
    have hs : uc ((L.take k).drop i) = uc (L.drop i) := by
      rw [drop_take_comm]
      refine uc_same hu (by rw [List.length_take, List.length_drop]; omega) fun q hq2 => lt_take (by omega)
    have ht : ((L.take k).drop i).take (uc (L.drop i)) = (L.drop i).take (uc (L.drop i)) := by
      rw [drop_take_comm, List.take_take, Nat.min_eq_left (by omega)]
    rw [hs, if_neg hu, ht]
    exact ih h (by omega) hj n (by omega)
theorem tx_cut {L : List UInt8} {k : Nat} (hk : k ≤ L.length) : ∀ {m i j : Nat} {acc : List UInt8} {s : ByteArray}, pTx L m acc i = .ok j s → i ≤ k → k < j → ∀ (m' : Nat) (acc' : List UInt8), k - i < m' → ∃ p, pTx (L.take k) m' acc' i = .bad 100 p ∧ Cut L k p := by
  intro m
  induction m with
  | zero => intro i j acc s h; cases h
  | succ m ih =>
    intro i j acc s h hi hj m' acc' hm
    obtain ⟨n, rfl⟩ : ∃ n, m' = n + 1 := ⟨m' - 1, by omega⟩
    by_cases hik : i = k
    · subst hik
      refine ⟨i, ?_, .inl rfl⟩
      simp only [pTx]
      rw [take_len hk, if_neg (by omega)]
    simp only [pTx] at h ⊢
    rw [take_len hk, if_pos (by omega), lt_take (by omega)]
    rw [if_pos (by omega)] at h
    split at h
    · cases h
      omega
    rename_i c34
    rw [if_neg c34]
    split at h
    · rename_i c
      rw [if_pos c]
      cases hp : pEscape L i with
      | bad w a => rw [hp] at h; cases h
      | ok e u =>
        rw [hp, PR.bind_ok] at h
        by_cases hek : k < e
        · rw [escape_cut hk hp (by omega) hek]
          exact ⟨k, rfl, .inl rfl⟩
        · rw [escape_keep hk hp (by omega), PR.bind_ok]
          have := pEscape_le hp
          exact ih h (by omega) hj n _ (by omega)
    rename_i c92
    rw [if_neg c92]
    split at h
    · cases h
    rename_i c32
    rw [if_neg c32]
    split at h
    · cases h
    rename_i hu
    have hul := uc_le (L.drop i)
    rw [List.length_drop] at hul
    by_cases hc : k < i + uc (L.drop i)
    · have hs : uc ((L.take k).drop i) = 0 := by
        rw [drop_take_comm]
        exact uc_cut (by omega) (by omega)
      rw [hs, if_pos rfl]
      have hb := uc_big (show 1 < uc (L.drop i) by omega)
      rw [lt_drop, Nat.add_zero] at hb
      exact ⟨i, rfl, .inr ⟨by omega, by omega, hb⟩⟩
    · have hs : uc ((L.take k).drop i) = uc (L.drop i) := by
        rw [drop_take_comm]
        refine uc_same hu (by rw [List.length_take, List.length_drop]; omega) fun q hq2 => lt_take (by omega)
      rw [hs, if_neg hu]
      exact ih h (by omega) hj n _ (by omega)
theorem ptext_keep {L : List UInt8} {k i j : Nat} {s : ByteArray} (hk : k ≤ L.length) (h : pText L i = .ok j s) (hi : i < L.length) (hj : j ≤ k) : pText (L.take k) i = .ok j s := by
  unfold pText at h ⊢
  have := pTx_le (show i + 1 ≤ L.length by omega) h
  rw [take_len hk]
  exact tx_keep hk h (by omega) hj _ (by omega)
theorem ptext_cut {L : List UInt8} {k i j : Nat} {s : ByteArray} (hk : k ≤ L.length) (h : pText L i = .ok j s) (hi : i < k) (hj : k < j) : ∃ p, pText (L.take k) i = .bad 100 p ∧ Cut L k p := by
  unfold pText at h ⊢
  rw [take_len hk]
  exact tx_cut hk h (by omega) hj _ _ (by omega)
end Go.AM.F
