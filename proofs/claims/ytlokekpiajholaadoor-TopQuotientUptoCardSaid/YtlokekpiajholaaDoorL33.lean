/- The laws of naturals, without the document. No conditions. -/
import Derived.Test.YtlokekpiajholaaDoorL32
namespace Go.AM.F
open Go Go.AM
set_option maxRecDepth 10000
set_option linter.unusedSimpArgs false
theorem decN_congr {s t : ByteArray} {k : Nat} : ∀ n, (∀ r, r < n → ch s (k + r) = ch t (k + r)) → decN s k n = decN t k n
  | 0, _ => rfl
  | n + 1, h => by rw [decN, decN, decN_congr n fun r hr => h r (by omega), h n (by omega)]
theorem ch_left (l m : List UInt8) {k : Nat} (h : k < l.length) : ch (tx (l ++ m)) k = ch (tx l) k := by
  rw [ch_tx, ch_tx, List.getElem?_append_left h]
theorem ch_mid (l : List UInt8) (x : UInt8) : ch (tx (l ++ [x])) l.length = x.toNat := by
  rw [ch_tx]
  simp
theorem revD_digits : ∀ v, ∀ x ∈ revD v, ∃ d, d < 10 ∧ x = db d := by
  intro v
  induction v using Nat.strongRecOn with
  | _ v ih =>
    by_cases h0 : v = 0
    · rw [h0, revD_zero]; intro x hx; cases hx
    · rw [revD_pos h0]
      intro x hx
      rcases List.mem_cons.1 hx with rfl | hx
      · exact ⟨v % 10, Nat.mod_lt _ (by decide), rfl⟩
      · exact ih (v / 10) (by omega) x hx
theorem dec_revD : ∀ v, decN (tx (revD v).reverse) 0 (revD v).length = v := by
  intro v
  induction v using Nat.strongRecOn with
  | _ v ih =>
    by_cases h0 : v = 0
    · rw [h0, revD_zero]; rfl
    · have h1 := ih (v / 10) (by omega)
      have hl : (revD (v / 10)).reverse.length = (revD (v / 10)).length := List.length_reverse
      rw [revD_pos h0, List.reverse_cons, List.length_cons, decN, Nat.zero_add, ← hl, ch_mid, hl, db_nat (Nat.mod_lt _ (by decide))]
      rw [decN_congr (t := tx (revD (v / 10)).reverse) (revD (v / 10)).length fun r hr => ch_left _ _ (by rw [hl]; omega), h1]
      omega
theorem good_all {l : List UInt8} (h : ∀ x ∈ l, ∃ d, d < 10 ∧ x = db d) (k : Nat) (hk : k < l.length) : badDig (tx l) k = false := by
  obtain ⟨d, hd, hx⟩ := h l[k] (List.getElem_mem hk)
  have hc : ch (tx l) k = 48 + d := by
    rw [ch_tx, List.getElem?_eq_getElem hk, Option.getD_some, hx, db_nat hd]
  unfold badDig
  rw [hc]
  simp
  omega
theorem read_print (v : Nat) : readR (printT v) = .tup [.own 1 (ul (limbs v)), .v (.int .i64 0), .v (.int .i64 0)] := by
  have key : ∀ (l : List UInt8) (w : Nat), l ≠ [] → (∀ x ∈ l, ∃ d, d < 10 ∧ x = db d) → decN (tx l) 0 l.length = w → readR (tx l) = .tup [.own 1 (ul (limbs w)), .v (.int .i64 0), .v (.int .i64 0)] := by
    intro l w hl hd hw
    have hf : ¬ fault (tx l) < (tx l).size := by
      intro h
      unfold fault at h
      have h1 := stop_is (badDig (tx l)) (tx l).size 0 (by omega)
      rw [good_all hd _ (by rw [tx_size] at h; exact h)] at h1
      cases h1
    have hne : ¬ (tx l).size = 0 := by rw [tx_size]; intro h; exact hl (List.eq_nil_of_length_eq_zero h)
    unfold readR
    rw [if_neg hf, if_neg hne, tx_size, hw]
  unfold printT
  by_cases h0 : v = 0
  · rw [if_pos h0, h0]
    exact key [48] 0 (by simp) (fun x hx => ⟨0, by decide, by rw [List.mem_singleton.1 hx]; rfl⟩) rfl
  · rw [if_neg h0]
    refine key _ v ?_ (fun x hx => revD_digits v x (List.mem_reverse.1 hx)) ?_
    · rw [revD_pos h0]; simp
    · rw [List.length_reverse, dec_revD]
theorem printT_size (v : Nat) : (printT v).size ≤ 18 * (limbs v).length + 1 := by
  unfold printT
  split
  · show 1 ≤ _
    omega
  · rw [tx_size, List.length_reverse]
    have := revD_len v
    have := chunks_limbs v
    omega
theorem cmpN_self (v : Nat) : cmpN v v = 0 := by unfold cmpN; rw [if_neg (by omega), if_pos rfl]
end Go.AM.F
