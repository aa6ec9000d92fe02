/- JSON: values that end too early. No conditions. -/
import Derived.Test.YtkcnnifgdhabgaaDoorC1
namespace Go.AM.F
open Go Go.AM
set_option maxRecDepth 10000
set_option linter.unusedSimpArgs false

theorem flat_keep {L : List UInt8} {k i j : Nat} {v : J} (hk : k ≤ L.length) (hi : i < L.length) (hik : i < k) (h : pFlat L i = .ok j v) (hj : j ≤ k) : pFlat (L.take k) i = .ok j v := by
  have hword : ∀ {s : ByteArray} {g : J}, (pWant s L i).bind (fun j _ => PR.ok j g) = .ok j v → (pWant s (L.take k) i).bind (fun j _ => PR.ok j g) = .ok j v := by
    intro s g h
    cases hp : pWant s L i with
    | bad w a => rw [hp] at h; cases h
    | ok e u =>
      rw [hp, PR.bind_ok] at h
      cases h
      rw [want_keep hk hp hj]
      rfl
  unfold pFlat at h ⊢
  rw [lt_take hik]
  split at h
  · rename_i c
    rw [if_pos c]
    exact hword h
  rename_i c1
  rw [if_neg c1]
  split at h
  · rename_i c
    rw [if_pos c]
    exact hword h
  rename_i c2
  rw [if_neg c2]
  split at h
  · rename_i c
    rw [if_pos c]
    exact hword h
  rename_i c3
  rw [if_neg c3]
  split at h
  · rename_i c
    rw [if_pos c]
    cases hp : pText L i with
    | bad w a => rw [hp] at h; cases h
    | ok e s =>
      rw [hp, PR.bind_ok] at h
      cases h
      rw [ptext_keep hk hp hi hj]
      rfl
  rename_i c4
  rw [if_neg c4]
  split at h
  · rename_i c
    rw [if_pos c]
    cases hp : pNumber L i with
    | bad w a => rw [hp] at h; cases h
    | ok e s =>
      rw [hp, PR.bind_ok] at h
      cases h
      have ht : ((L.take k).drop i).take (j - i) = (L.drop i).take (j - i) := by
        rw [drop_take_comm, List.take_take, Nat.min_eq_left (by omega)]
      rw [number_keep hk hp (by omega) hj, PR.bind_ok, ht]
  · cases h
/-- The answer for a value that ends too early. -/
def CutV (L : List UInt8) (k : Nat) (r : Option (PR J)) : Prop := (∃ p, r = some (.bad 100 p) ∧ Cut L k p) ∨ ∃ v, r = some (.ok k v)
def CutB (L : List UInt8) (k : Nat) (r : Option (PR J)) : Prop := ∃ p, r = some (.bad 100 p) ∧ Cut L k p
theorem flat_cut {L : List UInt8} {k i j : Nat} {v : J} (hk : k ≤ L.length) (hik : i < k) (h : pFlat L i = .ok j v) (hj : k < j) (hjl : j ≤ L.length) : CutV L k (some (pFlat (L.take k) i)) := by
  have hword : ∀ {s : ByteArray} {g : J}, (pWant s L i).bind (fun j _ => PR.ok j g) = .ok j v → CutV L k (some ((pWant s (L.take k) i).bind (fun j _ => PR.ok j g))) := by
    intro s g h
    cases hp : pWant s L i with
    | bad w a => rw [hp] at h; cases h
    | ok e u =>
      rw [hp, PR.bind_ok] at h
      cases h
      rw [want_cut hk hp (by omega) hj]
      exact .inl ⟨k, rfl, .inl rfl⟩
  unfold pFlat at h ⊢
  rw [lt_take hik]
  split at h
  · rename_i c
    rw [if_pos c]
    exact hword h
  rename_i c1
  rw [if_neg c1]
  split at h
  · rename_i c
    rw [if_pos c]
    exact hword h
  rename_i c2
  rw [if_neg c2]
  split at h
  · rename_i c
    rw [if_pos c]
    exact hword h
  rename_i c3
  rw [if_neg c3]
  split at h
  · rename_i c
    rw [if_pos c]
    cases hp : pText L i with
    | bad w a => rw [hp] at h; cases h
    | ok e s =>
      rw [hp, PR.bind_ok] at h
      cases h
      obtain ⟨p, h1, h2⟩ := ptext_cut hk hp hik hj
      rw [h1]
      exact .inl ⟨p, rfl, h2⟩
  rename_i c4
  rw [if_neg c4]
  split at h
  · rename_i c
    rw [if_pos c]
    cases hp : pNumber L i with
    | bad w a => rw [hp] at h; cases h
    | ok e s =>
      rw [hp, PR.bind_ok] at h
      cases h
      rcases number_cut hp hjl (by omega) hj with e1 | e1
      · rw [e1]
        exact .inr ⟨_, rfl⟩
      · rw [e1]
        exact .inl ⟨k, rfl, .inl rfl⟩
  · cases h
theorem skip_keep {L : List UInt8} {k a : Nat} (hk : k ≤ L.length) (ha : a ≤ k) (h : skip blank L a ≤ k) : skip blank (L.take k) a = skip blank L a := by
  rw [skip_take hk _ a rfl ha]
  omega
theorem skip_cut {L : List UInt8} {k a : Nat} (hk : k ≤ L.length) (ha : a ≤ k) (h : k ≤ skip blank L a) : skip blank (L.take k) a = k := by
  rw [skip_take hk _ a rfl ha]
  omega
theorem p_keep {L : List UInt8} {k : Nat} (hk : k ≤ L.length) : ∀ f : Nat,
    (∀ d i j v, i ≤ L.length → pV L f d i = some (.ok j v) → j ≤ k → ∀ f', f ≤ f' → pV (L.take k) f' d i = some (.ok j v)) ∧
    (∀ d i acc j v, i ≤ L.length → pItems L f d i acc = some (.ok j v) → j ≤ k → ∀ f', f ≤ f' → pItems (L.take k) f' d i acc = some (.ok j v)) ∧
    (∀ d i ns acc j v, i ≤ L.length → pMembers L f d i ns acc = some (.ok j v) → j ≤ k → ∀ f', f ≤ f' → pMembers (L.take k) f' d i ns acc = some (.ok j v))
  | 0 => ⟨fun _ _ _ _ _ h => by simp [pV] at h, fun _ _ _ _ _ _ h => by simp [pItems] at h, fun _ _ _ _ _ _ _ h => by simp [pMembers] at h⟩
  | f + 1 => by
    obtain ⟨h1, h2, h3⟩ := p_keep hk f
    obtain ⟨l1, l2, l3⟩ := p_le L f
    refine ⟨fun d i j v hi h hj f' hf => ?_, fun d i acc j v hi h hj f' hf => ?_, fun d i ns acc j v hi h hj f' hf => ?_⟩
    all_goals obtain ⟨g, rfl⟩ : ∃ g, f' = g + 1 := ⟨f' - 1, by omega⟩
    · simp only [pV] at h ⊢
      split at h
      · rename_i hlt
        have hs := skip_le blank L (show i + 1 ≤ L.length by omega)
        split at h
        · rename_i hc
          split at h
          · cases h
          · rename_i hd
            split at h
            · rename_i h91
              split at h
              · rename_i ht
                have := tk_lt ht
                cases h
                rw [take_len hk, if_pos (by omega), lt_take (by omega), if_pos hc, if_neg hd, if_pos h91, skip_keep hk (by omega) (by omega), tk_take hk (by omega), if_pos ht]
              · rename_i ht
                have hle := l2 _ _ _ _ _ hs.2 h
                by_cases ha : skip blank L (i + 1) = k
                · have := h2 _ _ _ _ _ hs.2 h hj g (by omega)
                  rw [take_len hk, if_pos (by omega), lt_take (by omega), if_pos hc, if_neg hd, if_pos h91, skip_keep hk (by omega) (by omega), ha, tk_take_end hk]
                  rw [ha] at this
                  exact this
                · rw [take_len hk, if_pos (by omega), lt_take (by omega), if_pos hc, if_neg hd, if_pos h91, skip_keep hk (by omega) (by omega), tk_take hk (by omega), if_neg ht]
                  exact h2 _ _ _ _ _ hs.2 h hj g (by omega)
            · rename_i h91
              split at h
              · rename_i ht
                have := tk_lt ht
                cases h
                rw [take_len hk, if_pos (by omega), lt_take (by omega), if_pos hc, if_neg hd, if_neg h91, skip_keep hk (by omega) (by omega), tk_take hk (by omega), if_pos ht]
              · rename_i ht
                have hle := l3 _ _ _ _ _ _ hs.2 h
                by_cases ha : skip blank L (i + 1) = k
                · have := h3 _ _ _ _ _ _ hs.2 h hj g (by omega)
                  rw [take_len hk, if_pos (by omega), lt_take (by omega), if_pos hc, if_neg hd, if_neg h91, skip_keep hk (by omega) (by omega), ha, tk_take_end hk]
                  rw [ha] at this
                  exact this
                · rw [take_len hk, if_pos (by omega), lt_take (by omega), if_pos hc, if_neg hd, if_neg h91, skip_keep hk (by omega) (by omega), tk_take hk (by omega), if_neg ht]
                  exact h3 _ _ _ _ _ _ hs.2 h hj g (by omega)
        · rename_i hc
          simp only [Option.some.injEq] at h
          obtain ⟨q1, _⟩ := flat_good hlt h
          have := out_pos q1.right
          have := q1.out
          rw [take_len hk, if_pos (by omega), lt_take (by omega), if_neg hc, flat_keep hk hlt (by omega) h hj]
      · cases h
    · simp only [pItems] at h ⊢
      have hs := skip_le blank L hi
      cases hv : pV L f d (skip blank L i) with
      | none => rw [hv] at h; cases h
      | some r =>
        cases r with
        | bad w a => rw [hv] at h; cases h
        | ok e x =>
          rw [hv] at h
          have k1 := l1 _ _ _ _ hs.2 hv
          have k2 := skip_le blank L k1.2
          simp only at h
          split at h
          · rename_i ht
            have := tk_lt ht
            cases h
            rw [skip_keep hk (by omega) (by omega), h1 _ _ _ _ hs.2 hv (by omega) g (by omega)]
            simp only
            rw [skip_keep hk (by omega) (by omega), tk_take hk (by omega), if_pos ht]
          · rename_i ht
            cases hw : pWant sComma L (skip blank L e) with
            | bad w a => rw [hw] at h; cases h
            | ok q u =>
              rw [hw] at h
              have k3 := pComma_le k2.2 hw
              have k4 := l2 _ _ _ _ _ k3.2 h
              rw [skip_keep hk (by omega) (by omega), h1 _ _ _ _ hs.2 hv (by omega) g (by omega)]
              simp only
              rw [skip_keep hk (by omega) (by omega), tk_take hk (by omega), if_neg ht, want_keep hk hw (by omega)]
              exact h2 _ _ _ _ _ k3.2 h hj g (by omega)
    · simp only [pMembers] at h ⊢
      have hs := skip_le blank L hi
      split at h
      · rename_i hc
        cases ht : pText L (skip blank L i) with
        | bad w b => rw [ht] at h; cases h
        | ok e s =>
          rw [ht] at h
          simp only at h
          have k1 := pTx_le (show skip blank L i + 1 ≤ L.length by omega) ht
          have k2 := skip_le blank L k1.2
          split at h
          · cases h
          · rename_i hse
            cases hw : pWant sColon L (skip blank L e) with
            | bad w b => rw [hw] at h; cases h
            | ok q u =>
              rw [hw] at h
              simp only at h
              have k3 := pWord_le k2.2 hw
              have hcs : sColon.size = 1 := rfl
              have k4 := skip_le blank L (show q ≤ L.length from k3.2)
              cases hv : pV L f d (skip blank L q) with
              | none => rw [hv] at h; cases h
              | some r =>
                cases r with
                | bad w a => rw [hv] at h; cases h
                | ok m x =>
                  rw [hv] at h
                  simp only at h
                  have k5 := l1 _ _ _ _ k4.2 hv
                  have k6 := skip_le blank L k5.2
                  split at h
                  · rename_i ht2
                    have := tk_lt ht2
                    cases h
                    rw [skip_keep hk (by omega) (by omega), take_len hk, lt_take (by omega), if_pos ⟨by omega, hc.2⟩, ptext_keep hk ht hc.1 (by omega)]
                    simp only
                    rw [if_neg hse, skip_keep hk (by omega) (by omega), want_keep hk hw (by omega)]
                    simp only
                    rw [skip_keep hk (by omega) (by omega), h1 _ _ _ _ k4.2 hv (by omega) g (by omega)]
                    simp only
                    rw [skip_keep hk (by omega) (by omega), tk_take hk (by omega), if_pos ht2]
                  · rename_i ht2
                    cases hz : pWant sComma L (skip blank L m) with
                    | bad w a => rw [hz] at h; cases h
                    | ok y u =>
                      rw [hz] at h
                      have k7 := pComma_le k6.2 hz
                      have k8 := l3 _ _ _ _ _ _ k7.2 h
                      rw [skip_keep hk (by omega) (by omega), take_len hk, lt_take (by omega), if_pos ⟨by omega, hc.2⟩, ptext_keep hk ht hc.1 (by omega)]
                      simp only
                      rw [if_neg hse, skip_keep hk (by omega) (by omega), want_keep hk hw (by omega)]
                      simp only
                      rw [skip_keep hk (by omega) (by omega), h1 _ _ _ _ k4.2 hv (by omega) g (by omega)]
                      simp only
                      rw [skip_keep hk (by omega) (by omega), tk_take hk (by omega), if_neg ht2, want_keep hk hz (by omega)]
                      exact h3 _ _ _ _ _ _ k7.2 h hj g (by omega)
      · cases h
theorem v_end {L : List UInt8} {k : Nat} (hk : k ≤ L.length) (f d : Nat) : pV (L.take k) (f + 1) d k = some (.bad 100 k) := by
  simp only [pV]
  rw [take_len hk, if_neg (by omega)]
theorem items_end {L : List UInt8} {k : Nat} (hk : k ≤ L.length) (f d : Nat) (acc : List J) : pItems (L.take k) (f + 2) d k acc = some (.bad 100 k) := by
  simp only [pItems]
  rw [skip_end blank _ (by rw [take_len hk]; omega), v_end hk]
theorem members_end {L : List UInt8} {k : Nat} (hk : k ≤ L.length) (f d : Nat) (ns : List ByteArray) (acc : List J) : pMembers (L.take k) (f + 1) d k ns acc = some (.bad 100 k) := by
  simp only [pMembers]
  rw [skip_end blank _ (by rw [take_len hk]; omega), take_len hk, if_neg (by omega)]
theorem p_cut {L : List UInt8} {k : Nat} (hk : k ≤ L.length) : ∀ f : Nat,
    (∀ d i j v, i ≤ k → pV L f d i = some (.ok j v) → k < j → ∀ f', f + 2 ≤ f' → CutV L k (pV (L.take k) f' d i)) ∧
    (∀ d i acc j v, i ≤ k → pItems L f d i acc = some (.ok j v) → k < j → ∀ f', f + 2 ≤ f' → CutB L k (pItems (L.take k) f' d i acc)) ∧
    (∀ d i ns acc j v, i ≤ k → pMembers L f d i ns acc = some (.ok j v) → k < j → ∀ f', f + 2 ≤ f' → CutB L k (pMembers (L.take k) f' d i ns acc))
  | 0 => ⟨fun _ _ _ _ _ h => by simp [pV] at h, fun _ _ _ _ _ _ h => by simp [pItems] at h, fun _ _ _ _ _ _ _ h => by simp [pMembers] at h⟩
  | f + 1 => by
    obtain ⟨h1, h2, h3⟩ := p_cut hk f
    obtain ⟨e1, e2, e3⟩ := p_keep hk f
    obtain ⟨l1, l2, l3⟩ := p_le L f
    refine ⟨fun d i j v hi h hj f' hf => ?_, fun d i acc j v hi h hj f' hf => ?_, fun d i ns acc j v hi h hj f' hf => ?_⟩
    all_goals obtain ⟨g, rfl⟩ : ∃ g, f' = g + 3 := ⟨f' - 3, by omega⟩
    · by_cases hik : i = k
      · subst hik
        rw [v_end hk]
        exact .inl ⟨i, rfl, .inl rfl⟩
      rw [pV] at h ⊢
      rw [take_len hk, if_pos (by omega), lt_take (by omega)]
      rw [if_pos (by omega)] at h
      have hs := skip_le blank L (show i + 1 ≤ L.length by omega)
      split at h
      · rename_i hc
        rw [if_pos hc]
        split at h
        · cases h
        · rename_i hd
          rw [if_neg hd]
          split at h
          · rename_i h91
            rw [if_pos h91]
            by_cases ha : k ≤ skip blank L (i + 1)
            · rw [skip_cut hk (by omega) ha, tk_take_end hk]
              simp only [Bool.false_eq_true, if_false]
              rw [items_end hk]
              exact .inl ⟨k, rfl, .inl rfl⟩
            · rw [skip_keep hk (by omega) (by omega), tk_take hk (by omega)]
              split at h
              · rename_i ht
                cases h
                omega
              · rename_i ht
                rw [if_neg ht]
                obtain ⟨p, q1, q2⟩ := h2 _ _ _ _ _ (by omega) h hj (g + 2) (by omega)
                exact .inl ⟨p, q1, q2⟩
          · rename_i h91
            rw [if_neg h91]
            by_cases ha : k ≤ skip blank L (i + 1)
            · rw [skip_cut hk (by omega) ha, tk_take_end hk]
              simp only [Bool.false_eq_true, if_false]
              rw [members_end hk]
              exact .inl ⟨k, rfl, .inl rfl⟩
            · rw [skip_keep hk (by omega) (by omega), tk_take hk (by omega)]
              split at h
              · rename_i ht
                cases h
                omega
              · rename_i ht
                rw [if_neg ht]
                obtain ⟨p, q1, q2⟩ := h3 _ _ _ _ _ _ (by omega) h hj (g + 2) (by omega)
                exact .inl ⟨p, q1, q2⟩
      · rename_i hc
        rw [if_neg hc]
        simp only [Option.some.injEq] at h
        have hle := pFlat_le (by omega) h
        exact flat_cut hk (by omega) h hj hle.2
    · rw [pItems] at h ⊢
      have hs := skip_le blank L (show i ≤ L.length by omega)
      by_cases ha : k ≤ skip blank L i
      · rw [skip_cut hk hi ha, v_end hk]
        exact ⟨k, rfl, .inl rfl⟩
      rw [skip_keep hk hi (by omega)]
      cases hv : pV L f d (skip blank L i) with
      | none => rw [hv] at h; cases h
      | some r =>
        cases r with
        | bad w a => rw [hv] at h; cases h
        | ok e x =>
          rw [hv] at h
          have k1 := l1 _ _ _ _ hs.2 hv
          have k2 := skip_le blank L k1.2
          simp only at h
          have fin : ∀ v' : J, CutB L k (if tk sEnd (L.take k) k = true then some (.ok (k + 1) (.mk 6 eS [] (acc ++ [v']))) else match pWant sComma (L.take k) k with
              | .bad w a => some (.bad w a)
              | .ok q _ => pItems (L.take k) (g + 2) d q (acc ++ [v'])) := by
            intro v'
            rw [tk_take_end hk, comma_end hk]
            exact ⟨k, rfl, .inl rfl⟩
          by_cases hke : k < e
          · rcases h1 _ _ _ _ (by omega) hv hke (g + 2) (by omega) with ⟨p, q1, q2⟩ | ⟨v', q1⟩
            · rw [q1]
              exact ⟨p, rfl, q2⟩
            · rw [q1]
              simp only
              rw [skip_end blank (L.take k) (by rw [take_len hk]; omega)]
              exact fin v'
          · rw [e1 _ _ _ _ hs.2 hv (by omega) (g + 2) (by omega)]
            simp only
            by_cases hc : k ≤ skip blank L e
            · rw [skip_cut hk (by omega) hc]
              exact fin x
            · rw [skip_keep hk (by omega) (by omega), tk_take hk (by omega)]
              split at h
              · rename_i ht
                cases h
                omega
              · rename_i ht
                rw [if_neg ht]
                cases hw : pWant sComma L (skip blank L e) with
                | bad w a => rw [hw] at h; cases h
                | ok q u =>
                  rw [hw] at h
                  have k3 := pWord_le k2.2 hw
                  have hcs : sComma.size = 1 := rfl
                  rw [want_keep hk hw (by omega)]
                  exact h2 _ _ _ _ _ (by omega) h hj (g + 2) (by omega)
    · rw [pMembers] at h ⊢
      have hs := skip_le blank L (show i ≤ L.length by omega)
      by_cases ha : k ≤ skip blank L i
      · rw [skip_cut hk hi ha]
        rw [take_len hk, if_neg (by omega)]
        exact ⟨k, rfl, .inl rfl⟩
      rw [skip_keep hk hi (by omega)]
      rw [take_len hk, lt_take (by omega)]
      split at h
      · rename_i hc
        rw [if_pos ⟨by omega, hc.2⟩]
        cases ht : pText L (skip blank L i) with
        | bad w b => rw [ht] at h; cases h
        | ok e s =>
          rw [ht] at h
          simp only at h
          have k1 := pTx_le (show skip blank L i + 1 ≤ L.length by omega) ht
          have k2 := skip_le blank L k1.2
          by_cases hke : k < e
          · obtain ⟨p, q1, q2⟩ := ptext_cut hk ht (by omega) hke
            rw [q1]
            exact ⟨p, rfl, q2⟩
          rw [ptext_keep hk ht hc.1 (by omega)]
          simp only
          split at h
          · cases h
          · rename_i hse
            rw [if_neg hse]
            by_cases hc2 : k ≤ skip blank L e
            · rw [skip_cut hk (by omega) hc2, colon_end hk]
              exact ⟨k, rfl, .inl rfl⟩
            cases hw : pWant sColon L (skip blank L e) with
            | bad w b => rw [hw] at h; cases h
            | ok q u =>
              rw [hw] at h
              simp only at h
              have k3 := pWord_le k2.2 hw
              have hcs : sColon.size = 1 := rfl
              have k4 := skip_le blank L (show q ≤ L.length from k3.2)
              rw [skip_keep hk (by omega) (by omega), want_keep hk hw (by omega)]
              simp only
              by_cases hc3 : k ≤ skip blank L q
              · rw [skip_cut hk (by omega) hc3, v_end hk]
                exact ⟨k, rfl, .inl rfl⟩
              rw [skip_keep hk (by omega) (by omega)]
              cases hv : pV L f d (skip blank L q) with
              | none => rw [hv] at h; cases h
              | some r =>
                cases r with
                | bad w a => rw [hv] at h; cases h
                | ok m x =>
                  rw [hv] at h
                  simp only at h
                  have k5 := l1 _ _ _ _ k4.2 hv
                  have k6 := skip_le blank L k5.2
                  have fin : ∀ v' : J, CutB L k (if tk sStop (L.take k) k = true then some (.ok (k + 1) (.mk 7 eS (ns ++ [s]) (acc ++ [v']))) else match pWant sComma (L.take k) k with
                      | .bad w a => some (.bad w a)
                      | .ok q _ => pMembers (L.take k) (g + 2) d q (ns ++ [s]) (acc ++ [v'])) := by
                    intro v'
                    rw [tk_take_end hk, comma_end hk]
                    exact ⟨k, rfl, .inl rfl⟩
                  by_cases hkm : k < m
                  · rcases h1 _ _ _ _ (by omega) hv hkm (g + 2) (by omega) with ⟨p, q1, q2⟩ | ⟨v', q1⟩
                    · rw [q1]
                      exact ⟨p, rfl, q2⟩
                    · rw [q1]
                      simp only
                      rw [skip_end blank (L.take k) (by rw [take_len hk]; omega)]
                      exact fin v'
                  · rw [e1 _ _ _ _ k4.2 hv (by omega) (g + 2) (by omega)]
                    simp only
                    by_cases hc4 : k ≤ skip blank L m
                    · rw [skip_cut hk (by omega) hc4]
                      exact fin x
                    · rw [skip_keep hk (by omega) (by omega), tk_take hk (by omega)]
                      split at h
                      · rename_i ht2
                        cases h
                        omega
                      · rename_i ht2
                        rw [if_neg ht2]
                        cases hz : pWant sComma L (skip blank L m) with
                        | bad w a => rw [hz] at h; cases h
                        | ok y u =>
                          rw [hz] at h
                          have k7 := pWord_le k6.2 hz
                          have hcc : sComma.size = 1 := rfl
                          rw [want_keep hk hz (by omega)]
                          exact h3 _ _ _ _ _ _ (by omega) h hj (g + 2) (by omega)
      · cases h
end Go.AM.F
