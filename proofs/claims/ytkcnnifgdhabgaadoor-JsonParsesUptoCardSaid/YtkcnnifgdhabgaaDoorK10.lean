/- JSON: the program's reader: lists. No conditions. -/
import Derived.Test.YtkcnnifgdhabgaaDoorK9
namespace Go.AM.F
open Go Go.AM
set_option maxRecDepth 10000
set_option linter.unusedSimpArgs false

theorem pWant_le {s : ByteArray} {L : List UInt8} {i j : Nat} {u : Unit} (hi : i ≤ L.length) (h : pWant s L i = .ok j u) : i ≤ j ∧ j ≤ L.length := by
  have := pWord_le hi h
  omega
theorem pFlat_le {L : List UInt8} {i j : Nat} {v : J} (hi : i < L.length) (h : pFlat L i = .ok j v) : i ≤ j ∧ j ≤ L.length := by
  have hw : ∀ {s : ByteArray} {g : Nat → Unit → PR J} (_ : ∀ k u, ∃ w, g k u = .ok k w), (pWant s L i).bind g = .ok j v → i ≤ j ∧ j ≤ L.length := by
    intro s g hg h
    cases hp : pWant s L i with
    | bad w a => rw [hp] at h; cases h
    | ok k u =>
      rw [hp, PR.bind_ok] at h
      obtain ⟨w, hk⟩ := hg k u
      rw [hk] at h
      cases h
      exact pWant_le (by omega) hp
  unfold pFlat at h
  split at h
  · exact hw (fun k u => ⟨_, rfl⟩) h
  split at h
  · exact hw (fun k u => ⟨_, rfl⟩) h
  split at h
  · exact hw (fun k u => ⟨_, rfl⟩) h
  split at h
  · cases hp : pText L i with
    | bad w a => rw [hp] at h; cases h
    | ok k u =>
      rw [hp, PR.bind_ok] at h
      cases h
      have := pTx_le (show i + 1 ≤ L.length by omega) hp
      omega
  split at h
  · cases hp : pNumber L i with
    | bad w a => rw [hp] at h; cases h
    | ok k u =>
      rw [hp, PR.bind_ok] at h
      cases h
      have := pNumber_le (show i ≤ L.length by omega) hp
      omega
  · cases h
theorem tk_lt {s : ByteArray} {L : List UInt8} {i : Nat} (h : tk s L i = true) : i < L.length := by
  unfold tk at h
  simp at h
  exact h.1
theorem p_le (L : List UInt8) : ∀ f : Nat,
    (∀ d i j v, i ≤ L.length → pV L f d i = some (.ok j v) → i ≤ j ∧ j ≤ L.length) ∧
    (∀ d i acc j v, i ≤ L.length → pItems L f d i acc = some (.ok j v) → i ≤ j ∧ j ≤ L.length) ∧
    (∀ d i ns acc j v, i ≤ L.length → pMembers L f d i ns acc = some (.ok j v) → i ≤ j ∧ j ≤ L.length)
  | 0 => ⟨fun _ _ _ _ _ h => by simp [pV] at h, fun _ _ _ _ _ _ h => by simp [pItems] at h, fun _ _ _ _ _ _ _ h => by simp [pMembers] at h⟩
  | f + 1 => by
    obtain ⟨h1, h2, h3⟩ := p_le L f
    refine ⟨fun d i j v hi h => ?_, fun d i acc j v hi h => ?_, fun d i ns acc j v hi h => ?_⟩
    · simp only [pV] at h
      split at h
      · rename_i hlt
        have hs := skip_le blank L (show i + 1 ≤ L.length by omega)
        split at h
        · split at h
          · cases h
          · split at h
            · split at h
              · rename_i ht
                have := tk_lt ht
                cases h
                omega
              · have := h2 _ _ _ _ _ hs.2 h
                omega
            · split at h
              · rename_i ht
                have := tk_lt ht
                cases h
                omega
              · have := h3 _ _ _ _ _ _ hs.2 h
                omega
        · simp only [Option.some.injEq] at h
          exact pFlat_le hlt h
      · cases h
    · simp only [pItems] at h
      have hs := skip_le blank L hi
      cases hv : pV L f d (skip blank L i) with
      | none => rw [hv] at h; cases h
      | some r =>
        cases r with
        | bad w a => rw [hv] at h; cases h
        | ok k x =>
          rw [hv] at h
          have k1 := h1 _ _ _ _ hs.2 hv
          have k2 := skip_le blank L k1.2
          simp only at h
          split at h
          · rename_i ht
            have := tk_lt ht
            cases h
            omega
          · cases hw : pWant sComma L (skip blank L k) with
            | bad w a => rw [hw] at h; cases h
            | ok q u =>
              rw [hw] at h
              have k3 := pWant_le k2.2 hw
              have k4 := h2 _ _ _ _ _ k3.2 h
              omega
    · simp only [pMembers] at h
      have hs := skip_le blank L hi
      split at h
      · rename_i hc
        cases ht : pText L (skip blank L i) with
        | bad w b => rw [ht] at h; cases h
        | ok k s =>
          rw [ht] at h
          simp only at h
          have k1 := pTx_le (show skip blank L i + 1 ≤ L.length by omega) ht
          have k2 := skip_le blank L k1.2
          split at h
          · cases h
          · cases hw : pWant sColon L (skip blank L k) with
            | bad w b => rw [hw] at h; cases h
            | ok q u =>
              rw [hw] at h
              simp only at h
              have k3 := pWant_le k2.2 hw
              have k4 := skip_le blank L k3.2
              cases hv : pV L f d (skip blank L q) with
              | none => rw [hv] at h; cases h
              | some r =>
                cases r with
                | bad w a => rw [hv] at h; cases h
                | ok m x =>
                  rw [hv] at h
                  simp only at h
                  have k5 := h1 _ _ _ _ k4.2 hv
                  have k6 := skip_le blank L k5.2
                  split at h
                  · rename_i ht
                    have := tk_lt ht
                    cases h
                    omega
                  · cases hz : pWant sComma L (skip blank L m) with
                    | bad w a => rw [hz] at h; cases h
                    | ok y u =>
                      rw [hz] at h
                      have k7 := pWant_le k6.2 hz
                      have k8 := h3 _ _ _ _ _ _ k7.2 h
                      omega
      · cases h
end Go.AM.F
