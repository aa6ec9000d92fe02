/- JSON: JsonParses: the program's Parse and the document's say the same of every text of at most 1048576 bytes. No conditions. -/
import Derived.Test.YtkcnnifgdhabgaaDoorM15
import Derived.Test.YtkcnnifgdhabgaaDoorS1
namespace Go.AM.F
open Go Go.AM
set_option maxRecDepth 10000
set_option linter.unusedSimpArgs false

theorem p_enough (L : List UInt8) : ∀ f : Nat,
    (∀ d i, i ≤ L.length → 2 * (L.length - i) + 1 ≤ f → ∃ r, pV L f d i = some r) ∧
    (∀ d i acc, i ≤ L.length → 2 * (L.length - i) + 2 ≤ f → ∃ r, pItems L f d i acc = some r) ∧
    (∀ d i ns acc, i ≤ L.length → 2 * (L.length - i) + 2 ≤ f → ∃ r, pMembers L f d i ns acc = some r)
  | 0 => ⟨fun _ _ _ h => by omega, fun _ _ _ _ h => by omega, fun _ _ _ _ _ h => by omega⟩
  | f + 1 => by
    obtain ⟨h1, h2, h3⟩ := p_enough L f
    obtain ⟨l1, _, _⟩ := p_le L f
    refine ⟨fun d i hi hf => ?_, fun d i acc hi hf => ?_, fun d i ns acc hi hf => ?_⟩
    · simp only [pV]
      split
      · have hs := skip_le blank L (show i + 1 ≤ L.length by omega)
        split
        · split
          · exact ⟨_, rfl⟩
          · split
            · split
              · exact ⟨_, rfl⟩
              · exact h2 _ _ _ hs.2 (by omega)
            · split
              · exact ⟨_, rfl⟩
              · exact h3 _ _ _ _ hs.2 (by omega)
        · exact ⟨_, rfl⟩
      · exact ⟨_, rfl⟩
    · simp only [pItems]
      have hs := skip_le blank L hi
      obtain ⟨r, hr⟩ := h1 d (skip blank L i) hs.2 (by omega)
      rw [hr]
      cases r with
      | bad w a => exact ⟨_, rfl⟩
      | ok j v =>
        have k1 := l1 _ _ _ _ hs.2 hr
        have k2 := skip_le blank L k1.2
        simp only
        split
        · exact ⟨_, rfl⟩
        · cases hw : pWant sComma L (skip blank L j) with
          | bad w a => exact ⟨_, rfl⟩
          | ok k u =>
            have k3 := pComma_le k2.2 hw
            exact h2 _ _ _ k3.2 (by omega)
    · simp only [pMembers]
      have hs := skip_le blank L hi
      split
      · rename_i hc
        cases ht : pText L (skip blank L i) with
        | bad w a => exact ⟨_, rfl⟩
        | ok j s =>
          have k1 := pTx_le (show skip blank L i + 1 ≤ L.length by omega) ht
          have k2 := skip_le blank L k1.2
          simp only
          split
          · exact ⟨_, rfl⟩
          · cases hw : pWant sColon L (skip blank L j) with
            | bad w a => exact ⟨_, rfl⟩
            | ok k u =>
              have k3 := pWant_le k2.2 hw
              have k4 := skip_le blank L k3.2
              simp only
              obtain ⟨r, hr⟩ := h1 d (skip blank L k) k4.2 (by omega)
              rw [hr]
              cases r with
              | bad w a => exact ⟨_, rfl⟩
              | ok m v =>
                have k5 := l1 _ _ _ _ k4.2 hr
                have k6 := skip_le blank L k5.2
                simp only
                split
                · exact ⟨_, rfl⟩
                · cases hz : pWant sComma L (skip blank L m) with
                  | bad w a => exact ⟨_, rfl⟩
                  | ok q u =>
                    have k7 := pComma_le k6.2 hz
                    exact h3 _ _ _ _ k7.2 (by omega)
      · exact ⟨_, rfl⟩
theorem okL_append : ∀ {l : List J} {v : J}, J.OkL l → v.Ok → J.OkL (l ++ [v])
  | [], v, _, h => ⟨h, trivial⟩
  | x :: r, v, h, h2 => ⟨h.1, okL_append h.2 h2⟩
theorem flat_ok {k : Int} {t : ByteArray} : (J.mk k t [] []).Ok := ⟨by simp, by simp, trivial⟩
theorem pFlat_ok {L : List UInt8} {i j : Nat} {v : J} (h : pFlat L i = .ok j v) : v.Ok := by
  have hw : ∀ {α : Type} {x : PR α} {g : Nat → α → PR J} (_ : ∀ k u, ∃ a t, g k u = .ok k (.mk a t [] [])), x.bind g = .ok j v → v.Ok := by
    intro α x g hg h
    cases x with
    | bad w a => cases h
    | ok k u =>
      obtain ⟨a, t, hk⟩ := hg k u
      rw [PR.bind_ok, hk] at h
      cases h
      exact flat_ok
  unfold pFlat at h
  split at h
  · exact hw (fun k u => ⟨_, _, rfl⟩) h
  split at h
  · exact hw (fun k u => ⟨_, _, rfl⟩) h
  split at h
  · exact hw (fun k u => ⟨_, _, rfl⟩) h
  split at h
  · exact hw (fun k u => ⟨_, _, rfl⟩) h
  split at h
  · exact hw (x := pNumber L i) (fun k u => ⟨4, _, rfl⟩) h
  · cases h
theorem p_ok (L : List UInt8) (hL : L.length ≤ 1048576) : ∀ f : Nat,
    (∀ d i j v, i ≤ L.length → pV L f d i = some (.ok j v) → v.Ok) ∧
    (∀ d i acc j v, i ≤ L.length → acc.length ≤ i → J.OkL acc → pItems L f d i acc = some (.ok j v) → v.Ok) ∧
    (∀ d i ns acc j v, i ≤ L.length → acc.length ≤ i → ns.length ≤ i → J.OkL acc → pMembers L f d i ns acc = some (.ok j v) → v.Ok)
  | 0 => ⟨fun _ _ _ _ _ h => by simp [pV] at h, fun _ _ _ _ _ _ _ _ h => by simp [pItems] at h, fun _ _ _ _ _ _ _ _ _ _ h => by simp [pMembers] at h⟩
  | f + 1 => by
    obtain ⟨h1, h2, h3⟩ := p_ok L hL f
    obtain ⟨l1, _, _⟩ := p_le L f
    refine ⟨fun d i j v hi h => ?_, fun d i acc j v hi ha hok h => ?_, fun d i ns acc j v hi ha hn hok h => ?_⟩
    · simp only [pV] at h
      split at h
      · have hs := skip_le blank L (show i + 1 ≤ L.length by omega)
        split at h
        · split at h
          · cases h
          · split at h
            · split at h
              · cases h
                exact flat_ok
              · exact h2 _ _ [] _ _ hs.2 (by simp) trivial h
            · split at h
              · cases h
                exact flat_ok
              · exact h3 _ _ [] [] _ _ hs.2 (by simp) (by simp) trivial h
        · simp only [Option.some.injEq] at h
          exact pFlat_ok h
      · cases h
    · simp only [pItems] at h
      have hs := skip_le blank L hi
      cases hv : pV L f d (skip blank L i) with
      | none => rw [hv] at h; cases h
      | some r =>
        cases r with
        | bad w a => rw [hv] at h; cases h
        | ok k x =>
          rw [hv] at h
          have k1 := l1 _ _ _ _ hs.2 hv
          have k2 := skip_le blank L k1.2
          have hx := h1 _ _ _ _ hs.2 hv
          simp only at h
          split at h
          · rename_i ht
            have := tk_lt ht
            cases h
            exact ⟨by simp, by rw [List.length_append, List.length_singleton]; omega, okL_append hok hx⟩
          · cases hw : pWant sComma L (skip blank L k) with
            | bad w a => rw [hw] at h; cases h
            | ok q u =>
              rw [hw] at h
              have k3 := pComma_le k2.2 hw
              exact h2 _ _ _ _ _ k3.2 (by rw [List.length_append, List.length_singleton]; omega) (okL_append hok hx) h
    · simp only [pMembers] at h
      have hs := skip_le blank L hi
      split at h
      · rename_i hc
        cases ht : pText L (skip blank L i) with
        | bad w b => rw [ht] at h; cases h
        | ok k s =>
          rw [ht] at h
          simp only at h
          have k1 := pTx_le (show skip blank L i + 1 ≤ L.length by omega) ht
          have k2 := skip_le blank L k1.2
          split at h
          · cases h
          · cases hw : pWant sColon L (skip blank L k) with
            | bad w b => rw [hw] at h; cases h
            | ok q u =>
              rw [hw] at h
              simp only at h
              have k3 := pWant_le k2.2 hw
              have k4 := skip_le blank L k3.2
              cases hv : pV L f d (skip blank L q) with
              | none => rw [hv] at h; cases h
              | some r =>
                cases r with
                | bad w a => rw [hv] at h; cases h
                | ok m x =>
                  rw [hv] at h
                  simp only at h
                  have k5 := l1 _ _ _ _ k4.2 hv
                  have k6 := skip_le blank L k5.2
                  have hx := h1 _ _ _ _ k4.2 hv
                  split at h
                  · rename_i ht
                    have := tk_lt ht
                    cases h
                    exact ⟨by rw [List.length_append, List.length_singleton]; omega, by rw [List.length_append, List.length_singleton]; omega, okL_append hok hx⟩
                  · cases hz : pWant sComma L (skip blank L m) with
                    | bad w a => rw [hz] at h; cases h
                    | ok y u =>
                      rw [hz] at h
                      have k7 := pComma_le k6.2 hz
                      exact h3 _ _ _ _ _ _ k7.2 (by rw [List.length_append, List.length_singleton]; omega) (by rw [List.length_append, List.length_singleton]; omega) (okL_append hok hx) h
      · cases h
/-- What a text is read as. -/
theorem parse_some (L : List UInt8) (hL : L.length ≤ 1048576) : ∃ r, pParse L (2 * L.length + 1) = some r ∧ r.1.Ok := by
  have hs := skip_le blank L (Nat.zero_le L.length)
  have hl : ¬ 16777216 < L.length := by omega
  obtain ⟨r, hr⟩ := (p_enough L (2 * L.length + 1)).1 0 (skip blank L 0) hs.2 (by omega)
  have hok := (p_ok L hL (2 * L.length + 1)).1 0 (skip blank L 0)
  refine ⟨pEnd L r, ?_, ?_⟩
  · unfold pParse
    rw [if_neg hl, hr]
    rfl
  · cases r with
    | bad w a => exact flat_ok
    | ok j v =>
      have hv := hok j v hs.2 hr
      unfold pEnd
      simp only
      split
      · exact flat_ok
      · exact hv
attribute [local simp] b_thicketlaw10_JsonParses a_thicketlaw10_JsonParses
theorem c_JsonParses (L : List UInt8) (hL : L.length ≤ 1048576) : Cinf T n_thicketlaw10_JsonParses [.ro 1 (bl L)] = some (.v (.bool true), [.dead]) := by
  obtain ⟨r, hr, hok⟩ := parse_some L hL
  have h1 := c_Parse L _ r hr (by omega)
  have h2 := c_rParse L _ r hr (by omega)
  have h3 := c_rsame r.1 r.1 hok
  rw [J.eq_refl] at h3
  obtain ⟨⟨k0, t0, ns0, is0⟩, w, a⟩ := r
  simp only [told, J.copied, J.parts, J.pv_mk] at h1 h2 h3
  have b1 : L.length ≤ 140737488355328 := by omega
  have b2 : L.length ≤ 4611686018427387904 := by omega
  by_cases hz : PV.noRoL (ns0.map str) = true ∧ PV.noRoL (is0.map J.pv) = true
  · simp [run_thicketlaw10_JsonParses, Run, h1, h2, h3, b1, b2, bytesOf_bl, hz]
  · simp [run_thicketlaw10_JsonParses, Run, h1, h2, h3, b1, b2, bytesOf_bl, hz]
end Go.AM.F
