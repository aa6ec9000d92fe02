/- JSON: what the model's decoding says of a right character; the document's Right. No conditions. -/
import Derived.Test.YtkcnnifgdhabgaaDoorP7
import Derived.Lib.MapLaws
namespace Go.AM.F
open Go Go.AM
set_option maxRecDepth 10000
set_option linter.unusedSimpArgs false

theorem lt_getD (M : List UInt8) (i : Nat) : (M.getD i 0).toNat = lt M i := by
  simp [lt, List.getD_eq_getElem?_getD]
/-- What the model's decoding says: no right character, or just that. -/
theorem dec_uc (M : List UInt8) (h0 : 0 < M.length) :
    (uc M = 0 ∧ Lib.decodeL M = (65533, 1)) ∨
    (uc M ≠ 0 ∧ (Lib.decodeL M).2 = uc M ∧ Lib.decodeL M ≠ (65533, 1) ∧ (Lib.decodeL M).1 < 1114112 ∧ ((Lib.decodeL M).1 < 55296 ∨ 57344 ≤ (Lib.decodeL M).1) ∧ (lt M 0 < 128 → Lib.decodeL M = (lt M 0, 1)) ∧ (128 ≤ lt M 0 → 128 ≤ (Lib.decodeL M).1)) := by
  rw [Lib.decodeL_N, lt_getD, lt_getD, lt_getD, lt_getD]
  have k0 := lt_small M 0
  have k1 := lt_small M 1
  have k2 := lt_small M 2
  have k3 := lt_small M 3
  unfold uc
  rw [if_neg (show ¬ M.length = 0 by omega)]
  simp only [in1_iff, cont_iff]
  generalize lt M 0 = a at *
  generalize lt M 1 = b at *
  generalize lt M 2 = c at *
  generalize lt M 3 = d at *
  generalize M.length = n at *
  unfold Lib.decodeN
  repeat' split
  all_goals first
    | (left; exact ⟨rfl, rfl⟩)
    | (right; refine ⟨by omega, rfl, ?_, ?_, ?_, ?_, ?_⟩ <;> simp only [ne_eq, Prod.mk.injEq] <;> first | omega | (simp; done) | (simp; omega))
    | (exfalso; omega)
/-! ### The document's Right -/
attribute [local simp] j0_thicketref10_Right j1_thicketref10_Right w0_thicketref10_Right j2_thicketref10_Right b_thicketref10_Right a_thicketref10_Right
theorem Right_loop : ∀ (n : Nat) (M : List UInt8) (X x y z : PV) (q : Bool), M.length ≤ n → M.length ≤ 16777216 → (X = .own 1 (bl M) ∨ X = .ro 1 (bl M)) → Lib.validGoD n M = q →
    (q = true → ∃ e', Exec T l0_thicketref10_Right [(3, X), (6, .dead), (14, x), (15, y), (16, z)] = some (.exit 0, e')) ∧
    (q = false → Exec T l0_thicketref10_Right [(3, X), (6, .dead), (14, x), (15, y), (16, z)] = some (.ret, [(2, .v (.bool false))])) := by
  intro n
  induction n with
  | zero =>
    intro M X x y z q hn hl hX hq
    obtain rfl : M = [] := List.length_eq_zero_iff.1 (by omega)
    simp only [Lib.validGoD] at hq
    subst hq
    refine ⟨fun _ => ?_, fun h => by cases h⟩
    rw [ex0_thicketref10_Right]
    rcases hX with rfl | rfl <;> simp
  | succ n ih =>
    intro M X x y z q hn hl hX hq
    simp only [Lib.validGoD] at hq
    by_cases h0 : M = []
    · subst h0
      rw [if_pos rfl] at hq
      subst hq
      refine ⟨fun _ => ?_, fun h => by cases h⟩
      rw [ex0_thicketref10_Right]
      rcases hX with rfl | rfl <;> simp
    · rw [if_neg h0] at hq
      have hp : 0 < M.length := List.length_pos_iff.2 h0
      have hc := c_Char M
      have hle := uc_le M
      rcases dec_uc M hp with ⟨u1, u2⟩ | ⟨u1, u2, u3, _⟩
      · rw [u2, if_pos ⟨rfl, rfl⟩] at hq
        subst hq
        rw [u1] at hc
        refine ⟨fun h => (by cases h), fun _ => ?_⟩
        rw [ex0_thicketref10_Right]
        rcases hX with rfl | rfl <;> simp [hc, hp]
      · rw [if_neg (fun h => u3 (Prod.ext h.1 h.2)), u2] at hq
        have hi := ih (M.drop (uc M)) (.ro 1 (bl (M.drop (uc M)))) (.ro 1 (bl M)) (.v (.int .i64 (uc M : Nat))) (.ro 1 (bl (M.drop (uc M)))) q (by rw [List.length_drop]; omega) (by rw [List.length_drop]; omega) (.inr rfl) hq
        have hz : ¬ ((uc M : Nat) : Int) = 0 := by omega
        have h4 : uc M ≤ M.length := hle.1
        have hd : (bl M).drop (uc M) = bl (M.drop (uc M)) := bl_drop M (uc M)
        have hf := bl_full M
        generalize uc M = u at *
        have hs : Exec T l0_thicketref10_Right [(3, X), (6, .dead), (14, x), (15, y), (16, z)] = Exec T l0_thicketref10_Right [(3, .ro 1 (bl (M.drop u))), (6, .dead), (14, .ro 1 (bl M)), (15, .v (.int .i64 u)), (16, .ro 1 (bl (M.drop u)))] := by
          rw [ex0_thicketref10_Right]
          rcases hX with rfl | rfl <;> simp [hc, hp, hz, u1, h4, hd, hf]
        rw [hs]
        exact hi
theorem c_Right (s : ByteArray) (h : s.size ≤ 16777216) : Cinf T n_thicketref10_Right [.v (.string s)] = some (.v (.bool (okU s)), [.dead]) := by
  have hs := size_list s
  have he := byteList_bl s
  unfold okU Lib.validD
  generalize s.data.toList = L at *
  have e3 : s.size ≤ 4611686018427387904 := by omega
  have hl := Right_loop L.length L (.own 1 (bl L)) .dead .dead .dead _ (Nat.le_refl _) (by omega) (.inl rfl) rfl
  cases hq : Lib.validGoD L.length L with
  | true =>
    obtain ⟨e', h1⟩ := hl.1 hq
    simp [run_thicketref10_Right, Run, h1, he, e3, -w0_thicketref10_Right]
  | false =>
    have h1 := hl.2 hq
    simp [run_thicketref10_Right, Run, h1, he, e3, -w0_thicketref10_Right]
end Go.AM.F
