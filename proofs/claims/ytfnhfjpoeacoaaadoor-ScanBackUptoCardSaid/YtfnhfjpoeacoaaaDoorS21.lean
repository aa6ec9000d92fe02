/- Fields of a line, as the document has them: the whole line. No conditions. -/
import Derived.Test.YtfnhfjpoeacoaaaDoorS20
namespace Go.AM.F
open Go Go.AM
set_option maxRecDepth 10000
set_option linter.unusedSimpArgs false
attribute [local simp] j0_thicketref03_Fields j1_thicketref03_Fields j2_thicketref03_Fields j3_thicketref03_Fields j4_thicketref03_Fields j5_thicketref03_Fields w0_thicketref03_Fields j6_thicketref03_Fields b_thicketref03_Fields a_thicketref03_Fields
theorem rfields_loop (s : ByteArray) (hs : s.size ≤ 67108864) (by_ : Nat) : ∀ (n k : Nat) (acc : List ByteArray), s.size < k + n → k ≤ s.size → acc.length ≤ k →
    finish a_thicketref03_Fields [.v (.string s), .v (.int .u8 by_)] (inBlock 0 (Exec T l0_thicketref03_Fields [(0, .v (.string s)), (1, .v (.int .u8 by_)), (7, .own 1 (tl acc)), (8, .v (.int .i64 k)), (97, .dead)])) = some (fsR (fieldsFrom s by_ n k acc), [.dead, .dead]) := by
  intro n
  induction n with
  | zero => intro k acc hn hk; omega
  | succ n ih =>
    intro k acc hn hk ha
    have e1 : acc.length + 1 ≤ 8796093022208 := by omega
    have e2 : acc.length ≤ 4611686018427387903 := by omega
    have e3 : (acc.length + 1) * 16 ≤ 140737488355328 := by omega
    -- behind a field that ends at e
    have next : ∀ (t : ByteArray) (e : Nat), k ≤ e → e ≤ s.size → ¬ e = s.size → finish a_thicketref03_Fields [.v (.string s), .v (.int .u8 by_)] (inBlock 0 (Exec T l0_thicketref03_Fields [(0, .v (.string s)), (1, .v (.int .u8 by_)), (7, .own 1 (tl acc ++ [.v (.string t)])), (8, .v (.int .i64 ((e : Int) + 1))), (97, .dead)])) = some (fsR (fieldsFrom s by_ n (e + 1) (acc ++ [t])), [.dead, .dead]) := by
      intro t e h1 h2 h3
      have := ih (e + 1) (acc ++ [t]) (by omega) (by omega) (by simp; omega)
      rwa [succ_cast, tl_snoc] at this
    simp only [fieldsFrom]
    rw [ex0_thicketref03_Fields]
    by_cases hq : k < s.size ∧ ch s k = 34
    · obtain ⟨hlt, h34⟩ := hq
      have hw0 := wrap_succ hlt (by omega)
      have h0 := rfq_loop s hs by_ (tl acc) s.size (k + 1) [] (by omega) (by omega) (by simp)
      rw [succ_cast] at h0
      simp only [bl_nil] at h0
      unfold fieldAt
      rw [if_pos ⟨hlt, h34⟩]
      cases hqq : fqFrom s s.size (k + 1) [] with
      | bad p =>
        rw [hqq] at h0
        simp only [rfR] at h0
        simp [hlt, ch_eq, h34, hw0, h0, fsR]
      | over l =>
        rw [hqq] at h0
        simp only [rfR] at h0
        simp [hlt, ch_eq, h34, hw0, h0, fsR]
      | ok l e =>
        rw [hqq] at h0
        simp only [rfR] at h0
        obtain ⟨q1, q2, q3⟩ := fq_le hqq
        simp only []
        by_cases hb : e < s.size ∧ ch s e ≠ by_
        · rw [if_pos hb]
          obtain ⟨hb1, hb2⟩ := hb
          have hb3 : ¬ (ch s e : Int) = by_ := by omega
          simp [hlt, ch_eq, h34, hw0, h0, hb1, eq_false hb2, eq_false hb3, fsR]
        · rw [if_neg hb]
          simp only []
          by_cases he : e = s.size
          · rw [if_pos he]
            have he2 : s.size ≤ e := by omega
            have he3 : ¬ e < s.size := by omega
            simp [hlt, ch_eq, h34, hw0, h0, eq_false he3, he2, e1, e2, e3, fsR, bytesOf]
          · rw [if_neg he, ← next (bytesOf l) e (by omega) q2 he]
            have he2 : ¬ s.size ≤ e := by omega
            have he3 : e < s.size := by omega
            have hb2 : ch s e = by_ := by
              by_cases h : ch s e = by_
              · exact h
              · exact absurd ⟨he3, h⟩ hb
            have hb3 : (ch s e : Int) = by_ := by omega
            have hw := wrap_add (k := e) 1 (by omega)
            simp [hlt, ch_eq, h34, hw0, h0, he3, eq_true hb2, eq_true hb3, he2, e1, e2, e3, hw, bytesOf]
    · have hf : fieldAt s by_ k = .inl (s.extract k (stop (isBy s by_) (s.size - k) k), stop (isBy s by_) (s.size - k) k) := by unfold fieldAt; rw [if_neg hq]
      rw [hf]
      have hb := rby_loop s hs by_ (.own 1 (tl acc)) (fun _ _ => rfl) (s.size - k) k [] rfl hk (by simp)
      have hst := stop_le (isBy s by_) (s.size - k) k
      generalize stop (isBy s by_) (s.size - k) k = e at hb hst ⊢
      have g1 : k ≤ e := by omega
      have g2 : e ≤ s.size := by omega
      have hbc := bytesOf_chs s g1 g2
      obtain ⟨t, ht⟩ : ∃ t, s.extract k e = t := ⟨_, rfl⟩
      obtain ⟨l, hl⟩ : ∃ l, chs s (e - k) k = l := ⟨_, rfl⟩
      rw [ht, hl] at hbc
      rw [List.nil_append, hl] at hb
      simp only [bl_nil] at hb
      simp only [ht]
      have hbc2 : (⟨(l.map UInt8.ofNat).toArray⟩ : ByteArray) = t := hbc
      by_cases he : e = s.size
      · rw [if_pos he]
        have he2 : s.size ≤ e := by omega
        by_cases hlt : k < s.size
        · have h34 : ¬ ch s k = 34 := fun h => hq ⟨hlt, h⟩
          simp [hlt, ch_eq, h34, hb, hbc2, e1, e2, e3, he2, fsR]
        · simp [hlt, hb, hbc2, e1, e2, e3, he2, fsR]
      · rw [if_neg he, ← next t e g1 g2 he]
        have he2 : ¬ s.size ≤ e := by omega
        have hw := wrap_add (k := e) 1 (by omega)
        by_cases hlt : k < s.size
        · have h34 : ¬ ch s k = 34 := fun h => hq ⟨hlt, h⟩
          simp [hlt, ch_eq, h34, hb, hbc2, e1, e2, e3, he2, hw]
        · simp [hlt, hb, hbc2, e1, e2, e3, he2, hw]
theorem c_rFields (s : ByteArray) (hs : s.size ≤ 67108864) (by_ : Nat) : Cinf T n_thicketref03_Fields [.v (.string s), .v (.int .u8 by_)] = some (if badB by_ = true then .tup [.own 1 [], .v (.int .i64 2), .v (.int .i64 0)] else fsR (fieldsFrom s by_ (s.size + 1) 0 []), [.dead, .dead]) := by
  have h0 := rfields_loop s hs by_ (s.size + 1) 0 [] (by omega) (Nat.zero_le _) (Nat.le_refl _)
  simp only [tl_nil, Int.natCast_zero] at h0
  rw [run_thicketref03_Fields]
  unfold badB
  by_cases h1 : by_ = 34
  · simp [Run, eq_true h1]
  by_cases h2 : by_ = 10
  · simp [Run, eq_false h1, eq_true h2]
  by_cases h3 : by_ = 13
  · simp [Run, eq_false h1, eq_false h2, eq_true h3]
  · have e : (decide (by_ = 34) || decide (by_ = 10) || decide (by_ = 13)) = false := by simp [h1, h2, h3]
    rw [e]
    simp only [Bool.false_eq_true, if_false]
    rw [← h0]
    simp [Run, eq_false h1, eq_false h2, eq_false h3]
end Go.AM.F
