/- The words of a line, as the document has them: the whole line. No conditions. -/
import Derived.Test.YtfnhfjpoeacoaaaDoorS9
namespace Go.AM.F
open Go Go.AM
set_option maxRecDepth 10000
set_option linter.unusedSimpArgs false
attribute [local simp] j2_thicketref03_Words j3_thicketref03_Words j4_thicketref03_Words j5_thicketref03_Words j6_thicketref03_Words j7_thicketref03_Words w0_thicketref03_Words j8_thicketref03_Words b_thicketref03_Words a_thicketref03_Words
theorem wordEnd_lt {s : ByteArray} {i k e : Nat} (h : 65536 + i < e) : wordEnd s i k e = .err 4 i := by unfold wordEnd; rw [if_pos (by omega)]
theorem wordEnd_ge {s : ByteArray} {i k e : Nat} (h : e ≤ 65536 + i) : wordEnd s i k e = .word k (s.extract i e) e := by unfold wordEnd; rw [if_neg (by omega)]
set_option maxHeartbeats 8000000 in
theorem rwords_loop (s : ByteArray) (hs : s.size ≤ 1048576) : ∀ (n i : Nat) (acc : List WordV), s.size ≤ i + n → i ≤ s.size → acc.length ≤ i →
    finish a_thicketref03_Words [.v (.string s)] (andThen (inBlock 0 (Exec T l0_thicketref03_Words [(0, .v (.string s)), (5, .own 3 (wl acc)), (6, .v (.int .i64 i)), (200, .dead)])) (Exec T k8_thicketref03_Words)) = wordsOut (wordsFrom s n i acc) := by
  intro n
  induction n with
  | zero =>
    intro i acc hn hi ha
    obtain rfl : i = s.size := by omega
    rw [ex0_thicketref03_Words]
    simp [wordsFrom, wordsOut]
  | succ n ih =>
    intro i acc hn hi ha
    rw [ex0_thicketref03_Words]
    by_cases hlt : i < s.size
    · by_cases h35 : ch s i = 35
      · simp [wordsFrom, wordsOut, hlt, ch_eq, h35]
      have hw := wrap_succ hlt (by omega)
      have hw3 : IntKind.i64.wrap ((i : Int) + 1 + 1) = (i : Int) + 2 := by rw [wrap_i64] <;> omega
      have hb1 : (acc.length + 1) * 32 ≤ 140737488355328 := by omega
      have hb2 : acc.length ≤ 4611686018427387903 := by omega
      simp only [wordsFrom]
      rw [if_pos ⟨hlt, h35⟩]
      have hbl := c_rblank (ch s i) (ch_small _ _)
      have hle := c_rletter (ch s i) (ch_small _ _)
      have hdi := c_rdigit (ch s i) (ch_small _ _)
      have hma := c_mark (ch s i)
      have f1 := isBlank (ch s i) (ch_small _ _)
      have f2 := isLetter (ch s i) (ch_small _ _)
      have f3 := isNum (ch s i) (ch_small _ _)
      have f4 := isMark (ch s i) (ch_small _ _)
      by_cases h32 : cls (ch s i) = 32
      · rw [if_pos h32]
        have h0 := ih (i + 1) acc (by omega) (by omega) (by omega)
        rw [succ_cast] at h0
        rw [← h0]
        have f1 : blankB (ch s i) = true := by rw [← f1]; exact decide_eq_true h32
        simp [hlt, ch_eq, h35, hbl, f1, hw]
      rw [if_neg h32]
      have f1 : blankB (ch s i) = false := by rw [← f1]; exact decide_eq_false h32
      -- a word that ends at e
      have word : ∀ (k e : Nat), i < e → e ≤ s.size → e ≤ 65536 + i → finish a_thicketref03_Words [.v (.string s)] (andThen (inBlock 0 (Exec T l0_thicketref03_Words [(0, .v (.string s)), (5, .own 3 (wl acc ++ [.agg [.v (.int .u8 (k : Nat)), .v (.string (s.extract i e)), .v (.int .i64 i)]])), (6, .v (.int .i64 e)), (200, .dead)])) (Exec T k8_thicketref03_Words)) = wordsOut (match WR.word k (s.extract i e) e with | .err n p => .err n p | .word k t e => wordsFrom s n e (acc ++ [⟨k, t, i⟩])) := by
        intro k e h1 h2 _
        have h0 := ih e (acc ++ [⟨k, s.extract i e, i⟩]) (by omega) h2 (by simp; omega)
        simp only [wl_append, WordV.pv] at h0
        exact h0
      unfold wordAt
      by_cases h34 : ch s i = 34
      · have hq := c_quoted s hs i hlt
        have hle := c_rletter 34 (by decide)
        have hdi := c_rdigit 34 (by decide)
        rw [if_pos h34]
        rw [h34] at hbl f1
        simp at hbl hle hdi
        have f5 : letterB 34 = false := rfl
        have f6 : digitB 34 = false := rfl
        cases hqq : quoteAt s i with
        | inr p =>
          simp only [hqq, quotedR] at hq
          simp [hlt, ch_eq, h34, hbl, f1, hle, hdi, f5, f6, hw, hq, wordsOut]
        | inl q =>
          obtain ⟨t, e⟩ := q
          simp only [hqq, quotedR] at hq
          simp only []
          by_cases hl : 65536 < t.size
          · rw [if_pos hl]
            simp [hlt, ch_eq, h34, hbl, f1, hle, hdi, f5, f6, hw, hq, hl, wordsOut]
          · rw [if_neg hl]
            have hle' := quoteAt_le hqq
            have h0 := ih e (acc ++ [⟨3, t, i⟩]) (by omega) hle'.2 (by simp; omega)
            have hl' : t.size ≤ 65536 := by omega
            simp only [wl_append, WordV.pv] at h0
            simp only []
            rw [← h0]
            simp [hlt, ch_eq, h34, hbl, f1, hle, hdi, f5, f6, hw, hq, hl', eq_false hl, hb1, hb2]
      rw [if_neg h34]
      obtain ⟨c, hcc⟩ : ∃ c, ch s i = c := ⟨_, rfl⟩
      rw [hcc] at hbl hle hdi hma f1 f2 f3 f4 h35 h34 ⊢
      by_cases h1 : cls c = 1
      · rw [if_pos h1]
        have f2 : (letterB c || decide (c = 95)) = true := by rw [← f2]; exact decide_eq_true h1
        have hlp := rname_loop s hs (.own 3 (wl acc)) (.v (.int .i64 i)) (.box [.v (.int .u8 1), .v (.string ⟨#[]⟩), .v (.int .i64 i)]) (s.size - (i + 1)) (i + 1) rfl (by omega)
        have hb := stop_le (noName s) (s.size - (i + 1)) (i + 1)
        generalize stop (noName s) (s.size - (i + 1)) (i + 1) = e at hlp hb ⊢
        have g1 : i ≤ e := by omega
        have g2 : e ≤ s.size := by omega
        rw [succ_cast] at hlp
        have hx := extract_size s i e g1 g2
        by_cases hl : 65536 + i < e
        · have m1 : 65536 < e - i := by omega
          have m2 := Nat.not_le.2 hl
          rw [wordEnd_lt hl]
          cases a1 : letterB c with
          | true => simp [hlt, ch_eq, hcc, h35, hbl, f1, hle, a1, hw, hlp, g1, g2, hl, m1, m2, wordsOut]
          | false =>
            have a2 : c = 95 := by simpa [a1] using f2
            simp [hlt, ch_eq, hcc, h35, hbl, f1, hle, a1, eq_true a2, hw, hlp, g1, g2, hl, m1, m2, wordsOut]
        · have hl' : e ≤ 65536 + i := by omega
          have m1 : ¬ 65536 < e - i := by omega
          rw [wordEnd_ge hl', ← word 1 e (by omega) g2 hl']
          cases a1 : letterB c with
          | true => simp [hlt, ch_eq, hcc, h35, hbl, f1, hle, a1, hw, hlp, g1, g2, hl', m1, hb1, hb2]
          | false =>
            have a2 : c = 95 := by simpa [a1] using f2
            simp [hlt, ch_eq, hcc, h35, hbl, f1, hle, a1, eq_true a2, hw, hlp, g1, g2, hl', m1, hb1, hb2]
      rw [if_neg h1]
      have f2 : (letterB c || decide (c = 95)) = false := by rw [← f2]; exact decide_eq_false h1
      obtain ⟨a1, a2⟩ : letterB c = false ∧ ¬ c = 95 := by simpa using f2
      by_cases h2 : cls c &&& 14 = 0
      · rw [if_neg (by simpa using h2)]
        have f3 : (digitB c || decide (c = 43) || decide (c = 45) || decide (c = 46)) = false := by
          rw [decide_eq_true h2] at f3
          cases hX : (digitB c || decide (c = 43) || decide (c = 45) || decide (c = 46)) with
          | false => rfl
          | true => rw [hX] at f3; cases f3
        obtain ⟨⟨⟨b1, b2⟩, b3⟩, b4⟩ : ((digitB c = false ∧ ¬ c = 43) ∧ ¬ c = 45) ∧ ¬ c = 46 := by simpa using f3
        by_cases hm : cls c = 16 ∨ c = 33
        · rw [if_pos hm]
          have i1 : i + 1 ≤ s.size := by omega
          by_cases ht : i + 1 < s.size ∧ ch s (i + 1) = 61
          · obtain ⟨l1, d⟩ := ht
            have i2 : i + 2 ≤ s.size := by omega
            have m1 : ¬ 65536 < i + 2 - i := by omega
            by_cases a : c = 60 ∨ c = 62 ∨ c = 33
            · rw [if_pos ⟨l1, d, a⟩, wordEnd_ge (by omega), ← word 4 (i + 2) (by omega) i2 (by omega)]
              rcases a with a | a | a
              · simp [hlt, ch_eq, hcc, eq_false h35, hbl, f1, hle, hdi, a1, eq_false a2, b1, eq_false b2, eq_false b3, eq_false b4, eq_false h34, eq_true a, l1, d, hw, hw3, i2, m1, hb1, hb2]
              · simp [hlt, ch_eq, hcc, eq_false h35, hbl, f1, hle, hdi, a1, eq_false a2, b1, eq_false b2, eq_false b3, eq_false b4, eq_false h34, eq_false (show ¬ c = 60 by omega), eq_true a, l1, d, hw, hw3, i2, m1, hb1, hb2]
              · simp [hlt, ch_eq, hcc, eq_false h35, hbl, f1, hle, hdi, a1, eq_false a2, b1, eq_false b2, eq_false b3, eq_false b4, eq_false h34, eq_false (show ¬ c = 60 by omega), eq_false (show ¬ c = 62 by omega), eq_true a, l1, d, hw, hw3, i2, m1, hb1, hb2]
            · rw [if_neg (fun h => a h.2.2)]
              have a3 : ¬ c = 60 := fun h => a (.inl h)
              have a4 : ¬ c = 62 := fun h => a (.inr (.inl h))
              have a5 : ¬ c = 33 := fun h => a (.inr (.inr h))
              have f4 : markB c = true := by rw [← f4]; exact decide_eq_true (hm.resolve_right a5)
              have m1 : ¬ 65536 < i + 1 - i := by omega
              rw [if_neg a5, wordEnd_ge (by omega), ← word 4 (i + 1) (by omega) i1 (by omega)]
              simp [hlt, ch_eq, hcc, eq_false h35, hbl, f1, hle, hdi, hma, f4, a1, eq_false a2, b1, eq_false b2, eq_false b3, eq_false b4, eq_false h34, eq_false a3, eq_false a4, eq_false a5, l1, d, hw, i1, m1, hb1, hb2]
          · rw [if_neg (fun h => ht ⟨h.1, h.2.1⟩)]
            have tw : ∀ {Q : Prop}, (¬ i + 1 < s.size → Q) → (i + 1 < s.size → ¬ ch s (i + 1) = 61 → Q) → Q := fun q1 q2 => by
              by_cases l1 : i + 1 < s.size
              · exact q2 l1 fun h => ht ⟨l1, h⟩
              · exact q1 l1
            by_cases a5 : c = 33
            · rw [if_pos a5]
              have f4 : markB c = false := by rw [a5]; rfl
              refine tw (fun l1 => ?_) fun l1 d => ?_
              · have l2 : s.size ≤ i + 1 := by omega
                simp [hlt, ch_eq, hcc, eq_false h35, hbl, f1, hle, hdi, hma, f4, a1, eq_false a2, b1, eq_false b2, eq_false b3, eq_false b4, eq_false h34, eq_false (show ¬ c = 60 by omega), eq_false (show ¬ c = 62 by omega), eq_true a5, eq_false l1, l2, hw, wordsOut]
              · simp [hlt, ch_eq, hcc, eq_false h35, hbl, f1, hle, hdi, hma, f4, a1, eq_false a2, b1, eq_false b2, eq_false b3, eq_false b4, eq_false h34, eq_false (show ¬ c = 60 by omega), eq_false (show ¬ c = 62 by omega), eq_true a5, l1, d, hw, wordsOut]
            · rw [if_neg a5]
              have f4 : markB c = true := by rw [← f4]; exact decide_eq_true (hm.resolve_right a5)
              have m1 : ¬ 65536 < i + 1 - i := by omega
              rw [wordEnd_ge (by omega), ← word 4 (i + 1) (by omega) i1 (by omega)]
              refine tw (fun l1 => ?_) fun l1 d => ?_
              · have l2 : s.size ≤ i + 1 := by omega
                by_cases a6 : c = 60
                · simp [hlt, ch_eq, hcc, eq_false h35, hbl, f1, hle, hdi, hma, f4, a1, eq_false a2, b1, eq_false b2, eq_false b3, eq_false b4, eq_false h34, eq_false a5, eq_true a6, eq_false l1, l2, hw, i1, m1, hb1, hb2]
                by_cases a7 : c = 62
                · simp [hlt, ch_eq, hcc, eq_false h35, hbl, f1, hle, hdi, hma, f4, a1, eq_false a2, b1, eq_false b2, eq_false b3, eq_false b4, eq_false h34, eq_false a5, eq_false a6, eq_true a7, eq_false l1, l2, hw, i1, m1, hb1, hb2]
                · simp [hlt, ch_eq, hcc, eq_false h35, hbl, f1, hle, hdi, hma, f4, a1, eq_false a2, b1, eq_false b2, eq_false b3, eq_false b4, eq_false h34, eq_false a5, eq_false a6, eq_false a7, eq_false l1, l2, hw, i1, m1, hb1, hb2]
              · by_cases a6 : c = 60
                · simp [hlt, ch_eq, hcc, eq_false h35, hbl, f1, hle, hdi, hma, f4, a1, eq_false a2, b1, eq_false b2, eq_false b3, eq_false b4, eq_false h34, eq_false a5, eq_true a6, l1, d, hw, i1, m1, hb1, hb2]
                by_cases a7 : c = 62
                · simp [hlt, ch_eq, hcc, eq_false h35, hbl, f1, hle, hdi, hma, f4, a1, eq_false a2, b1, eq_false b2, eq_false b3, eq_false b4, eq_false h34, eq_false a5, eq_false a6, eq_true a7, l1, d, hw, i1, m1, hb1, hb2]
                · simp [hlt, ch_eq, hcc, eq_false h35, hbl, f1, hle, hdi, hma, f4, a1, eq_false a2, b1, eq_false b2, eq_false b3, eq_false b4, eq_false h34, eq_false a5, eq_false a6, eq_false a7, l1, d, hw, i1, m1, hb1, hb2]
        · rw [if_neg hm]
          have a3 : ¬ c = 60 := fun h => hm (.inl (by rw [h]; rfl))
          have a4 : ¬ c = 62 := fun h => hm (.inl (by rw [h]; rfl))
          have a5 : ¬ c = 33 := fun h => hm (.inr h)
          have f4 : markB c = false := by rw [← f4]; exact decide_eq_false fun h => hm (.inl h)
          simp [hlt, ch_eq, hcc, eq_false h35, hbl, f1, hle, hdi, hma, f4, a1, eq_false a2, b1, eq_false b2, eq_false b3, eq_false b4, eq_false h34, eq_false a3, eq_false a4, eq_false a5, hw, wordsOut]
      · rw [if_pos h2]
        have f3 : (digitB c || decide (c = 43) || decide (c = 45) || decide (c = 46)) = true := by
          rw [decide_eq_false h2] at f3
          cases hX : (digitB c || decide (c = 43) || decide (c = 45) || decide (c = 46)) with
          | true => rfl
          | false => rw [hX] at f3; cases f3
        have hlp := rnum_loop s hs (.own 3 (wl acc)) (.v (.int .i64 i)) (.box [.v (.int .u8 2), .v (.string ⟨#[]⟩), .v (.int .i64 i)]) (s.size - (i + 1)) (i + 1) rfl (by omega)
        have hb := stop_le (noNum s) (s.size - (i + 1)) (i + 1)
        generalize stop (noNum s) (s.size - (i + 1)) (i + 1) = e at hlp hb ⊢
        have g1 : i ≤ e := by omega
        have g2 : e ≤ s.size := by omega
        rw [succ_cast] at hlp
        by_cases hl : 65536 + i < e
        · have m1 : 65536 < e - i := by omega
          have m2 := Nat.not_le.2 hl
          rw [wordEnd_lt hl]
          cases b1 : digitB c with
          | true => simp [hlt, ch_eq, hcc, h35, hbl, f1, hle, hdi, a1, a2, b1, hw, hlp, g1, g2, hl, m1, m2, wordsOut]
          | false =>
            by_cases b2 : c = 43
            · simp [hlt, ch_eq, hcc, h35, hbl, f1, hle, hdi, a1, a2, b1, eq_true b2, hw, hlp, g1, g2, hl, m1, m2, wordsOut]
            by_cases b3 : c = 45
            · simp [hlt, ch_eq, hcc, h35, hbl, f1, hle, hdi, a1, a2, b1, b2, eq_true b3, hw, hlp, g1, g2, hl, m1, m2, wordsOut]
            · have b4 : c = 46 := by simpa [b1, b2, b3] using f3
              simp [hlt, ch_eq, hcc, h35, hbl, f1, hle, hdi, a1, a2, b1, b2, b3, eq_true b4, hw, hlp, g1, g2, hl, m1, m2, wordsOut]
        · have hl' : e ≤ 65536 + i := by omega
          have m1 : ¬ 65536 < e - i := by omega
          rw [wordEnd_ge hl', ← word 2 e (by omega) g2 hl']
          cases b1 : digitB c with
          | true => simp [hlt, ch_eq, hcc, h35, hbl, f1, hle, hdi, a1, a2, b1, hw, hlp, g1, g2, hl', m1, hb1, hb2]
          | false =>
            by_cases b2 : c = 43
            · simp [hlt, ch_eq, hcc, h35, hbl, f1, hle, hdi, a1, a2, b1, eq_true b2, hw, hlp, g1, g2, hl', m1, hb1, hb2]
            by_cases b3 : c = 45
            · simp [hlt, ch_eq, hcc, h35, hbl, f1, hle, hdi, a1, a2, b1, b2, eq_true b3, hw, hlp, g1, g2, hl', m1, hb1, hb2]
            · have b4 : c = 46 := by simpa [b1, b2, b3] using f3
              simp [hlt, ch_eq, hcc, h35, hbl, f1, hle, hdi, a1, a2, b1, b2, b3, eq_true b4, hw, hlp, g1, g2, hl', m1, hb1, hb2]
    · obtain rfl : i = s.size := by omega
      simp [wordsFrom, wordsOut]
theorem c_rWords (s : ByteArray) (hs : s.size ≤ 1048576) : Cinf T n_thicketref03_Words [.v (.string s)] = wordsOut (wordsFrom s s.size 0 []) := by
  have h0 := rwords_loop s hs s.size 0 [] (by omega) (Nat.zero_le _) (Nat.le_refl _)
  simp only [wl_nil, Int.natCast_zero] at h0
  rw [run_thicketref03_Words, ← h0]
  simp [Run]
end Go.AM.F
