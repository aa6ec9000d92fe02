/- Answers are new memory: ScanOwn. No conditions. -/
import Derived.Test.YtfnhfjpoeacoaaaDoorS22
namespace Go.AM.F
open Go Go.AM
set_option maxRecDepth 10000
set_option linter.unusedSimpArgs false
attribute [local simp] j12_thicketlaw03_ScanOwn j13_thicketlaw03_ScanOwn j14_thicketlaw03_ScanOwn j15_thicketlaw03_ScanOwn j16_thicketlaw03_ScanOwn j17_thicketlaw03_ScanOwn j18_thicketlaw03_ScanOwn b_thicketlaw03_ScanOwn a_thicketlaw03_ScanOwn
theorem words_any (s : ByteArray) : ∃ (l : List WordV) (e p : Int), wordsOut (wordsFrom s s.size 0 []) = some (.tup [.own 3 (wl l), .v (.int .i64 e), .v (.int .i64 p)], [.dead]) ∧ l.length ≤ s.size := by
  cases hw : wordsFrom s s.size 0 [] with
  | err n p => exact ⟨[], _, _, rfl, by simp⟩
  | ok l => exact ⟨l, _, _, rfl, wordsFrom_len (Nat.zero_le _) (Nat.le_refl _) hw⟩
theorem fieldsFrom_len (s : ByteArray) (y : Nat) : ∀ (n k : Nat) (acc l : List ByteArray), fieldsFrom s y n k acc = .inl l → l.length ≤ acc.length + n := by
  intro n
  induction n with
  | zero =>
    intro k acc l h
    rw [fieldsFrom] at h
    cases h
  | succ n ih =>
    intro k acc l h
    rw [fieldsFrom] at h
    split at h
    · cases h
    · split at h
      · cases h
        simp
      · have := ih _ _ _ h
        simp at this
        omega
theorem fields_any (s : ByteArray) (y : Nat) : ∃ (l : List ByteArray) (e p : Int), (if badB y = true then .tup [.own 1 [], .v (.int .i64 2), .v (.int .i64 0)] else fsR (fieldsFrom s y (s.size + 1) 0 [])) = PV.tup [.own 1 (tl l), .v (.int .i64 e), .v (.int .i64 p)] ∧ l.length ≤ s.size + 1 := by
  split
  · exact ⟨[], _, _, rfl, by simp⟩
  · cases hf : fieldsFrom s y (s.size + 1) 0 [] with
    | inl l => exact ⟨l, _, _, rfl, by have := fieldsFrom_len s y _ _ _ _ hf; simpa using this⟩
    | inr p => exact ⟨[], _, _, rfl, by simp⟩
theorem c_ScanOwn (s : ByteArray) (hs : s.size ≤ 1048576) (y : Nat) (_ : y < 256) : ∃ backs, Cinf T n_thicketlaw03_ScanOwn [.v (.string s), .v (.int .u8 y)] = some (.v (.bool true), backs) := by
  have h1 := c_rows s hs
  have h2 := c_refrows s hs
  obtain ⟨l, h3, h4⟩ := rowsFrom_pv s s.size 0 0
  rw [h3] at h1 h2
  have h4 := h4 (by omega)
  have r1 := c_rows_same l (by omega)
  obtain ⟨l1, m1, o0⟩ := own0 s y l l l.length (by omega) l.length 0 l rfl (Nat.zero_le _) rfl
  obtain ⟨La, m2, o1⟩ := own1 s y l l 9 0 (l1.map RowV.pv) rfl (by omega) (by rw [List.length_map]; omega)
  obtain ⟨v, e, p, hv, hvl⟩ := words_any s
  have w1 := c_Words s hs
  have w2 := c_rWords s hs
  rw [hv] at w1 w2
  have r2 := c_same v (by omega)
  obtain ⟨v1, m3, o2⟩ := own2 s y l l La v e p v.length (by omega) v.length 0 v rfl (Nat.zero_le _) rfl
  obtain ⟨Lw, m4, o3⟩ := own3 s y l l La v e p 9 0 (wl v1) rfl (by omega) (by rw [wl_length]; omega)
  obtain ⟨f, g, q, hf, hfl⟩ := fields_any s y
  have f1 := c_Fields s hs y
  have f2 := c_rFields s hs y
  rw [hf] at f1 f2
  have r3 := c_texts f (by omega)
  obtain ⟨t1, m5, o4⟩ := own4 s l l La v e p Lw f g q f.length (by omega) f.length 0 f rfl (Nat.zero_le _) rfl
  have htl : ∀ x : List ByteArray, (tl x).length = x.length := fun x => by simp [tl]
  obtain ⟨Lf, m6, o5⟩ := own5 s l l La v e p Lw f g q 9 0 (tl t1) rfl (by omega) (by rw [htl]; omega)
  rw [List.length_map, m1] at m2
  rw [wl_length, m3] at m4
  rw [htl, m5] at m6
  have x1 : IntKind.i64.wrap ((l.length : Int) + 9) = (l.length : Int) + 9 := by rw [wrap_i64] <;> omega
  have x2 : IntKind.i64.wrap ((v.length : Int) + 9) = (v.length : Int) + 9 := by rw [wrap_i64] <;> omega
  have x3 : IntKind.i64.wrap ((f.length : Int) + 9) = (f.length : Int) + 9 := by rw [wrap_i64] <;> omega
  simp only [Int.natCast_zero] at o0 o1 o2 o3 o4 o5
  rw [run_thicketlaw03_ScanOwn]
  exact ⟨_, by simp [Run, c_lives, h1, h2, r1, o0, o1, w1, w2, r2, o2, o3, f1, f2, r3, o4, o5, m2, m4, m6, htl, x1, x2, x3]; rfl⟩
end Go.AM.F
