/- The document's lines; lists of lines held against each other. No conditions. -/
import Derived.Test.YtfnhfjpoeacoaaaDoorS1
import Derived.Test.YtfnhfjpoeacoaaaDoorS0
namespace Go.AM.F
open Go Go.AM
set_option maxRecDepth 10000
set_option linter.unusedSimpArgs false

theorem rowsFrom_fuel (s : ByteArray) : ∀ (f g k c : Nat), s.size ≤ k + f → s.size ≤ k + g → rowsFrom s f k c = rowsFrom s g k c
  | 0, 0, _, _, _, _ => rfl
  | 0, g + 1, k, c, h, _ => by simp [rowsFrom, show ¬ k < s.size by omega]
  | f + 1, 0, k, c, _, h => by simp [rowsFrom, show ¬ k < s.size by omega]
  | f + 1, g + 1, k, c, h1, h2 => by
    simp only [rowsFrom]
    split
    · rename_i hk
      have he := rowEnd_le s k (by omega)
      have hn := rowNext_le s (rowEnd s k)
      rw [rowsFrom_fuel s f g _ _ (by omega) (by omega)]
    · rfl
def lastRow (s : ByteArray) (k c : Nat) : List PV := if k < s.size then [row (c + 1) k (s.extract k s.size)] else []
theorem refrows_loop (s : ByteArray) (hs : s.size ≤ 1048576) : ∀ (n i k : Nat) (acc : List PV), s.size - i ≤ n → i ≤ s.size → k ≤ i → acc.length ≤ k → (∀ j, k ≤ j → j < i → lineEnd s j = false) →
    ∃ acc' k', Exec T l0_thicketref03_Rows [(0, .v (.string s)), (3, .own 3 acc), (4, .v (.int .i64 k)), (5, .v (.int .i64 i)), (33, .dead), (70, .dead)] = some (.exit 0, [(0, .v (.string s)), (3, .own 3 acc'), (4, .v (.int .i64 (k' : Nat))), (5, .v (.int .i64 s.size)), (33, .dead), (70, .dead)]) ∧
      k' ≤ s.size ∧ acc'.length ≤ k' ∧ acc' ++ lastRow s k' acc'.length = acc ++ rowsFrom s s.size k acc.length := by
  intro n
  induction n with
  | zero =>
    intro i k acc hn hi hk ha hj
    obtain rfl : i = s.size := by omega
    refine ⟨acc, k, ?_, hk, ha, ?_⟩
    · rw [ex0_thicketref03_Rows]
      simp [w0_thicketref03_Rows]
    · unfold lastRow
      split
      · rename_i hlt
        have he := rowEnd_eq s hk (Nat.le_refl _) hj (fun h => by omega)
        rw [rowsFrom_fuel s s.size (s.size - k + 1) k acc.length (by omega) (by omega)]
        simp only [rowsFrom, if_pos hlt, he]
        have hx : rowNext s s.size = s.size + 1 := by unfold rowNext; rw [if_neg (by omega)]
        rw [hx, rowsFrom_fuel s (s.size - k) 0 _ _ (by omega) (by omega)]
        rfl
      · rw [rowsFrom_fuel s s.size 0 k acc.length (by omega) (by omega)]
        rfl
  | succ n ih =>
    intro i k acc hn hi hk ha hj
    by_cases hlt : i < s.size
    · have hw1 := wrap_succ (k := i) (n := 1048577) (by omega) (by omega)
      have hw2 := wrap_succ (k := i + 1) (n := 1048578) (by omega) (by omega)
      have hw3 := wrap_succ (k := acc.length) (n := 1048577) (by omega) (by omega)
      have hb1 : (acc.length + 1) * 32 ≤ 140737488355328 := by omega
      have hb2 : acc.length ≤ 4611686018427387903 := by omega
      rw [succ_cast] at hw2
      have hd : s.data.size = s.size := rfl
      cases hl : lineEnd s i with
      | false =>
        obtain ⟨acc', k', h0, h1, h2, h3⟩ := ih (i + 1) k acc (by omega) (by omega) (by omega) ha fun j h1 h2 => by
          by_cases h : j = i
          · rw [h]; exact hl
          · exact hj j h1 (by omega)
        rw [succ_cast] at h0
        refine ⟨acc', k', ?_, h1, h2, h3⟩
        simp only [lineEnd, Bool.or_eq_false_iff, decide_eq_false_iff_not] at hl
        rw [ex0_thicketref03_Rows, ← h0]
        simp [w0_thicketref03_Rows, j3_thicketref03_Rows, j2_thicketref03_Rows, hlt, ch_eq, hl, hw1]
      | true =>
        have he := rowEnd_eq s hk hi hj (fun _ => hl)
        have hn2 := rowNext_le s i
        obtain ⟨acc', k', h0, h1, h2, h3⟩ := ih (rowNext s i) (rowNext s i) (acc ++ [row (acc.length + 1) k (s.extract k i)]) (by omega) (hn2.2.1 hlt) (Nat.le_refl _) (by simp; omega) fun j h1 h2 => by omega
        refine ⟨acc', k', ?_, h1, h2, ?_⟩
        · simp only [lineEnd, Bool.or_eq_true, decide_eq_true_eq] at hl
          rw [ex0_thicketref03_Rows]
          by_cases hc : i + 1 < s.size ∧ ch s i = 13 ∧ ch s (i + 1) = 10
          · have e2 : ((i + 2 : Nat) : Int) = (i : Int) + 1 + 1 := by omega
            obtain ⟨c1, c2, c3⟩ := hc
            simp only [rowNext, if_pos (And.intro c1 (And.intro c2 c3)), row, e2, succ_cast] at h0
            rw [← h0]
            simp [w0_thicketref03_Rows, j3_thicketref03_Rows, j2_thicketref03_Rows, j1_thicketref03_Rows, j0_thicketref03_Rows, hlt, ch_eq, c1, c2, c3, hw1, hw2, hw3, hb1, hb2, hk, hi]
          · simp only [rowNext, if_neg hc, row, succ_cast] at h0
            rw [← h0]
            rcases hl with c2 | c2
            · simp [w0_thicketref03_Rows, j3_thicketref03_Rows, j2_thicketref03_Rows, j1_thicketref03_Rows, j0_thicketref03_Rows, hlt, ch_eq, c2, hw1, hw2, hw3, hb1, hb2, hk, hi]
            · by_cases c1 : i + 1 < s.size
              · have c3 : ¬ ch s (i + 1) = 10 := fun h => hc ⟨c1, c2, h⟩
                simp [w0_thicketref03_Rows, j3_thicketref03_Rows, j2_thicketref03_Rows, j1_thicketref03_Rows, j0_thicketref03_Rows, hlt, ch_eq, c1, c2, c3, hw1, hw2, hw3, hb1, hb2, hk, hi]
              · simp [w0_thicketref03_Rows, j3_thicketref03_Rows, j2_thicketref03_Rows, j1_thicketref03_Rows, j0_thicketref03_Rows, hlt, ch_eq, c1, c2, hw1, hw2, hw3, hb1, hb2, hk, hi]
        · rw [h3, rowsFrom_fuel s s.size (s.size - k + 1) k acc.length (by omega) (by omega)]
          simp only [rowsFrom, if_pos (show k < s.size by omega), he, List.append_assoc, List.singleton_append, List.length_append, List.length_singleton]
          rw [rowsFrom_fuel s s.size (s.size - k) _ _ (by omega) (by omega)]
    · exact ih i k acc (by omega) hi hk ha hj
theorem c_refrows (s : ByteArray) (hs : s.size ≤ 1048576) : Cinf T n_thicketref03_Rows [.v (.string s)] = some (.own 3 (rowsFrom s s.size 0 0), [.dead]) := by
  obtain ⟨acc', k', h0, h1, h2, h3⟩ := refrows_loop s hs s.size 0 0 [] (by omega) (Nat.zero_le _) (Nat.le_refl _) (Nat.le_refl _) (fun j _ h => by omega)
  simp only [List.nil_append, List.length_nil, Int.natCast_zero] at h0 h3
  rw [← h3]
  have hw3 := wrap_succ (k := acc'.length) (n := 1048577) (by omega) (by omega)
  have hb1 : (acc'.length + 1) * 32 ≤ 140737488355328 := by omega
  have hb2 : acc'.length ≤ 4611686018427387903 := by omega
  unfold lastRow
  by_cases h : k' < s.size
  · simp [run_thicketref03_Rows, Run, a_thicketref03_Rows, b_thicketref03_Rows, j5_thicketref03_Rows, j4_thicketref03_Rows, h0, h, hw3, hb1, hb2, h1, row]
  · simp [run_thicketref03_Rows, Run, a_thicketref03_Rows, b_thicketref03_Rows, j5_thicketref03_Rows, j4_thicketref03_Rows, h0, h]
/-! ### Lists of lines held against each other -/
structure RowV where
  n : Nat
  at_ : Nat
  t : ByteArray
def RowV.pv (r : RowV) : PV := row r.n r.at_ r.t
theorem rows_same_loop (l : List RowV) (hl : l.length ≤ 1048577) : ∀ (n k : Nat), l.length - k = n → k ≤ l.length →
    Exec T l0_thicketlaw03_rows [(0, .ro 3 (l.map RowV.pv)), (1, .ro 3 (l.map RowV.pv)), (12, .v (.int .i64 l.length)), (13, .v (.int .i64 k))] = some (.exit 0, [(0, .ro 3 (l.map RowV.pv)), (1, .ro 3 (l.map RowV.pv)), (12, .v (.int .i64 l.length)), (13, .v (.int .i64 l.length))]) := by
  intro n
  induction n with
  | zero =>
    intro k hn hk
    obtain rfl : k = l.length := by omega
    rw [ex0_thicketlaw03_rows]
    simp [w0_thicketlaw03_rows]
  | succ n ih =>
    intro k hn hk
    have hlt : k < l.length := by omega
    obtain ⟨v, hv⟩ : ∃ v, l[k] = v := ⟨_, rfl⟩
    have hw := wrap_succ hlt (by omega)
    have h0 := ih (k + 1) (by omega) (by omega)
    rw [succ_cast] at h0
    rw [ex0_thicketlaw03_rows, ← h0]
    simp [w0_thicketlaw03_rows, j1_thicketlaw03_rows, j0_thicketlaw03_rows, hlt, hv, RowV.pv, row, hw]
theorem c_rows_same (l : List RowV) (hl : l.length ≤ 1048577) : Cinf T n_thicketlaw03_rows [.ro 3 (l.map RowV.pv), .ro 3 (l.map RowV.pv)] = some (.v (.bool true), [.dead, .dead]) := by
  have h := rows_same_loop l hl l.length 0 rfl (Nat.zero_le _)
  simp only [Int.natCast_zero] at h
  simp [run_thicketlaw03_rows, Run, a_thicketlaw03_rows, b_thicketlaw03_rows, j3_thicketlaw03_rows, j2_thicketlaw03_rows, h]
theorem rowsFrom_pv (s : ByteArray) : ∀ (f k c : Nat), ∃ l : List RowV, rowsFrom s f k c = l.map RowV.pv ∧ (k ≤ s.size + 1 → l.length + k ≤ s.size + 1)
  | 0, k, c => ⟨[], rfl, fun h => by simpa using h⟩
  | f + 1, k, c => by
    by_cases h : k < s.size
    · obtain ⟨l, h1, h2⟩ := rowsFrom_pv s f (rowNext s (rowEnd s k)) (c + 1)
      refine ⟨⟨c + 1, k, s.extract k (rowEnd s k)⟩ :: l, by simp only [rowsFrom, if_pos h, h1]; rfl, fun _ => ?_⟩
      have he := rowEnd_le s k (by omega)
      have hn := rowNext_le s (rowEnd s k)
      have : rowNext s (rowEnd s k) ≤ s.size + 1 := by
        by_cases h : rowEnd s k < s.size
        · have := hn.2.1 h; omega
        · unfold rowNext; rw [if_neg (by omega)]; omega
      have := h2 this
      simp only [List.length_cons]
      omega
    · exact ⟨[], by simp [rowsFrom, h], fun h => by simpa using h⟩
end Go.AM.F
