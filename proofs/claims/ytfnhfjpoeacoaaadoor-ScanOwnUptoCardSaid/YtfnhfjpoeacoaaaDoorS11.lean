/- Every Words, with the place of the fault. No conditions. -/
import Derived.Test.YtfnhfjpoeacoaaaDoorS0
import Derived.Test.YtfnhfjpoeacoaaaDoorS10
namespace Go.AM.F
open Go Go.AM
set_option maxRecDepth 10000
set_option linter.unusedSimpArgs false
attribute [local simp] j0_thicketref03_Same j1_thicketref03_Same w0_thicketref03_Same j2_thicketref03_Same j3_thicketref03_Same b_thicketref03_Same a_thicketref03_Same
theorem same_loop (l : List WordV) (hl : l.length ≤ 1048577) : ∀ (n k : Nat), l.length - k = n → k ≤ l.length →
    Exec T l0_thicketref03_Same [(0, .ro 3 (wl l)), (1, .ro 3 (wl l)), (12, .v (.int .i64 l.length)), (13, .v (.int .i64 k))] = some (.exit 0, [(0, .ro 3 (wl l)), (1, .ro 3 (wl l)), (12, .v (.int .i64 l.length)), (13, .v (.int .i64 l.length))]) := by
  intro n
  induction n with
  | zero =>
    intro k hn hk
    obtain rfl : k = l.length := by omega
    rw [ex0_thicketref03_Same]
    simp
  | succ n ih =>
    intro k hn hk
    have hlt : k < l.length := by omega
    obtain ⟨v, hv⟩ : ∃ v, l[k] = v := ⟨_, rfl⟩
    have hg : (wl l)[k]'(by simpa using hlt) = v.pv := by simp [wl, hv]
    have hw := wrap_succ hlt (by omega)
    have h0 := ih (k + 1) (by omega) (by omega)
    rw [succ_cast] at h0
    rw [ex0_thicketref03_Same, ← h0]
    simp [hlt, hg, WordV.pv, hw]
theorem c_same (l : List WordV) (hl : l.length ≤ 1048577) : Cinf T n_thicketref03_Same [.ro 3 (wl l), .ro 3 (wl l)] = some (.v (.bool true), [.dead, .dead]) := by
  have h := same_loop l hl l.length 0 rfl (Nat.zero_le _)
  simp only [Int.natCast_zero] at h
  rw [run_thicketref03_Same]
  simp [Run, h]
theorem wordsFrom_len {s : ByteArray} : ∀ {n i : Nat} {acc l : List WordV}, i ≤ s.size → acc.length ≤ i → wordsFrom s n i acc = .ok l → l.length ≤ s.size
  | 0, i, acc, l, hi, ha, h => by cases h; omega
  | n + 1, i, acc, l, hi, ha, h => by
    simp only [wordsFrom] at h
    split at h
    · rename_i hc
      split at h
      · exact wordsFrom_len (by omega) (by omega) h
      · split at h
        · cases h
        · rename_i hw
          have := wordAt_le hc.1 hw
          exact wordsFrom_len this.2 (by simp; omega) h
    · cases h; omega
end Go.AM.F
