/- Answers are new memory: ScanOwn, its loops. No conditions. -/
import Derived.Test.YtfnhfjpoeacoaaaDoorS0
import Derived.Test.YtfnhfjpoeacoaaaDoorS2
import Derived.Test.YtfnhfjpoeacoaaaDoorS11
import Derived.Test.YtfnhfjpoeacoaaaDoorS19
import Derived.Test.YtfnhfjpoeacoaaaDoorS21
namespace Go.AM.F
open Go Go.AM
set_option maxRecDepth 10000
set_option linter.unusedSimpArgs false
attribute [local simp] j0_thicketref03_Texts j1_thicketref03_Texts w0_thicketref03_Texts j2_thicketref03_Texts j3_thicketref03_Texts b_thicketref03_Texts a_thicketref03_Texts
theorem texts_loop (l : List ByteArray) (hl : l.length ≤ 67108865) : ∀ (n k : Nat), l.length - k = n → k ≤ l.length →
    Exec T l0_thicketref03_Texts [(0, .ro 1 (tl l)), (1, .ro 1 (tl l)), (12, .v (.int .i64 l.length)), (13, .v (.int .i64 k))] = some (.exit 0, [(0, .ro 1 (tl l)), (1, .ro 1 (tl l)), (12, .v (.int .i64 l.length)), (13, .v (.int .i64 l.length))]) := by
  intro n
  induction n with
  | zero =>
    intro k hn hk
    obtain rfl : k = l.length := by omega
    rw [ex0_thicketref03_Texts]
    simp
  | succ n ih =>
    intro k hn hk
    have hlt : k < l.length := by omega
    obtain ⟨v, hv⟩ : ∃ v, l[k] = v := ⟨_, rfl⟩
    have hw := wrap_succ hlt (by omega)
    have h0 := ih (k + 1) (by omega) (by omega)
    rw [succ_cast] at h0
    rw [ex0_thicketref03_Texts, ← h0]
    simp [hlt, hv, tl, hw]
theorem c_texts (l : List ByteArray) (hl : l.length ≤ 67108865) : Cinf T n_thicketref03_Texts [.ro 1 (tl l), .ro 1 (tl l)] = some (.v (.bool true), [.dead, .dead]) := by
  have h := texts_loop l hl l.length 0 rfl (Nat.zero_le _)
  have ht : (tl l).length = l.length := by simp [tl]
  simp only [Int.natCast_zero] at h
  rw [run_thicketref03_Texts]
  simp [Run, ht, h]
end Go.AM.F
