/- JSON: right, every value; how deep a value is nested, as the document finds it; right texts, as the document finds them. No conditions. -/
import Derived.Test.YtkcnnifgdhabgaaDoorPa
import Derived.Test.YtkcnnifgdhabgaaDoorM6
namespace Go.AM.F
open Go Go.AM
set_option maxRecDepth 10000
set_option linter.unusedSimpArgs false

theorem c_right : ∀ (j : J), j.Ok → j.wt ≤ 16777216 → Cinf T n_json_right [j.pv] = some (.v (.bool j.right), [.dead])
  | .mk k t ns is, ⟨h1, h2, h3⟩, hw => by
    have ih : ∀ x ∈ is, Cinf T n_json_right [x.pv] = some (.v (.bool x.right), [.dead]) := fun x hm => by
      exact c_right x (okL_mem h3 x hm) (by
        have := wtL_mem hm
        simp only [J.wt] at hw
        omega)
    have hN : ∀ s ∈ ns, s.size ≤ 16777216 := fun s hs => by
      have := sum_mem hs
      simp only [J.wt] at hw
      omega
    have hT : t.size ≤ 16777216 := by
      simp only [J.wt] at hw
      omega
    have g1 := right_items k t ns is h2 ih is.length 0 (J.rightL is) rfl (Nat.zero_le _) rfl
    have g0 := right_names k t ns is h1 hN ns.length 0 (ns.all okU) rfl (Nat.zero_le _) rfl
    rw [Int.natCast_zero] at g1 g0
    simp only [J.right]
    by_cases c1 : k = 1 ∨ k = 2 ∨ k = 3
    · rw [if_pos c1]
      exact right_plain k t ns is c1
    rw [if_neg c1]
    by_cases c4 : k = 4
    · subst c4
      rw [if_pos rfl]
      exact right_number t ns is hT
    rw [if_neg c4]
    by_cases c5 : k = 5
    · subst c5
      rw [if_pos rfl]
      exact right_text t ns is hT
    rw [if_neg c5]
    by_cases c6 : k = 6
    · subst c6
      rw [if_pos rfl]
      exact right_list t ns is g1
    rw [if_neg c6]
    by_cases c7 : k = 7
    · subst c7
      rw [if_pos rfl]
      exact right_object t ns is g1 g0
    rw [if_neg c7]
    exact right_none k t ns is c1 c4 c5 c6 c7
termination_by j => SizeOf.sizeOf j
decreasing_by
  have := List.sizeOf_lt_of_mem hm
  simp only [J.mk.sizeOf_spec]
  omega
/-! ### The document's depth -/
mutual
theorem depth_wt : ∀ (j : J), j.depth ≤ j.wt
  | .mk k t ns is => by
    have := depthL_wt is
    simp only [J.depth, J.wt]
    split <;> omega
theorem depthL_wt : ∀ (is : List J), J.depthL is ≤ J.wtL is
  | [] => Nat.le_refl _
  | j :: r => by
    have h1 := depth_wt j
    have h2 := depthL_wt r
    simp only [J.depthL, J.wtL]
    split <;> omega
end
def maxN (a b : Nat) : Nat := if a < b then b else a
/-- The greatest depth so far, and those behind. -/
def deepF (m : Nat) : List J → Nat
  | [] => m
  | j :: r => deepF (if m < j.depth then j.depth else m) r
theorem deepF_eq : ∀ (is : List J) (m : Nat), deepF m is = if m < J.depthL is then J.depthL is else m
  | [], m => by simp [deepF, J.depthL]
  | j :: r, m => by
    simp only [deepF, J.depthL, deepF_eq r]
    split <;> split <;> split <;> (try split) <;> omega
attribute [local simp] j0_thicketref10_deep j1_thicketref10_deep w0_thicketref10_deep j2_thicketref10_deep j3_thicketref10_deep b_thicketref10_deep a_thicketref10_deep
theorem rdeep_loop (k : Int) (t : ByteArray) (ns : List ByteArray) (is : List J) (hl : is.length ≤ 1048576) (ih : ∀ x ∈ is, Cinf T n_thicketref10_deep [x.pv] = some (.v (.int .i64 x.depth), [.dead])) : ∀ (n i m : Nat), is.length - i = n → i ≤ is.length →
    Exec T l0_thicketref10_deep [(1, jB k t ns is), (3, .v (.int .i64 m)), (4, .v (.int .i64 i))] = some (.exit 0, [(1, jB k t ns is), (3, .v (.int .i64 (deepF m (is.drop i) : Nat))), (4, .v (.int .i64 is.length))]) := by
  intro n
  induction n with
  | zero =>
    intro i m hn hk
    obtain rfl : i = is.length := by omega
    rw [ex0_thicketref10_deep, List.drop_length]
    simp [deepF]
  | succ n ihn =>
    intro i m hn hk
    have hlt : i < is.length := by omega
    obtain ⟨j, hj⟩ : ∃ j, is[i] = j := ⟨_, rfl⟩
    have hd : is.drop i = j :: is.drop (i + 1) := by rw [List.drop_eq_getElem_cons hlt, hj]
    have hc := ih j (by rw [← hj]; exact List.getElem_mem hlt)
    have hw := wrap_succ hlt (by omega)
    have h0 := ihn (i + 1) (if m < j.depth then j.depth else m) (by omega) (by omega)
    rw [succ_cast] at h0
    rw [hd, ex0_thicketref10_deep]
    simp only [deepF]
    rw [← h0]
    by_cases hm : m < j.depth
    · obtain ⟨k1, t1, ns1, is1⟩ := j
      simp only [J.pv_mk] at hc
      simp [hlt, hj, J.pv_mk, hc, hw, hm]
    · obtain ⟨k1, t1, ns1, is1⟩ := j
      simp only [J.pv_mk] at hc
      simp [hlt, hj, J.pv_mk, hc, hw, hm]
theorem c_rdeep : ∀ (j : J), j.Ok → j.wt ≤ 16777216 → Cinf T n_thicketref10_deep [j.pv] = some (.v (.int .i64 j.depth), [.dead])
  | .mk k t ns is, ⟨h1, h2, h3⟩, hw => by
    have ih : ∀ x ∈ is, Cinf T n_thicketref10_deep [x.pv] = some (.v (.int .i64 x.depth), [.dead]) := fun x hm => by
      exact c_rdeep x (okL_mem h3 x hm) (by
        have := wtL_mem hm
        simp only [J.wt] at hw
        omega)
    have g := rdeep_loop k t ns is h2 ih is.length 0 0 rfl (Nat.zero_le _)
    have hd : J.depthL is ≤ 16777216 := by
      have := depthL_wt is
      simp only [J.wt] at hw
      omega
    have he : deepF 0 is = J.depthL is := by
      rw [deepF_eq]
      split <;> omega
    rw [Int.natCast_zero, List.drop_zero, he] at g
    have hs := wrap_succ (show J.depthL is < 16777217 by omega) (by omega)
    simp only [jB] at g
    simp only [J.depth, J.pv_mk]
    by_cases c6 : k = 6
    · subst c6
      rw [if_pos (.inl rfl)]
      simp [run_thicketref10_deep, Run, g, hs, -w0_thicketref10_deep]
    by_cases c7 : k = 7
    · subst c7
      rw [if_pos (.inr rfl)]
      simp [run_thicketref10_deep, Run, g, hs, -w0_thicketref10_deep]
    rw [if_neg (by rw [not_or]; exact ⟨c6, c7⟩)]
    simp [run_thicketref10_deep, Run, g, c6, c7, -w0_thicketref10_deep]
termination_by j => SizeOf.sizeOf j
decreasing_by
  have := List.sizeOf_lt_of_mem hm
  simp only [J.mk.sizeOf_spec]
  omega
end Go.AM.F
