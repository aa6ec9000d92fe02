/- JSON: the document's form, every value; Check of both. No conditions. -/
import Derived.Test.YtkcnnifgdhabgaaDoorP9
namespace Go.AM.F
open Go Go.AM
set_option maxRecDepth 10000
set_option linter.unusedSimpArgs false

attribute [local simp] j7_thicketref10_form j8_thicketref10_form b_thicketref10_form a_thicketref10_form
theorem pNum_same (s : ByteArray) : isNum s = match pNum s.data.toList 0 with
    | .ok j _ => decide (j = s.size)
    | .bad _ _ => false := by
  unfold isNum pNum
  cases pNumber s.data.toList 0 <;> rfl
theorem form_number (t : ByteArray) (ns : List ByteArray) (is : List J) (ht : t.size ≤ 16777216) :
    Cinf T n_thicketref10_form [(J.mk 4 t ns is).pv] = some (.v (.bool (isNum t && decide (ns = []) && decide (is = []))), [.dead]) := by
  simp only [J.pv_mk]
  rw [pNum_same]
  by_cases hi : is = []
  · by_cases hn : ns = []
    · subst hn hi
      have hs := size_list t
      have he := byteList_bl t
      have hc := c_rnumber t.data.toList 0 (Nat.zero_le _) (by omega)
      have e3 : t.size ≤ 4611686018427387904 := by omega
      generalize t.data.toList = L at *
      simp only [rg_eq, Int.natCast_zero] at hc
      cases hp : pNum L 0 with
      | ok j u =>
        rw [hp] at hc
        simp only [Rg, rg_eq, Int.natCast_zero] at hc
        have ho := c_rok0 L j 0
        simp only [rg_eq, Int.natCast_zero] at ho
        simp [run_thicketref10_form, Run, hc, he, e3, ho]
        omega
      | bad w a =>
        rw [hp] at hc
        obtain ⟨h1, i, a', h2, h3⟩ := hc
        have ho := c_rokN L i a h1
        simp only [rg_eq] at ho h3
        simp [run_thicketref10_form, Run, h3, he, e3, ho]
    · have hz : 0 < ns.length := List.length_pos_iff.2 hn
      simp [run_thicketref10_form, Run, hn, hi, hz]
  · have hz : 0 < is.length := List.length_pos_iff.2 hi
    simp [run_thicketref10_form, Run, hi, hz]
theorem form_list (t : ByteArray) (ns : List ByteArray) (is : List J)
    (h : t = ⟨#[]⟩ → ns = [] → Exec T j6_thicketref10_form [(1, jB 6 t ns is)] = some (.ret, [(2, .v (.bool (J.rightL is)))])) :
    Cinf T n_thicketref10_form [(J.mk 6 t ns is).pv] = some (.v (.bool (decide (t = eS) && decide (ns = []) && J.rightL is)), [.dead]) := by
  simp only [J.pv_mk, eS]
  by_cases hn : ns = []
  · by_cases ht : t = ⟨#[]⟩
    · have h0 := h ht hn
      subst ht hn
      simp only [jB, List.map_nil] at h0
      simp [run_thicketref10_form, Run, h0]
    · simp [run_thicketref10_form, Run, ht, hn]
  · have hz : 0 < ns.length := List.length_pos_iff.2 hn
    simp [run_thicketref10_form, Run, hn, hz]
theorem form_object (t : ByteArray) (ns : List ByteArray) (is : List J)
    (h : t = ⟨#[]⟩ → Exec T j6_thicketref10_form [(1, jB 7 t ns is)] = some (.ret, [(2, .v (.bool (ns.all okU && J.rightL is)))])) :
    Cinf T n_thicketref10_form [(J.mk 7 t ns is).pv] = some (.v (.bool (decide (t = eS) && decide (ns.length = is.length) && ns.all okU && J.rightL is)), [.dead]) := by
  simp only [J.pv_mk, eS]
  by_cases ht : t = ⟨#[]⟩
  · by_cases hn : ns.length = is.length
    · have h0 := h ht
      subst ht
      simp only [jB] at h0
      simp [run_thicketref10_form, Run, h0, hn]
    · have hz : ¬ (ns.length : Int) = is.length := by omega
      simp [run_thicketref10_form, Run, ht, hn, hz]
  · simp [run_thicketref10_form, Run, ht]
theorem c_form : ∀ (j : J), j.Ok → j.wt ≤ 16777216 → Cinf T n_thicketref10_form [j.pv] = some (.v (.bool j.right), [.dead])
  | .mk k t ns is, ⟨h1, h2, h3⟩, hw => by
    have ih : ∀ x ∈ is, Cinf T n_thicketref10_form [x.pv] = some (.v (.bool x.right), [.dead]) := fun x hm => by
      exact c_form x (okL_mem h3 x hm) (by
        have := wtL_mem hm
        simp only [J.wt] at hw
        omega)
    have hN : ∀ s ∈ ns, s.size ≤ 16777216 := fun s hs => by
      have := sum_mem hs
      simp only [J.wt] at hw
      omega
    have hT : t.size ≤ 16777216 := by
      simp only [J.wt] at hw
      omega
    have g := form_end k t ns is h1 h2 hN hT ih
    simp only [J.right]
    by_cases c1 : k = 1 ∨ k = 2 ∨ k = 3
    · rw [if_pos c1]
      refine form_plain k t ns is c1 fun e1 e2 e3 => ?_
      rw [g, e1, e2, e3, okU_nil]
      rfl
    rw [if_neg c1]
    by_cases c4 : k = 4
    · subst c4
      rw [if_pos rfl]
      exact form_number t ns is hT
    rw [if_neg c4]
    by_cases c5 : k = 5
    · subst c5
      rw [if_pos rfl]
      refine form_text t ns is fun e2 e3 => ?_
      rw [g, e2, e3]
      simp [J.rightL]
    rw [if_neg c5]
    by_cases c6 : k = 6
    · subst c6
      rw [if_pos rfl]
      refine form_list t ns is fun e1 e2 => ?_
      rw [g, e1, e2, okU_nil]
      simp
    rw [if_neg c6]
    by_cases c7 : k = 7
    · subst c7
      rw [if_pos rfl]
      refine form_object t ns is fun e1 => ?_
      rw [g, e1, okU_nil]
      simp
    rw [if_neg c7]
    exact form_none k t ns is (by omega)
termination_by j => SizeOf.sizeOf j
decreasing_by
  have := List.sizeOf_lt_of_mem hm
  simp only [J.mk.sizeOf_spec]
  omega
/-! ### Check -/
def J.check (j : J) : Int := if 256 < j.depth then 101 else if j.right = false then 100 else if j.twin = true then 102 else 0
attribute [local simp] j0_json_Check b_json_Check a_json_Check
theorem c_Check (j : J) (h : j.Ok) (hw : j.wt ≤ 16777216) : Cinf T n_json_Check [j.pv] = some (.v (.int .i64 j.check), [.dead]) := by
  have h1 := c_deep j 256 h (by omega)
  have h2 := c_right j h hw
  have h3 := c_twin j h
  rw [dgt_depth] at h1
  unfold J.check
  have h256 : ((256 : Nat) : Int) = 256 := rfl
  rw [h256] at h1
  obtain ⟨k, t, ns, is⟩ := j
  simp only [J.pv_mk] at h1 h2 h3 ⊢
  generalize J.depth (.mk k t ns is) = D at *
  generalize J.right (.mk k t ns is) = r at *
  generalize J.twin (.mk k t ns is) = q at *
  by_cases hd : 256 < D
  · simp [run_json_Check, Run, h1, hd]
  · cases r
    · simp [run_json_Check, Run, h1, h2, hd]
    · cases q <;> simp [run_json_Check, Run, h1, h2, h3, hd]
attribute [local simp] j0_thicketref10_Check j1_thicketref10_Check j2_thicketref10_Check b_thicketref10_Check a_thicketref10_Check
theorem c_rCheck (j : J) (h : j.Ok) (hw : j.wt ≤ 16777216) : Cinf T n_thicketref10_Check [j.pv] = some (.v (.int .i64 j.check), [.dead]) := by
  have h1 := c_rdeep j h hw
  have h2 := c_form j h hw
  have h3 := c_rtwin j h
  unfold J.check
  obtain ⟨k, t, ns, is⟩ := j
  simp only [J.pv_mk] at h1 h2 h3 ⊢
  generalize J.depth (.mk k t ns is) = D at *
  generalize J.right (.mk k t ns is) = r at *
  generalize J.twin (.mk k t ns is) = q at *
  have hdi : decide ((256 : Int) < D) = decide (256 < D) := by
    rw [decide_eq_decide]
    omega
  by_cases hd : 256 < D
  · have hd2 : (256 : Int) < D := by omega
    simp [run_thicketref10_Check, Run, h1, hd, hd2]
  · have hd2 : ¬ (256 : Int) < D := by omega
    cases r
    · simp [run_thicketref10_Check, Run, h1, h2, hd, hd2]
    · cases q <;> simp [run_thicketref10_Check, Run, h1, h2, h3, hd, hd2]
end Go.AM.F
