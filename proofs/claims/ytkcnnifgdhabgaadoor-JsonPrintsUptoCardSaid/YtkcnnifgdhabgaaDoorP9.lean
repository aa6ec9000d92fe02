/- JSON: the document's form. No conditions. -/
import Derived.Test.YtkcnnifgdhabgaaDoorP8
import Derived.Test.YtkcnnifgdhabgaaDoorM3
namespace Go.AM.F
open Go Go.AM
set_option maxRecDepth 10000
set_option linter.unusedSimpArgs false

attribute [local simp] j0_thicketref10_form j1_thicketref10_form w0_thicketref10_form j2_thicketref10_form j3_thicketref10_form w1_thicketref10_form
theorem form_names (k : Int) (t : ByteArray) (ns : List ByteArray) (is : List J) (hl : ns.length ≤ 1048576) (hs : ∀ s ∈ ns, s.size ≤ 16777216) : ∀ (n i : Nat) (b q : Bool), ns.length - i = n → i ≤ ns.length → (b && (ns.drop i).all okU) = q →
    ∃ m : Nat, Exec T l0_thicketref10_form [(1, jB k t ns is), (6, .v (.bool b)), (7, .v (.int .i64 i))] = some (.exit 0, [(1, jB k t ns is), (6, .v (.bool q)), (7, .v (.int .i64 m))]) := by
  intro n
  induction n with
  | zero =>
    intro i b q hn hk hq
    obtain rfl : i = ns.length := by omega
    rw [List.drop_length] at hq
    simp only [List.all_nil, Bool.and_true] at hq
    subst hq
    refine ⟨ns.length, ?_⟩
    rw [ex0_thicketref10_form]
    simp
  | succ n ih =>
    intro i b q hn hk hq
    have hlt : i < ns.length := by omega
    cases b with
    | false =>
      rw [Bool.false_and] at hq
      subst hq
      refine ⟨i, ?_⟩
      rw [ex0_thicketref10_form]
      simp [hlt]
    | true =>
      obtain ⟨s, hv⟩ : ∃ s, ns[i] = s := ⟨_, rfl⟩
      have hd : ns.drop i = s :: ns.drop (i + 1) := by rw [List.drop_eq_getElem_cons hlt, hv]
      have hw := wrap_succ hlt (by omega)
      have hc := c_Right s (hs s (by rw [← hv]; exact List.getElem_mem hlt))
      rw [hd, List.all_cons, Bool.true_and] at hq
      obtain ⟨m, h0⟩ := ih (i + 1) (okU s) q (by omega) (by omega) hq
      refine ⟨m, ?_⟩
      rw [succ_cast] at h0
      rw [← h0]
      rw [ex0_thicketref10_form]
      simp [hlt, hv, hc, hw]
theorem form_items (k : Int) (t : ByteArray) (ns : List ByteArray) (is : List J) (hl : is.length ≤ 1048576) (ih : ∀ x ∈ is, Cinf T n_thicketref10_form [x.pv] = some (.v (.bool x.right), [.dead])) : ∀ (n i : Nat) (b q : Bool), is.length - i = n → i ≤ is.length → (b && J.rightL (is.drop i)) = q →
    ∃ m : Nat, Exec T l1_thicketref10_form [(1, jB k t ns is), (6, .v (.bool b)), (8, .v (.int .i64 i))] = some (.exit 2, [(1, jB k t ns is), (6, .v (.bool q)), (8, .v (.int .i64 m))]) := by
  intro n
  induction n with
  | zero =>
    intro i b q hn hk hq
    obtain rfl : i = is.length := by omega
    rw [List.drop_length] at hq
    simp only [J.rightL, Bool.and_true] at hq
    subst hq
    refine ⟨is.length, ?_⟩
    rw [ex1_thicketref10_form]
    simp
  | succ n ihn =>
    intro i b q hn hk hq
    have hlt : i < is.length := by omega
    cases b with
    | false =>
      rw [Bool.false_and] at hq
      subst hq
      refine ⟨i, ?_⟩
      rw [ex1_thicketref10_form]
      simp [hlt]
    | true =>
      obtain ⟨j, hj⟩ : ∃ j, is[i] = j := ⟨_, rfl⟩
      have hd : is.drop i = j :: is.drop (i + 1) := by rw [List.drop_eq_getElem_cons hlt, hj]
      have hc := ih j (by rw [← hj]; exact List.getElem_mem hlt)
      have hw := wrap_succ hlt (by omega)
      rw [hd, Bool.true_and] at hq
      simp only [J.rightL] at hq
      obtain ⟨m, h0⟩ := ihn (i + 1) j.right q (by omega) (by omega) hq
      refine ⟨m, ?_⟩
      rw [succ_cast] at h0
      rw [← h0]
      obtain ⟨k1, t1, ns1, is1⟩ := j
      simp only [J.pv_mk] at hc
      rw [ex1_thicketref10_form]
      simp [hlt, hj, J.pv_mk, hc, hw]
/-- The end of form: the names, the values. -/
theorem form_end (k : Int) (t : ByteArray) (ns : List ByteArray) (is : List J) (hl : ns.length ≤ 1048576) (hl2 : is.length ≤ 1048576) (hs : ∀ s ∈ ns, s.size ≤ 16777216) (ht : t.size ≤ 16777216) (ih : ∀ x ∈ is, Cinf T n_thicketref10_form [x.pv] = some (.v (.bool x.right), [.dead])) :
    Exec T j6_thicketref10_form [(1, jB k t ns is)] = some (.ret, [(2, .v (.bool (okU t && ns.all okU && J.rightL is)))]) := by
  have hc := c_Right t ht
  obtain ⟨m, h0⟩ := form_names k t ns is hl hs ns.length 0 (okU t) _ rfl (Nat.zero_le _) rfl
  obtain ⟨m', h1⟩ := form_items k t ns is hl2 ih is.length 0 (okU t && ns.all okU) _ rfl (Nat.zero_le _) rfl
  rw [List.drop_zero, Int.natCast_zero] at h0 h1
  simp only [jB] at h0 h1 ⊢
  simp [j6_thicketref10_form, j5_thicketref10_form, j4_thicketref10_form, hc, h0, h1, -w0_thicketref10_form, -w1_thicketref10_form]
theorem okU_nil : okU ⟨#[]⟩ = true := rfl
attribute [local simp] j7_thicketref10_form j8_thicketref10_form b_thicketref10_form a_thicketref10_form
theorem form_plain (k : Int) (t : ByteArray) (ns : List ByteArray) (is : List J) (hk : k = 1 ∨ k = 2 ∨ k = 3)
    (h : t = ⟨#[]⟩ → ns = [] → is = [] → Exec T j6_thicketref10_form [(1, jB k t ns is)] = some (.ret, [(2, .v (.bool true))])) :
    Cinf T n_thicketref10_form [(J.mk k t ns is).pv] = some (.v (.bool (decide (t = eS) && decide (ns = []) && decide (is = []))), [.dead]) := by
  simp only [J.pv_mk, eS]
  by_cases hi : is = []
  · by_cases hn : ns = []
    · by_cases ht : t = ⟨#[]⟩
      · have h0 := h ht hn hi
        subst ht hn hi
        simp only [jB, List.map_nil] at h0
        rcases hk with rfl | rfl | rfl <;> simp [run_thicketref10_form, Run, h0]
      · rcases hk with rfl | rfl | rfl <;> simp [run_thicketref10_form, Run, ht, hn, hi]
    · have hz : 0 < ns.length := List.length_pos_iff.2 hn
      rcases hk with rfl | rfl | rfl <;> simp [run_thicketref10_form, Run, hn, hi, hz]
  · have hz : 0 < is.length := List.length_pos_iff.2 hi
    rcases hk with rfl | rfl | rfl <;> simp [run_thicketref10_form, Run, hi, hz]
theorem form_text (t : ByteArray) (ns : List ByteArray) (is : List J)
    (h : ns = [] → is = [] → Exec T j6_thicketref10_form [(1, jB 5 t ns is)] = some (.ret, [(2, .v (.bool (okU t)))])) :
    Cinf T n_thicketref10_form [(J.mk 5 t ns is).pv] = some (.v (.bool (okU t && decide (ns = []) && decide (is = []))), [.dead]) := by
  simp only [J.pv_mk, eS]
  by_cases hi : is = []
  · by_cases hn : ns = []
    · have h0 := h hn hi
      subst hn hi
      simp only [jB, List.map_nil] at h0
      simp [run_thicketref10_form, Run, h0]
    · have hz : 0 < ns.length := List.length_pos_iff.2 hn
      simp [run_thicketref10_form, Run, hn, hi, hz]
  · have hz : 0 < is.length := List.length_pos_iff.2 hi
    simp [run_thicketref10_form, Run, hi, hz]
theorem form_none (k : Int) (t : ByteArray) (ns : List ByteArray) (is : List J) (hk : k < 1 ∨ 7 < k) :
    Cinf T n_thicketref10_form [(J.mk k t ns is).pv] = some (.v (.bool false), [.dead]) := by
  have n6 : ¬ k = 6 := by omega
  have n7 : ¬ k = 7 := by omega
  have n4 : ¬ k = 4 := by omega
  have n5 : ¬ k = 5 := by omega
  simp only [J.pv_mk, eS]
  rcases hk with hk | hk
  · simp [run_thicketref10_form, Run, hk, n4, n5, n6, n7]
  · have hk2 : ¬ k < 1 := by omega
    simp [run_thicketref10_form, Run, hk, hk2, n4, n5, n6, n7]
end Go.AM.F
