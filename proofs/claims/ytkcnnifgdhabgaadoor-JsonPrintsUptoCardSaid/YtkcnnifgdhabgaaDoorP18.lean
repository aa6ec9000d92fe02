/- JSON: Print of both; the law JsonPrints. No conditions. -/
import Derived.Test.YtkcnnifgdhabgaaDoorP17
namespace Go.AM.F
open Go Go.AM
set_option maxRecDepth 10000
set_option linter.unusedSimpArgs false

section
attribute [local simp] j4_thicketref10_printed j5_thicketref10_printed j6_thicketref10_printed b_thicketref10_printed a_thicketref10_printed
theorem pr_flat (k : Int) (t : ByteArray) (hk : k = 1 ∨ k = 2 ∨ k = 3 ∨ k = 4 ∨ k = 5) (ht : t.size ≤ 10000000) : PrOK (.mk k t [] []) := by
  unfold PrOK
  simp only [J.pv_mk]
  have hq := c_rquoted t ht
  have h4 : (tx t.data.toList) = t := tx_all t
  rcases hk with rfl | rfl | rfl | rfl | rfl
  · have ho : tx (J.mk 1 t [] []).out = ⟨#[110, 117, 108, 108]⟩ := rfl
    rw [ho]
    simp [run_thicketref10_printed, Run]
  · have ho : tx (J.mk 2 t [] []).out = ⟨#[102, 97, 108, 115, 101]⟩ := rfl
    rw [ho]
    simp [run_thicketref10_printed, Run]
  · have ho : tx (J.mk 3 t [] []).out = ⟨#[116, 114, 117, 101]⟩ := rfl
    rw [ho]
    simp [run_thicketref10_printed, Run]
  · have ho : tx (J.mk 4 t [] []).out = t := h4
    rw [ho]
    simp [run_thicketref10_printed, Run]
  · have ho : (J.mk 5 t [] []).out = quote t.data.toList := rfl
    rw [ho]
    generalize tx (quote t.data.toList) = Q at *
    simp [run_thicketref10_printed, Run, hq]
theorem pr_many (k : Int) (t : ByteArray) (ns : List ByteArray) (is : List J) (o c : UInt8) (e : List UInt8) (hl : e.length ≤ 100000000)
    (hoc : (k = 6 ∧ o = 91 ∧ c = 93) ∨ (k = 7 ∧ o = 123 ∧ c = 125))
    (h : Exec T l0_thicketref10_printed (pE k t ns is ⟨#[c]⟩ [o] 0) = some (.exit 1, pE k t ns is ⟨#[c]⟩ ([o] ++ e) is.length)) :
    Cinf T n_thicketref10_printed [(J.mk k t ns is).pv] = some (.v (.string (tx ([o] ++ e ++ [c]))), [.dead]) := by
  have e1 : tx ([o] ++ e) ++ tx [c] = tx ([o] ++ e ++ [c]) := tx_cat _ _
  have z1 := tx_size ([o] ++ e)
  have z2 : (tx [c]).size = 1 := rfl
  have hc : (⟨#[c]⟩ : ByteArray) = tx [c] := rfl
  simp only [List.length_append, List.length_cons, List.length_nil] at z1
  have l1 : (tx ([o] ++ e)).size + (tx [c]).size ≤ 9223372036854775807 := by omega
  simp only [pE, jB, Int.natCast_zero, hc] at h
  simp only [J.pv_mk]
  rw [← e1]
  generalize tx ([o] ++ e) = q at *
  rcases hoc with ⟨rfl, rfl, rfl⟩ | ⟨rfl, rfl, rfl⟩
  · have y1 : (⟨#[91]⟩ : ByteArray) = tx [91] := rfl
    have y2 : (⟨#[93]⟩ : ByteArray) = tx [93] := rfl
    generalize tx [91] = a1 at *
    generalize tx [93] = a2 at *
    simp [run_thicketref10_printed, Run, y1, y2, h, l1]
  · have y1 : (⟨#[123]⟩ : ByteArray) = tx [123] := rfl
    have y2 : (⟨#[125]⟩ : ByteArray) = tx [125] := rfl
    generalize tx [123] = a1 at *
    generalize tx [125] = a2 at *
    simp [run_thicketref10_printed, Run, y1, y2, h, l1]
theorem c_printed : ∀ (j : J), j.Ok → j.right = true → j.wt ≤ 8000000 → PrOK j
  | .mk k t ns is, ⟨h1, h2, h3⟩, hr, hl => by
    have hwt := restW_all k t ns is
    have hlw : J.wtL is ≤ restW ns is := by simp only [restW]; omega
    have ih : J.rightL is = true → ∀ x ∈ is, PrOK x := fun hrl x hm => by
      exact c_printed x (okL_mem h3 x hm) (rightL_mem hrl x hm) (by
        have := wtL_mem hm
        omega)
    by_cases c5 : k = 1 ∨ k = 2 ∨ k = 3 ∨ k = 4 ∨ k = 5
    · have he : ns = [] ∧ is = [] := by
        simp only [J.right] at hr
        rcases c5 with rfl | rfl | rfl | rfl | rfl <;> simp at hr <;> simp [hr]
      obtain ⟨rfl, rfl⟩ := he
      exact pr_flat k t c5 (by omega)
    simp only [not_or] at c5
    obtain ⟨d1, d2, d3, d4, d5⟩ := c5
    have hle := out_le (.mk k t ns is) hr
    simp only [J.right] at hr
    rw [if_neg (by omega), if_neg d4, if_neg d5] at hr
    by_cases c6 : k = 6
    · rw [if_pos c6] at hr
      simp only [Bool.and_eq_true, decide_eq_true_eq] at hr
      have g := pr_list k (by omega) t ns is ⟨#[93]⟩ h2 hr.2 (ih hr.2) is.length 0 [91] ns rfl (Nat.zero_le _) (by rw [List.drop_zero]; simp; omega)
      rw [List.drop_zero, decide_eq_true rfl] at g
      have ho : (J.mk k t ns is).out = [91] ++ J.outL false ns is true ++ [93] := by
        simp only [J.out]
        rw [if_neg d1, if_neg d2, if_neg d3, if_neg d4, if_neg d5, if_neg (by omega)]
      unfold PrOK
      rw [ho] at hle ⊢
      exact pr_many k t ns is 91 93 _ (by simp only [List.length_append, List.length_cons, List.length_nil] at hle; omega) (.inl ⟨c6, rfl, rfl⟩) g
    rw [if_neg c6] at hr
    by_cases c7 : k = 7
    · rw [if_pos c7] at hr
      simp only [Bool.and_eq_true, decide_eq_true_eq] at hr
      subst c7
      have g := pr_obj t ns is ⟨#[125]⟩ h2 hr.2 hr.1.1.2 (ih hr.2) is.length 0 [123] rfl (Nat.zero_le _) (by rw [List.drop_zero, List.drop_zero]; simp; omega)
      rw [List.drop_zero, List.drop_zero, decide_eq_true rfl] at g
      have ho : (J.mk 7 t ns is).out = [123] ++ J.outL true ns is true ++ [125] := by
        simp only [J.out]
        rw [if_neg d1, if_neg d2, if_neg d3, if_neg d4, if_neg d5, if_pos trivial]
      unfold PrOK
      rw [ho] at hle ⊢
      exact pr_many 7 t ns is 123 125 _ (by simp only [List.length_append, List.length_cons, List.length_nil] at hle; omega) (.inr ⟨rfl, rfl, rfl⟩) g
    · rw [if_neg c7] at hr
      cases hr
termination_by j => SizeOf.sizeOf j
decreasing_by
  have := List.sizeOf_lt_of_mem hm
  simp only [J.mk.sizeOf_spec]
  omega
end
/-- What Print answers: the text, what is wrong. -/
def J.print (j : J) : List UInt8 × Int := if j.check ≠ 0 then ([], j.check) else if 16777216 < j.out.length then ([], 4) else (j.out, 0)
theorem check_right {j : J} (h : j.check = 0) : j.right = true := by
  unfold J.check at h
  split at h
  · cases h
  · split at h
    · cases h
    · rename_i h1 h2
      simpa using h2
attribute [local simp] j0_json_Print j1_json_Print b_json_Print a_json_Print
theorem c_Print (j : J) (h : j.Ok) (hw : j.wt ≤ 8000000) : Cinf T n_json_Print [j.pv] = some (.tup [.own 1 (bl j.print.1), .v (.int .i64 j.print.2)], [.dead]) := by
  have hc := c_Check j h (by omega)
  unfold J.print
  by_cases h0 : j.check = 0
  · have hr := check_right h0
    have hwr := c_write j h hr (.nil 1) [] (.inr ⟨rfl, rfl⟩) (by simp; omega)
    rw [if_neg (fun hn => hn h0)]
    rw [h0] at hc
    have hlen : (bl j.out).length = j.out.length := by simp
    rw [List.nil_append] at hwr
    by_cases hL : 16777216 < j.out.length
    · have hL2 : (16777216 : Int) < j.out.length := by omega
      rw [if_pos hL, show bl ([], (4 : Int)).1 = ([] : List PV) from rfl]
      generalize j.out = q at *
      obtain ⟨k, t, ns, is⟩ := j
      simp only [J.pv_mk] at hc hwr ⊢
      simp [run_json_Print, Run, hc, hwr, hL, hL2]
    · have hL2 : ¬ (16777216 : Int) < j.out.length := by omega
      rw [if_neg hL]
      generalize j.out = q at *
      obtain ⟨k, t, ns, is⟩ := j
      simp only [J.pv_mk] at hc hwr ⊢
      simp [run_json_Print, Run, hc, hwr, hL, hL2]
  · rw [if_pos h0, show bl ([], j.check).1 = ([] : List PV) from rfl]
    generalize j.check = q at *
    obtain ⟨k, t, ns, is⟩ := j
    simp only [J.pv_mk] at hc ⊢
    simp [run_json_Print, Run, hc, h0]
attribute [local simp] j0_thicketref10_Print j1_thicketref10_Print b_thicketref10_Print a_thicketref10_Print
theorem c_rPrint (j : J) (h : j.Ok) (hw : j.wt ≤ 8000000) : Cinf T n_thicketref10_Print [j.pv] = some (.tup [.own 1 (bl j.print.1), .v (.int .i64 j.print.2)], [.dead]) := by
  have hc := c_rCheck j h (by omega)
  unfold J.print
  by_cases h0 : j.check = 0
  · have hr := check_right h0
    have hwr := c_printed j h hr (by omega)
    unfold PrOK at hwr
    have hle := out_le j hr
    rw [if_neg (fun hn => hn h0)]
    rw [h0] at hc
    have z := tx_size j.out
    have hb : byteList (tx j.out) = bl j.out := by rw [byteList_bl, tx_data]
    by_cases hL : 16777216 < j.out.length
    · have hL2 : (16777216 : Int) < j.out.length := by omega
      rw [if_pos hL, show bl ([], (4 : Int)).1 = ([] : List PV) from rfl]
      generalize j.out = q at *
      obtain ⟨k, t, ns, is⟩ := j
      simp only [J.pv_mk] at hc hwr ⊢
      simp [run_thicketref10_Print, Run, hc, hwr, hL, hL2, z]
    · have hL2 : ¬ (16777216 : Int) < j.out.length := by omega
      have hL3 : j.out.length ≤ 4611686018427387904 := by omega
      rw [if_neg hL]
      generalize j.out = q at *
      obtain ⟨k, t, ns, is⟩ := j
      simp only [J.pv_mk] at hc hwr ⊢
      simp [run_thicketref10_Print, Run, hc, hwr, hL, hL2, z, hb, hL3]
  · rw [if_pos h0, show bl ([], j.check).1 = ([] : List PV) from rfl]
    generalize j.check = q at *
    obtain ⟨k, t, ns, is⟩ := j
    simp only [J.pv_mk] at hc ⊢
    simp [run_thicketref10_Print, Run, hc, h0]
theorem noRo_bl : ∀ L : List UInt8, PV.noRoL (bl L) = true
  | [] => rfl
  | b :: r => by
    have := noRo_bl r
    unfold bl at this ⊢
    rw [List.map_cons]
    simp [PV.noRoL, PV.noRo, this]
attribute [local simp] b_thicketlaw10_JsonPrints a_thicketlaw10_JsonPrints
theorem c_JsonPrints (j : J) (h : j.Ok) (hw : j.wt ≤ 8000000) : Cinf T n_thicketlaw10_JsonPrints [j.pv] = some (.v (.bool true), [.dead]) := by
  have h1 := c_Print j h hw
  have h2 := c_rPrint j h hw
  have h3 := c_Check j h (by omega)
  have h4 := c_rCheck j h (by omega)
  have h5 := c_rcopy j h
  have h6 := c_rsame j j h
  rw [J.eq_refl] at h6
  have hb := bytesOf_bl j.print.1
  generalize j.print.1 = q at *
  generalize j.print.2 = w at *
  generalize j.check = c at *
  obtain ⟨k, t, ns, is⟩ := j
  simp only [J.pv_mk, J.copied, J.parts] at h1 h2 h3 h4 h5 h6 ⊢
  simp [run_thicketlaw10_JsonPrints, Run, h1, h2, h3, h4, h5, h6, hb, imm_strs, imm_pvs, noRo_bl]
end Go.AM.F
