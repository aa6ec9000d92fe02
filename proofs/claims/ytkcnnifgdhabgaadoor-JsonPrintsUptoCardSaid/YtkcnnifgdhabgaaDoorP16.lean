/- JSON: the program's write: objects, then every value. No conditions. -/
import Derived.Test.YtkcnnifgdhabgaaDoorP15
namespace Go.AM.F
open Go Go.AM
set_option maxRecDepth 10000
set_option linter.unusedSimpArgs false

attribute [local simp] j0_json_write j1_json_write j2_json_write j3_json_write w0_json_write
theorem rightL_mem : ∀ {q : List J}, J.rightL q = true → ∀ x ∈ q, x.right = true := by
  intro q
  induction q with
  | nil => intro _ x hx; simp at hx
  | cons y z ihq =>
    intro h x hx
    simp only [J.rightL, Bool.and_eq_true] at h
    rcases List.mem_cons.1 hx with rfl | hx
    · exact h.1
    · exact ihq h.2 x hx
theorem wr_obj (t : ByteArray) (ns : List ByteArray) (is : List J) (ends : ByteArray) (hl : is.length ≤ 1048576) (hr : J.rightL is = true) (hn0 : ns.length = is.length) (hu : ns.all okU = true) (ih : ∀ x ∈ is, WrOK x) : ∀ (n i : Nat) (l : List UInt8), is.length - i = n → i ≤ is.length → l.length + 8 * restW (ns.drop i) (is.drop i) + min i 1 ≤ 90000000 →
    Exec T l0_json_write (wE 7 t ns is ends l i) = some (.exit 1, wE 7 t ns is ends (l ++ J.outL true (ns.drop i) (is.drop i) (decide (i = 0))) is.length) := by
  intro n
  induction n with
  | zero =>
    intro i l hn hi _
    obtain rfl : i = is.length := by omega
    rw [List.drop_length]
    simp only [wE, jB]
    rw [ex0_json_write]
    simp [J.outL]
  | succ n ihn =>
    intro i l hn hi hb
    have hlt : i < is.length := by omega
    have hlt2 : i < ns.length := by omega
    obtain ⟨j, hj⟩ : ∃ j, is[i] = j := ⟨_, rfl⟩
    obtain ⟨s, hs⟩ : ∃ s, ns[i] = s := ⟨_, rfl⟩
    have hjm : j ∈ is := by rw [← hj]; exact List.getElem_mem hlt
    have hsm : s ∈ ns := by rw [← hs]; exact List.getElem_mem hlt2
    have hd : is.drop i = j :: is.drop (i + 1) := by rw [List.drop_eq_getElem_cons hlt, hj]
    have hd2 : ns.drop i = s :: ns.drop (i + 1) := by rw [List.drop_eq_getElem_cons hlt2, hs]
    have hw := wrap_succ hlt (by omega)
    rw [hd, hd2] at hb ⊢
    rw [restW_cons] at hb
    have hrj : j.right = true := rightL_mem hr j hjm
    have hus : okU s = true := List.all_eq_true.1 hu s hsm
    have hle := out_le j hrj
    have hpos := wt_pos j
    have hq := quote_le s.data.toList
    have hsz := size_list s
    by_cases h0 : i = 0
    · subst h0
      rw [Nat.zero_add] at hb
      have hqc := c_quoted (.own 1 (bl l)) l s (.inl rfl) hus (by omega)
      have hc := ih j hjm (l ++ quote s.data.toList ++ [58]) (by simp only [List.length_append, List.length_cons, List.length_nil]; omega)
      have h1 := ihn 1 (l ++ quote s.data.toList ++ [58] ++ j.out) (by omega) (by omega) (by simp only [List.length_append, List.length_cons, List.length_nil]; omega)
      have ho : l ++ J.outL true (s :: ns.drop (0 + 1)) (j :: is.drop (0 + 1)) (decide (0 = 0)) = l ++ quote s.data.toList ++ [58] ++ j.out ++ J.outL true (ns.drop 1) (is.drop 1) (decide (1 = 0)) := by
        simp [J.outL]
      have e1 : bl (l ++ quote s.data.toList ++ [58]) = bl (l ++ quote s.data.toList) ++ [.v (.int .u8 58)] := by rw [show ([PV.v (.int .u8 58)] : List PV) = bl [58] from rfl, bl_append]
      have l0 : (bl (l ++ quote s.data.toList)).length = l.length + (quote s.data.toList).length := by simp
      have l1 : (bl (l ++ quote s.data.toList)).length ≤ 140737488355327 := by omega
      have l2 : (bl (l ++ quote s.data.toList)).length ≤ 4611686018427387903 := by omega
      rw [ho, ← h1]
      simp only [wE, jB]
      rw [ex0_json_write]
      rw [e1] at hc
      generalize bl (l ++ quote s.data.toList) = Q at *
      generalize bl (l ++ quote s.data.toList ++ [58] ++ j.out) = q at *
      obtain ⟨k1, t1, ns1, is1⟩ := j
      simp only [J.pv_mk] at hc
      simp [hlt, hlt2, hj, hs, J.pv_mk, hqc, hc, l1, l2]
    · have hqc := c_quoted (.own 1 (bl (l ++ [44]))) (l ++ [44]) s (.inl rfl) hus (by simp only [List.length_append, List.length_cons, List.length_nil]; omega)
      have hc := ih j hjm (l ++ [44] ++ quote s.data.toList ++ [58]) (by simp only [List.length_append, List.length_cons, List.length_nil]; omega)
      have h1 := ihn (i + 1) (l ++ [44] ++ quote s.data.toList ++ [58] ++ j.out) (by omega) (by omega) (by simp only [List.length_append, List.length_cons, List.length_nil]; omega)
      have ho : l ++ J.outL true (s :: ns.drop (i + 1)) (j :: is.drop (i + 1)) (decide (i = 0)) = l ++ [44] ++ quote s.data.toList ++ [58] ++ j.out ++ J.outL true (ns.drop (i + 1)) (is.drop (i + 1)) (decide (i + 1 = 0)) := by
        simp [J.outL, h0]
      have e0 : bl (l ++ [44]) = bl l ++ [.v (.int .u8 44)] := by rw [← bl_append]; rfl
      have e1 : bl (l ++ [44] ++ quote s.data.toList ++ [58]) = bl (l ++ [44] ++ quote s.data.toList) ++ [.v (.int .u8 58)] := by rw [show ([PV.v (.int .u8 58)] : List PV) = bl [58] from rfl, bl_append]
      have l0 : (bl (l ++ [44] ++ quote s.data.toList)).length = l.length + 1 + (quote s.data.toList).length := by
        simp
        omega
      have l1 : (bl (l ++ [44] ++ quote s.data.toList)).length ≤ 140737488355327 := by omega
      have l2 : (bl (l ++ [44] ++ quote s.data.toList)).length ≤ 4611686018427387903 := by omega
      have l3 : l.length ≤ 140737488355327 := by omega
      have l4 : l.length ≤ 4611686018427387903 := by omega
      have h0' : 0 < i := by omega
      rw [ho, ← h1]
      simp only [wE, jB, succ_cast]
      rw [ex0_json_write]
      rw [e1] at hc
      rw [e0] at hqc
      generalize bl (l ++ [44] ++ quote s.data.toList) = Q at *
      generalize bl (l ++ [44] ++ quote s.data.toList ++ [58] ++ j.out) = q at *
      obtain ⟨k1, t1, ns1, is1⟩ := j
      simp only [J.pv_mk] at hc
      simp [hlt, hlt2, hj, hs, J.pv_mk, hqc, hc, hw, h0, h0', l1, l2, l3, l4]
attribute [local simp] j4_json_write j5_json_write j6_json_write b_json_write a_json_write
/-- A value without values, written. -/
theorem wr_flat (k : Int) (t : ByteArray) (X : PV) (l : List UInt8) (hk : k = 1 ∨ k = 2 ∨ k = 3 ∨ k = 4 ∨ k = 5) (hX : X = .own 1 (bl l) ∨ (X = .nil 1 ∧ l = [])) (hr : (J.mk k t [] []).right = true) (hl : l.length + 8 * t.size ≤ 90000000) :
    Cinf T n_json_write [X, (J.mk k t [] []).pv] = some (.own 1 (bl (l ++ (J.mk k t [] []).out)), [.dead, .dead]) := by
  have l1 : l.length ≤ 140737488355323 := by omega
  have l2 : l.length ≤ 4611686018427387899 := by omega
  have l3 : l.length ≤ 140737488355324 := by omega
  have l4 : l.length ≤ 4611686018427387900 := by omega
  have hb0 : bl [] = ([] : List PV) := rfl
  simp only [J.pv_mk]
  rcases hk with rfl | rfl | rfl | rfl | rfl
  · have ho : bl (l ++ (J.mk 1 t [] []).out) = bl l ++ byteList ⟨#[110, 117, 108, 108]⟩ := by rw [byteList_bl, bl_append]; rfl
    have hz : (byteList ⟨#[110, 117, 108, 108]⟩).length = 4 := rfl
    rw [ho]
    rcases hX with rfl | ⟨rfl, rfl⟩ <;> simp [run_json_write, Run, home, hz, hb0, l3, l4]
  · have ho : bl (l ++ (J.mk 2 t [] []).out) = bl l ++ byteList ⟨#[102, 97, 108, 115, 101]⟩ := by rw [byteList_bl, bl_append]; rfl
    have hz : (byteList ⟨#[102, 97, 108, 115, 101]⟩).length = 5 := rfl
    rw [ho]
    rcases hX with rfl | ⟨rfl, rfl⟩ <;> simp [run_json_write, Run, home, hz, hb0, l1, l2]
  · have ho : bl (l ++ (J.mk 3 t [] []).out) = bl l ++ byteList ⟨#[116, 114, 117, 101]⟩ := by rw [byteList_bl, bl_append]; rfl
    have hz : (byteList ⟨#[116, 114, 117, 101]⟩).length = 4 := rfl
    rw [ho]
    rcases hX with rfl | ⟨rfl, rfl⟩ <;> simp [run_json_write, Run, home, hz, hb0, l3, l4]
  · have ho : bl (l ++ (J.mk 4 t [] []).out) = bl l ++ byteList t := by rw [byteList_bl, bl_append]; rfl
    have hz : (byteList t).length = t.size := by rw [byteList_bl]; simp
    have l5 : l.length + t.size ≤ 140737488355328 := by omega
    have l6 : l.length + t.size ≤ 4611686018427387904 := by omega
    have l7 : t.size ≤ 140737488355328 := by omega
    have l8 : t.size ≤ 4611686018427387904 := by omega
    rw [ho]
    rcases hX with rfl | ⟨rfl, rfl⟩
    · simp [run_json_write, Run, home, hz, l5, l6]
    · simp [run_json_write, Run, home, hz, hb0, l7, l8]
  · have hu : okU t = true := by simpa [J.right] using hr
    have hq := c_quoted X l t hX hu (by omega)
    have ho : (J.mk 5 t [] []).out = quote t.data.toList := rfl
    rw [ho]
    generalize bl (l ++ quote t.data.toList) = Q at *
    rcases hX with rfl | ⟨rfl, rfl⟩
    · generalize bl l = Y at *
      simp [run_json_write, Run, home, hq]
    · simp [run_json_write, Run, home, hq]
/-- A list or an object, written. -/
theorem wr_many (k : Int) (hk : k = 6 ∨ k = 7) (t : ByteArray) (ns : List ByteArray) (is : List J) (X : PV) (l : List UInt8) (o c : UInt8) (e : List UInt8) (hX : X = .own 1 (bl l) ∨ (X = .nil 1 ∧ l = [])) (hl : l.length + e.length ≤ 100000000)
    (hoc : (k = 6 ∧ o = 91 ∧ c = 93) ∨ (k = 7 ∧ o = 123 ∧ c = 125))
    (h : Exec T l0_json_write (wE k t ns is ⟨#[o, c]⟩ (l ++ [o]) 0) = some (.exit 1, wE k t ns is ⟨#[o, c]⟩ (l ++ [o] ++ e) is.length)) :
    Cinf T n_json_write [X, (J.mk k t ns is).pv] = some (.own 1 (bl (l ++ ([o] ++ e ++ [c]))), [.dead, .dead]) := by
  have l1 : l.length ≤ 140737488355327 := by omega
  have l2 : l.length ≤ 4611686018427387903 := by omega
  have hb0 : bl [] = ([] : List PV) := rfl
  have l3 : (bl (l ++ [o] ++ e)).length ≤ 140737488355327 := by simp; omega
  have l4 : (bl (l ++ [o] ++ e)).length ≤ 4611686018427387903 := by omega
  have e1 : bl (l ++ [o]) = bl l ++ [.v (.int .u8 (o.toNat : Nat))] := by rw [← bl_append]; rfl
  have e2 : bl (l ++ ([o] ++ e ++ [c])) = bl (l ++ [o] ++ e) ++ [.v (.int .u8 (c.toNat : Nat))] := by
    rw [show ([PV.v (.int .u8 (c.toNat : Nat))] : List PV) = bl [c] from rfl, bl_append]
    simp
  simp only [wE, jB, Int.natCast_zero] at h
  rw [e1] at h
  simp only [J.pv_mk]
  rw [e2]
  generalize bl (l ++ [o] ++ e) = q at *
  have z1 : (⟨#[91, 93]⟩ : ByteArray).size = 2 := rfl
  have z2 : (⟨#[123, 125]⟩ : ByteArray).size = 2 := rfl
  rcases hoc with ⟨rfl, rfl, rfl⟩ | ⟨rfl, rfl, rfl⟩
  · have f1 : ((91 : UInt8).toNat : Int) = 91 := rfl
    have f2 : ((93 : UInt8).toNat : Int) = 93 := rfl
    rw [f1] at h
    rw [f2]
    rcases hX with rfl | ⟨rfl, rfl⟩
    · simp [run_json_write, Run, home, h, z1, z2, l1, l2, l3, l4, -w0_json_write]
    · rw [hb0, List.nil_append] at h
      simp [run_json_write, Run, home, h, z1, z2, l3, l4, -w0_json_write]
  · have f1 : ((123 : UInt8).toNat : Int) = 123 := rfl
    have f2 : ((125 : UInt8).toNat : Int) = 125 := rfl
    rw [f1] at h
    rw [f2]
    rcases hX with rfl | ⟨rfl, rfl⟩
    · simp [run_json_write, Run, home, h, z1, z2, l1, l2, l3, l4, -w0_json_write]
    · rw [hb0, List.nil_append] at h
      simp [run_json_write, Run, home, h, z1, z2, l3, l4, -w0_json_write]
theorem restW_all (k : Int) (t : ByteArray) (ns : List ByteArray) (is : List J) : (J.mk k t ns is).wt = restW ns is + t.size + 1 := by
  simp only [restW, J.wt]
  omega
theorem c_write : ∀ (j : J), j.Ok → j.right = true → ∀ (X : PV) (l : List UInt8), (X = .own 1 (bl l) ∨ (X = .nil 1 ∧ l = [])) → l.length + 8 * j.wt ≤ 90000000 → Cinf T n_json_write [X, j.pv] = some (.own 1 (bl (l ++ j.out)), [.dead, .dead])
  | .mk k t ns is, ⟨h1, h2, h3⟩, hr, X, l, hX, hl => by
    have ih : J.rightL is = true → ∀ x ∈ is, WrOK x := fun hrl x hm l' hl' => by
      exact c_write x (okL_mem h3 x hm) (rightL_mem hrl x hm) _ l' (.inl rfl) hl'
    have hwt := restW_all k t ns is
    by_cases c5 : k = 1 ∨ k = 2 ∨ k = 3 ∨ k = 4 ∨ k = 5
    · have he : ns = [] ∧ is = [] := by
        simp only [J.right] at hr
        rcases c5 with rfl | rfl | rfl | rfl | rfl <;> simp at hr <;> simp [hr]
      obtain ⟨rfl, rfl⟩ := he
      exact wr_flat k t X l c5 hX hr (by omega)
    simp only [not_or] at c5
    obtain ⟨d1, d2, d3, d4, d5⟩ := c5
    have hle := out_le (.mk k t ns is) hr
    simp only [J.right] at hr
    rw [if_neg (by omega), if_neg d4, if_neg d5] at hr
    by_cases c6 : k = 6
    · rw [if_pos c6] at hr
      simp only [Bool.and_eq_true, decide_eq_true_eq] at hr
      have hlw : J.wtL is ≤ restW ns is := by simp only [restW]; omega
      have g := wr_list k (by omega) t ns is ⟨#[91, 93]⟩ h2 hr.2 (ih hr.2) is.length 0 (l ++ [91]) ns rfl (Nat.zero_le _) (by rw [List.drop_zero]; simp; omega)
      rw [List.drop_zero, decide_eq_true rfl] at g
      have ho : (J.mk k t ns is).out = [91] ++ J.outL false ns is true ++ [93] := by
        simp only [J.out]
        rw [if_neg d1, if_neg d2, if_neg d3, if_neg d4, if_neg d5, if_neg (by omega)]
      rw [ho] at hle ⊢
      exact wr_many k (.inl c6) t ns is X l 91 93 _ hX (by simp only [List.length_append, List.length_cons, List.length_nil] at hle; omega) (.inl ⟨c6, rfl, rfl⟩) g
    rw [if_neg c6] at hr
    by_cases c7 : k = 7
    · rw [if_pos c7] at hr
      simp only [Bool.and_eq_true, decide_eq_true_eq] at hr
      subst c7
      have g := wr_obj t ns is ⟨#[123, 125]⟩ h2 hr.2 hr.1.1.2 hr.1.2 (ih hr.2) is.length 0 (l ++ [123]) rfl (Nat.zero_le _) (by rw [List.drop_zero, List.drop_zero]; simp; omega)
      rw [List.drop_zero, List.drop_zero, decide_eq_true rfl] at g
      have ho : (J.mk 7 t ns is).out = [123] ++ J.outL true ns is true ++ [125] := by
        simp only [J.out]
        rw [if_neg d1, if_neg d2, if_neg d3, if_neg d4, if_neg d5, if_pos trivial]
      rw [ho] at hle ⊢
      exact wr_many 7 (.inr rfl) t ns is X l 123 125 _ hX (by simp only [List.length_append, List.length_cons, List.length_nil] at hle; omega) (.inr ⟨rfl, rfl, rfl⟩) g
    · rw [if_neg c7] at hr
      cases hr
termination_by j => SizeOf.sizeOf j
decreasing_by
  have := List.sizeOf_lt_of_mem hm
  simp only [J.mk.sizeOf_spec]
  omega
end Go.AM.F
