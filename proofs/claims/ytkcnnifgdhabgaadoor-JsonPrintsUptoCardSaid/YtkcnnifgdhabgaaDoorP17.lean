/- JSON: the document's printed. No conditions. -/
import Derived.Test.YtkcnnifgdhabgaaDoorP16
namespace Go.AM.F
open Go Go.AM
set_option maxRecDepth 10000
set_option linter.unusedSimpArgs false

theorem tx_cat (a b : List UInt8) : tx a ++ tx b = tx (a ++ b) := by
  apply ba_eq
  simp [tx]
theorem tx_all (s : ByteArray) : tx s.data.toList = s := by
  apply ba_eq
  simp [tx]
attribute [local simp] j0_thicketref10_printed j1_thicketref10_printed j2_thicketref10_printed j3_thicketref10_printed w0_thicketref10_printed
abbrev pE (k : Int) (t : ByteArray) (ns : List ByteArray) (is : List J) (ends : ByteArray) (l : List UInt8) (i : Nat) : Env :=
  [(1, jB k t ns is), (3, .v (.string (tx l))), (4, .v (.string ends)), (5, .v (.int .i64 i))]
def PrOK (x : J) : Prop := Cinf T n_thicketref10_printed [x.pv] = some (.v (.string (tx x.out)), [.dead])
theorem pr_list (k : Int) (hk : ¬ k = 7) (t : ByteArray) (ns : List ByteArray) (is : List J) (ends : ByteArray) (hl : is.length ≤ 1048576) (hr : J.rightL is = true) (ih : ∀ x ∈ is, PrOK x) : ∀ (n i : Nat) (l : List UInt8) (ms : List ByteArray), is.length - i = n → i ≤ is.length → l.length + 8 * J.wtL (is.drop i) + min i 1 ≤ 90000000 →
    Exec T l0_thicketref10_printed (pE k t ns is ends l i) = some (.exit 1, pE k t ns is ends (l ++ J.outL false ms (is.drop i) (decide (i = 0))) is.length) := by
  intro n
  induction n with
  | zero =>
    intro i l ms hn hi _
    obtain rfl : i = is.length := by omega
    rw [List.drop_length]
    simp only [pE, jB]
    rw [ex0_thicketref10_printed]
    simp [J.outL]
  | succ n ihn =>
    intro i l ms hn hi hb
    have hlt : i < is.length := by omega
    obtain ⟨j, hj⟩ : ∃ j, is[i] = j := ⟨_, rfl⟩
    have hjm : j ∈ is := by rw [← hj]; exact List.getElem_mem hlt
    have hd : is.drop i = j :: is.drop (i + 1) := by rw [List.drop_eq_getElem_cons hlt, hj]
    have hw := wrap_succ hlt (by omega)
    rw [hd] at hb ⊢
    simp only [J.wtL] at hb
    have hrj : j.right = true := rightL_mem hr j hjm
    have hle := out_le j hrj
    have hpos := wt_pos j
    have hc := ih j hjm
    unfold PrOK at hc
    have z0 := tx_size l
    have z1 := tx_size j.out
    by_cases h0 : i = 0
    · subst h0
      rw [Nat.zero_add] at hb
      have h1 := ihn 1 (l ++ j.out) ms.tail (by omega) (by omega) (by rw [List.length_append]; omega)
      have ho : l ++ J.outL false ms (j :: is.drop (0 + 1)) (decide (0 = 0)) = l ++ j.out ++ J.outL false ms.tail (is.drop 1) (decide (1 = 0)) := by
        simp [J.outL]
      have e1 : tx l ++ tx j.out = tx (l ++ j.out) := tx_cat _ _
      have l1 : (tx l).size + (tx j.out).size ≤ 9223372036854775807 := by omega
      rw [ho, ← h1]
      simp only [pE, jB]
      rw [ex0_thicketref10_printed, ← e1]
      generalize tx j.out = q at *
      generalize tx l = s at *
      obtain ⟨k1, t1, ns1, is1⟩ := j
      simp only [J.pv_mk] at hc
      simp [hlt, hj, J.pv_mk, hc, hk, l1]
    · have h1 := ihn (i + 1) (l ++ [44] ++ j.out) ms.tail (by omega) (by omega) (by simp only [List.length_append, List.length_cons, List.length_nil]; omega)
      have ho : l ++ J.outL false ms (j :: is.drop (i + 1)) (decide (i = 0)) = l ++ [44] ++ j.out ++ J.outL false ms.tail (is.drop (i + 1)) (decide (i + 1 = 0)) := by
        simp [J.outL, h0]
      have c1 : (⟨#[44]⟩ : ByteArray) = tx [44] := rfl
      have e0 : tx l ++ tx [44] = tx (l ++ [44]) := tx_cat _ _
      have e1 : tx (l ++ [44]) ++ tx j.out = tx (l ++ [44] ++ j.out) := tx_cat _ _
      have z2 : (tx [44]).size = 1 := rfl
      have z3 : (tx (l ++ [44])).size = l.length + 1 := by rw [tx_size]; simp
      have l1 : (tx l).size + (tx [44]).size ≤ 9223372036854775807 := by omega
      have l2 : (tx (l ++ [44])).size + (tx j.out).size ≤ 9223372036854775807 := by omega
      have h0' : 0 < i := by omega
      rw [ho, ← h1]
      simp only [pE, jB, succ_cast]
      rw [ex0_thicketref10_printed, ← e1]
      generalize tx j.out = q at *
      generalize tx (l ++ [44]) = s' at *
      generalize tx l = s at *
      generalize tx [44] = c at *
      obtain ⟨k1, t1, ns1, is1⟩ := j
      simp only [J.pv_mk] at hc
      simp [hlt, hj, J.pv_mk, hc, hk, hw, h0, h0', c1, e0, l1, l2]
theorem pr_obj (t : ByteArray) (ns : List ByteArray) (is : List J) (ends : ByteArray) (hl : is.length ≤ 1048576) (hr : J.rightL is = true) (hn0 : ns.length = is.length) (ih : ∀ x ∈ is, PrOK x) : ∀ (n i : Nat) (l : List UInt8), is.length - i = n → i ≤ is.length → l.length + 8 * restW (ns.drop i) (is.drop i) + min i 1 ≤ 70000000 →
    Exec T l0_thicketref10_printed (pE 7 t ns is ends l i) = some (.exit 1, pE 7 t ns is ends (l ++ J.outL true (ns.drop i) (is.drop i) (decide (i = 0))) is.length) := by
  intro n
  induction n with
  | zero =>
    intro i l hn hi _
    obtain rfl : i = is.length := by omega
    rw [List.drop_length]
    simp only [pE, jB]
    rw [ex0_thicketref10_printed]
    simp [J.outL]
  | succ n ihn =>
    intro i l hn hi hb
    have hlt : i < is.length := by omega
    have hlt2 : i < ns.length := by omega
    obtain ⟨j, hj⟩ : ∃ j, is[i] = j := ⟨_, rfl⟩
    obtain ⟨s, hs⟩ : ∃ s, ns[i] = s := ⟨_, rfl⟩
    have hjm : j ∈ is := by rw [← hj]; exact List.getElem_mem hlt
    have hd : is.drop i = j :: is.drop (i + 1) := by rw [List.drop_eq_getElem_cons hlt, hj]
    have hd2 : ns.drop i = s :: ns.drop (i + 1) := by rw [List.drop_eq_getElem_cons hlt2, hs]
    have hw := wrap_succ hlt (by omega)
    rw [hd, hd2] at hb ⊢
    rw [restW_cons] at hb
    have hrj : j.right = true := rightL_mem hr j hjm
    have hle := out_le j hrj
    have hpos := wt_pos j
    have hq := quote_le s.data.toList
    have hsz := size_list s
    have hc := ih j hjm
    unfold PrOK at hc
    have hqc := c_rquoted s (by omega)
    have z0 := tx_size l
    have z1 := tx_size j.out
    have z2 := tx_size (quote s.data.toList)
    have d1 : (⟨#[58]⟩ : ByteArray) = tx [58] := rfl
    have z4 : (tx [58]).size = 1 := rfl
    by_cases h0 : i = 0
    · subst h0
      rw [Nat.zero_add] at hb
      have h1 := ihn 1 (l ++ quote s.data.toList ++ [58] ++ j.out) (by omega) (by omega) (by simp only [List.length_append, List.length_cons, List.length_nil]; omega)
      have ho : l ++ J.outL true (s :: ns.drop (0 + 1)) (j :: is.drop (0 + 1)) (decide (0 = 0)) = l ++ quote s.data.toList ++ [58] ++ j.out ++ J.outL true (ns.drop 1) (is.drop 1) (decide (1 = 0)) := by
        simp [J.outL]
      have e1 : tx l ++ tx (quote s.data.toList) = tx (l ++ quote s.data.toList) := tx_cat _ _
      have e2 : tx (l ++ quote s.data.toList) ++ tx [58] = tx (l ++ quote s.data.toList ++ [58]) := tx_cat _ _
      have e3 : tx (l ++ quote s.data.toList ++ [58]) ++ tx j.out = tx (l ++ quote s.data.toList ++ [58] ++ j.out) := tx_cat _ _
      have z5 := tx_size (l ++ quote s.data.toList)
      have z6 := tx_size (l ++ quote s.data.toList ++ [58])
      simp only [List.length_append, List.length_cons, List.length_nil] at z5 z6
      have l1 : (tx l).size + (tx (quote s.data.toList)).size ≤ 9223372036854775807 := by omega
      have l2 : (tx (l ++ quote s.data.toList)).size + (tx [58]).size ≤ 9223372036854775807 := by omega
      have l3 : (tx (l ++ quote s.data.toList ++ [58])).size + (tx j.out).size ≤ 9223372036854775807 := by omega
      rw [ho, ← h1]
      simp only [pE, jB]
      rw [ex0_thicketref10_printed, ← e3]
      generalize tx j.out = q at *
      generalize tx (l ++ quote s.data.toList ++ [58]) = s3 at *
      generalize tx (l ++ quote s.data.toList) = s2 at *
      generalize tx (quote s.data.toList) = qq at *
      generalize tx l = s1 at *
      generalize tx [58] = c2 at *
      obtain ⟨k1, t1, ns1, is1⟩ := j
      simp only [J.pv_mk] at hc
      simp [hlt, hlt2, hj, hs, J.pv_mk, hqc, hc, d1, e1, e2, l1, l2, l3]
    · have h1 := ihn (i + 1) (l ++ [44] ++ quote s.data.toList ++ [58] ++ j.out) (by omega) (by omega) (by simp only [List.length_append, List.length_cons, List.length_nil]; omega)
      have ho : l ++ J.outL true (s :: ns.drop (i + 1)) (j :: is.drop (i + 1)) (decide (i = 0)) = l ++ [44] ++ quote s.data.toList ++ [58] ++ j.out ++ J.outL true (ns.drop (i + 1)) (is.drop (i + 1)) (decide (i + 1 = 0)) := by
        simp [J.outL, h0]
      have c1 : (⟨#[44]⟩ : ByteArray) = tx [44] := rfl
      have z8 : (tx [44]).size = 1 := rfl
      have e0 : tx l ++ tx [44] = tx (l ++ [44]) := tx_cat _ _
      have e1 : tx (l ++ [44]) ++ tx (quote s.data.toList) = tx (l ++ [44] ++ quote s.data.toList) := tx_cat _ _
      have e2 : tx (l ++ [44] ++ quote s.data.toList) ++ tx [58] = tx (l ++ [44] ++ quote s.data.toList ++ [58]) := tx_cat _ _
      have e3 : tx (l ++ [44] ++ quote s.data.toList ++ [58]) ++ tx j.out = tx (l ++ [44] ++ quote s.data.toList ++ [58] ++ j.out) := tx_cat _ _
      have z7 := tx_size (l ++ [44])
      have z5 := tx_size (l ++ [44] ++ quote s.data.toList)
      have z6 := tx_size (l ++ [44] ++ quote s.data.toList ++ [58])
      simp only [List.length_append, List.length_cons, List.length_nil] at z5 z6 z7
      have l0 : (tx l).size + (tx [44]).size ≤ 9223372036854775807 := by omega
      have l1 : (tx (l ++ [44])).size + (tx (quote s.data.toList)).size ≤ 9223372036854775807 := by omega
      have l2 : (tx (l ++ [44] ++ quote s.data.toList)).size + (tx [58]).size ≤ 9223372036854775807 := by omega
      have l3 : (tx (l ++ [44] ++ quote s.data.toList ++ [58])).size + (tx j.out).size ≤ 9223372036854775807 := by omega
      have h0' : 0 < i := by omega
      rw [ho, ← h1]
      simp only [pE, jB, succ_cast]
      rw [ex0_thicketref10_printed, ← e3]
      generalize tx j.out = q at *
      generalize tx (l ++ [44] ++ quote s.data.toList ++ [58]) = s3 at *
      generalize tx (l ++ [44] ++ quote s.data.toList) = s2 at *
      generalize tx (quote s.data.toList) = qq at *
      generalize tx (l ++ [44]) = s4 at *
      generalize tx l = s1 at *
      generalize tx [58] = c2 at *
      generalize tx [44] = c3 at *
      obtain ⟨k1, t1, ns1, is1⟩ := j
      simp only [J.pv_mk] at hc
      simp [hlt, hlt2, hj, hs, J.pv_mk, hqc, hc, hw, h0, h0', c1, d1, e0, e1, e2, l0, l1, l2, l3]
end Go.AM.F
