/- JSON values: copies, and held against each other. No conditions. -/
import Derived.Test.YtkcnnifgdhabgaaDoorKx
namespace Go.AM.F
open Go Go.AM
set_option maxRecDepth 10000
set_option linter.unusedSimpArgs false

mutual
/-- Its lists are no longer than a program can hold. -/
def J.Ok : J → Prop
  | .mk _ _ ns is => ns.length ≤ 1048576 ∧ is.length ≤ 1048576 ∧ J.OkL is
def J.OkL : List J → Prop
  | [] => True
  | j :: r => j.Ok ∧ J.OkL r
end
theorem okL_mem : ∀ {l : List J}, J.OkL l → ∀ j ∈ l, j.Ok
  | [], _, j, h => by cases h
  | x :: r, h, j, hj => by
    rcases List.mem_cons.1 hj with rfl | hj
    · exact h.1
    · exact okL_mem h.2 j hj
abbrev zero4 : List PV := [.v (.int .u8 0), .v (.string ⟨#[]⟩), .own 1 [], .own 4 []]
theorem copy_loop (k0 : Int) (t0 : ByteArray) (ns : List ByteArray) (is : List J) (hl : is.length ≤ 1048576) (ih : ∀ j ∈ is, Cinf T n_json_Copy [j.pv] = some (j.copied, [.dead])) : ∀ (n k : Nat), is.length - k = n → k ≤ is.length →
    Exec T l0_json_Copy [(1, .box [.v (.int .u8 k0), .v (.string t0), .ro 1 (ns.map str), .ro 4 (is.map J.pv)]), (2, .box zero4), (3, .box [.v (.int .u8 k0), .v (.string t0), .own 1 (ns.map str), .own 4 ((is.take k).map J.pv)]), (17, .addr 1 3), (18, .ro 4 (is.map J.pv)), (19, .v (.int .i64 is.length)), (20, .v (.int .i64 k))] =
      some (.exit 0, [(1, .box [.v (.int .u8 k0), .v (.string t0), .ro 1 (ns.map str), .ro 4 (is.map J.pv)]), (2, .box zero4), (3, .box [.v (.int .u8 k0), .v (.string t0), .own 1 (ns.map str), .own 4 (is.map J.pv)]), (17, .addr 1 3), (18, .ro 4 (is.map J.pv)), (19, .v (.int .i64 is.length)), (20, .v (.int .i64 is.length))]) := by
  intro n
  induction n with
  | zero =>
    intro k hn hk
    obtain rfl : k = is.length := by omega
    rw [ex0_json_Copy, List.take_length]
    simp [w0_json_Copy]
  | succ n ihn =>
    intro k hn hk
    have hlt : k < is.length := by omega
    obtain ⟨j, hj⟩ : ∃ j, is[k] = j := ⟨_, rfl⟩
    have hjm : j ∈ is := by rw [← hj]; exact List.getElem_mem hlt
    have hc := ih j hjm
    have hw := wrap_succ hlt (by omega)
    have ht : is.take (k + 1) = is.take k ++ [j] := by rw [List.take_succ_eq_append_getElem hlt, hj]
    have h0 := ihn (k + 1) (by omega) (by omega)
    rw [ht, List.map_append, List.map_cons, List.map_nil, succ_cast] at h0
    obtain ⟨k1, t1, ns1, is1⟩ := j
    simp only [J.pv_mk, J.copied, J.parts] at hc h0
    have hlen : ((is.take k).map J.pv).length = k := by simp; omega
    have e1 : (k + 1) * 72 ≤ 140737488355328 := by omega
    have e2 : k ≤ 4611686018427387903 := by omega
    rw [ex0_json_Copy]
    generalize (is.take k).map J.pv = pre at h0 hlen ⊢
    simp [w0_json_Copy, j1_json_Copy, j0_json_Copy, hlt, hj, J.pv_mk, hc, hw, imm_strs, imm_pvs, hlen, e1, e2]
    simpa using h0
theorem c_copy : ∀ (j : J), j.Ok → Cinf T n_json_Copy [j.pv] = some (j.copied, [.dead])
  | .mk k t ns is, ⟨h1, h2, h3⟩ => by
    have ih : ∀ j ∈ is, Cinf T n_json_Copy [j.pv] = some (j.copied, [.dead]) := fun j hm => by
      exact c_copy j (okL_mem h3 j hm)
    have hl := copy_loop k t ns is h2 ih is.length 0 rfl (Nat.zero_le _)
    simp only [List.take_zero, List.map_nil, Int.natCast_zero] at hl
    have e1 : ns.length * 16 ≤ 140737488355328 := by omega
    have e2 : ns.length ≤ 4611686018427387904 := by omega
    simp [run_json_Copy, Run, a_json_Copy, b_json_Copy, j2_json_Copy, J.pv_mk, J.copied, J.parts, hl, e1, e2]
termination_by j => SizeOf.sizeOf j
decreasing_by
  have := List.sizeOf_lt_of_mem hm
  simp only [J.mk.sizeOf_spec]
  omega

mutual
def J.eq : J → J → Bool
  | .mk k t ns is, .mk k' t' ns' is' => decide (k = k') && decide (t = t') && decide (ns = ns') && J.eqL is is'
def J.eqL : List J → List J → Bool
  | [], [] => true
  | a :: r, b :: q => a.eq b && J.eqL r q
  | _, _ => false
end
mutual
theorem J.eq_refl : ∀ j : J, j.eq j = true
  | .mk k t ns is => by simp [J.eq, J.eqL_refl is]
theorem J.eqL_refl : ∀ l : List J, J.eqL l l = true
  | [] => rfl
  | a :: r => by simp [J.eqL, J.eq_refl a, J.eqL_refl r]
end
theorem eqL_length : ∀ {a b : List J}, J.eqL a b = true → a.length = b.length
  | [], [], _ => rfl
  | x :: r, y :: q, h => by
    simp only [J.eqL, Bool.and_eq_true] at h
    simp [eqL_length h.2]
  | [], _ :: _, h => by simp [J.eqL] at h
  | _ :: _, [], h => by simp [J.eqL] at h
theorem rnames_loop (k : Int) (t : ByteArray) (ns ms : List ByteArray) (x y : PV) (k' : Int) (t' : ByteArray) (hl : ns.length ≤ 1048576) (hm : ns.length = ms.length) : ∀ (n i : Nat), ns.length - i = n → i ≤ ns.length →
    Exec T l0_thicketref10_Same [(2, .box [.v (.int .u8 k), .v (.string t), .ro 1 (ns.map str), x]), (3, .box [.v (.int .u8 k'), .v (.string t'), .ro 1 (ms.map str), y]), (5, .v (.int .i64 i))] =
      if ns.drop i = ms.drop i then some (.exit 0, [(2, .box [.v (.int .u8 k), .v (.string t), .ro 1 (ns.map str), x]), (3, .box [.v (.int .u8 k'), .v (.string t'), .ro 1 (ms.map str), y]), (5, .v (.int .i64 ns.length))])
      else some (.ret, [(4, .v (.bool false))]) := by
  intro n
  induction n with
  | zero =>
    intro i hn hk
    obtain rfl : i = ns.length := by omega
    rw [ex0_thicketref10_Same, if_pos (by rw [List.drop_length, hm, List.drop_length])]
    simp [w0_thicketref10_Same]
  | succ n ih =>
    intro i hn hk
    have hlt : i < ns.length := by omega
    have hlt2 : i < ms.length := by omega
    obtain ⟨v, hv⟩ : ∃ v, ns[i] = v := ⟨_, rfl⟩
    obtain ⟨u, hu⟩ : ∃ u, ms[i] = u := ⟨_, rfl⟩
    have hd : ns.drop i = v :: ns.drop (i + 1) := by rw [List.drop_eq_getElem_cons hlt, hv]
    have hd2 : ms.drop i = u :: ms.drop (i + 1) := by rw [List.drop_eq_getElem_cons hlt2, hu]
    have hw := wrap_succ hlt (by omega)
    have h0 := ih (i + 1) (by omega) (by omega)
    rw [succ_cast] at h0
    rw [hd, hd2, ex0_thicketref10_Same]
    by_cases he : v = u
    · subst he
      simp only [List.cons.injEq, true_and]
      rw [← h0]
      simp [w0_thicketref10_Same, j1_thicketref10_Same, j0_thicketref10_Same, hlt, hlt2, hv, hu, hw]
    · rw [if_neg (by simp [he])]
      simp [w0_thicketref10_Same, j1_thicketref10_Same, hlt, hlt2, hv, hu, he]
theorem ritems_loop (k : Int) (t : ByteArray) (x : PV) (as bs : List J) (k' : Int) (t' : ByteArray) (y : PV) (hl : as.length ≤ 1048576) (hm : as.length = bs.length) (ih : ∀ x ∈ as, ∀ y ∈ bs, Cinf T n_thicketref10_Same [x.pv, y.pv] = some (.v (.bool (x.eq y)), [.dead, .dead])) : ∀ (n i : Nat) (q : Bool), as.length - i = n → i ≤ as.length → J.eqL (as.drop i) (bs.drop i) = q →
    Exec T l1_thicketref10_Same [(2, .box [.v (.int .u8 k), .v (.string t), x, .ro 4 (as.map J.pv)]), (3, .box [.v (.int .u8 k'), .v (.string t'), y, .ro 4 (bs.map J.pv)]), (6, .v (.int .i64 i))] =
      bif q then some (.exit 2, [(2, .box [.v (.int .u8 k), .v (.string t), x, .ro 4 (as.map J.pv)]), (3, .box [.v (.int .u8 k'), .v (.string t'), y, .ro 4 (bs.map J.pv)]), (6, .v (.int .i64 as.length))])
      else some (.ret, [(4, .v (.bool false))]) := by
  intro n
  induction n with
  | zero =>
    intro i q hn hk hq
    obtain rfl : i = as.length := by omega
    rw [List.drop_length, hm, List.drop_length] at hq
    simp only [J.eqL] at hq
    subst hq
    rw [ex1_thicketref10_Same]
    simp [w1_thicketref10_Same]
  | succ n ihn =>
    intro i q hn hk hq
    have hlt : i < as.length := by omega
    have hlt2 : i < bs.length := by omega
    obtain ⟨v, hv⟩ : ∃ v, as[i] = v := ⟨_, rfl⟩
    obtain ⟨u, hu⟩ : ∃ u, bs[i] = u := ⟨_, rfl⟩
    have hd : as.drop i = v :: as.drop (i + 1) := by rw [List.drop_eq_getElem_cons hlt, hv]
    have hd2 : bs.drop i = u :: bs.drop (i + 1) := by rw [List.drop_eq_getElem_cons hlt2, hu]
    have hc := ih v (by rw [← hv]; exact List.getElem_mem hlt) u (by rw [← hu]; exact List.getElem_mem hlt2)
    have hw := wrap_succ hlt (by omega)
    rw [hd, hd2] at hq
    simp only [J.eqL] at hq
    rw [ex1_thicketref10_Same]
    obtain ⟨k1, t1, ns1, is1⟩ := v
    obtain ⟨k2, t2, ns2, is2⟩ := u
    rcases Bool.eq_false_or_eq_true (J.eq (.mk k1 t1 ns1 is1) (.mk k2 t2 ns2 is2)) with he | he
    rotate_left
    · rw [he] at hc
      rw [he, Bool.false_and] at hq
      subst hq
      simp only [J.pv_mk] at hc
      simp [w1_thicketref10_Same, j3_thicketref10_Same, hlt, hlt2, hv, hu, J.pv_mk, hc]
    · rw [he] at hc
      simp only [J.pv_mk] at hc
      rw [he, Bool.true_and] at hq
      have h0 := ihn (i + 1) q (by omega) (by omega) hq
      rw [succ_cast] at h0
      rw [← h0]
      simp [w1_thicketref10_Same, j3_thicketref10_Same, j2_thicketref10_Same, hlt, hlt2, hv, hu, J.pv_mk, hc, hw]
theorem c_rsame : ∀ (a b : J), a.Ok → Cinf T n_thicketref10_Same [a.pv, b.pv] = some (.v (.bool (a.eq b)), [.dead, .dead])
  | .mk k t ns is, .mk k' t' ns' is', ⟨h1, h2, h3⟩ => by
    have ih : ∀ x ∈ is, ∀ y ∈ is', Cinf T n_thicketref10_Same [x.pv, y.pv] = some (.v (.bool (x.eq y)), [.dead, .dead]) := fun x hm y _ => by
      exact c_rsame x y (okL_mem h3 x hm)
    simp only [J.eq]
    by_cases e1 : k = k'
    · by_cases e2 : t = t'
      · by_cases m1 : ns.length = ns'.length
        · by_cases m2 : is.length = is'.length
          · have n1 := rnames_loop k t ns ns' (.ro 4 (is.map J.pv)) (.ro 4 (is'.map J.pv)) k' t' h1 m1 ns.length 0 rfl (Nat.zero_le _)
            have n2 := ritems_loop k t (.ro 1 (ns.map str)) is is' k' t' (.ro 1 (ns'.map str)) h2 m2 ih is.length 0 (J.eqL is is') rfl (Nat.zero_le _) rfl
            simp only [List.drop_zero, Int.natCast_zero] at n1 n2
            subst e1 e2
            by_cases e3 : ns = ns'
            · subst e3
              rw [if_pos rfl] at n1
              cases he : J.eqL is is' with
              | false =>
                rw [he] at n2
                simp only [cond_false] at n2
                simp [run_thicketref10_Same, Run, a_thicketref10_Same, b_thicketref10_Same, j6_thicketref10_Same, j5_thicketref10_Same, J.pv_mk, m2, n1, n2]
              | true =>
                rw [he] at n2
                simp only [cond_true] at n2
                simp [run_thicketref10_Same, Run, a_thicketref10_Same, b_thicketref10_Same, j6_thicketref10_Same, j5_thicketref10_Same, j4_thicketref10_Same, J.pv_mk, m2, n1, n2]
            · rw [if_neg e3] at n1
              simp [run_thicketref10_Same, Run, a_thicketref10_Same, b_thicketref10_Same, j6_thicketref10_Same, J.pv_mk, m1, m2, n1, e3]
          · have he : J.eqL is is' = false := by
              cases he : J.eqL is is' with
              | false => rfl
              | true => exact (m2 (eqL_length he)).elim
            have hi : ¬ (is.length : Int) = is'.length := by omega
            subst e1 e2
            simp [run_thicketref10_Same, Run, a_thicketref10_Same, b_thicketref10_Same, J.pv_mk, m1, hi, he]
        · have e3 : ns ≠ ns' := fun h => m1 (by rw [h])
          have hi : ¬ (ns.length : Int) = ns'.length := by omega
          subst e1 e2
          simp [run_thicketref10_Same, Run, a_thicketref10_Same, b_thicketref10_Same, J.pv_mk, hi, e3]
      · subst e1
        simp [run_thicketref10_Same, Run, a_thicketref10_Same, b_thicketref10_Same, J.pv_mk, e2]
    · simp [run_thicketref10_Same, Run, a_thicketref10_Same, b_thicketref10_Same, J.pv_mk, e1]
termination_by a => SizeOf.sizeOf a
decreasing_by
  have := List.sizeOf_lt_of_mem hm
  simp only [J.mk.sizeOf_spec]
  omega
/-! ### The document's copy -/
end Go.AM.F
