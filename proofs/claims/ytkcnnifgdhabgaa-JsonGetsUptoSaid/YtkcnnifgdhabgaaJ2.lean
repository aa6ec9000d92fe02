/- Copies of a JSON value. No conditions. -/
import Derived.Test.YtkcnnifgdhabgaaJ1
namespace Go.AM.F
open Go Go.AM
set_option maxRecDepth 10000
set_option linter.unusedSimpArgs false

mutual
/-- Its lists are no longer than a program can hold. -/
def J.Ok : J → Prop
  | .mk _ _ ns is => ns.length ≤ 1048576 ∧ is.length ≤ 1048576 ∧ J.OkL is
def J.OkL : List J → Prop
  | [] => True
  | j :: r => j.Ok ∧ J.OkL r
end
theorem okL_mem : ∀ {l : List J}, J.OkL l → ∀ j ∈ l, j.Ok
  | [], _, j, h => by cases h
  | x :: r, h, j, hj => by
    rcases List.mem_cons.1 hj with rfl | hj
    · exact h.1
    · exact okL_mem h.2 j hj
def J.copied : J → PV
  | .mk k t ns is => .agg [.v (.int .u8 k), .v (.string t), .own 1 (ns.map str), .own 4 (is.map J.pv)]
theorem J.pv_mk (k : Int) (t : ByteArray) (ns : List ByteArray) (is : List J) : (J.mk k t ns is).pv = .agg [.v (.int .u8 k), .v (.string t), .ro 1 (ns.map str), .ro 4 (is.map J.pv)] := by
  simp only [J.pv, pvL_map, strs, str]
theorem imm_strs (l : List ByteArray) : PV.immL (l.map str) = true := by
  induction l with
  | nil => rfl
  | cons x r ih => simp [ih]
theorem imm_pvs (l : List J) : PV.immL (l.map J.pv) = true := by
  induction l with
  | nil => rfl
  | cons x r ih =>
    obtain ⟨k, t, ns, is⟩ := x
    simp [ih, J.pv_mk]
abbrev zero4 : List PV := [.v (.int .u8 0), .v (.string ⟨#[]⟩), .own 1 [], .own 4 []]
theorem copy_loop (k0 : Int) (t0 : ByteArray) (ns : List ByteArray) (is : List J) (hl : is.length ≤ 1048576) (ih : ∀ j ∈ is, Cinf T n_json_Copy [j.pv] = some (j.copied, [.dead])) : ∀ (n k : Nat), is.length - k = n → k ≤ is.length →
    Exec T l0_json_Copy [(1, .box [.v (.int .u8 k0), .v (.string t0), .ro 1 (ns.map str), .ro 4 (is.map J.pv)]), (2, .box zero4), (3, .box [.v (.int .u8 k0), .v (.string t0), .own 1 (ns.map str), .own 4 ((is.take k).map J.pv)]), (17, .addr 1 3), (18, .ro 4 (is.map J.pv)), (19, .v (.int .i64 is.length)), (20, .v (.int .i64 k))] =
      some (.exit 0, [(1, .box [.v (.int .u8 k0), .v (.string t0), .ro 1 (ns.map str), .ro 4 (is.map J.pv)]), (2, .box zero4), (3, .box [.v (.int .u8 k0), .v (.string t0), .own 1 (ns.map str), .own 4 (is.map J.pv)]), (17, .addr 1 3), (18, .ro 4 (is.map J.pv)), (19, .v (.int .i64 is.length)), (20, .v (.int .i64 is.length))]) := by
  intro n
  induction n with
  | zero =>
    intro k hn hk
    obtain rfl : k = is.length := by omega
    rw [ex0_json_Copy, List.take_length]
    simp [w0_json_Copy]
  | succ n ihn =>
    intro k hn hk
    have hlt : k < is.length := by omega
    obtain ⟨j, hj⟩ : ∃ j, is[k] = j := ⟨_, rfl⟩
    have hjm : j ∈ is := by rw [← hj]; exact List.getElem_mem hlt
    have hc := ih j hjm
    have hw := wrap_succ hlt (by omega)
    have ht : is.take (k + 1) = is.take k ++ [j] := by rw [List.take_succ_eq_append_getElem hlt, hj]
    have h0 := ihn (k + 1) (by omega) (by omega)
    rw [ht, List.map_append, List.map_cons, List.map_nil, succ_cast] at h0
    obtain ⟨k1, t1, ns1, is1⟩ := j
    simp only [J.pv_mk, J.copied] at hc h0
    have hlen : ((is.take k).map J.pv).length = k := by simp; omega
    have e1 : (k + 1) * 72 ≤ 140737488355328 := by omega
    have e2 : k ≤ 4611686018427387903 := by omega
    rw [ex0_json_Copy]
    generalize (is.take k).map J.pv = pre at h0 hlen ⊢
    simp [w0_json_Copy, j1_json_Copy, j0_json_Copy, hlt, hj, J.pv_mk, hc, hw, imm_strs, imm_pvs, hlen, e1, e2]
    simpa using h0
theorem c_copy : ∀ (j : J), j.Ok → Cinf T n_json_Copy [j.pv] = some (j.copied, [.dead])
  | .mk k t ns is, ⟨h1, h2, h3⟩ => by
    have ih : ∀ j ∈ is, Cinf T n_json_Copy [j.pv] = some (j.copied, [.dead]) := fun j hm => by
      exact c_copy j (okL_mem h3 j hm)
    have hl := copy_loop k t ns is h2 ih is.length 0 rfl (Nat.zero_le _)
    simp only [List.take_zero, List.map_nil, Int.natCast_zero] at hl
    have e1 : ns.length * 16 ≤ 140737488355328 := by omega
    have e2 : ns.length ≤ 4611686018427387904 := by omega
    simp [run_json_Copy, Run, a_json_Copy, b_json_Copy, j2_json_Copy, J.pv_mk, J.copied, hl, e1, e2]
termination_by j => SizeOf.sizeOf j
decreasing_by
  have := List.sizeOf_lt_of_mem hm
  simp only [J.mk.sizeOf_spec]
  omega
end Go.AM.F
