/- Items looked for by name; the document's copy; the law. No conditions. -/
import Derived.Test.YtkcnnifgdhabgaaJ3
namespace Go.AM.F
open Go Go.AM
set_option maxRecDepth 10000
set_option linter.unusedSimpArgs false

/-- The item of a name, if the name is there. -/
def look (name : ByteArray) (is : List J) : List ByteArray → Nat → Option (Option J)
  | [], _ => none
  | x :: r, i => if x = name then some is[i]? else look name is r (i + 1)
theorem first_look (name : ByteArray) (is : List J) : ∀ (ns : List ByteArray) (i : Nat), (firstAt name ns i = -1 ∧ look name is ns i = none) ∨ ∃ m : Nat, firstAt name ns i = m ∧ look name is ns i = some is[m]?
  | [], i => .inl ⟨rfl, rfl⟩
  | x :: r, i => by
    by_cases h : x = name
    · exact .inr ⟨i, by simp [firstAt, h], by simp [look, h]⟩
    · have h' : ¬ name = x := fun e => h e.symm
      rcases first_look name is r (i + 1) with ⟨h1, h2⟩ | ⟨m, h1, h2⟩
      · exact .inl ⟨by simp [firstAt, h', h1], by simp [look, h, h2]⟩
      · exact .inr ⟨m, by simp [firstAt, h', h1], by simp [look, h, h2]⟩
def gotten (x : Option J) : PV × PV := match x with
  | some j => (j.copied, .v (.bool true))
  | none => (.agg zero4, .v (.bool false))
def gotten' (x : Option J) : PV × PV := match x with
  | some j => (j.pv, .v (.bool true))
  | none => (.agg zero4, .v (.bool false))
def found (name : ByteArray) : J → Option J
  | .mk k _ ns is => if k = 7 then (look name is ns 0).join else none
theorem c_get (v : J) (name : ByteArray) (hv : v.Ok) : Cinf T n_json_Get [v.pv, .v (.string name)] = some (.tup [(gotten (found name v)).1, (gotten (found name v)).2], [.dead, .dead]) := by
  obtain ⟨k, t, ns, is⟩ := v
  obtain ⟨h1, h2, h3⟩ := hv
  have hi := c_index ns name (by omega)
  simp only [strs, str_eq] at hi
  simp only [found]
  by_cases hk : k = 7
  · subst hk
    rw [if_pos rfl]
    rcases first_look name is ns 0 with ⟨f1, f2⟩ | ⟨m, f1, f2⟩
    · rw [f1] at hi
      rw [f2]
      simp [run_json_Get, Run, a_json_Get, b_json_Get, j1_json_Get, j0_json_Get, J.pv_mk, hi, gotten]
    · rw [f1] at hi
      rw [f2]
      by_cases hm : m < is.length
      · obtain ⟨j, hj⟩ : ∃ j, is[m] = j := ⟨_, rfl⟩
        have hc := c_copy j (okL_mem h3 j (by rw [← hj]; exact List.getElem_mem hm))
        obtain ⟨k1, t1, ns1, is1⟩ := j
        simp only [J.pv_mk, J.copied] at hc
        simp [run_json_Get, Run, a_json_Get, b_json_Get, j1_json_Get, j0_json_Get, J.pv_mk, J.copied, hi, gotten, hm, hj, hc]
      · have hm' : ¬ (m : Int) < is.length := by omega
        have hn : is[m]? = none := List.getElem?_eq_none (by omega)
        rw [hn]
        simp [run_json_Get, Run, a_json_Get, b_json_Get, j1_json_Get, j0_json_Get, J.pv_mk, hi, gotten, hm]
  · rw [if_neg hk]
    simp [run_json_Get, Run, a_json_Get, b_json_Get, J.pv_mk, hk, gotten]
theorem rget_loop (t name : ByteArray) (ns : List ByteArray) (is : List J) (hl : ns.length ≤ 1048576) : ∀ (n i : Nat), ns.length - i = n → i ≤ ns.length →
    Exec T l0_thicketref10_Get [(1, .v (.string name)), (2, .box [.v (.int .u8 7), .v (.string t), .ro 1 (ns.map str), .ro 4 (is.map J.pv)]), (4, .box zero4), (6, .v (.int .i64 i))] =
      match look name is (ns.drop i) i with
      | none => some (.exit 0, [(1, .v (.string name)), (2, .box [.v (.int .u8 7), .v (.string t), .ro 1 (ns.map str), .ro 4 (is.map J.pv)]), (4, .box zero4), (6, .v (.int .i64 ns.length))])
      | some none => some (.ret, [(4, .box zero4), (5, .v (.bool false))])
      | some (some (.mk k1 t1 ns1 is1)) => some (.ret, [(4, .box [.v (.int .u8 k1), .v (.string t1), .ro 1 (ns1.map str), .ro 4 (is1.map J.pv)]), (5, .v (.bool true))]) := by
  intro n
  induction n with
  | zero =>
    intro i hn hk
    obtain rfl : i = ns.length := by omega
    rw [ex0_thicketref10_Get, List.drop_length]
    simp [w0_thicketref10_Get, look]
  | succ n ih =>
    intro i hn hk
    have hlt : i < ns.length := by omega
    obtain ⟨v, hv⟩ : ∃ v, ns[i] = v := ⟨_, rfl⟩
    have hd : ns.drop i = v :: ns.drop (i + 1) := by rw [List.drop_eq_getElem_cons hlt, hv]
    have hw := wrap_succ hlt (by omega)
    have h0 := ih (i + 1) (by omega) (by omega)
    rw [succ_cast] at h0
    rw [hd, ex0_thicketref10_Get]
    simp only [look]
    by_cases he : v = name
    · subst he
      rw [if_pos rfl]
      by_cases hm : i < is.length
      · obtain ⟨j, hj⟩ : ∃ j, is[i] = j := ⟨_, rfl⟩
        rw [List.getElem?_eq_getElem hm, hj]
        obtain ⟨k1, t1, ns1, is1⟩ := j
        have hm' : ¬ (is.length : Int) ≤ i := by omega
        simp [w0_thicketref10_Get, j2_thicketref10_Get, j0_thicketref10_Get, hlt, hv, hm, hm', hj, J.pv_mk]
      · have hn : is[i]? = none := List.getElem?_eq_none (by omega)
        rw [hn]
        have hm' : is.length ≤ i := by omega
        simp [w0_thicketref10_Get, j2_thicketref10_Get, hlt, hv, hm']
    · rw [if_neg he, ← h0]
      simp [w0_thicketref10_Get, j2_thicketref10_Get, j1_thicketref10_Get, hlt, hv, he, hw]
theorem c_rget (v : J) (name : ByteArray) (hv : v.Ok) : Cinf T n_thicketref10_Get [v.pv, .v (.string name)] = some (.tup [(gotten' (found name v)).1, (gotten' (found name v)).2], [.dead, .dead]) := by
  obtain ⟨k, t, ns, is⟩ := v
  obtain ⟨h1, h2, h3⟩ := hv
  simp only [found]
  by_cases hk : k = 7
  · subst hk
    rw [if_pos rfl]
    have h := rget_loop t name ns is h1 ns.length 0 rfl (Nat.zero_le _)
    simp only [List.drop_zero, Int.natCast_zero] at h
    cases hx : look name is ns 0 with
    | none =>
      rw [hx] at h
      simp only at h
      simp [run_thicketref10_Get, Run, a_thicketref10_Get, b_thicketref10_Get, j3_thicketref10_Get, J.pv_mk, h, gotten']
    | some x =>
      rw [hx] at h
      cases x with
      | none =>
        simp only at h
        simp [run_thicketref10_Get, Run, a_thicketref10_Get, b_thicketref10_Get, J.pv_mk, h, gotten']
      | some j =>
        obtain ⟨k1, t1, ns1, is1⟩ := j
        simp only at h
        simp [run_thicketref10_Get, Run, a_thicketref10_Get, b_thicketref10_Get, J.pv_mk, h, gotten']
  · rw [if_neg hk]
    have h : Exec T l0_thicketref10_Get [(1, .v (.string name)), (2, .box [.v (.int .u8 k), .v (.string t), .ro 1 (ns.map str), .ro 4 (is.map J.pv)]), (4, .box zero4), (6, .v (.int .i64 0))] = some (.exit 0, [(1, .v (.string name)), (2, .box [.v (.int .u8 k), .v (.string t), .ro 1 (ns.map str), .ro 4 (is.map J.pv)]), (4, .box zero4), (6, .v (.int .i64 0))]) := by
      rw [ex0_thicketref10_Get]
      cases ns with
      | nil => simp [w0_thicketref10_Get, hk]
      | cons x r =>
        have hp : (0 : Int) < (r.length : Int) + 1 := by omega
        simp [w0_thicketref10_Get, hk, hp]
    simp [run_thicketref10_Get, Run, a_thicketref10_Get, b_thicketref10_Get, j3_thicketref10_Get, J.pv_mk, h, gotten']
/-! ### The document's copy -/
theorem rcopy_names (k : Int) (t : ByteArray) (ns : List ByteArray) (is : List J) (hl : ns.length ≤ 1048576) : ∀ (n i : Nat), ns.length - i = n → i ≤ ns.length →
    Exec T l0_thicketref10_Copy [(1, .box [.v (.int .u8 k), .v (.string t), .ro 1 (ns.map str), .ro 4 (is.map J.pv)]), (2, .box zero4), (3, .box [.v (.int .u8 k), .v (.string t), .own 1 ((ns.take i).map str), .own 4 []]), (4, .v (.int .i64 i))] =
      some (.exit 0, [(1, .box [.v (.int .u8 k), .v (.string t), .ro 1 (ns.map str), .ro 4 (is.map J.pv)]), (2, .box zero4), (3, .box [.v (.int .u8 k), .v (.string t), .own 1 (ns.map str), .own 4 []]), (4, .v (.int .i64 ns.length))]) := by
  intro n
  induction n with
  | zero =>
    intro i hn hk
    obtain rfl : i = ns.length := by omega
    rw [ex0_thicketref10_Copy, List.take_length]
    simp [w0_thicketref10_Copy]
  | succ n ih =>
    intro i hn hk
    have hlt : i < ns.length := by omega
    obtain ⟨v, hv⟩ : ∃ v, ns[i] = v := ⟨_, rfl⟩
    have hw := wrap_succ hlt (by omega)
    have ht : ns.take (i + 1) = ns.take i ++ [v] := by rw [List.take_succ_eq_append_getElem hlt, hv]
    have h0 := ih (i + 1) (by omega) (by omega)
    rw [ht, List.map_append, List.map_cons, List.map_nil, succ_cast] at h0
    have hlen : ((ns.take i).map str).length = i := by simp; omega
    have e1 : (i + 1) * 16 ≤ 140737488355328 := by omega
    have e2 : i ≤ 4611686018427387903 := by omega
    rw [ex0_thicketref10_Copy]
    generalize (ns.take i).map str = pre at h0 hlen ⊢
    simp only [str_eq] at h0
    simp [w0_thicketref10_Copy, j1_thicketref10_Copy, j0_thicketref10_Copy, hlt, hv, hw, hlen, e1, e2]
    simpa using h0
theorem rcopy_items (k : Int) (t : ByteArray) (ns : List ByteArray) (is : List J) (hl : is.length ≤ 1048576) (ih : ∀ j ∈ is, Cinf T n_thicketref10_Copy [j.pv] = some (j.copied, [.dead])) : ∀ (n i : Nat), is.length - i = n → i ≤ is.length →
    Exec T l1_thicketref10_Copy [(1, .box [.v (.int .u8 k), .v (.string t), .ro 1 (ns.map str), .ro 4 (is.map J.pv)]), (2, .box zero4), (3, .box [.v (.int .u8 k), .v (.string t), .own 1 (ns.map str), .own 4 ((is.take i).map J.pv)]), (5, .v (.int .i64 i))] =
      some (.exit 2, [(1, .box [.v (.int .u8 k), .v (.string t), .ro 1 (ns.map str), .ro 4 (is.map J.pv)]), (2, .box zero4), (3, .box [.v (.int .u8 k), .v (.string t), .own 1 (ns.map str), .own 4 (is.map J.pv)]), (5, .v (.int .i64 is.length))]) := by
  intro n
  induction n with
  | zero =>
    intro i hn hk
    obtain rfl : i = is.length := by omega
    rw [ex1_thicketref10_Copy, List.take_length]
    simp [w1_thicketref10_Copy]
  | succ n ihn =>
    intro i hn hk
    have hlt : i < is.length := by omega
    obtain ⟨j, hj⟩ : ∃ j, is[i] = j := ⟨_, rfl⟩
    have hc := ih j (by rw [← hj]; exact List.getElem_mem hlt)
    have hw := wrap_succ hlt (by omega)
    have ht : is.take (i + 1) = is.take i ++ [j] := by rw [List.take_succ_eq_append_getElem hlt, hj]
    have h0 := ihn (i + 1) (by omega) (by omega)
    rw [ht, List.map_append, List.map_cons, List.map_nil, succ_cast] at h0
    obtain ⟨k1, t1, ns1, is1⟩ := j
    simp only [J.pv_mk, J.copied] at hc h0
    have hlen : ((is.take i).map J.pv).length = i := by simp; omega
    have e1 : (i + 1) * 72 ≤ 140737488355328 := by omega
    have e2 : i ≤ 4611686018427387903 := by omega
    rw [ex1_thicketref10_Copy]
    generalize (is.take i).map J.pv = pre at h0 hlen ⊢
    simp [w1_thicketref10_Copy, j3_thicketref10_Copy, j2_thicketref10_Copy, hlt, hj, J.pv_mk, hc, hw, imm_strs, imm_pvs, hlen, e1, e2]
    simpa using h0
theorem c_rcopy : ∀ (j : J), j.Ok → Cinf T n_thicketref10_Copy [j.pv] = some (j.copied, [.dead])
  | .mk k t ns is, ⟨h1, h2, h3⟩ => by
    have ih : ∀ j ∈ is, Cinf T n_thicketref10_Copy [j.pv] = some (j.copied, [.dead]) := fun j hm => by
      exact c_rcopy j (okL_mem h3 j hm)
    have g1 := rcopy_names k t ns is h1 ns.length 0 rfl (Nat.zero_le _)
    have g2 := rcopy_items k t ns is h2 ih is.length 0 rfl (Nat.zero_le _)
    simp only [List.take_zero, List.map_nil, Int.natCast_zero] at g1 g2
    simp [run_thicketref10_Copy, Run, a_thicketref10_Copy, b_thicketref10_Copy, j5_thicketref10_Copy, j4_thicketref10_Copy, J.pv_mk, J.copied, g1, g2]
termination_by j => SizeOf.sizeOf j
decreasing_by
  have := List.sizeOf_lt_of_mem hm
  simp only [J.mk.sizeOf_spec]
  omega
theorem found_ok (name : ByteArray) (v : J) (hv : v.Ok) (j : J) (h : found name v = some j) : j.Ok := by
  obtain ⟨k, t, ns, is⟩ := v
  obtain ⟨h1, h2, h3⟩ := hv
  simp only [found] at h
  split at h
  · rcases first_look name is ns 0 with ⟨f1, f2⟩ | ⟨m, f1, f2⟩
    · rw [f2] at h; cases h
    · rw [f2] at h
      simp only [Option.join_some] at h
      exact okL_mem h3 j (List.mem_of_getElem? h)
  · cases h
set_option maxHeartbeats 4000000 in
/-- The law. -/
theorem c_law (v w : J) (name : ByteArray) (hv : v.Ok) (hw : w.Ok) : Cinf T n_thicketlaw10_JsonGets [v.pv, w.pv, .v (.string name)] = some (.v (.bool true), [.dead, .dead, .dead]) := by
  have g1 := c_get v name hv
  have g2 := c_rget v name hv
  have g3 := c_same v w hv
  have g4 := c_rsame v w hv
  have g5 := c_rcopy v hv
  have g6 := c_same v v hv
  have g7 := c_copy v hv
  have g8 := c_rsame v v hv
  rw [J.eq_refl] at g6 g8
  have g9 : ∀ j, found name v = some j → Cinf T n_thicketref10_Same [j.pv, j.pv] = some (.v (.bool true), [.dead, .dead]) := fun j hj => by
    have := c_rsame j j (found_ok name v hv j hj)
    rwa [J.eq_refl] at this
  have g10 := c_rsame (.mk 0 ⟨#[]⟩ [] []) (.mk 0 ⟨#[]⟩ [] []) ⟨by simp, by simp, trivial⟩
  rw [J.eq_refl] at g10
  obtain ⟨k, t, ns, is⟩ := v
  obtain ⟨k', t', ns', is'⟩ := w
  simp only [J.pv_mk, J.copied, List.map_nil] at g1 g2 g3 g4 g5 g6 g7 g8 g10 ⊢
  cases hf : found name (.mk k t ns is) with
  | none =>
    rw [hf] at g1 g2
    simp only [gotten, gotten'] at g1 g2
    generalize J.eq (.mk k t ns is) (.mk k' t' ns' is') = q at g3 g4
    simp [run_thicketlaw10_JsonGets, Run, a_thicketlaw10_JsonGets, b_thicketlaw10_JsonGets, g1, g2, g3, g4, g5, g6, g7, g8, g10]
  | some j =>
    have g11 := g9 j hf
    obtain ⟨k1, t1, ns1, is1⟩ := j
    rw [hf] at g1 g2
    simp only [gotten, gotten', J.pv_mk, J.copied] at g1 g2 g11
    generalize J.eq (.mk k t ns is) (.mk k' t' ns' is') = q at g3 g4
    simp [run_thicketlaw10_JsonGets, Run, a_thicketlaw10_JsonGets, b_thicketlaw10_JsonGets, g1, g2, g3, g4, g5, g6, g7, g8, g11]
end Go.AM.F
