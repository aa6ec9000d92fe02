/- JSON: deep, twin, right. No conditions. -/
import Derived.Test.YtkcnnifgdhabgaaDoorS1
/- JSON: how deep a value is nested, as the program and the document find it. No conditions. -/
namespace Go.AM.F
open Go Go.AM
set_option maxRecDepth 10000
set_option linter.unusedSimpArgs false

mutual
/-- Is a value nested deeper than so many? -/
def J.dgt : J → Nat → Bool
  | .mk k _ _ is, l => if k = 6 ∨ k = 7 then (if l = 0 then true else J.dgtL is (l - 1)) else J.dgtL is l
def J.dgtL : List J → Nat → Bool
  | [], _ => false
  | j :: r, l => j.dgt l || J.dgtL r l
end
mutual
def J.depth : J → Nat
  | .mk k _ _ is => if k = 6 ∨ k = 7 then J.depthL is + 1 else J.depthL is
def J.depthL : List J → Nat
  | [] => 0
  | j :: r => if J.depthL r < j.depth then j.depth else J.depthL r
end
mutual
theorem dgt_iff : ∀ (j : J) (l : Nat), j.dgt l = true ↔ l < j.depth
  | .mk k t ns is, l => by
    simp only [J.dgt, J.depth]
    by_cases h : k = 6 ∨ k = 7
    · rw [if_pos h, if_pos h]
      by_cases h0 : l = 0
      · subst h0
        simp
      · rw [if_neg h0, dgtL_iff is (l - 1)]
        omega
    · rw [if_neg h, if_neg h, dgtL_iff is l]
theorem dgtL_iff : ∀ (is : List J) (l : Nat), J.dgtL is l = true ↔ l < J.depthL is
  | [], l => by simp [J.dgtL, J.depthL]
  | j :: r, l => by
    simp only [J.dgtL, J.depthL, Bool.or_eq_true, dgt_iff j l, dgtL_iff r l]
    split <;> omega
end
theorem dgt_depth (j : J) (l : Nat) : j.dgt l = decide (l < j.depth) := by
  rcases Bool.eq_false_or_eq_true (j.dgt l) with h | h
  · rw [h]
    exact (decide_eq_true ((dgt_iff j l).1 h)).symm
  · rw [h]
    exact (decide_eq_false fun hn => by rw [(dgt_iff j l).2 hn] at h; cases h).symm
attribute [local simp] j0_api_Json_66 j1_api_Json_66 w0_api_Json_66 j2_api_Json_66 b_api_Json_66 a_api_Json_66 b_api_Json a_api_Json
theorem deep_loop (is : List J) (l : Nat) (hl : is.length ≤ 1048576) (ih : ∀ x ∈ is, Cinf T n_json_deep_1 [x.pv, .raddr [.v (.int .i64 l)]] = some (.v (.bool (x.dgt l)), [.dead, .dead])) : ∀ (n k : Nat) (q : Bool), is.length - k = n → k ≤ is.length → J.dgtL (is.drop k) l = q →
    ∃ m : Nat, Exec T l0_api_Json_66 [(0, .ro 4 (is.map J.pv)), (1, .clo n_json_deep_1 [.v (.int .i64 l)]), (7, .v (.int .i64 is.length)), (8, .v (.int .i64 k))] =
      bif q then some (.ret, [(4, .v (.int .i64 m))]) else some (.exit 0, [(0, .ro 4 (is.map J.pv)), (1, .clo n_json_deep_1 [.v (.int .i64 l)]), (7, .v (.int .i64 is.length)), (8, .v (.int .i64 is.length))]) := by
  intro n
  induction n with
  | zero =>
    intro k q hn hk hq
    obtain rfl : k = is.length := by omega
    rw [List.drop_length] at hq
    simp only [J.dgtL] at hq
    subst hq
    refine ⟨0, ?_⟩
    rw [ex0_api_Json_66]
    simp
  | succ n ihn =>
    intro k q hn hk hq
    have hlt : k < is.length := by omega
    obtain ⟨j, hj⟩ : ∃ j, is[k] = j := ⟨_, rfl⟩
    have hd : is.drop k = j :: is.drop (k + 1) := by rw [List.drop_eq_getElem_cons hlt, hj]
    have hc := ih j (by rw [← hj]; exact List.getElem_mem hlt)
    have hw := wrap_succ hlt (by omega)
    rw [hd] at hq
    simp only [J.dgtL] at hq
    rcases Bool.eq_false_or_eq_true (j.dgt l) with he | he
    · rw [he] at hq hc
      rw [Bool.true_or] at hq
      subst hq
      refine ⟨k, ?_⟩
      obtain ⟨k1, t1, ns1, is1⟩ := j
      simp only [J.pv_mk] at hc
      rw [ex0_api_Json_66]
      simp [hlt, hj, J.pv_mk, hc]
    · rw [he] at hq hc
      rw [Bool.false_or] at hq
      obtain ⟨m, h0⟩ := ihn (k + 1) q (by omega) (by omega) hq
      refine ⟨m, ?_⟩
      rw [succ_cast] at h0
      rw [← h0]
      obtain ⟨k1, t1, ns1, is1⟩ := j
      simp only [J.pv_mk] at hc
      rw [ex0_api_Json_66]
      simp [hlt, hj, J.pv_mk, hc, hw]
theorem look_deep (is : List J) (l : Nat) (hl : is.length ≤ 1048576) (ih : ∀ x ∈ is, Cinf T n_json_deep_1 [x.pv, .raddr [.v (.int .i64 l)]] = some (.v (.bool (x.dgt l)), [.dead, .dead])) :
    Cinf T n_api_Json [.ro 4 (is.map J.pv), .clo n_json_deep_1 [.v (.int .i64 l)]] = some (.v (.bool (J.dgtL is l)), [.dead, .dead]) := by
  obtain ⟨m, h0⟩ := deep_loop is l hl ih is.length 0 (J.dgtL is l) rfl (Nat.zero_le _) rfl
  rw [Int.natCast_zero] at h0
  have h1 : ∃ z : Int, Cinf T n_api_Json_66 [.ro 4 (is.map J.pv), .clo n_json_deep_1 [.v (.int .i64 l)]] = some (.v (.int .i64 z), [.dead, .dead]) ∧ decide (z ≥ 0) = J.dgtL is l := by
    cases hq : J.dgtL is l with
    | true =>
      rw [hq, cond_true] at h0
      refine ⟨m, ?_, by simp⟩
      simp [run_api_Json_66, Run, h0, -w0_api_Json_66]
    | false =>
      rw [hq, cond_false] at h0
      refine ⟨-1, ?_, by simp⟩
      simp [run_api_Json_66, Run, h0, -w0_api_Json_66]
  obtain ⟨z, h1, h2⟩ := h1
  rw [← h2]
  simp [run_api_Json, Run, h1]
end Go.AM.F

/- JSON: the program's deep and twin. No conditions. -/
namespace Go.AM.F
open Go Go.AM
set_option maxRecDepth 10000
set_option linter.unusedSimpArgs false

theorem c_deep_1 (x : J) (l : Nat) (h : Cinf T n_json_deep [x.pv, .v (.int .i64 l)] = some (.v (.bool (x.dgt l)), [.dead, .dead])) :
    Cinf T n_json_deep_1 [x.pv, .raddr [.v (.int .i64 l)]] = some (.v (.bool (x.dgt l)), [.dead, .dead]) := by
  obtain ⟨k, t, ns, is⟩ := x
  simp only [J.pv_mk] at h ⊢
  simp [run_json_deep_1, Run, a_json_deep_1, b_json_deep_1, h]
attribute [local simp] j0_json_deep j1_json_deep b_json_deep a_json_deep
theorem deep_step (k : Int) (t : ByteArray) (ns : List ByteArray) (is : List J) (l : Nat) (hl : l ≤ 1048576)
    (h : ∀ m, m ≤ l → Cinf T n_api_Json [.ro 4 (is.map J.pv), .clo n_json_deep_1 [.v (.int .i64 (m : Nat))]] = some (.v (.bool (J.dgtL is m)), [.dead, .dead])) :
    Cinf T n_json_deep [(J.mk k t ns is).pv, .v (.int .i64 l)] = some (.v (.bool ((J.mk k t ns is).dgt l)), [.dead, .dead]) := by
  simp only [J.dgt, J.pv_mk]
  by_cases hk : k = 6 ∨ k = 7
  · rw [if_pos hk]
    by_cases h0 : l = 0
    · subst h0
      rcases hk with hk | hk
      · subst hk
        simp [run_json_deep, Run]
      · subst hk
        simp [run_json_deep, Run]
    · rw [if_neg h0]
      obtain ⟨m, rfl⟩ : ∃ m, l = m + 1 := ⟨l - 1, by omega⟩
      have hm := h m (by omega)
      have hw : IntKind.i64.wrap ((m : Nat) : Int) = m := wrap_nat (by omega)
      have hz : ¬ ((m : Int) + 1 = 0) := by omega
      rw [succ_cast, show m + 1 - 1 = m by omega]
      rcases hk with hk | hk
      · subst hk
        simp [run_json_deep, Run, hm, hw, hz]
      · subst hk
        simp [run_json_deep, Run, hm, hw, hz]
  · rw [if_neg hk]
    have hm := h l (Nat.le_refl _)
    rw [not_or] at hk
    obtain ⟨h6, h7⟩ := hk
    simp [run_json_deep, Run, hm, h6, h7]
theorem c_deep : ∀ (j : J) (l : Nat), j.Ok → l ≤ 1048576 → Cinf T n_json_deep [j.pv, .v (.int .i64 l)] = some (.v (.bool (j.dgt l)), [.dead, .dead])
  | .mk k t ns is, l, ⟨h1, h2, h3⟩, hl => by
    have ih : ∀ x ∈ is, ∀ m, m ≤ 1048576 → Cinf T n_json_deep [x.pv, .v (.int .i64 (m : Nat))] = some (.v (.bool (x.dgt m)), [.dead, .dead]) := fun x hm m hm2 => by
      exact c_deep x m (okL_mem h3 x hm) hm2
    exact deep_step k t ns is l hl fun m hm => look_deep is m h2 fun x hx => c_deep_1 x m (ih x hx m (by omega))
termination_by j => SizeOf.sizeOf j
decreasing_by
  have := List.sizeOf_lt_of_mem hm
  simp only [J.mk.sizeOf_spec]
  omega
/-! ### Names that stand twice -/
/-- Does a name stand twice, or is it one that was seen? -/
def dupl : List ByteArray → List ByteArray → Bool
  | _, [] => false
  | b, s :: r => seen s b || dupl (b ++ [s]) r
mutual
def J.twin : J → Bool
  | .mk _ _ ns is => dupl [] ns || J.twinL is
def J.twinL : List J → Bool
  | [] => false
  | j :: r => j.twin || J.twinL r
end
attribute [local simp] j0_api_Json_66 j1_api_Json_66 w0_api_Json_66 j2_api_Json_66 b_api_Json_66 a_api_Json_66 b_api_Json a_api_Json
theorem twin_look (is : List J) (hl : is.length ≤ 1048576) (ih : ∀ x ∈ is, Cinf T n_json_twin [x.pv] = some (.v (.bool x.twin), [.dead])) : ∀ (n k : Nat) (q : Bool), is.length - k = n → k ≤ is.length → J.twinL (is.drop k) = q →
    ∃ m : Nat, Exec T l0_api_Json_66 [(0, .ro 4 (is.map J.pv)), (1, .v (.func (.func n_json_twin) #[] #[])), (7, .v (.int .i64 is.length)), (8, .v (.int .i64 k))] =
      bif q then some (.ret, [(4, .v (.int .i64 m))]) else some (.exit 0, [(0, .ro 4 (is.map J.pv)), (1, .v (.func (.func n_json_twin) #[] #[])), (7, .v (.int .i64 is.length)), (8, .v (.int .i64 is.length))]) := by
  intro n
  induction n with
  | zero =>
    intro k q hn hk hq
    obtain rfl : k = is.length := by omega
    rw [List.drop_length] at hq
    simp only [J.twinL] at hq
    subst hq
    refine ⟨0, ?_⟩
    rw [ex0_api_Json_66]
    simp
  | succ n ihn =>
    intro k q hn hk hq
    have hlt : k < is.length := by omega
    obtain ⟨j, hj⟩ : ∃ j, is[k] = j := ⟨_, rfl⟩
    have hd : is.drop k = j :: is.drop (k + 1) := by rw [List.drop_eq_getElem_cons hlt, hj]
    have hc := ih j (by rw [← hj]; exact List.getElem_mem hlt)
    have hw := wrap_succ hlt (by omega)
    rw [hd] at hq
    simp only [J.twinL] at hq
    rcases Bool.eq_false_or_eq_true j.twin with he | he
    · rw [he] at hq hc
      rw [Bool.true_or] at hq
      subst hq
      refine ⟨k, ?_⟩
      obtain ⟨k1, t1, ns1, is1⟩ := j
      simp only [J.pv_mk] at hc
      rw [ex0_api_Json_66]
      simp [hlt, hj, J.pv_mk, hc]
    · rw [he] at hq hc
      rw [Bool.false_or] at hq
      obtain ⟨m, h0⟩ := ihn (k + 1) q (by omega) (by omega) hq
      refine ⟨m, ?_⟩
      rw [succ_cast] at h0
      rw [← h0]
      obtain ⟨k1, t1, ns1, is1⟩ := j
      simp only [J.pv_mk] at hc
      rw [ex0_api_Json_66]
      simp [hlt, hj, J.pv_mk, hc, hw]
theorem look_twin (is : List J) (hl : is.length ≤ 1048576) (ih : ∀ x ∈ is, Cinf T n_json_twin [x.pv] = some (.v (.bool x.twin), [.dead])) :
    Cinf T n_api_Json [.ro 4 (is.map J.pv), .v (.func (.func n_json_twin) #[] #[])] = some (.v (.bool (J.twinL is)), [.dead, .dead]) := by
  obtain ⟨m, h0⟩ := twin_look is hl ih is.length 0 (J.twinL is) rfl (Nat.zero_le _) rfl
  rw [Int.natCast_zero] at h0
  have h1 : ∃ z : Int, Cinf T n_api_Json_66 [.ro 4 (is.map J.pv), .v (.func (.func n_json_twin) #[] #[])] = some (.v (.int .i64 z), [.dead, .dead]) ∧ decide (z ≥ 0) = J.twinL is := by
    cases hq : J.twinL is with
    | true =>
      rw [hq, cond_true] at h0
      refine ⟨m, ?_, by simp⟩
      simp [run_api_Json_66, Run, h0, -w0_api_Json_66]
    | false =>
      rw [hq, cond_false] at h0
      refine ⟨-1, ?_, by simp⟩
      simp [run_api_Json_66, Run, h0, -w0_api_Json_66]
  obtain ⟨z, h1, h2⟩ := h1
  rw [← h2]
  simp [run_api_Json, Run, h1]
end Go.AM.F

/- JSON: the program's twin and the document's. No conditions. -/
namespace Go.AM.F
open Go Go.AM
set_option maxRecDepth 10000
set_option linter.unusedSimpArgs false

theorem one_int' (k : IntKind) (v : Int) : (Value.int k v).oneCell' = true := rfl
attribute [local simp] one_int'
abbrev jB (k : Int) (t : ByteArray) (ns : List ByteArray) (is : List J) : PV := .box [.v (.int .u8 k), .v (.string t), .ro 1 (ns.map str), .ro 4 (is.map J.pv)]
attribute [local simp] j0_json_twin j1_json_twin w0_json_twin j2_json_twin b_json_twin a_json_twin
theorem twin_names (k : Int) (t : ByteArray) (ns : List ByteArray) (is : List J) (hl : ns.length ≤ 1048576) : ∀ (n i : Nat) (q : Bool), ns.length - i = n → i ≤ ns.length → dupl (ns.take i) (ns.drop i) = q →
    Exec T l0_json_twin [(1, jB k t ns is), (3, .mapc (seenE 0 (ns.take i)) i), (6, .dead), (7, .addr 1 2), (8, .ro 1 (ns.map str)), (9, .v (.int .i64 ns.length)), (10, .v (.int .i64 i))] =
      bif q then some (.ret, [(2, .v (.bool true))]) else some (.exit 0, [(1, jB k t ns is), (3, .mapc (seenE 0 ns) ns.length), (6, .dead), (7, .addr 1 2), (8, .ro 1 (ns.map str)), (9, .v (.int .i64 ns.length)), (10, .v (.int .i64 ns.length))]) := by
  intro n
  induction n with
  | zero =>
    intro i q hn hk hq
    obtain rfl : i = ns.length := by omega
    rw [List.drop_length] at hq
    simp only [dupl] at hq
    subst hq
    rw [ex0_json_twin, List.take_length]
    simp
  | succ n ih =>
    intro i q hn hk hq
    have hlt : i < ns.length := by omega
    obtain ⟨s, hs⟩ : ∃ s, ns[i] = s := ⟨_, rfl⟩
    have hd : ns.drop i = s :: ns.drop (i + 1) := by rw [List.drop_eq_getElem_cons hlt, hs]
    have ht : ns.take (i + 1) = ns.take i ++ [s] := by rw [List.take_succ_eq_append_getElem hlt, hs]
    have hw := wrap_succ hlt (by omega)
    have hlen : (ns.take i).length = i := by simp; omega
    rw [hd] at hq
    simp only [dupl] at hq
    rw [ex0_json_twin]
    by_cases hm : s ∈ ns.take i
    case pos =>
      rw [seen_iff.2 hm, Bool.true_or] at hq
      subst hq
      obtain ⟨q, m1, ⟨en, m2, m3⟩, m4⟩ := seen_some (c := 0) (i := 0) hm
      have m5 : Instr.sameBits 0 en.key (.string s) = true := by rw [m3]; simp [Instr.sameBits, bytes_eq_iff]
      have m6 := m4 (.int .i64 2)
      simp only [kdOf, Nat.zero_add] at m1 m6
      generalize ns.take i = pre at *
      simp [hlt, hs, m1, m2, m5, m6, kdOf]
    case neg =>
      have hf : seen s (ns.take i) = false := by
        rcases Bool.eq_false_or_eq_true (seen s (ns.take i)) with h | h
        · exact (hm (seen_iff.1 h)).elim
        · exact h
      rw [hf, Bool.false_or] at hq
      have m1 := seen_none (c := 0) (i := 0) hm
      obtain ⟨q', m2⟩ := seen_new s (c := 0) (i := 0) hm
      simp only [kdOf, Nat.zero_add, hlen] at m1 m2
      have h0 := ih (i + 1) q (by omega) (by omega) (by rw [ht]; exact hq)
      rw [ht, seenE_append, Nat.zero_add, hlen, succ_cast] at h0
      rw [← h0]
      generalize ns.take i = pre at *
      simp [hlt, hs, m1, m2, kdOf, hw]
theorem c_twin : ∀ (j : J), j.Ok → Cinf T n_json_twin [j.pv] = some (.v (.bool j.twin), [.dead])
  | .mk k t ns is, ⟨h1, h2, h3⟩ => by
    have ih : ∀ x ∈ is, Cinf T n_json_twin [x.pv] = some (.v (.bool x.twin), [.dead]) := fun x hm => by
      exact c_twin x (okL_mem h3 x hm)
    have hc := look_twin is h2 ih
    have h0 := twin_names k t ns is h1 ns.length 0 (dupl [] ns) rfl (Nat.zero_le _) rfl
    rw [List.take_zero, Int.natCast_zero] at h0
    simp only [seenE, jB] at h0
    simp only [J.twin, J.pv_mk]
    cases hq : dupl [] ns with
    | true =>
      rw [hq, cond_true] at h0
      simp [run_json_twin, Run, h0, -w0_json_twin]
    | false =>
      rw [hq, cond_false] at h0
      simp [run_json_twin, Run, h0, hc, -w0_json_twin]
termination_by j => SizeOf.sizeOf j
decreasing_by
  have := List.sizeOf_lt_of_mem hm
  simp only [J.mk.sizeOf_spec]
  omega
end Go.AM.F

/- JSON: number of the program, right. No conditions. -/
namespace Go.AM.F
open Go Go.AM
set_option maxRecDepth 10000
set_option linter.unusedSimpArgs false

def isNum (s : ByteArray) : Bool := match pNumber s.data.toList 0 with
  | .ok j _ => decide (j = s.size)
  | .bad _ _ => false
attribute [local simp] j0_json_number b_json_number a_json_number hnd_json_number
theorem c_isNumber (s : ByteArray) (hs : s.size ≤ 16777216) : Cinf T n_json_number [.v (.string s)] = some (.v (.bool (isNum s)), [.dead]) := by
  obtain ⟨L, rfl⟩ : ∃ L : List UInt8, s = ⟨L.toArray⟩ := ⟨s.data.toList, by simp⟩
  have e1 : (⟨L.toArray⟩ : ByteArray).size = L.length := by simp [ByteArray.size]
  have e2 : byteList ⟨L.toArray⟩ = bl L := by rw [byteList_bl]
  rw [e1] at hs
  have hc := c_number L 0 (Nat.zero_le _) hs
  have e3 : L.length ≤ 4611686018427387904 := by omega
  unfold isNum
  simp only [rd_eq, Int.natCast_zero] at hc
  rw [e1]
  cases hp : pNumber L 0 with
  | ok j u =>
    rw [hp] at hc
    simp only [res_ok, rd_eq] at hc
    simp [run_json_number, Run, home, hc, hp, e1, e2, e3]
    omega
  | bad w a =>
    rw [hp] at hc
    simp only [res_bad, wrong] at hc
    simp [run_json_number, Run, home, hc, hp, e1, e2, e3]
end Go.AM.F

/- JSON: the program's right. No conditions. -/
namespace Go.AM.F
open Go Go.AM
set_option maxRecDepth 10000
set_option linter.unusedSimpArgs false

def okU (s : ByteArray) : Bool := Lib.validD s.data.toList
theorem c_valid (s : ByteArray) (h : s.size ≤ 16777216) : Cinf T n_utf8_ValidString [.v (.string s)] = some (.v (.bool (okU s)), [.dead]) :=
  x_utf8_ValidString _ (valid_run s (by omega))
mutual
/-- Is a value right, but for how deep it lies and names that stand twice? -/
def J.right : J → Bool
  | .mk k t ns is =>
    if k = 1 ∨ k = 2 ∨ k = 3 then decide (t = eS) && decide (ns = []) && decide (is = [])
    else if k = 4 then isNum t && decide (ns = []) && decide (is = [])
    else if k = 5 then okU t && decide (ns = []) && decide (is = [])
    else if k = 6 then decide (t = eS) && decide (ns = []) && J.rightL is
    else if k = 7 then decide (t = eS) && decide (ns.length = is.length) && ns.all okU && J.rightL is
    else false
def J.rightL : List J → Bool
  | [] => true
  | j :: r => j.right && J.rightL r
end
mutual
/-- So long are the texts of a value together. -/
def J.wt : J → Nat
  | .mk _ t ns is => t.size + (ns.map ByteArray.size).sum + ns.length + J.wtL is + 1
def J.wtL : List J → Nat
  | [] => 0
  | j :: r => j.wt + J.wtL r
end
theorem wtL_mem : ∀ {is : List J} {x : J}, x ∈ is → x.wt ≤ J.wtL is
  | j :: r, x, h => by
    simp only [J.wtL]
    rcases List.mem_cons.1 h with rfl | h
    · omega
    · have := wtL_mem h
      omega
theorem wtL_len : ∀ (is : List J), is.length ≤ J.wtL is
  | [] => Nat.le_refl _
  | .mk k t ns is :: r => by
    have := wtL_len r
    simp only [J.wtL, J.wt, List.length_cons]
    omega
theorem sum_mem : ∀ {ns : List ByteArray} {s : ByteArray}, s ∈ ns → s.size ≤ (ns.map ByteArray.size).sum
  | x :: r, s, h => by
    simp only [List.map_cons, List.sum_cons]
    rcases List.mem_cons.1 h with rfl | h
    · omega
    · have := sum_mem h
      omega
attribute [local simp] j0_json_right j1_json_right w0_json_right j4_json_right j5_json_right w1_json_right
theorem right_names (k : Int) (t : ByteArray) (ns : List ByteArray) (is : List J) (hl : ns.length ≤ 1048576) (hs : ∀ s ∈ ns, s.size ≤ 16777216) : ∀ (n i : Nat) (q : Bool), ns.length - i = n → i ≤ ns.length → (ns.drop i).all okU = q →
    Exec T l0_json_right [(1, jB k t ns is), (87, .addr 1 2), (88, .ro 1 (ns.map str)), (89, .v (.int .i64 ns.length)), (90, .v (.int .i64 i))] =
      bif q then some (.exit 1, [(1, jB k t ns is), (87, .addr 1 2), (88, .ro 1 (ns.map str)), (89, .v (.int .i64 ns.length)), (90, .v (.int .i64 ns.length))]) else some (.ret, [(2, .v (.bool false))]) := by
  intro n
  induction n with
  | zero =>
    intro i q hn hk hq
    obtain rfl : i = ns.length := by omega
    rw [List.drop_length] at hq
    simp only [List.all_nil] at hq
    subst hq
    rw [ex0_json_right]
    simp
  | succ n ih =>
    intro i q hn hk hq
    have hlt : i < ns.length := by omega
    obtain ⟨s, hv⟩ : ∃ s, ns[i] = s := ⟨_, rfl⟩
    have hd : ns.drop i = s :: ns.drop (i + 1) := by rw [List.drop_eq_getElem_cons hlt, hv]
    have hw := wrap_succ hlt (by omega)
    have hc := c_valid s (hs s (by rw [← hv]; exact List.getElem_mem hlt))
    rw [hd, List.all_cons] at hq
    rw [ex0_json_right]
    rcases Bool.eq_false_or_eq_true (okU s) with he | he
    · rw [he] at hq hc
      rw [Bool.true_and] at hq
      have h0 := ih (i + 1) q (by omega) (by omega) hq
      rw [succ_cast] at h0
      rw [← h0]
      simp [hlt, hv, hc, hw]
    · rw [he] at hq hc
      rw [Bool.false_and] at hq
      subst hq
      simp [hlt, hv, hc]
theorem right_items (k : Int) (t : ByteArray) (ns : List ByteArray) (is : List J) (hl : is.length ≤ 1048576) (ih : ∀ x ∈ is, Cinf T n_json_right [x.pv] = some (.v (.bool x.right), [.dead])) : ∀ (n i : Nat) (q : Bool), is.length - i = n → i ≤ is.length → J.rightL (is.drop i) = q →
    Exec T l1_json_right [(1, jB k t ns is), (98, .addr 1 3), (99, .ro 4 (is.map J.pv)), (100, .v (.int .i64 is.length)), (101, .v (.int .i64 i))] =
      bif q then some (.exit 3, [(1, jB k t ns is), (98, .addr 1 3), (99, .ro 4 (is.map J.pv)), (100, .v (.int .i64 is.length)), (101, .v (.int .i64 is.length))]) else some (.ret, [(2, .v (.bool false))]) := by
  intro n
  induction n with
  | zero =>
    intro i q hn hk hq
    obtain rfl : i = is.length := by omega
    rw [List.drop_length] at hq
    simp only [J.rightL] at hq
    subst hq
    rw [ex1_json_right]
    simp
  | succ n ihn =>
    intro i q hn hk hq
    have hlt : i < is.length := by omega
    obtain ⟨j, hj⟩ : ∃ j, is[i] = j := ⟨_, rfl⟩
    have hd : is.drop i = j :: is.drop (i + 1) := by rw [List.drop_eq_getElem_cons hlt, hj]
    have hc := ih j (by rw [← hj]; exact List.getElem_mem hlt)
    have hw := wrap_succ hlt (by omega)
    rw [hd] at hq
    simp only [J.rightL] at hq
    rw [ex1_json_right]
    rcases Bool.eq_false_or_eq_true j.right with he | he
    · rw [he] at hq hc
      rw [Bool.true_and] at hq
      have h0 := ihn (i + 1) q (by omega) (by omega) hq
      rw [succ_cast] at h0
      rw [← h0]
      obtain ⟨k1, t1, ns1, is1⟩ := j
      simp only [J.pv_mk] at hc
      simp [hlt, hj, J.pv_mk, hc, hw]
    · rw [he] at hq hc
      rw [Bool.false_and] at hq
      subst hq
      obtain ⟨k1, t1, ns1, is1⟩ := j
      simp only [J.pv_mk] at hc
      simp [hlt, hj, J.pv_mk, hc]
end Go.AM.F

/- JSON: the program's right, every value. No conditions. -/
namespace Go.AM.F
open Go Go.AM
set_option maxRecDepth 10000
set_option linter.unusedSimpArgs false

attribute [local simp] j2_json_right j3_json_right j6_json_right j7_json_right b_json_right a_json_right
theorem right_plain (k : Int) (t : ByteArray) (ns : List ByteArray) (is : List J) (hk : k = 1 ∨ k = 2 ∨ k = 3) :
    Cinf T n_json_right [(J.mk k t ns is).pv] = some (.v (.bool (decide (t = eS) && decide (ns = []) && decide (is = []))), [.dead]) := by
  simp only [J.pv_mk, eS]
  by_cases ht : t = ⟨#[]⟩
  · by_cases hn : ns = []
    · rcases hk with rfl | rfl | rfl <;> simp [run_json_right, Run, ht, hn]
    · rcases hk with rfl | rfl | rfl <;> simp [run_json_right, Run, ht, hn]
  · rcases hk with rfl | rfl | rfl <;> simp [run_json_right, Run, ht]
theorem right_number (t : ByteArray) (ns : List ByteArray) (is : List J) (ht : t.size ≤ 16777216) :
    Cinf T n_json_right [(J.mk 4 t ns is).pv] = some (.v (.bool (isNum t && decide (ns = []) && decide (is = []))), [.dead]) := by
  have hc := c_isNumber t ht
  simp only [J.pv_mk]
  cases hq : isNum t with
  | true =>
    rw [hq] at hc
    by_cases hn : ns = []
    · simp [run_json_right, Run, hc, hn]
    · simp [run_json_right, Run, hc, hn]
  | false =>
    rw [hq] at hc
    simp [run_json_right, Run, hc]
theorem right_text (t : ByteArray) (ns : List ByteArray) (is : List J) (ht : t.size ≤ 16777216) :
    Cinf T n_json_right [(J.mk 5 t ns is).pv] = some (.v (.bool (okU t && decide (ns = []) && decide (is = []))), [.dead]) := by
  have hc := c_valid t ht
  simp only [J.pv_mk]
  cases hq : okU t with
  | true =>
    rw [hq] at hc
    by_cases hn : ns = []
    · simp [run_json_right, Run, hc, hn]
    · simp [run_json_right, Run, hc, hn]
  | false =>
    rw [hq] at hc
    simp [run_json_right, Run, hc]
theorem right_none (k : Int) (t : ByteArray) (ns : List ByteArray) (is : List J) (h1 : ¬ (k = 1 ∨ k = 2 ∨ k = 3)) (h4 : ¬ k = 4) (h5 : ¬ k = 5) (h6 : ¬ k = 6) (h7 : ¬ k = 7) :
    Cinf T n_json_right [(J.mk k t ns is).pv] = some (.v (.bool false), [.dead]) := by
  simp only [not_or] at h1
  obtain ⟨h1, h2, h3⟩ := h1
  simp only [J.pv_mk]
  simp [run_json_right, Run, h1, h2, h3, h4, h5, h6, h7]
theorem right_list (t : ByteArray) (ns : List ByteArray) (is : List J) (h : Exec T l1_json_right [(1, jB 6 t ns is), (98, .addr 1 3), (99, .ro 4 (is.map J.pv)), (100, .v (.int .i64 is.length)), (101, .v (.int .i64 0))] =
      bif J.rightL is then some (.exit 3, [(1, jB 6 t ns is), (98, .addr 1 3), (99, .ro 4 (is.map J.pv)), (100, .v (.int .i64 is.length)), (101, .v (.int .i64 is.length))]) else some (.ret, [(2, .v (.bool false))])) :
    Cinf T n_json_right [(J.mk 6 t ns is).pv] = some (.v (.bool (decide (t = eS) && decide (ns = []) && J.rightL is)), [.dead]) := by
  simp only [J.pv_mk, eS]
  simp only [jB] at h
  by_cases ht : t = ⟨#[]⟩
  · by_cases hn : ns = []
    · subst ht hn
      cases hq : J.rightL is with
      | true =>
        rw [hq, cond_true] at h
        simp only [List.map_nil] at h
        simp [run_json_right, Run, h]
      | false =>
        rw [hq, cond_false] at h
        simp only [List.map_nil] at h
        simp [run_json_right, Run, h]
    · have hz : 0 < ns.length := List.length_pos_iff.2 hn
      simp [run_json_right, Run, ht, hn, hz]
  · simp [run_json_right, Run, ht]
theorem right_object (t : ByteArray) (ns : List ByteArray) (is : List J) (h : Exec T l1_json_right [(1, jB 7 t ns is), (98, .addr 1 3), (99, .ro 4 (is.map J.pv)), (100, .v (.int .i64 is.length)), (101, .v (.int .i64 0))] =
      bif J.rightL is then some (.exit 3, [(1, jB 7 t ns is), (98, .addr 1 3), (99, .ro 4 (is.map J.pv)), (100, .v (.int .i64 is.length)), (101, .v (.int .i64 is.length))]) else some (.ret, [(2, .v (.bool false))]))
    (h0 : Exec T l0_json_right [(1, jB 7 t ns is), (87, .addr 1 2), (88, .ro 1 (ns.map str)), (89, .v (.int .i64 ns.length)), (90, .v (.int .i64 0))] =
      bif ns.all okU then some (.exit 1, [(1, jB 7 t ns is), (87, .addr 1 2), (88, .ro 1 (ns.map str)), (89, .v (.int .i64 ns.length)), (90, .v (.int .i64 ns.length))]) else some (.ret, [(2, .v (.bool false))])) :
    Cinf T n_json_right [(J.mk 7 t ns is).pv] = some (.v (.bool (decide (t = eS) && decide (ns.length = is.length) && ns.all okU && J.rightL is)), [.dead]) := by
  simp only [J.pv_mk, eS]
  simp only [jB] at h h0
  by_cases ht : t = ⟨#[]⟩
  · by_cases hn : ns.length = is.length
    · subst ht
      cases hp : ns.all okU with
      | true =>
        rw [hp, cond_true] at h0
        cases hq : J.rightL is with
        | true =>
          rw [hq, cond_true] at h
          simp [run_json_right, Run, h, h0, hn]
          simp only [hn] at h h0 ⊢
          simp [h, h0]
        | false =>
          rw [hq, cond_false] at h
          simp [run_json_right, Run, h, h0, hn]
          simp only [hn] at h h0 ⊢
          simp [h, h0]
      | false =>
        rw [hp, cond_false] at h0
        simp [run_json_right, Run, h0, hn]
        simp only [hn] at h0 ⊢
        simp [h0]
    · have hz : ¬ (ns.length : Int) = is.length := by omega
      simp [run_json_right, Run, ht, hn, hz]
  · simp [run_json_right, Run, ht]
end Go.AM.F
