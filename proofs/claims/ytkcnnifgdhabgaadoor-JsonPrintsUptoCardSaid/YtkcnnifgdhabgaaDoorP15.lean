/- JSON: what is written of a value; the program's write: lists and objects. No conditions. -/
import Derived.Test.YtkcnnifgdhabgaaDoorP14
namespace Go.AM.F
open Go Go.AM
set_option maxRecDepth 10000
set_option linter.unusedSimpArgs false

mutual
/-- What is written of a value. -/
def J.out : J → List UInt8
  | .mk k t ns is =>
    if k = 1 then [110, 117, 108, 108] else if k = 2 then [102, 97, 108, 115, 101] else if k = 3 then [116, 114, 117, 101]
    else if k = 4 then t.data.toList else if k = 5 then quote t.data.toList
    else if k = 7 then [123] ++ J.outL true ns is true ++ [125] else [91] ++ J.outL false ns is true ++ [93]
def J.outL : Bool → List ByteArray → List J → Bool → List UInt8
  | _, _, [], _ => []
  | o, ns, j :: r, first => (if first then [] else [44]) ++ (if o then quote (ns.headD eS).data.toList ++ [58] else []) ++ j.out ++ J.outL o ns.tail r false
end
theorem quote_le (L : List UInt8) : (quote L).length ≤ 6 * L.length + 2 := by
  have := qL_le L
  simp only [quote, List.length_append, List.length_cons, List.length_nil]
  omega
/-- The weight of what is still to be written. -/
def restW (ns : List ByteArray) (is : List J) : Nat := J.wtL is + (ns.map ByteArray.size).sum + ns.length
theorem restW_cons (s : ByteArray) (ns : List ByteArray) (j : J) (is : List J) : restW (s :: ns) (j :: is) = j.wt + s.size + 1 + restW ns is := by
  simp only [restW, J.wtL, List.map_cons, List.sum_cons, List.length_cons]
  omega
theorem wt_pos (j : J) : 1 ≤ j.wt := by
  obtain ⟨k, t, ns, is⟩ := j
  simp only [J.wt]
  omega
mutual
theorem out_le : ∀ (j : J), j.right = true → j.out.length + 1 ≤ 8 * j.wt
  | .mk k t ns is, h => by
    have ht := size_list t
    have hq := quote_le t.data.toList
    simp only [J.out, J.wt]
    simp only [J.right] at h
    by_cases c1 : k = 1
    · rw [if_pos c1]; simp; omega
    rw [if_neg c1]
    by_cases c2 : k = 2
    · rw [if_pos c2]; simp; omega
    rw [if_neg c2]
    by_cases c3 : k = 3
    · rw [if_pos c3]; simp; omega
    rw [if_neg c3]
    rw [if_neg (by omega)] at h
    by_cases c4 : k = 4
    · rw [if_pos c4]; omega
    rw [if_neg c4] at h ⊢
    by_cases c5 : k = 5
    · rw [if_pos c5]; omega
    rw [if_neg c5] at h ⊢
    by_cases c6 : k = 6
    · rw [if_pos c6] at h
      rw [if_neg (by omega)]
      simp only [Bool.and_eq_true, decide_eq_true_eq] at h
      have := outL_le false ns is true h.2 (fun h => by cases h)
      simp only [restW, Bool.false_eq_true, if_false] at this
      simp only [List.length_append, List.length_cons, List.length_nil]
      omega
    rw [if_neg c6] at h
    by_cases c7 : k = 7
    · rw [if_pos c7] at h ⊢
      simp only [Bool.and_eq_true, decide_eq_true_eq] at h
      have := outL_le true ns is true h.2 (fun _ => h.1.1.2)
      simp only [restW, if_true] at this
      simp only [List.length_append, List.length_cons, List.length_nil]
      omega
    · rw [if_neg c7] at h
      cases h
theorem outL_le : ∀ (o : Bool) (ns : List ByteArray) (is : List J) (b : Bool), J.rightL is = true → (o = true → ns.length = is.length) → (J.outL o ns is b).length ≤ if o then 8 * restW ns is else 8 * J.wtL is
  | o, ns, [], b, _, _ => by simp [J.outL]
  | o, ns, j :: r, b, h, hn => by
    simp only [J.rightL, Bool.and_eq_true] at h
    have h1 := out_le j h.1
    have hb : (if b = true then ([] : List UInt8) else [44]).length ≤ 1 := by split <;> simp
    cases o with
    | false =>
      have h2 := outL_le false ns.tail r false h.2 (fun h => by cases h)
      simp only [Bool.false_eq_true, if_false] at h2
      simp only [J.outL, J.wtL, Bool.false_eq_true, if_false, List.append_nil, List.length_append]
      omega
    | true =>
      have hn2 := hn rfl
      cases ns with
      | nil => simp at hn2
      | cons s q =>
        have h2 := outL_le true q r false h.2 (fun _ => by simpa using hn2)
        have hq := quote_le s.data.toList
        have hs := size_list s
        simp only [if_true] at h2
        simp only [J.outL, if_true, restW_cons, List.length_append, List.headD_cons, List.tail_cons, List.length_cons, List.length_nil]
        omega
end
attribute [local simp] j0_json_write j1_json_write j2_json_write j3_json_write w0_json_write
abbrev wE (k : Int) (t : ByteArray) (ns : List ByteArray) (is : List J) (ends : ByteArray) (l : List UInt8) (i : Nat) : Env :=
  [(0, .own 1 (bl l)), (3, jB k t ns is), (5, .v (.string ends)), (41, .dead), (42, .addr 3 3), (43, .ro 4 (is.map J.pv)), (44, .v (.int .i64 is.length)), (45, .v (.int .i64 i)), (54, .dead), (66, .dead), (69, .dead), (100000, .dead)]
/-- Calls of write. -/
def WrOK (x : J) : Prop := ∀ l : List UInt8, l.length + 8 * x.wt ≤ 90000000 → Cinf T n_json_write [.own 1 (bl l), x.pv] = some (.own 1 (bl (l ++ x.out)), [.dead, .dead])
theorem wr_list (k : Int) (hk : ¬ k = 7) (t : ByteArray) (ns : List ByteArray) (is : List J) (ends : ByteArray) (hl : is.length ≤ 1048576) (hr : J.rightL is = true) (ih : ∀ x ∈ is, WrOK x) : ∀ (n i : Nat) (l : List UInt8) (ms : List ByteArray), is.length - i = n → i ≤ is.length → l.length + 8 * J.wtL (is.drop i) + min i 1 ≤ 90000000 →
    Exec T l0_json_write (wE k t ns is ends l i) = some (.exit 1, wE k t ns is ends (l ++ J.outL false ms (is.drop i) (decide (i = 0))) is.length) := by
  intro n
  induction n with
  | zero =>
    intro i l ms hn hi _
    obtain rfl : i = is.length := by omega
    rw [List.drop_length]
    simp only [wE, jB]
    rw [ex0_json_write]
    simp [J.outL]
  | succ n ihn =>
    intro i l ms hn hi hb
    have hlt : i < is.length := by omega
    obtain ⟨j, hj⟩ : ∃ j, is[i] = j := ⟨_, rfl⟩
    have hjm : j ∈ is := by rw [← hj]; exact List.getElem_mem hlt
    have hd : is.drop i = j :: is.drop (i + 1) := by rw [List.drop_eq_getElem_cons hlt, hj]
    have hw := wrap_succ hlt (by omega)
    rw [hd] at hb ⊢
    simp only [J.wtL] at hb
    have hrj : j.right = true := by
      have : ∀ {q : List J}, J.rightL q = true → ∀ x ∈ q, x.right = true := by
        intro q
        induction q with
        | nil => intro _ x hx; simp at hx
        | cons y z ihq =>
          intro h x hx
          simp only [J.rightL, Bool.and_eq_true] at h
          rcases List.mem_cons.1 hx with rfl | hx
          · exact h.1
          · exact ihq h.2 x hx
      exact this hr j hjm
    have hle := out_le j hrj
    have hpos := wt_pos j
    by_cases h0 : i = 0
    · subst h0
      rw [Nat.zero_add] at hb
      have hc := ih j hjm l (by omega)
      have h1 := ihn 1 (l ++ j.out) ms.tail (by omega) (by omega) (by rw [List.length_append]; omega)
      have ho : l ++ J.outL false ms (j :: is.drop (0 + 1)) (decide (0 = 0)) = l ++ j.out ++ J.outL false ms.tail (is.drop 1) (decide (1 = 0)) := by
        simp [J.outL]
      rw [ho, ← h1]
      simp only [wE, jB]
      rw [ex0_json_write]
      generalize j.out = q at *
      obtain ⟨k1, t1, ns1, is1⟩ := j
      simp only [J.pv_mk] at hc
      simp [hlt, hj, J.pv_mk, hc, hk]
    · have hc := ih j hjm (l ++ [44]) (by simp only [List.length_append, List.length_cons, List.length_nil]; omega)
      have h1 := ihn (i + 1) (l ++ [44] ++ j.out) ms.tail (by omega) (by omega) (by simp only [List.length_append, List.length_cons, List.length_nil]; omega)
      have ho : l ++ J.outL false ms (j :: is.drop (i + 1)) (decide (i = 0)) = l ++ [44] ++ j.out ++ J.outL false ms.tail (is.drop (i + 1)) (decide (i + 1 = 0)) := by
        simp [J.outL, h0]
      have e1 : bl (l ++ [44]) = bl l ++ [.v (.int .u8 44)] := by rw [← bl_append]; rfl
      have l1 : l.length ≤ 140737488355327 := by omega
      have l2 : l.length ≤ 4611686018427387903 := by omega
      have h0' : 0 < i := by omega
      rw [ho, ← h1]
      simp only [wE, jB, succ_cast]
      rw [ex0_json_write]
      rw [e1] at hc
      generalize bl (l ++ [44] ++ j.out) = q at *
      obtain ⟨k1, t1, ns1, is1⟩ := j
      simp only [J.pv_mk] at hc
      simp [hlt, hj, J.pv_mk, hc, hk, hw, h0, h0', l1, l2]
end Go.AM.F
