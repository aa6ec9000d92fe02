/- Sums of parts, and in another order: FixedParts. No conditions. -/
import Derived.Test.YtbghahcgjnlnlaaDoorD0
import Derived.Test.YtbghahcgjnlnlaaDoorT6
namespace Go.AM.F
open Go Go.AM
set_option maxRecDepth 10000
set_option linter.unusedSimpArgs false
attribute [local simp] j0_thicketlaw04_FixedParts j1_thicketlaw04_FixedParts w0_thicketlaw04_FixedParts j2_thicketlaw04_FixedParts j3_thicketlaw04_FixedParts j4_thicketlaw04_FixedParts j5_thicketlaw04_FixedParts b_thicketlaw04_FixedParts a_thicketlaw04_FixedParts
def tot (l : List Int) : Int := pos l - neg l
theorem pos_append : ∀ a b, pos (a ++ b) = pos a + pos b
  | [], b => by simp [pos]
  | v :: r, b => by rw [List.cons_append, pos, pos, pos_append r b]; omega
theorem neg_append : ∀ a b, neg (a ++ b) = neg a + neg b
  | [], b => by simp [neg]
  | v :: r, b => by rw [List.cons_append, neg, neg, neg_append r b]; omega
theorem tot_append (a b : List Int) : tot (a ++ b) = tot a + tot b := by unfold tot; rw [pos_append, neg_append]; omega
theorem tot_two (a b : Int) : tot [a, b] = a + b := by
  unfold tot
  simp only [pos, neg]
  split <;> split <;> omega
def rot (t : Nat) (l : List Int) : List Int := l.drop t ++ l.take t
theorem rot_length (t : Nat) (l : List Int) : (rot t l).length = l.length := by simp [rot]; omega
theorem tot_rot (t : Nat) (l : List Int) : tot (rot t l) = tot l := by
  have h := tot_append (l.take t) (l.drop t)
  rw [List.take_append_drop] at h
  unfold rot
  rw [tot_append, h]
  omega
theorem rot_get {t i : Nat} {l : List Int} (ht : t < l.length) (hi : i < l.length) : (rot t l)[i]? = l[(i + t) % l.length]? := by
  unfold rot
  rw [List.getElem?_append, List.length_drop]
  split
  · rename_i h
    rw [List.getElem?_drop, Nat.mod_eq_of_lt (by omega), Nat.add_comm]
  · rename_i h
    rw [List.getElem?_take, if_pos (by omega), Nat.mod_eq_sub_mod (by omega), Nat.mod_eq_of_lt (by omega)]
    congr 1
    omega
def is (l : List Int) : List PV := l.map fun v => .v (.int .i64 v)
theorem wrap_u64_nat {k : Nat} (h : k < 18446744073709551616) : IntKind.u64.wrap (k : Int) = (k : Int) := wrap_u64 (by omega) (by omega)
theorem rem_u64 (a b : Nat) (hb : b ≠ 0) : binInt .rem .u64 a b = some (.int .u64 (a % b : Nat)) := by
  rw [binInt_rem, if_neg (by omega)]
  rfl
theorem parts_loop (l : List Int) (hl : l.length ≤ 1048577) (tr : Int) (T0 t : Nat) (hT : IntKind.u64.wrap tr = (T0 : Int)) (ht : T0 % l.length = t) (s e k : Int) : ∀ (m i : Nat), l.length - i = m → i ≤ l.length →
    Exec T l0_thicketlaw04_FixedParts [(0, .ro 1 (is l)), (2, .v (.int .i64 tr)), (7, .v (.int .i64 s)), (8, .v (.int .i64 e)), (9, .v (.int .i64 l.length)), (10, .v (.int .i64 k)), (11, .own 1 (is ((rot t l).take i))), (12, .v (.int .i64 i)), (58, .dead)] =
      some (.exit 0, [(0, .ro 1 (is l)), (2, .v (.int .i64 tr)), (7, .v (.int .i64 s)), (8, .v (.int .i64 e)), (9, .v (.int .i64 l.length)), (10, .v (.int .i64 k)), (11, .own 1 (is (rot t l))), (12, .v (.int .i64 l.length)), (58, .dead)]) := by
  intro m
  have hrl := rot_length t l
  induction m with
  | zero =>
    intro i hm hi
    obtain rfl : i = l.length := by omega
    rw [ex0_thicketlaw04_FixedParts, List.take_of_length_le (by omega)]
    simp
  | succ m ih =>
    intro i hm hi
    have hlt : i < l.length := by omega
    have htl : t < l.length := by rw [← ht]; exact Nat.mod_lt _ (by omega)
    have hw : IntKind.i64.wrap ((i : Int) + 1) = (i : Int) + 1 := by rw [wrap_i64] <;> omega
    have h0 := ih (i + 1) (by omega) (by omega)
    have w1 := wrap_u64_nat (k := i) (by omega)
    have w2 := wrap_u64_nat (k := l.length) (by omega)
    have r1 := rem_u64 T0 l.length (by omega)
    rw [ht] at r1
    have w3 := wrap_u64_nat (k := i + t) (by omega)
    rw [Int.natCast_add] at w3
    have r2 := rem_u64 (i + t) l.length (by omega)
    have hj : (i + t) % l.length < l.length := Nat.mod_lt _ (by omega)
    have hg := rot_get htl hlt
    obtain ⟨j, ej⟩ : ∃ j, (i + t) % l.length = j := ⟨_, rfl⟩
    rw [ej] at r2 hj hg
    obtain ⟨x, hx⟩ : ∃ x, l[j] = x := ⟨_, rfl⟩
    rw [List.getElem?_eq_getElem hj, hx] at hg
    have htake : (rot t l).take (i + 1) = (rot t l).take i ++ [x] := by
      rw [List.take_add_one, hg]
      rfl
    have hl2 : ((rot t l).take i).length = i := by rw [List.length_take]; omega
    have his : is ((rot t l).take i ++ [x]) = is ((rot t l).take i) ++ [.v (.int .i64 x)] := by simp [is]
    have hln : (is ((rot t l).take i)).length = i := by rw [is, List.length_map, hl2]
    have hgx : (is l)[j]? = some (.v (.int .i64 x)) := by simp [is, hj, hx]
    have hlen : (is l).length = l.length := by simp [is]
    have hgx2 : (is l)[j]'(by omega) = .v (.int .i64 x) := by simp [is, hx]
    have e1 : i ≤ 35184372088831 := by omega
    have e2 : i ≤ 4611686018427387903 := by omega
    have e3 : (i + 1) * 8 ≤ 140737488355328 := by omega
    have e4 : i ≤ 17592186044415 := by omega
    have e5 : i ≤ 8796093022207 := by omega
    have hc : ((i + 1 : Nat) : Int) = (i : Int) + 1 := Int.natCast_succ i
    have hc2 : ((i + t : Nat) : Int) = (i : Int) + t := Int.natCast_add i t
    rw [hc2] at r2
    rw [htake, his, hc] at h0
    generalize is ((rot t l).take i) = A at *
    rw [← h0, ex0_thicketlaw04_FixedParts]
    simp [-binInt_rem, hlt, hw, hT, w1, w2, r1, w3, r2, hgx, hgx2, hlen, hj, hln, e1, e2, e3, e4, e5]
theorem in64_sub {l : List Int} (h : ∀ v ∈ l, In64 v) {m : List Int} (hm : ∀ v ∈ m, v ∈ l) : ∀ v ∈ m, In64 v := fun v hv => h v (hm v hv)
theorem c_FixedParts (l : List Int) (hl : l.length ≤ 1048577) (hv : ∀ v ∈ l, In64 v) (at_ tr : Int) : ∃ backs, Cinf T n_thicketlaw04_FixedParts [.ro 1 (is l), .v (.int .i64 at_), .v (.int .i64 tr)] = some (.v (.bool true), backs) := by
  have hlen : (is l).length = l.length := by simp [is]
  obtain ⟨A0, hA⟩ : ∃ A0 : Nat, IntKind.u64.wrap at_ = (A0 : Int) := ⟨(IntKind.u64.wrap at_).toNat, by have := (wrap_u64_nonneg at_).1; omega⟩
  obtain ⟨T0, hT⟩ : ∃ T0 : Nat, IntKind.u64.wrap tr = (T0 : Int) := ⟨(IntKind.u64.wrap tr).toNat, by have := (wrap_u64_nonneg tr).1; omega⟩
  obtain ⟨t, ht⟩ : ∃ t, T0 % l.length = t := ⟨_, rfl⟩
  have w0 : IntKind.i64.wrap ((l.length : Int) + 1) = (l.length : Int) + 1 := by rw [wrap_i64] <;> omega
  have w1 : IntKind.u64.wrap ((l.length : Int) + 1) = (l.length : Int) + 1 := by rw [wrap_u64] <;> omega
  have r1 := rem_u64 A0 (l.length + 1) (by omega)
  obtain ⟨k, hk⟩ : ∃ k, A0 % (l.length + 1) = k := ⟨_, rfl⟩
  have hkl : k < l.length + 1 := by rw [← hk]; exact Nat.mod_lt _ (by omega)
  rw [hk, Int.natCast_succ] at r1
  have w2 : IntKind.i64.wrap (k : Int) = k := by rw [wrap_i64] <;> omega
  have hkl2 : k ≤ l.length := by omega
  have hmr : ∀ v ∈ rot t l, v ∈ l := fun v h => by
    unfold rot at h
    rcases List.mem_append.1 h with h | h
    · exact List.mem_of_mem_drop h
    · exact List.mem_of_mem_take h
  have s1 := c_fixed_Sum' l (by omega) hv
  have s2 := c_fixed_Sum' (rot t l) (by rw [rot_length]; omega) (in64_sub hv hmr)
  have s3 := c_fixed_Sum' (l.take k) (by rw [List.length_take]; omega) (in64_sub hv fun v h => List.mem_of_mem_take h)
  have s4 := c_fixed_Sum' (l.drop k) (by rw [List.length_drop]; omega) (in64_sub hv fun v h => List.mem_of_mem_drop h)
  have htr := tot_rot t l
  have hta := tot_append (l.take k) (l.drop k)
  rw [List.take_append_drop] at hta
  have s5 := fun (ha : In64 (tot (l.take k))) (hb : In64 (tot (l.drop k))) => c_fixed_Add _ _ ha hb
  have htw := tot_two (tot (l.take k)) (tot (l.drop k))
  rw [← hta] at htw
  have sT : ∀ x : List Int, sumSays x = if In64 (tot x) then .tup [.v (.int .i64 (tot x)), .v (.int .i64 0)] else .tup [.v (.int .i64 0), .v (.int .i64 41)] := fun _ => rfl
  have hi : ∀ x : List Int, i64s x = .ro 1 (is x) := fun _ => rfl
  rw [hi, sT] at s1 s2 s3 s4
  rw [htr] at s2
  have htk : (is l).take k = is (l.take k) := by simp [is]
  have hdk : List.drop k (List.take l.length (is l)) = is (l.drop k) := by rw [List.take_of_length_le (by omega)]; simp [is]
  simp only [sT, htw] at s5
  have lp := fun e s => parts_loop l hl tr T0 t hT ht s e k l.length 0 rfl (Nat.zero_le _)
  simp only [List.take_zero, Int.natCast_zero] at lp
  have is0 : is [] = [] := rfl
  rw [is0] at lp
  obtain ⟨X, hX⟩ : ∃ X, tot l = X := ⟨_, rfl⟩
  obtain ⟨Y, hY⟩ : ∃ Y, tot (l.take k) = Y := ⟨_, rfl⟩
  obtain ⟨Z, hZ⟩ : ∃ Z, tot (l.drop k) = Z := ⟨_, rfl⟩
  simp only [hX, hY, hZ] at *
  rw [run_thicketlaw04_FixedParts]
  by_cases c1 : In64 X
  · rw [if_pos c1] at s1 s2
    by_cases c2 : In64 Y
    · rw [if_pos c2] at s3
      by_cases c3 : In64 Z
      · rw [if_pos c3] at s4
        have s5 := s5 c2 c3
        rw [if_pos c1] at s5
        exact ⟨_, by simp [-binInt_rem, Run, c_begins, s1, s2, s3, s4, s5, hlen, hA, w0, w1, r1, w2, hkl2, htk, hdk, lp]; rfl⟩
      · rw [if_neg c3] at s4
        exact ⟨_, by simp [-binInt_rem, Run, c_begins, s1, s2, s3, s4, hlen, hA, w0, w1, r1, w2, hkl2, htk, hdk, lp]; rfl⟩
    · rw [if_neg c2] at s3
      by_cases c3 : In64 Z
      · rw [if_pos c3] at s4
        exact ⟨_, by simp [-binInt_rem, Run, c_begins, s1, s2, s3, s4, hlen, hA, w0, w1, r1, w2, hkl2, htk, hdk, lp]; rfl⟩
      · rw [if_neg c3] at s4
        exact ⟨_, by simp [-binInt_rem, Run, c_begins, s1, s2, s3, s4, hlen, hA, w0, w1, r1, w2, hkl2, htk, hdk, lp]; rfl⟩
  · rw [if_neg c1] at s1 s2
    by_cases c2 : In64 Y
    · rw [if_pos c2] at s3
      by_cases c3 : In64 Z
      · rw [if_pos c3] at s4
        have s5 := s5 c2 c3
        rw [if_neg c1] at s5
        exact ⟨_, by simp [-binInt_rem, Run, c_begins, s1, s2, s3, s4, s5, hlen, hA, w0, w1, r1, w2, hkl2, htk, hdk, lp]; rfl⟩
      · rw [if_neg c3] at s4
        exact ⟨_, by simp [-binInt_rem, Run, c_begins, s1, s2, s3, s4, hlen, hA, w0, w1, r1, w2, hkl2, htk, hdk, lp]; rfl⟩
    · rw [if_neg c2] at s3
      by_cases c3 : In64 Z
      · rw [if_pos c3] at s4
        exact ⟨_, by simp [-binInt_rem, Run, c_begins, s1, s2, s3, s4, hlen, hA, w0, w1, r1, w2, hkl2, htk, hdk, lp]; rfl⟩
      · rw [if_neg c3] at s4
        exact ⟨_, by simp [-binInt_rem, Run, c_begins, s1, s2, s3, s4, hlen, hA, w0, w1, r1, w2, hkl2, htk, hdk, lp]; rfl⟩
end Go.AM.F
