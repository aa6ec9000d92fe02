/- Digits written, by the program and by the document. No conditions. -/
import Derived.Test.YtlokekpiajholaaDoorL28
import Derived.Test.YtlokekpiajholaaDoorL29
namespace Go.AM.F
open Go Go.AM
set_option maxRecDepth 10000
set_option linter.unusedSimpArgs false
attribute [local simp] j0_limbs_Print j1_limbs_Print w1_limbs_Print j2_limbs_Print j3_limbs_Print w2_limbs_Print j4_limbs_Print j5_limbs_Print j6_limbs_Print w0_limbs_Print j7_limbs_Print j8_limbs_Print w3_limbs_Print j9_limbs_Print j10_limbs_Print j11_limbs_Print b_limbs_Print a_limbs_Print
attribute [local simp] j0_strings_trimLeftByte w0_strings_trimLeftByte j1_strings_trimLeftByte b_strings_trimLeftByte a_strings_trimLeftByte j2_strings_TrimLeft b_strings_TrimLeft a_strings_TrimLeft
/-- A digit's byte. -/
def db (d : Nat) : UInt8 := UInt8.ofNat (48 + d)
theorem db_nat {d : Nat} (h : d < 10) : (db d).toNat = 48 + d := by
  unfold db
  rw [UInt8.toNat_ofNat']
  omega
/-- So many digits, the last first. -/
def dpad : Nat → Nat → List UInt8
  | 0, _ => []
  | n + 1, r => db (r % 10) :: dpad n (r / 10)
theorem dpad_length (n : Nat) : ∀ r, (dpad n r).length = n := by
  induction n with
  | zero => intro r; rfl
  | succ n ih => intro r; simp [dpad, ih]
/-- The digits that are needed, the last first. -/
def revD (v : Nat) : List UInt8 := if h : v = 0 then [] else db (v % 10) :: revD (v / 10)
theorem revD_zero : revD 0 = [] := by rw [revD]; simp
theorem revD_pos {v : Nat} (h : v ≠ 0) : revD v = db (v % 10) :: revD (v / 10) := by rw [revD]; simp [h]
def padT (r : Nat) : ByteArray := tx (dpad 9 r).reverse
def chunks (v : Nat) : List Nat := if h : v = 0 then [] else v % 1000000000 :: chunks (v / 1000000000)
theorem chunks_zero : chunks 0 = [] := by rw [chunks]; simp
theorem chunks_pos {v : Nat} (h : v ≠ 0) : chunks v = v % 1000000000 :: chunks (v / 1000000000) := by rw [chunks]; simp [h]
def strs (l : List Nat) : List PV := l.map fun r => .v (.string (padT r))
/-- One limb, divided in place. -/
theorem tdiv_loop (a0 : List Nat) (ha : Fit a0) (parts : PV) (_ : ∀ s t, PV.ment s t parts = false) : ∀ (k : Nat) (q : List Nat) (r : Nat), k ≤ a0.length → q.length = a0.length → Lim q → r < 1000000000 → q.take k = a0.take k → val (a0.drop k) = 1000000000 * val (q.drop k) + r →
    ∃ (q' : List Nat) (r' : Nat), Exec T l1_limbs_Print [(0, .own 1 (ul q)), (3, parts), (4, .v (.int .u64 r)), (5, .v (.int .i64 ((k : Int) - 1))), (10, .dead), (41, .dead), (57, .dead)] = some (.exit 2, [(0, .own 1 (ul q')), (3, parts), (4, .v (.int .u64 r')), (5, .v (.int .i64 (-1))), (10, .dead), (41, .dead), (57, .dead)]) ∧ Lim q' ∧ q'.length = a0.length ∧ r' < 1000000000 ∧ val a0 = 1000000000 * val q' + r' := by
  intro k
  induction k with
  | zero =>
    intro q r hk hq hl hr ht hv
    refine ⟨q, r, ?_, hl, hq, hr, by simpa using hv⟩
    rw [ex1_limbs_Print]
    simp
  | succ k ih =>
    intro q r hk hq hl hr ht hv
    have hal := ha.2
    have hka : k < a0.length := by omega
    have hkq : k < q.length := by omega
    obtain ⟨x, hx⟩ : ∃ x, q[k] = x := ⟨_, rfl⟩
    have hxl := hl.get hkq
    rw [hx] at hxl
    have hxa : a0[k] = x := by
      have h1 := congrArg (fun l => l[k]?) ht
      simp only [List.getElem?_take, Nat.lt_succ_self, if_true] at h1
      rw [List.getElem?_eq_getElem hkq, List.getElem?_eq_getElem hka, hx] at h1
      simpa using h1.symm
    have ht2 : q.take k = a0.take k := by
      have h1 := congrArg (List.take k) ht
      rwa [List.take_take, List.take_take, Nat.min_eq_left (by omega)] at h1
    obtain ⟨s, hs⟩ : ∃ s, x + r * 4294967296 = s := ⟨_, rfl⟩
    have hsh := shl32_64 r (by omega)
    have hor := or64 (x := r * 4294967296) (y := x) (e := s) (by omega) (by omega) (by rw [Nat.or_comm, or_high hxl, hs])
    obtain ⟨f, hf⟩ : ∃ f, r * 4294967296 = f := ⟨_, rfl⟩
    rw [hf] at hsh hor
    have hdm : 1000000000 * (s / 1000000000) + s % 1000000000 = s := Nat.div_add_mod _ _
    have q1 : (s : Int).tdiv 1000000000 = ((s / 1000000000 : Nat) : Int) := rfl
    have q2 : (s : Int).tmod 1000000000 = ((s % 1000000000 : Nat) : Int) := rfl
    have hr2 : s % 1000000000 < 1000000000 := Nat.mod_lt _ (by decide)
    have hdl : s / 1000000000 < 4294967296 := by omega
    obtain ⟨d, hd⟩ : ∃ d, s / 1000000000 = d := ⟨_, rfl⟩
    obtain ⟨r2, hr2e⟩ : ∃ d, s % 1000000000 = d := ⟨_, rfl⟩
    rw [hd] at hdm q1 hdl
    rw [hr2e] at hr2 hdm q2
    have w1 := u64_nat (k := x) (by omega)
    have w3 := u64_nat (k := d) (by omega)
    have w4 := u32_nat (k := d) hdl
    have w5 : IntKind.i64.wrap ((k : Int) - 1) = (k : Int) - 1 := by rw [wrap_i64] <;> omega
    have hv2 : val (a0.drop k) = 1000000000 * val ((q.set k d).drop k) + r2 := by
      rw [set_drop hkq, val_drop_cons hka, hxa, hv, val]
      omega
    obtain ⟨q', r', h0, h1⟩ := ih (q.set k d) r2 (by omega) (by simpa using hq) (hl.set hdl) hr2 (by rw [List.take_set_of_le (Nat.le_refl k)]; exact ht2) hv2
    refine ⟨q', r', ?_, h1⟩
    have q3 : binInt .quo .u64 s 1000000000 = some (.int .u64 (d : Nat)) := by rw [binInt_quo, if_neg (by decide), q1, w3]
    have q4 : binInt .rem .u64 s 1000000000 = some (.int .u64 (r2 : Nat)) := by rw [binInt_rem, if_neg (by decide), q2]
    rw [show ((k + 1 : Nat) : Int) - 1 = (k : Int) by omega, ← h0, ex1_limbs_Print]
    simp [-binInt_shl, -binInt_or, -binInt_quo, -binInt_rem, hka, hkq, hx, hsh, hor, q3, q4, w1, w4, w5, ul_set]
theorem encode_digit {d : Nat} (h : d < 10) : Utf8.encode ((48 : Int) + (d : Nat)) = tx [db d] := by
  match d, h with
  | 0, _ => rfl
  | 1, _ => rfl
  | 2, _ => rfl
  | 3, _ => rfl
  | 4, _ => rfl
  | 5, _ => rfl
  | 6, _ => rfl
  | 7, _ => rfl
  | 8, _ => rfl
  | 9, _ => rfl
/-- Nine digits are written. -/
theorem pad_loop9 (a : List Nat) (parts : PV) (_ : ∀ s t, PV.ment s t parts = false) : ∀ (n i r : Nat) (l : List UInt8), i + n = 9 → l.length = i → r < 18446744073709551616 →
    ∃ r' : Nat, Exec T l2_limbs_Print [(0, .own 1 (ul a)), (3, parts), (4, .v (.int .u64 r)), (6, .v (.string (tx l))), (10, .dead), (41, .dead), (42, .v (.int .i64 i)), (57, .dead)] = some (.exit 4, [(0, .own 1 (ul a)), (3, parts), (4, .v (.int .u64 r')), (6, .v (.string (tx ((dpad n r).reverse ++ l)))), (10, .dead), (41, .dead), (42, .v (.int .i64 9)), (57, .dead)]) := by
  intro n
  induction n with
  | zero =>
    intro i r l hi hl hr
    obtain rfl : i = 9 := by omega
    refine ⟨r, ?_⟩
    rw [ex2_limbs_Print]
    simp [dpad]
  | succ n ih =>
    intro i r l hi hl hr
    have hlt : i < 9 := by omega
    have hw : IntKind.i64.wrap ((i : Int) + 1) = (i : Int) + 1 := by rw [wrap_i64] <;> omega
    obtain ⟨r', h0⟩ := ih (i + 1) (r / 10) (db (r % 10) :: l) (by omega) (by simp [hl]) (by omega)
    refine ⟨r', ?_⟩
    have hd : r % 10 < 10 := Nat.mod_lt _ (by decide)
    have he := encode_digit hd
    have q1 : (r : Int).tmod 10 = ((r % 10 : Nat) : Int) := rfl
    have q2 : (r : Int).tdiv 10 = ((r / 10 : Nat) : Int) := rfl
    have hr2 : r / 10 < 18446744073709551616 := by omega
    rw [dpad, List.reverse_cons, List.append_assoc, List.singleton_append]
    obtain ⟨d, hde⟩ : ∃ d, r % 10 = d := ⟨_, rfl⟩
    obtain ⟨r2, hr2e⟩ : ∃ d, r / 10 = d := ⟨_, rfl⟩
    rw [hde] at hd he q1 h0 ⊢
    rw [hr2e] at q2 h0 hr2 ⊢
    have w1 : IntKind.u64.wrap ((48 : Int) + d) = ((48 + d : Nat) : Int) := by rw [wrap_u64] <;> omega
    have w2 : IntKind.i32.wrap ((48 + d : Nat) : Int) = (48 : Int) + d := by
      simp only [IntKind.wrap, IntKind.signed, IntKind.bits]
      simp
      omega
    have w3 := u64_nat (k := r2) hr2
    have q3 : binInt .quo .u64 r 10 = some (.int .u64 (r2 : Nat)) := by rw [binInt_quo, if_neg (by decide), q2, w3]
    have q4 : binInt .rem .u64 r 10 = some (.int .u64 (d : Nat)) := by rw [binInt_rem, if_neg (by decide), q1]
    have e1 : tx [db d] ++ tx l = tx (db d :: l) := tx_append _ _
    obtain ⟨z, hz⟩ : ∃ z, 48 + d = z := ⟨_, rfl⟩
    rw [hz] at w1 w2
    have e2 : 1 + l.length ≤ 9223372036854775807 := by omega
    rw [succ_cast] at h0
    rw [← h0, ex2_limbs_Print]
    simp [-binInt_quo, -binInt_rem, hlt, hw, q3, q4, w1, w2, he, e1, e2]
end Go.AM.F
