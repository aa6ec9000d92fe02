/- JSON: the letters that are written with an escape: where a rune stands among them. No conditions. -/
import Derived.Test.YtkcnnifgdhabgaaDoorP10
import Derived.Laws.Runes
import Derived.Test.YtkcnnifgdhabgaaDoorK4
namespace Go.AM.F
open Go Go.AM
set_option maxRecDepth 10000
set_option linter.unusedSimpArgs false

theorem encode_last (r : Int) (hv : Utf8.valid r = true) (h128 : 128 ≤ r) :
    ∃ n c : Nat, (n = 1 ∨ n = 2 ∨ n = 3) ∧ (Utf8.encode r).size = n + 1 ∧ 128 ≤ c ∧ c < 256 ∧ ∀ h : n < (Utf8.encode r).data.size, ((Utf8.encode r).data[n]'h).toNat = c := by
  have hc : ¬ r.toNat < 128 := by omega
  unfold Utf8.encode
  simp only [hv, if_true, hc, if_false]
  split
  · exact ⟨1, (UInt8.ofNat (128 + r.toNat % 64)).toNat, by omega, rfl, by simp; omega, by simp; omega, fun _ => rfl⟩
  · split
    · exact ⟨2, (UInt8.ofNat (128 + r.toNat % 64)).toNat, by omega, rfl, by simp; omega, by simp; omega, fun _ => rfl⟩
    · exact ⟨3, (UInt8.ofNat (128 + r.toNat % 64)).toNat, by omega, rfl, by simp; omega, by simp; omega, fun _ => rfl⟩
attribute [local simp] j0_utf8_ValidRune b_utf8_ValidRune a_utf8_ValidRune
theorem c_ValidRune (r : Int) (h : 128 ≤ r) (hv : r < 55296 ∨ (57344 ≤ r ∧ r ≤ 1114111)) : Cinf T n_utf8_ValidRune [.v (.int .i32 r)] = some (.v (.bool true), [.dead]) := by
  rcases hv with h1 | ⟨h1, h2⟩
  · have h0 : (0 : Int) ≤ r := by omega
    simp [run_utf8_ValidRune, Run, h0, h1]
  · have h0 : (0 : Int) ≤ r := by omega
    have h3 : ¬ r < 55296 := by omega
    have h4 : 57343 < r := by omega
    simp [run_utf8_ValidRune, Run, h0, h2, h3, h4]
theorem none_all : (List.range 256).all (fun c => decide (c < 128) || (decide (firstIdx (sTo.extract 2 8) c.toUInt8 = -1) && decide (firstIdx (sTo.extract 3 8) c.toUInt8 = -1) && decide (firstIdx (sTo.extract 4 8) c.toUInt8 = -1))) = true := by kernel_rfl
theorem none_of {c : Nat} (h : 128 ≤ c) (h2 : c < 256) : firstIdx (sTo.extract 2 8) c.toUInt8 = -1 ∧ firstIdx (sTo.extract 3 8) c.toUInt8 = -1 ∧ firstIdx (sTo.extract 4 8) c.toUInt8 = -1 := by
  have := List.all_eq_true.1 none_all c (by simpa using h2)
  simp only [Bool.or_eq_true, Bool.and_eq_true, decide_eq_true_eq] at this
  omega
attribute [local simp] w0_strings_IndexRune j0_strings_IndexRune j1_strings_IndexRune j7_strings_IndexRune w1_strings_IndexRune b_strings_IndexRune a_strings_IndexRune
theorem ir_low (r : Nat) (h : r < 128) : Cinf T n_strings_IndexRune [.v (.string sTo), .v (.int .i32 r)] = some (.v (.int .i64 (firstIdx sTo r.toUInt8)), [.dead, .dead]) := by
  have hc := c_IndexByte sTo (r : Int)
  have hw : IntKind.u8.wrap (r : Int) = r := by
    unfold IntKind.wrap
    simp [IntKind.signed, IntKind.bits]
    omega
  have h1 : (r : Int) < 128 := by omega
  simp only [Int.toNat_natCast] at hc
  simp [run_strings_IndexRune, Run, hc, h1, h, hw]
theorem dec_to : (List.range 8).all (fun i => decide ((Utf8.decode sTo i).2 = 1) && decide ((Utf8.decode sTo i).1 < 128)) = true := by kernel_rfl
theorem dec_at {i : Nat} (h : i < 8) : (Utf8.decode sTo i).2 = 1 ∧ (Utf8.decode sTo i).1 < 128 := by
  have := List.all_eq_true.1 dec_to i (by simpa using h)
  simpa using this
theorem to_size : sTo.size = 8 := rfl
attribute [local simp] nextPV rangePV
theorem err_loop : ∀ (m i : Nat), 8 - i = m → i ≤ 8 → ∃ e', Exec T l0_strings_IndexRune [(175, .iter sTo i)] = some (.exit 9, e') := by
  intro m
  induction m with
  | zero =>
    intro i hm hi
    obtain rfl : i = 8 := by omega
    have hs := to_size
    refine ⟨[(175, .iter sTo 8), (176, .tup [.v (.bool false)])], ?_⟩
    rw [ex0_strings_IndexRune]
    generalize sTo = s at *
    simp [hs]
  | succ m ih =>
    intro i hm hi
    have hlt : i < 8 := by omega
    obtain ⟨e', h0⟩ := ih (i + 1) (by omega) (by omega)
    refine ⟨e', ?_⟩
    have hk : ∀ x y, Exec T l0_strings_IndexRune [(5, x), (175, y)] = Exec T l0_strings_IndexRune [(175, y)] := fun x y => (ex0_strings_IndexRune [(5, x), (175, y)]).trans (ex0_strings_IndexRune [(175, y)]).symm
    rw [← h0, ex0_strings_IndexRune]
    obtain ⟨d1, d2⟩ := dec_at hlt
    have d3 : ¬ ((Utf8.decode sTo i).1 : Int) = 65533 := by omega
    have hs := to_size
    generalize sTo = s at *
    simp [hs, hlt, d1, d3, hk]
theorem ir_err : Cinf T n_strings_IndexRune [.v (.string sTo), .v (.int .i32 65533)] = some (.v (.int .i64 (-1)), [.dead, .dead]) := by
  obtain ⟨e', h0⟩ := err_loop 8 0 rfl (by omega)
  generalize sTo = s at *
  simp [run_strings_IndexRune, Run, h0, -w0_strings_IndexRune]
theorem ir_high (r : Int) (h : 128 ≤ r) (hv : r < 55296 ∨ (57344 ≤ r ∧ r ≤ 1114111)) (hn : r ≠ 65533) : Cinf T n_strings_IndexRune [.v (.string sTo), .v (.int .i32 r)] = some (.v (.int .i64 (-1)), [.dead, .dead]) := by
  have hc := c_ValidRune r h hv
  have hv2 : Utf8.valid r = true := by
    unfold Utf8.valid
    simp
    omega
  obtain ⟨n, c, h1, h2, h3, hc1, hc0⟩ := encode_last r hv2 h
  have g1 : ¬ r < 128 := by omega
  have g0 : (0 : Int) ≤ r := by omega
  obtain ⟨k2, k3, k4⟩ := none_of h3 hc1
  have b2 := c_IndexByte (sTo.extract 2 8) (c : Int)
  have b3 := c_IndexByte (sTo.extract 3 8) (c : Int)
  have b4 := c_IndexByte (sTo.extract 4 8) (c : Int)
  rw [Int.toNat_natCast, k2] at b2
  rw [Int.toNat_natCast, k3] at b3
  rw [Int.toNat_natCast, k4] at b4
  have hs := to_size
  have s1 : ∀ h : 1 < sTo.data.size, (sTo.data[1]'h).toNat = 92 := fun _ => rfl
  have s2 : ∀ h : 2 < sTo.data.size, (sTo.data[2]'h).toNat = 47 := fun _ => rfl
  have s3 : ∀ h : 3 < sTo.data.size, (sTo.data[3]'h).toNat = 8 := fun _ => rfl
  have e1 : ¬ (92 : Int) = c := by omega
  have e2 : ¬ (47 : Int) = c := by omega
  have e3 : ¬ (8 : Int) = c := by omega
  generalize sTo = s at *
  rcases h1 with rfl | rfl | rfl
  · simp [run_strings_IndexRune, Run, g0, g1, hn, hc, ex1_strings_IndexRune, h2, hs, hc0, s1, e1, b2]
  · simp [run_strings_IndexRune, Run, g0, g1, hn, hc, ex1_strings_IndexRune, h2, hs, hc0, s2, e2, b3]
  · simp [run_strings_IndexRune, Run, g0, g1, hn, hc, ex1_strings_IndexRune, h2, hs, hc0, s3, e3, b4]
end Go.AM.F
