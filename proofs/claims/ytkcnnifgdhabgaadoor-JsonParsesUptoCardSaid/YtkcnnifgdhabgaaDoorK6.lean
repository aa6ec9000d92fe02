/- JSON: the program's reader: a character; texts. No conditions. -/
import Derived.Test.YtkcnnifgdhabgaaDoorK5
namespace Go.AM.F
open Go Go.AM
set_option maxRecDepth 10000
set_option linter.unusedSimpArgs false

attribute [local simp] j0_utf8_DecodeRune j1_utf8_DecodeRune j2_utf8_DecodeRune w0_utf8_DecodeRune b_utf8_DecodeRune a_utf8_DecodeRune
theorem dec_slow (M : List UInt8) (h0 : 0 < M.length) (h1 : ¬ lt M 0 < 128) {x m : Int} (hs : Cinf T n_utf8_decodeRuneSlow [.ro 1 (bl M)] = some (.tup [.v (.int .i32 x), .v (.int .i64 m)], [.dead])) : Cinf T n_utf8_DecodeRune [.ro 1 (bl M)] = some (.tup [.v (.int .i32 x), .v (.int .i64 m)], [.dead]) := by
  simp [run_utf8_DecodeRune, Run, ex0_utf8_DecodeRune, h0, bl_getE h0, h1, hs]
theorem dec_fast (M : List UInt8) (h0 : 0 < M.length) (h1 : lt M 0 < 128) : Cinf T n_utf8_DecodeRune [.ro 1 (bl M)] = some (.tup [.v (.int .i32 (lt M 0 : Nat)), .v (.int .i64 1)], [.dead]) := by
  have hw : IntKind.i32.wrap (lt M 0 : Int) = (lt M 0 : Int) := by rw [wrap_i32] <;> omega
  simp [run_utf8_DecodeRune, Run, ex0_utf8_DecodeRune, h0, bl_getE h0, h1, hw]
theorem told_of {M : List UInt8} {sz : Nat} {p : Prop} (hsz : 2 ≤ sz) (hy : p → uc M = sz) (hn : ¬ p → uc M = 0)
    (h : (p ∧ ∃ y : Int, Cinf T n_utf8_decodeRuneSlow [.ro 1 (bl M)] = some (.tup [.v (.int .i32 y), .v (.int .i64 sz)], [.dead])) ∨ (¬ p ∧ Cinf T n_utf8_decodeRuneSlow [.ro 1 (bl M)] = some (.tup [.v (.int .i32 65533), .v (.int .i64 1)], [.dead]))) :
    ∃ x m : Int, Cinf T n_utf8_decodeRuneSlow [.ro 1 (bl M)] = some (.tup [.v (.int .i32 x), .v (.int .i64 m)], [.dead]) ∧ Told x m (uc M) := by
  rcases h with ⟨hp, y, h⟩ | ⟨hp, h⟩
  · refine ⟨y, sz, h, ?_⟩
    rw [hy hp]
    exact ⟨by omega, fun _ => ⟨rfl, by omega⟩⟩
  · refine ⟨65533, 1, h, ?_⟩
    rw [hn hp]
    exact told_err
theorem slow_told (M : List UInt8) (h0 : 0 < M.length) (h1 : ¬ lt M 0 < 128) : ∃ x m : Int, Cinf T n_utf8_decodeRuneSlow [.ro 1 (bl M)] = some (.tup [.v (.int .i32 x), .v (.int .i64 m)], [.dead]) ∧ Told x m (uc M) := by
  have hne : ¬ M.length = 0 := by omega
  have hsm := lt_small M 0
  have bad : fstv (lt M 0) = 241 → uc M = 0 → ∃ x m : Int, Cinf T n_utf8_decodeRuneSlow [.ro 1 (bl M)] = some (.tup [.v (.int .i32 x), .v (.int .i64 m)], [.dead]) ∧ Told x m (uc M) := fun hb hu => ⟨65533, 1, slow_bad M h0 hb, by rw [hu]; exact told_err⟩
  by_cases a1 : lt M 0 < 194
  · exact bad (by simp [fstv, h1, a1]) (by simp [uc, hne, h1, a1])
  by_cases a2 : lt M 0 < 224
  · have hf : fstv (lt M 0) = 2 := by simp [fstv, h1, a1, a2]
    have hu : uc M = if 1 < M.length ∧ cont (lt M 1) = true then 2 else 0 := by simp [uc, hne, h1, a1, a2]
    refine told_of (by decide) ?_ ?_ (slow_good M h0 (sz := 2) (k := 0) (lo := 128) (hi := 191) hf (by decide) (by rfl) (by rfl) (by decide) (by kernel_rfl) (by simp))
    · rintro ⟨k1, k2, k3, _⟩
      rw [hu, if_pos ⟨by omega, by simp [cont, k2, k3]⟩]
    · intro k
      rw [hu, if_neg fun hh => k ?_]
      have := hh.2
      simp only [cont, Bool.and_eq_true, decide_eq_true_eq] at this
      exact ⟨by omega, this.1, this.2, by omega, by omega⟩
  have three : ∀ {f k : Nat}, lt M 0 < 240 → fstv (lt M 0) = f → f < 240 → IntKind.u8.wrap (BitVec.ofInt IntKind.u8.bits (f : Int) &&& BitVec.ofInt IntKind.u8.bits 7).toNat = ((3 : Nat) : Int) → (f : Int).fdiv 16 = (k : Int) → k < 16 → (glob1.drop (k * 2)).take 2 = [.v (.int .u8 (lo1 (lt M 0) : Nat)), .v (.int .u8 (hi1 (lt M 0) : Nat))] →
      ∃ x m : Int, Cinf T n_utf8_decodeRuneSlow [.ro 1 (bl M)] = some (.tup [.v (.int .i32 x), .v (.int .i64 m)], [.dead]) ∧ Told x m (uc M) := by
    intro f k a3 hf g1 g2 g3 g4 g5
    have hu : uc M = if 2 < M.length ∧ in1 (lt M 0) (lt M 1) = true ∧ cont (lt M 2) = true then 3 else 0 := by simp [uc, hne, h1, a1, a2, a3]
    refine told_of (by decide) ?_ ?_ (slow_good M h0 hf g1 g2 g3 g4 g5 (by simp))
    · rintro ⟨k1, k2, k3, k4, _⟩
      rw [hu, if_pos ⟨by omega, by simp [in1, k2, k3], k4 (by omega)⟩]
    · intro k
      rw [hu, if_neg fun hh => k ?_]
      have := hh.2.1
      simp only [in1, Bool.and_eq_true, decide_eq_true_eq] at this
      exact ⟨by omega, this.1, this.2, fun _ => hh.2.2, by omega⟩
  have four : ∀ {f k : Nat}, ¬ lt M 0 < 240 → lt M 0 < 245 → fstv (lt M 0) = f → f < 240 → IntKind.u8.wrap (BitVec.ofInt IntKind.u8.bits (f : Int) &&& BitVec.ofInt IntKind.u8.bits 7).toNat = ((4 : Nat) : Int) → (f : Int).fdiv 16 = (k : Int) → k < 16 → (glob1.drop (k * 2)).take 2 = [.v (.int .u8 (lo1 (lt M 0) : Nat)), .v (.int .u8 (hi1 (lt M 0) : Nat))] →
      ∃ x m : Int, Cinf T n_utf8_decodeRuneSlow [.ro 1 (bl M)] = some (.tup [.v (.int .i32 x), .v (.int .i64 m)], [.dead]) ∧ Told x m (uc M) := by
    intro f k a3 a4 hf g1 g2 g3 g4 g5
    have hu : uc M = if 3 < M.length ∧ in1 (lt M 0) (lt M 1) = true ∧ cont (lt M 2) = true ∧ cont (lt M 3) = true then 4 else 0 := by simp [uc, hne, h1, a1, a2, a3, a4]
    refine told_of (by decide) ?_ ?_ (slow_good M h0 hf g1 g2 g3 g4 g5 (by simp))
    · rintro ⟨k1, k2, k3, k4, k5⟩
      rw [hu, if_pos ⟨by omega, by simp [in1, k2, k3], k4 (by omega), k5 (by omega)⟩]
    · intro k
      rw [hu, if_neg fun hh => k ?_]
      have := hh.2.1
      simp only [in1, Bool.and_eq_true, decide_eq_true_eq] at this
      exact ⟨by omega, this.1, this.2, fun _ => hh.2.2.1, fun _ => hh.2.2.2⟩
  by_cases a3 : lt M 0 < 240
  · by_cases b1 : lt M 0 = 224
    · exact three (f := 19) (k := 1) a3 (by rw [b1]; rfl) (by decide) (by rfl) (by rfl) (by decide) (by rw [b1]; kernel_rfl)
    by_cases b2 : lt M 0 = 237
    · exact three (f := 35) (k := 2) a3 (by rw [b2]; rfl) (by decide) (by rfl) (by rfl) (by decide) (by rw [b2]; kernel_rfl)
    have n1 : ¬ lt M 0 = 240 := by omega
    have n2 : ¬ lt M 0 = 244 := by omega
    refine three (f := 3) (k := 0) a3 ?_ (by decide) (by rfl) (by rfl) (by decide) (by simp only [lo1, hi1, b1, b2, n1, n2, if_false]; kernel_rfl)
    by_cases b3 : lt M 0 < 237
    · simp [fstv, h1, a1, a2, b1, b3]
    · simp [fstv, h1, a1, a2, b1, b2, b3, a3]
  by_cases a4 : lt M 0 < 245
  · by_cases b1 : lt M 0 = 240
    · exact four (f := 52) (k := 3) a3 a4 (by rw [b1]; rfl) (by decide) (by rfl) (by rfl) (by decide) (by rw [b1]; kernel_rfl)
    by_cases b2 : lt M 0 = 244
    · exact four (f := 68) (k := 4) a3 a4 (by rw [b2]; rfl) (by decide) (by rfl) (by rfl) (by decide) (by rw [b2]; kernel_rfl)
    have n1 : ¬ lt M 0 = 224 := by omega
    have n2 : ¬ lt M 0 = 237 := by omega
    have n3 : ¬ lt M 0 < 237 := by omega
    have b3 : lt M 0 < 244 := by omega
    exact four (f := 4) (k := 0) a3 a4 (by simp [fstv, h1, a1, a2, n1, n2, n3, a3, b1, b3]) (by decide) (by rfl) (by rfl) (by decide) (by simp only [lo1, hi1, b1, b2, n1, n2, if_false]; kernel_rfl)
  · have n1 : ¬ lt M 0 = 224 := by omega
    have n2 : ¬ lt M 0 = 237 := by omega
    have n3 : ¬ lt M 0 < 237 := by omega
    have n4 : ¬ lt M 0 = 240 := by omega
    have n5 : ¬ lt M 0 < 244 := by omega
    have n6 : ¬ lt M 0 = 244 := by omega
    exact bad (by simp [fstv, h1, a1, a2, n1, n2, n3, n4, n5, n6, a3]) (by simp [uc, hne, h1, a1, a2, a3, a4])
theorem c_decode (M : List UInt8) (h0 : 0 < M.length) : ∃ x m : Int, Cinf T n_utf8_DecodeRune [.ro 1 (bl M)] = some (.tup [.v (.int .i32 x), .v (.int .i64 m)], [.dead]) ∧ Told x m (uc M) := by
  by_cases h1 : lt M 0 < 128
  · refine ⟨_, _, dec_fast M h0 h1, ?_⟩
    have hu : uc M = 1 := by
      have hne : ¬ M.length = 0 := by omega
      simp [uc, hne, h1]
    rw [hu]
    exact ⟨by omega, fun _ => ⟨rfl, fun _ => by omega⟩⟩
  · obtain ⟨x, m, k1, k2⟩ := slow_told M h0 h1
    exact ⟨x, m, dec_slow M h0 h1 k1, k2⟩
theorem uc_le (M : List UInt8) : uc M ≤ M.length ∧ uc M ≤ 4 := by
  unfold uc
  repeat' split
  all_goals omega
end Go.AM.F
