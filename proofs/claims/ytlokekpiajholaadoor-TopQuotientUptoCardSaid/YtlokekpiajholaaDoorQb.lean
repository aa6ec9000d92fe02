/- TopQuotient, whole. No conditions. -/
import Derived.Test.YtlokekpiajholaaDoorQa
import Derived.Test.YtlokekpiajholaaDoorQ0
/- The word of the binary64 nearest to any quotient: plain law. No conditions. -/
namespace Go.AM.F
open Go Go.AM
set_option maxRecDepth 10000
set_option exponentiation.threshold 110000

/-- The word, without its sign. -/
noncomputable def W (n d : Nat) : Nat := if n = 0 then 0 else min (rung n d (theE n d)) infR
theorem W_le (n d : Nat) : W n d ≤ infR := by
  unfold W
  split
  · exact Nat.zero_le _
  · exact Nat.min_le_right _ _
theorem W_scale {n d g : Nat} (hg : 0 < g) (hd : 0 < d) : W (g * n) (g * d) = W n d := by
  unfold W
  by_cases h : n = 0
  · subst h
    simp
  · rw [if_neg h, if_neg (Nat.mul_ne_zero (by omega) h), rung_scale hg h hd]
/-- Above all numbers. -/
theorem rung_top {n d : Nat} (hn : n ≠ 0) (hd : 0 < d) (h : 972 ≤ theE n d) : infR ≤ rung n d (theE n d) := by
  have his := theE_is hn hd
  have h1 := theE_full hd his (by omega)
  have h2 := theM_ge (n := n) (d := d) (e := theE n d)
  have hi : infR = 9218868437227405312 := rfl
  unfold rung
  have : 2046 ≤ (theE n d + 1074).toNat := by omega
  have h3 := Nat.mul_le_mul_right 4503599627370496 this
  omega
theorem W_top {n d : Nat} (hn : n ≠ 0) (hd : 0 < d) (h : 2 ^ 1024 * d ≤ n) : W n d = infR := by
  unfold W
  rw [if_neg hn]
  refine Nat.min_eq_right (rung_top hn hd (Int.not_lt.1 fun hc => ?_))
  have his := theE_is hn hd
  have h1 := qQ_le (n := n) hd (show theE n d ≤ 971 by omega)
  have h2 := his.fits
  have h3 : 9007199254740992 ≤ qQ n d 971 := by
    unfold qQ qA qB
    rw [Nat.le_div_iff_mul_le (Nat.mul_pos hd (Nat.two_pow_pos _)), show (-(971 : Int)).toNat = 0 from rfl, show (971 : Int).toNat = 971 from rfl, Nat.pow_zero, Nat.mul_one]
    refine Nat.le_trans (Nat.le_of_eq ?_) h
    rw [show (9007199254740992 : Nat) = 2 ^ 53 by decide, Nat.mul_comm d, ← Nat.mul_assoc, ← Nat.pow_add]
  omega
/-- Below all numbers but nought. -/
theorem W_low {n d : Nat} (hd : 0 < d) (h : n * 2 ^ 1076 ≤ d) : W n d = 0 := by
  unfold W
  by_cases hn : n = 0
  · rw [if_pos hn]
  rw [if_neg hn]
  have hA : 4 * qA n (-1074) ≤ d := by
    refine Nat.le_trans (Nat.le_of_eq ?_) h
    unfold qA
    rw [show (-(-1074 : Int)).toNat = 1074 from rfl, show (4 : Nat) = 2 ^ 2 by decide, ← Nat.mul_assoc, Nat.mul_comm (2 ^ 2), Nat.mul_assoc, ← Nat.pow_add]
  have hB : qB d (-1074) = d := by
    unfold qB
    rw [show ((-1074 : Int)).toNat = 0 from rfl, Nat.pow_zero, Nat.mul_one]
  have hq : qQ n d (-1074) = 0 := by
    unfold qQ
    rw [hB, Nat.div_eq_of_lt (by omega)]
  have hE : theE n d = -1074 := by
    have his := theE_is hn hd
    have hk : IsE n d (-1074) := ⟨by omega, by omega, .inl rfl⟩
    exact his.unique hd hk
  have hM : theM n d (-1074) = 0 := by
    unfold theM rnd
    rw [hB, Nat.div_eq_of_lt (by omega), Nat.mod_eq_of_lt (by omega), if_neg (by omega)]
  rw [hE]
  unfold rung
  rw [hM]
  rfl
theorem loE_theE (n d : Nat) : loE n d ≤ theE n d ∧ theE n d ≤ loE n d + 1 := by
  unfold theE
  rw [upE]
  split
  · rw [upE]; omega
  · omega
/-- What is made of the walk's answer. -/
theorem W_end {n d : Nat} (hn : n ≠ 0) (hd : 0 < d) : (endE n d (theE n d) ≤ 971 → rung n d (theE n d) < infR ∧ W n d = rung n d (theE n d) ∧
    rung n d (theE n d) = if endM n d (theE n d) < 4503599627370496 then endM n d (theE n d) else (endE n d (theE n d) + 1075).toNat * 4503599627370496 + (endM n d (theE n d) - 4503599627370496)) ∧ (¬ endE n d (theE n d) ≤ 971 → W n d = infR) := by
  have h := theE_is hn hd
  have h1 := theM_le h
  have h2 := h.lo
  have h3 := theM_ge (n := n) (d := d) (e := theE n d)
  have h4 : -1074 < theE n d → 4503599627370496 ≤ qQ n d (theE n d) := theE_full hd h
  have hi : infR = 9218868437227405312 := rfl
  unfold W
  rw [if_neg hn]
  unfold rung endE endM
  generalize theE n d = e at *
  generalize theM n d e = m at *
  generalize qQ n d e = q at *
  by_cases hm : m = 9007199254740992
  · rw [if_pos hm, if_pos hm, if_neg (by omega)]
    refine ⟨fun hc => ⟨by omega, Nat.min_eq_left (by omega), ?_⟩, fun hc => Nat.min_eq_right ?_⟩
    · have : (e + 1 + 1075).toNat = (e + 1074).toNat + 2 := by omega
      rw [this, Nat.add_mul]
      omega
    · have := Nat.mul_le_mul_right 4503599627370496 (show 2045 ≤ (e + 1074).toNat by omega)
      omega
  · rw [if_neg hm, if_neg hm]
    refine ⟨fun hc => ⟨by omega, Nat.min_eq_left (by omega), ?_⟩, fun hc => Nat.min_eq_right ?_⟩
    · split
      · have : e = -1074 := by
          rcases Int.lt_or_le (-1074) e with hl | hl
          · have := h4 hl; omega
          · omega
        subst this
        omega
      · have : (e + 1075).toNat = (e + 1074).toNat + 1 := by omega
        rw [this, Nat.add_mul]
        omega
    · have := h4 (by omega)
      have := Nat.mul_le_mul_right 4503599627370496 (show 2046 ≤ (e + 1074).toNat by omega)
      omega
end Go.AM.F

/- floats.number of any quotient. No conditions. -/
namespace Go.AM.F
open Go Go.AM
set_option maxRecDepth 10000
set_option linter.unusedSimpArgs false
set_option exponentiation.threshold 110000
attribute [local simp] j0_floats_format_nearest j1_floats_format_nearest j2_floats_format_nearest j3_floats_format_nearest w0_floats_format_nearest j4_floats_format_nearest j5_floats_format_nearest b_floats_format_nearest a_floats_format_nearest
attribute [local simp] j0_floats_number j1_floats_number b_floats_number a_floats_number
theorem c_fnearest0 (d : Nat) : Cinf T n_floats_format_nearest [.agg wideB, .ro 1 (ul (limbs 0)), .ro 1 (ul (limbs d))] = some (.tup [.v (.int .u64 0), .v (.int .i64 (-1074)), .v (.bool true)], [.dead, .dead, .dead]) := by
  have v1 := c_Len (limbs 0) (by rw [limbs_zero]; exact ⟨Lim.nil, by decide⟩)
  rw [val_limbs, nbits_zero] at v1
  rw [run_floats_format_nearest]
  simp [Run, wideB, v1]
theorem c_fnearestX (n d : Nat) (hn : Big n) (hd : Big d) (hn0 : n ≠ 0) (h : 973 < loE n d) :
    Cinf T n_floats_format_nearest [.agg wideB, .ro 1 (ul (limbs n)), .ro 1 (ul (limbs d))] = some (.tup [.v (.int .u64 0), .v (.int .i64 0), .v (.bool false)], [.dead, .dead, .dead]) := by
  have fn : Fit (limbs n) := fit_bits hn.lt (by decide)
  have fd : Fit (limbs d) := fit_bits hd.lt (by decide)
  have v1 := c_Len (limbs n) fn
  have v2 := c_Len (limbs d) fd
  rw [val_limbs] at v1 v2
  have b1 := nbits_le hn.lt
  have b2 := nbits_le hd.lt
  have hz : ¬ nbits n = 0 := by rw [nbits_pos hn0]; omega
  have w1 : IntKind.i64.wrap ((nbits n : Int) - nbits d) = (nbits n : Int) - nbits d := by rw [wrap_i64] <;> omega
  have w2 : IntKind.i64.wrap ((nbits n : Int) - nbits d - 53) = (nbits n : Int) - nbits d - 53 := by rw [wrap_i64] <;> omega
  have hmax : (if (nbits n : Int) - nbits d - 53 < -1074 then -1074 else (nbits n : Int) - nbits d - 53) = loE n d := by unfold loE; omega
  have hmx : max ((nbits n : Int) - nbits d - 53) (-1074) = loE n d := rfl
  rw [run_floats_format_nearest]
  simp [Run, wideB, v1, v2, hz, w1, w2, hmx, hmax, h]
theorem W_zero (d : Nat) : W 0 d = 0 := by unfold W; rw [if_pos rfl]
theorem sign_or {r x : Nat} (hr : r ≤ infR) (hx : 9223372036854775808 + r = x) : binInt .or .u64 (r : Nat) 9223372036854775808 = some (.int .u64 (x : Nat)) := by
  have hi : infR = 9218868437227405312 := rfl
  exact or64 (x := r) (y := 9223372036854775808) (by omega) (by decide) ((or_low (c := r) (x := 1) (r := 63) (by omega)).trans (by omega))
theorem inf_out (neg : Bool) (n d : Nat) {m : Nat} {e : Int} (v1 : Cinf T n_floats_format_nearest [.agg wideB, .ro 1 (ul (limbs n)), .ro 1 (ul (limbs d))] = some (.tup [.v (.int .u64 m), .v (.int .i64 e), .v (.bool false)], [.dead, .dead, .dead])) :
    Cinf T n_floats_number [.v (.bool neg), .ro 1 (ul (limbs n)), .ro 1 (ul (limbs d))] = some (.v (.float .f64 (wrd neg infR)), [.dead, .dead, .dead]) := by
  have g1 : glob1 = wideB := rfl
  have hi : infR = 9218868437227405312 := rfl
  obtain ⟨x, hx⟩ : ∃ x, 9223372036854775808 + infR = x := ⟨_, rfl⟩
  have hor := sign_or (Nat.le_refl infR) hx
  rw [hi] at hor
  have hor2 : binInt .or .u64 9218868437227405312 9223372036854775808 = some (.int .u64 (x : Nat)) := hor
  unfold wideB at v1
  rw [run_floats_number]
  unfold wrd
  cases neg with
  | true =>
    rw [if_pos rfl, hx]
    simp [-binInt_or, Run, g1, wideB, v1, hor2]
  | false =>
    rw [if_neg (by simp), hi]
    simp [-binInt_or, Run, g1, wideB, v1]
theorem c_numberW (neg : Bool) (n d : Nat) (hn : Big n) (hd : Big d) (hd0 : d ≠ 0) :
    Cinf T n_floats_number [.v (.bool neg), .ro 1 (ul (limbs n)), .ro 1 (ul (limbs d))] = some (.v (.float .f64 (wrd neg (W n d))), [.dead, .dead, .dead]) := by
  have g1 : glob1 = wideB := rfl
  by_cases hn0 : n = 0
  · subst hn0
    have v1 := c_fnearest0 d
    unfold wideB at v1
    rw [W_zero]
    have hor : binInt .or .u64 0 9223372036854775808 = some (.int .u64 9223372036854775808) := sign_or (r := 0) (Nat.zero_le _) rfl
    rw [run_floats_number]
    unfold wrd
    cases neg with
    | true => simp [-binInt_or, Run, g1, wideB, v1, hor]
    | false => simp [-binInt_or, Run, g1, wideB, v1]
  by_cases hx : 973 < loE n d
  · have hW : W n d = infR := by
      unfold W
      rw [if_neg hn0]
      have := loE_theE n d
      exact Nat.min_eq_right (rung_top hn0 (Nat.pos_of_ne_zero hd0) (by omega))
    rw [hW]
    exact inf_out neg n d (c_fnearestX n d hn hd hn0 hx)
  have v1 := c_fnearest n d hn hd hn0 hd0 (by omega)
  obtain ⟨he1, he2⟩ := W_end hn0 (Nat.pos_of_ne_zero hd0)
  by_cases hE : endE n d (theE n d) ≤ 971
  · obtain ⟨e2, eW, e3⟩ := he1 hE
    rw [eW]
    have his := theE_is hn0 (Nat.pos_of_ne_zero hd0)
    have hlo := his.lo
    have hlo2 : -1074 ≤ endE n d (theE n d) := by unfold endE; split <;> omega
    have hm : endM n d (theE n d) < 9007199254740992 := by
      have := theM_le his
      unfold endM
      split <;> omega
    rw [decide_eq_true hE] at v1
    unfold wideB at v1
    clear eW he1 he2 his hlo hx
    generalize endE n d (theE n d) = e at *
    generalize endM n d (theE n d) = m at *
    generalize rung n d (theE n d) = r at *
    have hi : infR = 9218868437227405312 := rfl
    obtain ⟨x, hx⟩ : ∃ x, 9223372036854775808 + r = x := ⟨_, rfl⟩
    have hor := sign_or (Nat.le_of_lt e2) hx
    rw [run_floats_number]
    unfold wrd
    by_cases hb : m < 4503599627370496
    · rw [if_pos hb] at e3
      subst e3
      cases neg with
      | true =>
        rw [if_pos rfl, hx]
        simp [-binInt_or, Run, g1, wideB, v1, hb, hor]
      | false => simp [-binInt_or, Run, g1, wideB, v1, hb]
    · rw [if_neg hb] at e3
      obtain ⟨k, hk⟩ : ∃ k : Nat, e + 1075 = k := ⟨(e + 1075).toNat, by omega⟩
      rw [hk, Int.toNat_natCast] at e3
      have w1 : IntKind.i64.wrap (e + 1075) = (k : Int) := by rw [hk, wrap_i64] <;> omega
      have w2 : IntKind.u64.wrap (k : Int) = (k : Int) := u64_nat (by omega)
      obtain ⟨mm, hmm⟩ : ∃ mm, m - 4503599627370496 = mm := ⟨_, rfl⟩
      obtain ⟨kk, hkk⟩ : ∃ kk, k * 4503599627370496 = kk := ⟨_, rfl⟩
      rw [hmm, hkk] at e3
      have w3 : IntKind.u64.wrap ((m : Int) - 4503599627370496) = (mm : Int) := wrap_less (b := 4503599627370496) (by omega) (by omega)
      have sh := shl52 hkk (by omega)
      have w4 : IntKind.u64.wrap ((kk : Int) + (mm : Int)) = (r : Int) := wrap_sum e3.symm (by omega)
      have hb' : ¬ (m : Int) < 4503599627370496 := by omega
      cases neg with
      | true =>
        rw [if_pos rfl, hx]
        simp [-binInt_or, -binInt_shl, Run, g1, wideB, v1, hb, hb', w1, w2, w3, sh, w4, hor]
      | false => simp [-binInt_or, -binInt_shl, Run, g1, wideB, v1, hb, hb', w1, w2, w3, sh, w4]
  · rw [he2 hE]
    rw [decide_eq_false hE] at v1
    exact inf_out neg n d v1
end Go.AM.F

/- The scanner of floats: bytes, sets, digits. No conditions. -/
namespace Go.AM.F
open Go Go.AM
set_option maxRecDepth 10000
set_option linter.unusedSimpArgs false
attribute [local simp] nextPV rangePV
attribute [local simp] j0_floats_scanner_takes w0_floats_scanner_takes j1_floats_scanner_takes b_floats_scanner_takes a_floats_scanner_takes
attribute [local simp] j0_floats_scanner_byte b_floats_scanner_byte a_floats_scanner_byte b_floats_digit a_floats_digit
attribute [local simp] j0_floats_scanner_run w0_floats_scanner_run j1_floats_scanner_run b_floats_scanner_run a_floats_scanner_run
attribute [local simp] j0_floats_scanner_word j1_floats_scanner_word w0_floats_scanner_word j2_floats_scanner_word b_floats_scanner_word a_floats_scanner_word
def scB (s : ByteArray) (i : Nat) : PV := .box [.v (.string s), .v (.int .i64 i)]
/-- Is this byte at the place? -/
def isAt (s : ByteArray) (i b : Nat) : Bool := decide (i < s.size ∧ ch s i = b)
def adv (b : Bool) : Nat := if b then 1 else 0
theorem c_byte (s : ByteArray) (i : Nat) (_ : s.size ≤ 4611686018427387903) : Cinf T n_floats_scanner_byte [scB s i] = some (.v (.int .u8 (if i < s.size then ch s i else 0 : Nat)), [scB s i]) := by
  rw [run_floats_scanner_byte]
  unfold scB
  by_cases h : i < s.size
  · simp [Run, h, ch_eq, home]
  · simp [Run, h, home]
theorem c_takes1 (s : ByteArray) (i : Nat) (hs : s.size ≤ 4611686018427387902) (b : UInt8) (hd : Utf8.decode ⟨#[b]⟩ 0 = (b.toNat, 1)) (hi : i ≤ s.size) :
    Cinf T n_floats_scanner_takes [scB s i, .v (.string ⟨#[b]⟩)] = some (.v (.bool (isAt s i b.toNat)), [scB s (i + adv (isAt s i b.toNat)), .dead]) := by
  have hsz : (ByteArray.mk #[b]).size = 1 := rfl
  obtain ⟨c, hc⟩ : ∃ c, b.toNat = c := ⟨_, rfl⟩
  have hcl : c < 256 := by rw [← hc]; exact UInt8.toNat_lt _
  rw [hc] at hd ⊢
  obtain ⟨t, ht⟩ : ∃ t, (ByteArray.mk #[b]) = t := ⟨_, rfl⟩
  rw [ht] at hd hsz ⊢
  have hw : IntKind.i64.wrap ((i : Int) + 1) = (i : Int) + 1 := by rw [wrap_i64] <;> omega
  have hcs := ch_small s i
  have w1 : IntKind.i32.wrap (ch s i : Int) = (ch s i : Int) := by
    simp only [IntKind.wrap, IntKind.signed, IntKind.bits]
    simp
    omega
  rw [run_floats_scanner_takes]
  unfold scB isAt adv
  by_cases h : i < s.size
  · by_cases h2 : ch s i = c
    · rw [decide_eq_true ⟨h, h2⟩, if_pos rfl]
      rw [h2] at w1
      have hfirst : Exec T l0_floats_scanner_takes [(0, .ref 100000 []), (8, .iter t 0), (100000, .box [.v (.string s), .v (.int .i64 i)])] = some (.ret, [(4, .v (.bool true)), (100000, .box [.v (.string s), .v (.int .i64 ((i : Int) + 1))])]) := by
        rw [ex0_floats_scanner_takes]
        simp [hsz, hd, h, h2, ch_eq, w1, hw]
      simp [Run, home, hfirst]
    · rw [decide_eq_false (fun k => h2 k.2)]
      have h3 : ¬ (ch s i : Int) = (c : Int) := by omega
      have hlast : Exec T l0_floats_scanner_takes [(0, .ref 100000 []), (8, .iter t 1), (100000, .box [.v (.string s), .v (.int .i64 i)])] = some (.exit 0, [(0, .ref 100000 []), (8, .iter t 1), (9, .tup [.v (.bool false)]), (100000, .box [.v (.string s), .v (.int .i64 i)])]) := by
        rw [ex0_floats_scanner_takes]
        simp [hsz]
      have hfirst : Exec T l0_floats_scanner_takes [(0, .ref 100000 []), (8, .iter t 0), (100000, .box [.v (.string s), .v (.int .i64 i)])] = some (.exit 0, [(0, .ref 100000 []), (8, .iter t 1), (9, .tup [.v (.bool false)]), (100000, .box [.v (.string s), .v (.int .i64 i)])]) := by
        rw [← hlast, ex0_floats_scanner_takes]
        simp [hsz, hd, h, h3, ch_eq, w1]
      simp [Run, home, hfirst]
  · rw [decide_eq_false (fun k => h k.1)]
    have hlast : Exec T l0_floats_scanner_takes [(0, .ref 100000 []), (8, .iter t 1), (100000, .box [.v (.string s), .v (.int .i64 i)])] = some (.exit 0, [(0, .ref 100000 []), (8, .iter t 1), (9, .tup [.v (.bool false)]), (100000, .box [.v (.string s), .v (.int .i64 i)])]) := by
      rw [ex0_floats_scanner_takes]
      simp [hsz]
    have hfirst : Exec T l0_floats_scanner_takes [(0, .ref 100000 []), (8, .iter t 0), (100000, .box [.v (.string s), .v (.int .i64 i)])] = some (.exit 0, [(0, .ref 100000 []), (8, .iter t 1), (9, .tup [.v (.bool false)]), (100000, .box [.v (.string s), .v (.int .i64 i)])]) := by
      rw [← hlast, ex0_floats_scanner_takes]
      simp [hsz, hd, h]
    simp [Run, home, hfirst]
theorem c_takes2 (s : ByteArray) (i : Nat) (hs : s.size ≤ 4611686018427387902) (hi : i ≤ s.size) :
    Cinf T n_floats_scanner_takes [scB s i, .v (.string ⟨#[101, 69]⟩)] = some (.v (.bool (isAt s i 101 || isAt s i 69)), [scB s (i + adv (isAt s i 101 || isAt s i 69)), .dead]) := by
  have hsz : (ByteArray.mk #[101, 69]).size = 2 := rfl
  have hd0 : Utf8.decode ⟨#[101, 69]⟩ 0 = (101, 1) := by decide +kernel
  have hd1 : Utf8.decode ⟨#[101, 69]⟩ 1 = (69, 1) := by decide +kernel
  obtain ⟨t, ht⟩ : ∃ t, (ByteArray.mk #[101, 69]) = t := ⟨_, rfl⟩
  rw [ht] at hd0 hd1 hsz ⊢
  have hw : IntKind.i64.wrap ((i : Int) + 1) = (i : Int) + 1 := by rw [wrap_i64] <;> omega
  have hcs := ch_small s i
  have w1 : IntKind.i32.wrap (ch s i : Int) = (ch s i : Int) := by
    simp only [IntKind.wrap, IntKind.signed, IntKind.bits]
    simp
    omega
  have hend : Exec T l0_floats_scanner_takes [(0, .ref 100000 []), (8, .iter t 2), (100000, .box [.v (.string s), .v (.int .i64 i)])] = some (.exit 0, [(0, .ref 100000 []), (8, .iter t 2), (9, .tup [.v (.bool false)]), (100000, .box [.v (.string s), .v (.int .i64 i)])]) := by
    rw [ex0_floats_scanner_takes]
    simp [hsz]
  rw [run_floats_scanner_takes]
  unfold scB isAt adv
  by_cases h : i < s.size
  · by_cases h2 : ch s i = 101
    · rw [decide_eq_true ⟨h, h2⟩, Bool.true_or, if_pos rfl]
      have w1 : IntKind.i32.wrap 101 = 101 := by decide
      have hfirst : Exec T l0_floats_scanner_takes [(0, .ref 100000 []), (8, .iter t 0), (100000, .box [.v (.string s), .v (.int .i64 i)])] = some (.ret, [(4, .v (.bool true)), (100000, .box [.v (.string s), .v (.int .i64 ((i : Int) + 1))])]) := by
        rw [ex0_floats_scanner_takes]
        simp [hsz, hd0, h, h2, ch_eq, w1, hw]
      simp [Run, home, hfirst]
    · rw [decide_eq_false (fun k => h2 k.2), Bool.false_or]
      by_cases h3 : ch s i = 69
      · rw [decide_eq_true ⟨h, h3⟩, if_pos rfl]
        have w1 : IntKind.i32.wrap 69 = 69 := by decide
        have hsec : Exec T l0_floats_scanner_takes [(0, .ref 100000 []), (8, .iter t 1), (100000, .box [.v (.string s), .v (.int .i64 i)])] = some (.ret, [(4, .v (.bool true)), (100000, .box [.v (.string s), .v (.int .i64 ((i : Int) + 1))])]) := by
          rw [ex0_floats_scanner_takes]
          simp [hsz, hd1, h, h3, ch_eq, w1, hw]
        have hfirst : Exec T l0_floats_scanner_takes [(0, .ref 100000 []), (8, .iter t 0), (100000, .box [.v (.string s), .v (.int .i64 i)])] = some (.ret, [(4, .v (.bool true)), (100000, .box [.v (.string s), .v (.int .i64 ((i : Int) + 1))])]) := by
          rw [← hsec, ex0_floats_scanner_takes]
          simp [hsz, hd0, h, h3, ch_eq, w1]
        simp [Run, home, hfirst]
      · rw [decide_eq_false (fun k => h3 k.2)]
        have hsec : Exec T l0_floats_scanner_takes [(0, .ref 100000 []), (8, .iter t 1), (100000, .box [.v (.string s), .v (.int .i64 i)])] = some (.exit 0, [(0, .ref 100000 []), (8, .iter t 2), (9, .tup [.v (.bool false)]), (100000, .box [.v (.string s), .v (.int .i64 i)])]) := by
          rw [← hend, ex0_floats_scanner_takes]
          simp [hsz, hd1, h, h3, ch_eq, w1]
        have hfirst : Exec T l0_floats_scanner_takes [(0, .ref 100000 []), (8, .iter t 0), (100000, .box [.v (.string s), .v (.int .i64 i)])] = some (.exit 0, [(0, .ref 100000 []), (8, .iter t 2), (9, .tup [.v (.bool false)]), (100000, .box [.v (.string s), .v (.int .i64 i)])]) := by
          rw [← hsec, ex0_floats_scanner_takes]
          simp [hsz, hd0, h, h2, ch_eq, w1]
        simp [Run, home, hfirst]
  · rw [decide_eq_false (fun k => h k.1), decide_eq_false (fun k => h k.1)]
    have hsec : Exec T l0_floats_scanner_takes [(0, .ref 100000 []), (8, .iter t 1), (100000, .box [.v (.string s), .v (.int .i64 i)])] = some (.exit 0, [(0, .ref 100000 []), (8, .iter t 2), (9, .tup [.v (.bool false)]), (100000, .box [.v (.string s), .v (.int .i64 i)])]) := by
      rw [← hend, ex0_floats_scanner_takes]
      simp [hsz, hd1, h]
    have hfirst : Exec T l0_floats_scanner_takes [(0, .ref 100000 []), (8, .iter t 0), (100000, .box [.v (.string s), .v (.int .i64 i)])] = some (.exit 0, [(0, .ref 100000 []), (8, .iter t 2), (9, .tup [.v (.bool false)]), (100000, .box [.v (.string s), .v (.int .i64 i)])]) := by
      rw [← hsec, ex0_floats_scanner_takes]
      simp [hsz, hd0, h]
    simp [Run, home, hfirst]
/-! ### Digits of both kinds -/
/-- No digit. -/
def badX (hex : Bool) (s : ByteArray) (k : Nat) : Bool := badDig s k && !(hex && (decide (97 ≤ ch s k ∧ ch s k ≤ 102) || decide (65 ≤ ch s k ∧ ch s k ≤ 70)))
def dgX (hex : Bool) (s : ByteArray) (k : Nat) : Nat := stop (badX hex s) (s.size - k) k
theorem dgX_le (hex : Bool) (s : ByteArray) {k : Nat} (h : k ≤ s.size) : k ≤ dgX hex s k ∧ dgX hex s k ≤ s.size := by
  have := stop_le (badX hex s) (s.size - k) k
  unfold dgX
  omega
theorem dgX_good (hex : Bool) (s : ByteArray) {k j : Nat} (h1 : k ≤ j) (h2 : j < dgX hex s k) : badX hex s j = false := stop_not _ _ _ _ h1 h2
theorem dgX_end (hex : Bool) (s : ByteArray) {k : Nat} (h : s.size ≤ k) : dgX hex s k = k := by
  unfold dgX
  rw [show s.size - k = 0 by omega]
  rfl
theorem dgX_here (hex : Bool) (s : ByteArray) {k : Nat} (h : k < s.size) (hb : badX hex s k = true) : dgX hex s k = k := by
  unfold dgX
  rw [show s.size - k = (s.size - k - 1) + 1 by omega, stop, if_pos hb]
theorem dgX_next (hex : Bool) (s : ByteArray) {k : Nat} (h : k < s.size) (hb : badX hex s k = false) : dgX hex s k = dgX hex s (k + 1) := by
  unfold dgX
  rw [show s.size - k = (s.size - (k + 1)) + 1 by omega, stop, hb]
  simp
theorem dgX_dec (s : ByteArray) (k : Nat) : dgX false s k = dgE s k := by
  unfold dgX dgE
  congr 1
  funext j
  unfold badX
  simp
theorem c_fdigit (hex : Bool) (s : ByteArray) (k : Nat) : Cinf T n_floats_digit [.v (.int .u8 (ch s k)), .v (.bool hex)] = some (.v (.bool (!badX hex s k)), [.dead, .dead]) := by
  rw [run_floats_digit]
  unfold badX badDig
  obtain ⟨c, hc⟩ : ∃ c, ch s k = c := ⟨_, rfl⟩
  rw [hc]
  by_cases h1 : 48 ≤ c
  · by_cases h2 : c ≤ 57
    · have g1 : ¬ c < 48 := by omega
      have g2 : ¬ 57 < c := by omega
      simp [Run, h1, h2, g1, g2]
    · have g2 : 57 < c := by omega
      cases hex with
      | false => simp [Run, h1, h2, g2]
      | true =>
        by_cases h3 : 97 ≤ c
        · by_cases h4 : c ≤ 102
          · simp [Run, h1, h2, g2, h3, h4]
          · have h5 : 65 ≤ c := by omega
            have h6 : ¬ c ≤ 70 := by omega
            simp [Run, h1, h2, g2, h3, h4, h5, h6]
        · by_cases h5 : 65 ≤ c
          · by_cases h6 : c ≤ 70
            · simp [Run, h1, h2, g2, h3, h5, h6]
            · simp [Run, h1, h2, g2, h3, h5, h6]
          · simp [Run, h1, h2, g2, h3, h5]
  · have g1 : c < 48 := by omega
    have h3 : ¬ 97 ≤ c := by omega
    have h5 : ¬ 65 ≤ c := by omega
    cases hex <;> simp [Run, h1, g1, h3, h5]
theorem fRun_loop (hex : Bool) (s : ByteArray) (hs : s.size ≤ 4611686018427387903) (f : Nat) : ∀ (n k : Nat), s.size - k = n → k ≤ s.size →
    Exec T l0_floats_scanner_run [(0, .ref 100000 []), (1, .v (.bool hex)), (6, .v (.int .i64 f)), (100000, .box [.v (.string s), .v (.int .i64 k)])] = some (.exit 0, [(0, .ref 100000 []), (1, .v (.bool hex)), (6, .v (.int .i64 f)), (100000, .box [.v (.string s), .v (.int .i64 (dgX hex s k))])]) := by
  intro n
  induction n with
  | zero =>
    intro k hn hk
    have h0 : ¬ k < s.size := by omega
    rw [ex0_floats_scanner_run, dgX_end hex s (by omega)]
    simp [h0]
  | succ n ih =>
    intro k hn hk
    have hc := c_fdigit hex s k
    have hlt : k < s.size := by omega
    rw [ex0_floats_scanner_run]
    cases hb : badX hex s k with
    | true =>
      rw [hb] at hc
      rw [dgX_here hex s hlt hb]
      simp at hc
      simp [hlt, ch_eq, hc]
    | false =>
      rw [hb] at hc
      rw [dgX_next hex s hlt hb]
      have h0 := ih (k + 1) (by omega) (by omega)
      rw [succ_cast] at h0
      have hw := wrap_succ hlt (by omega)
      simp at hc
      simp [hlt, ch_eq, hc, hw, h0]
theorem c_fRun (hex : Bool) (s : ByteArray) (k : Nat) (hk : k ≤ s.size) (hs : s.size ≤ 4611686018427387903) : Cinf T n_floats_scanner_run [scB s k, .v (.bool hex)] = some (.tup [.v (.string (s.extract k (dgX hex s k))), .v (.bool (decide (k < dgX hex s k)))], [scB s (dgX hex s k), .dead]) := by
  have h0 := fRun_loop hex s hs k (s.size - k) k rfl hk
  have hl := dgX_le hex s hk
  rw [run_floats_scanner_run]
  unfold scB
  obtain ⟨q, hq⟩ : ∃ q, dgX hex s k = q := ⟨_, rfl⟩
  rw [hq] at h0 hl ⊢
  simp [Run, home, h0, hl]
end Go.AM.F

/- A number's text taken apart by floats. No conditions. -/
namespace Go.AM.F
open Go Go.AM
set_option maxRecDepth 10000
set_option linter.unusedSimpArgs false
attribute [local simp] nextPV rangePV
attribute [local simp] j0_floats_scanner_word j1_floats_scanner_word w0_floats_scanner_word j2_floats_scanner_word b_floats_scanner_word a_floats_scanner_word
attribute [local simp] j0_floats_scanner_figures j1_floats_scanner_figures j2_floats_scanner_figures j3_floats_scanner_figures j4_floats_scanner_figures j5_floats_scanner_figures j6_floats_scanner_figures j7_floats_scanner_figures j8_floats_scanner_figures b_floats_scanner_figures a_floats_scanner_figures
/-- The parts of a text. -/
def txt7 (neg nan inf : Bool) (dg : ByteArray) (hex : Bool) (bh : Nat) (pw : ByteArray) : List PV := [.v (.bool neg), .v (.bool nan), .v (.bool inf), .v (.string dg), .v (.bool hex), .v (.int .i64 bh), .v (.string pw)]
section
variable (hex : Bool) (s : ByteArray) (i : Nat)
def gW : Nat := dgX hex s i
def gD : Bool := isAt s (gW hex s i) 46
def gP : Nat := dgX hex s (gW hex s i + 1)
def g0 : Nat := if gD hex s i then gP hex s i else gW hex s i
def gE : Bool := if hex then isAt s (g0 hex s i) 112 else isAt s (g0 hex s i) 101 || isAt s (g0 hex s i) 69
def gS : Bool := isAt s (g0 hex s i + 1) 45
def gT : Bool := gS hex s i || isAt s (g0 hex s i + 1) 43
def g1 : Nat := g0 hex s i + 1 + adv (gT hex s i)
def gQ : Nat := dgX false s (g1 hex s i)
def gBad : Prop := gW hex s i = i ∨ (gD hex s i = true ∧ gP hex s i = gW hex s i + 1) ∨ (gE hex s i = false ∧ hex = true) ∨ (gE hex s i = true ∧ gQ hex s i = g1 hex s i)
def gL : List UInt8 := sub s i (gW hex s i) ++ (if gD hex s i then sub s (gW hex s i + 1) (gP hex s i) else [])
def gB : Nat := if gD hex s i then gP hex s i - (gW hex s i + 1) else 0
def gX : List UInt8 := if gE hex s i then (if gS hex s i then [45] else []) ++ sub s (g1 hex s i) (gQ hex s i) else []
def gI : Nat := if gE hex s i then gQ hex s i else g0 hex s i
end
theorem adv_at {s : ByteArray} {i b : Nat} (h : i ≤ s.size) : i + adv (isAt s i b) ≤ s.size := by
  unfold adv isAt
  by_cases k : i < s.size ∧ ch s i = b
  · rw [decide_eq_true k, if_pos rfl]; omega
  · rw [decide_eq_false k]; simpa using h
theorem isAt_lt {s : ByteArray} {i b : Nat} (h : isAt s i b = true) : i < s.size ∧ ch s i = b := of_decide_eq_true h
theorem gW_le {hex : Bool} {s : ByteArray} {i : Nat} (h : i ≤ s.size) : i ≤ gW hex s i ∧ gW hex s i ≤ s.size := dgX_le hex s h
theorem gP_le {hex : Bool} {s : ByteArray} {i : Nat} (h : gD hex s i = true) : gW hex s i + 1 ≤ gP hex s i ∧ gP hex s i ≤ s.size := dgX_le hex s (isAt_lt h).1
theorem g0_le {hex : Bool} {s : ByteArray} {i : Nat} (h : i ≤ s.size) : g0 hex s i ≤ s.size := by
  unfold g0
  cases hd : gD hex s i
  · exact (gW_le h).2
  · exact (gP_le hd).2
theorem gE_lt {hex : Bool} {s : ByteArray} {i : Nat} (h : gE hex s i = true) : g0 hex s i < s.size := by
  unfold gE at h
  cases hex with
  | true => exact (isAt_lt h).1
  | false =>
    simp only [Bool.false_eq_true, if_false, Bool.or_eq_true] at h
    rcases h with h | h
    · exact (isAt_lt h).1
    · exact (isAt_lt h).1
theorem gT_le {hex : Bool} {s : ByteArray} {i : Nat} (h : gE hex s i = true) : g1 hex s i ≤ s.size := by
  have h0 := gE_lt h
  unfold g1 gT gS
  cases hm : isAt s (g0 hex s i + 1) 45 with
  | true =>
    have := (isAt_lt hm).1
    simp [adv]
    omega
  | false => exact adv_at h0
theorem gQ_le {hex : Bool} {s : ByteArray} {i : Nat} (h : gE hex s i = true) : g1 hex s i ≤ gQ hex s i ∧ gQ hex s i ≤ s.size := dgX_le false s (gT_le h)
theorem d45 : Utf8.decode ⟨#[45]⟩ 0 = ((45 : UInt8).toNat, 1) := by decide +kernel
theorem d43 : Utf8.decode ⟨#[43]⟩ 0 = ((43 : UInt8).toNat, 1) := by decide +kernel
theorem d46 : Utf8.decode ⟨#[46]⟩ 0 = ((46 : UInt8).toNat, 1) := by decide +kernel
theorem d112 : Utf8.decode ⟨#[112]⟩ 0 = ((112 : UInt8).toNat, 1) := by decide +kernel
theorem d110 : Utf8.decode ⟨#[110]⟩ 0 = ((110 : UInt8).toNat, 1) := by decide +kernel
theorem d97 : Utf8.decode ⟨#[97]⟩ 0 = ((97 : UInt8).toNat, 1) := by decide +kernel
theorem d105 : Utf8.decode ⟨#[105]⟩ 0 = ((105 : UInt8).toNat, 1) := by decide +kernel
theorem d102 : Utf8.decode ⟨#[102]⟩ 0 = ((102 : UInt8).toNat, 1) := by decide +kernel
set_option maxHeartbeats 2000000 in
/-- The power's part. -/
theorem fig_pow (hex : Bool) (s : ByteArray) (i : Nat) (hs : s.size ≤ 4096) (hE : gE hex s i = true) (neg : Bool) (dg : ByteArray) (bh : Nat) :
    ∃ (pw : ByteArray) (a : Int), Exec T k4_floats_scanner_figures [(0, .ref 100000 []), (1, .ref 100001 []), (100000, scB s (g0 hex s i + 1)), (100001, .box (txt7 neg false false dg hex bh ⟨#[]⟩))] =
      some (.ret, [(4, .v (.int .i64 a)), (100000, scB s (gQ hex s i)), (100001, .box (txt7 neg false false dg hex bh pw))]) ∧ ((gQ hex s i = g1 hex s i ∧ 0 ≤ a) ∨ (gQ hex s i ≠ g1 hex s i ∧ a = -1 ∧ pw = tx ((if gS hex s i then [45] else []) ++ sub s (g1 hex s i) (gQ hex s i)))) := by
  have hlt := gE_lt hE
  have h1 := gT_le hE
  have hq := gQ_le hE
  have t45 := c_takes1 s (g0 hex s i + 1) (by omega) 45 d45 hlt
  have t43 := c_takes1 s (g0 hex s i + 1) (by omega) 43 d43 hlt
  have r1 := c_fRun false s (g1 hex s i) h1 (by omega)
  rw [show dgX false s (g1 hex s i) = gQ hex s i from rfl, extract_sub] at r1
  rw [show (45 : UInt8).toNat = 45 from rfl] at t45
  rw [show (43 : UInt8).toNat = 43 from rfl] at t43
  have hgS : isAt s (g0 hex s i + 1) 45 = gS hex s i := rfl
  have hg1 : g1 hex s i = g0 hex s i + 1 + adv (gS hex s i || isAt s (g0 hex s i + 1) 43) := rfl
  rw [hgS] at t45
  obtain ⟨z, hz⟩ : ∃ z, g0 hex s i + 1 = z := ⟨_, rfl⟩
  obtain ⟨q, hqe⟩ : ∃ z, gQ hex s i = z := ⟨_, rfl⟩
  obtain ⟨p, hpe⟩ : ∃ z, g1 hex s i = z := ⟨_, rfl⟩
  rw [hz] at t45 t43 hg1 ⊢
  rw [hpe, hqe] at r1
  simp only [hpe, hqe] at hg1 h1 hq ⊢
  obtain ⟨D, hD⟩ : ∃ D, sub s p q = D := ⟨_, rfl⟩
  have hDl : D.length ≤ 4096 := by
    rw [← hD, sub_len s hq.2]
    omega
  rw [hD] at r1 ⊢
  have e1 : 1 + D.length ≤ 9223372036854775807 := by omega
  have em : (⟨#[45]⟩ : ByteArray) ++ tx D = tx ([45] ++ D) := tx_append [45] D
  have em1 : (⟨#[45]⟩ : ByteArray).size = 1 := rfl
  have e2 : (⟨#[]⟩ : ByteArray) ++ tx D = tx D := tx_append [] D
  have e3 : D.length ≤ 9223372036854775807 := by omega
  have e4 : (⟨#[]⟩ : ByteArray).size = 0 := rfl
  unfold scB at *
  cases hS : gS hex s i with
  | true =>
    rw [hS] at t45 hg1
    rw [Bool.true_or] at hg1
    rw [← hg1] at t45
    by_cases hc : q = p
    · rw [hc, decide_eq_false (by omega)] at r1
      exact ⟨⟨#[]⟩, p, by simp [txt7, t45, r1, hc], .inl ⟨hc, by omega⟩⟩
    · rw [decide_eq_true (by omega)] at r1
      exact ⟨tx ([45] ++ D), -1, by simp [txt7, t45, r1, em, em1, e1], .inr ⟨hc, rfl, rfl⟩⟩
  | false =>
    rw [hS] at t45 hg1
    rw [Bool.false_or] at hg1
    rw [← hg1] at t43
    simp only [adv, Bool.false_eq_true, if_false, Nat.add_zero] at t45
    by_cases hc : q = p
    · rw [hc, decide_eq_false (by omega)] at r1
      exact ⟨⟨#[]⟩, p, by simp [txt7, t45, t43, r1, hc], .inl ⟨hc, by omega⟩⟩
    · rw [decide_eq_true (by omega)] at r1
      exact ⟨tx D, -1, by simp [txt7, t45, t43, r1, e2, e3, e4], .inr ⟨hc, rfl, by simp⟩⟩
set_option maxHeartbeats 4000000 in
/-- The figures, from the digits on. -/
theorem fig_key (hex : Bool) (s : ByteArray) (i : Nat) (hs : s.size ≤ 4096) (hi : i ≤ s.size) (neg : Bool) :
    ∃ (dg pw : ByteArray) (bh i' : Nat) (a : Int), Exec T k8_floats_scanner_figures [(0, .ref 100000 []), (1, .ref 100001 []), (100000, scB s i), (100001, .box (txt7 neg false false ⟨#[]⟩ hex 0 ⟨#[]⟩))] =
      some (.ret, [(4, .v (.int .i64 a)), (100000, scB s i'), (100001, .box (txt7 neg false false dg hex bh pw))]) ∧ i' ≤ s.size ∧ ((gBad hex s i ∧ 0 ≤ a) ∨ (¬ gBad hex s i ∧ a = -1 ∧ dg = tx (gL hex s i) ∧ bh = gB hex s i ∧ pw = tx (gX hex s i) ∧ i' = gI hex s i)) := by
  have hw := gW_le (hex := hex) hi
  have r1 := c_fRun hex s i hi (by omega)
  rw [show dgX hex s i = gW hex s i from rfl, extract_sub] at r1
  have t46 := c_takes1 s (gW hex s i) (by omega) 46 d46 hw.2
  rw [show (46 : UInt8).toNat = 46 from rfl, show isAt s (gW hex s i) 46 = gD hex s i from rfl] at t46
  -- what follows the digits
  have mid : ∀ (dg : ByteArray) (bh : Nat), dg = tx (gL hex s i) → bh = gB hex s i → (gW hex s i ≠ i) → ¬ (gD hex s i = true ∧ gP hex s i = gW hex s i + 1) → ∃ (pw : ByteArray) (i' : Nat) (a : Int), Exec T k6_floats_scanner_figures [(0, .ref 100000 []), (1, .ref 100001 []), (100000, scB s (g0 hex s i)), (100001, .box (txt7 neg false false dg hex bh ⟨#[]⟩))] =
      some (.ret, [(4, .v (.int .i64 a)), (100000, scB s i'), (100001, .box (txt7 neg false false dg hex bh pw))]) ∧ i' ≤ s.size ∧ ((gBad hex s i ∧ 0 ≤ a) ∨ (¬ gBad hex s i ∧ a = -1 ∧ pw = tx (gX hex s i) ∧ i' = gI hex s i)) := by
    intro dg bh _ _ hne1 hne2
    have h0 := g0_le (hex := hex) hi
    have tE := c_takes2 s (g0 hex s i) (by omega) h0
    have tp := c_takes1 s (g0 hex s i) (by omega) 112 d112 h0
    rw [show (112 : UInt8).toNat = 112 from rfl] at tp
    cases hE : gE hex s i with
    | true =>
      obtain ⟨pw, a, k0, k1⟩ := fig_pow hex s i hs hE neg dg bh
      refine ⟨pw, gQ hex s i, a, ?_, (gQ_le hE).2, ?_⟩
      · rw [← k0]
        unfold gE at hE
        cases hex with
        | true =>
          simp only [if_true] at hE
          rw [hE] at tp
          simp only [adv, if_true] at tp
          unfold scB at *
          simp [-tl4_floats_scanner_figures, txt7, tp]
        | false =>
          simp only [Bool.false_eq_true, if_false] at hE
          rw [hE] at tE
          simp only [adv, if_true] at tE
          unfold scB at *
          simp [-tl4_floats_scanner_figures, txt7, tE]
      · rcases k1 with ⟨k1, k2⟩ | ⟨k1, k2, k3⟩
        · exact .inl ⟨.inr (.inr (.inr ⟨hE, k1⟩)), k2⟩
        · refine .inr ⟨?_, k2, ?_, ?_⟩
          · rintro (h | h | h | h)
            · exact hne1 h
            · exact hne2 h
            · rw [hE] at h; cases h.1
            · exact k1 h.2
          · unfold gX; rw [hE, if_pos rfl]; exact k3
          · unfold gI; rw [hE, if_pos rfl]
    | false =>
      have hE2 := hE
      unfold gE at hE
      cases hex with
      | true =>
        simp only [if_true] at hE
        rw [hE] at tp
        simp only [adv, Bool.false_eq_true, if_false, Nat.add_zero] at tp
        unfold scB at *
        exact ⟨⟨#[]⟩, g0 true s i, g0 true s i, by simp [txt7, tp], h0, .inl ⟨.inr (.inr (.inl ⟨hE2, rfl⟩)), by omega⟩⟩
      | false =>
        simp only [Bool.false_eq_true, if_false] at hE
        rw [hE] at tE
        simp only [adv, Bool.false_eq_true, if_false, Nat.add_zero] at tE
        unfold scB at *
        refine ⟨⟨#[]⟩, g0 false s i, -1, by simp [txt7, tE], h0, .inr ⟨?_, rfl, ?_, ?_⟩⟩
        · rintro (h | h | h | h)
          · exact hne1 h
          · exact hne2 h
          · cases h.2
          · rw [hE2] at h; cases h.1
        · unfold gX; rw [hE2]; rfl
        · unfold gI; rw [hE2]; rfl
  by_cases c1 : gW hex s i = i
  · rw [c1, decide_eq_false (by omega)] at r1
    unfold scB at *
    exact ⟨⟨#[]⟩, ⟨#[]⟩, 0, i, i, by simp [txt7, r1], hi, .inl ⟨.inl c1, by omega⟩⟩
  rw [decide_eq_true (by omega)] at r1
  cases hD : gD hex s i with
  | true =>
    have hp := gP_le hD
    have r2 := c_fRun hex s (gW hex s i + 1) (by omega) (by omega)
    rw [show dgX hex s (gW hex s i + 1) = gP hex s i from rfl, extract_sub] at r2
    rw [hD] at t46
    simp only [adv, if_true] at t46
    by_cases c2 : gP hex s i = gW hex s i + 1
    · rw [c2, decide_eq_false (by omega)] at r2
      unfold scB at *
      simp only [succ_cast] at r2
      exact ⟨tx (sub s i (gW hex s i)), ⟨#[]⟩, 0, gW hex s i + 1, (gW hex s i : Int) + 1, by simp [txt7, r1, t46, r2], by omega, .inl ⟨.inr (.inl ⟨hD, c2⟩), by omega⟩⟩
    · rw [decide_eq_true (by omega)] at r2
      have hgL : gL hex s i = sub s i (gW hex s i) ++ sub s (gW hex s i + 1) (gP hex s i) := by unfold gL; rw [hD, if_pos rfl]
      have hgB : gB hex s i = gP hex s i - (gW hex s i + 1) := by unfold gB; rw [hD, if_pos rfl]
      have hl1 : (sub s i (gW hex s i)).length = gW hex s i - i := sub_len s hw.2
      have hl2 : (sub s (gW hex s i + 1) (gP hex s i)).length = gB hex s i := by rw [hgB, sub_len s hp.2]
      obtain ⟨pw, i', a, k0, k1, k2⟩ := mid (tx (gL hex s i)) (gB hex s i) rfl rfl c1 (fun h => c2 h.2)
      have h0e : g0 hex s i = gP hex s i := by unfold g0; rw [hD, if_pos rfl]
      refine ⟨tx (gL hex s i), pw, gB hex s i, i', a, ?_, k1, ?_⟩
      · rw [← k0, hgL, h0e]
        have e1 : (sub s i (gW hex s i)).length + gB hex s i ≤ 9223372036854775807 := by omega
        unfold scB at *
        simp only [succ_cast] at r2
        obtain ⟨A, hA⟩ : ∃ A, sub s i (gW hex s i) = A := ⟨_, rfl⟩
        obtain ⟨B, hB⟩ : ∃ A, sub s (gW hex s i + 1) (gP hex s i) = A := ⟨_, rfl⟩
        rw [hA] at r1 e1 hl1 ⊢
        rw [hB] at r2 hl2 ⊢
        simp [-tl6_floats_scanner_figures, txt7, r1, t46, r2, tx_append, hl2, e1]
      · rcases k2 with k2 | ⟨k2, k3, k4, k5⟩
        · exact .inl k2
        · exact .inr ⟨k2, k3, rfl, rfl, k4, k5⟩
  | false =>
    rw [hD] at t46
    simp only [adv, Bool.false_eq_true, if_false, Nat.add_zero] at t46
    have hgL : gL hex s i = sub s i (gW hex s i) := by unfold gL; rw [hD]; simp
    have hgB : gB hex s i = 0 := by unfold gB; rw [hD]; rfl
    obtain ⟨pw, i', a, k0, k1, k2⟩ := mid (tx (gL hex s i)) (gB hex s i) rfl rfl c1 (fun h => by rw [hD] at h; cases h.1)
    have h0e : g0 hex s i = gW hex s i := by unfold g0; rw [hD]; rfl
    refine ⟨tx (gL hex s i), pw, gB hex s i, i', a, ?_, k1, ?_⟩
    · rw [← k0, hgL, hgB, h0e]
      unfold scB at *
      simp [-tl6_floats_scanner_figures, txt7, r1, t46]
    · rcases k2 with k2 | ⟨k2, k3, k4, k5⟩
      · exact .inl k2
      · exact .inr ⟨k2, k3, rfl, rfl, k4, k5⟩
end Go.AM.F

/- A number's text taken apart by floats: cut, taken. No conditions. -/
namespace Go.AM.F
open Go Go.AM
set_option maxRecDepth 10000
set_option linter.unusedSimpArgs false
attribute [local simp] j0_floats_scanner_word j1_floats_scanner_word w0_floats_scanner_word j2_floats_scanner_word b_floats_scanner_word a_floats_scanner_word
attribute [local simp] b_floats_scanner_figures a_floats_scanner_figures
attribute [local simp] j0_floats_cut j1_floats_cut b_floats_cut a_floats_cut j0_floats_taken j1_floats_taken b_floats_taken a_floats_taken
def hxT (s : ByteArray) (i : Nat) : Bool := isAt s i 48 && isAt s (i + 1) 120
def hxI (s : ByteArray) (i : Nat) : Nat := if hxT s i then i + 2 else i
theorem hxI_le {s : ByteArray} {i : Nat} (h : i ≤ s.size) : hxI s i ≤ s.size := by
  unfold hxI hxT
  split
  · rename_i k
    rw [Bool.and_eq_true] at k
    have := (isAt_lt k.2).1
    omega
  · exact h
set_option maxHeartbeats 1000000 in
theorem c_figures (s : ByteArray) (i : Nat) (hs : s.size ≤ 4096) (hi : i ≤ s.size) (neg : Bool) :
    ∃ (dg pw : ByteArray) (bh i' : Nat) (a : Int), Cinf T n_floats_scanner_figures [scB s i, .box (txt7 neg false false ⟨#[]⟩ false 0 ⟨#[]⟩)] =
      some (.v (.int .i64 a), [scB s i', .box (txt7 neg false false dg (hxT s i) bh pw)]) ∧ i' ≤ s.size ∧ ((gBad (hxT s i) s (hxI s i) ∧ 0 ≤ a) ∨ (¬ gBad (hxT s i) s (hxI s i) ∧ a = -1 ∧ dg = tx (gL (hxT s i) s (hxI s i)) ∧ bh = gB (hxT s i) s (hxI s i) ∧ pw = tx (gX (hxT s i) s (hxI s i)) ∧ i' = gI (hxT s i) s (hxI s i))) := by
  obtain ⟨dg, pw, bh, i', a, k0, k1⟩ := fig_key (hxT s i) s (hxI s i) hs (hxI_le hi) neg
  refine ⟨dg, pw, bh, i', a, ?_, k1⟩
  have b1 := c_byte s i (by omega)
  have w1 : IntKind.i64.wrap ((i : Int) + 1) = (i : Int) + 1 := by rw [wrap_i64] <;> omega
  have w2 : IntKind.i64.wrap ((i : Int) + 2) = (i : Int) + 2 := by rw [wrap_i64] <;> omega
  have hI : hxI s i = if hxT s i then i + 2 else i := rfl
  have hT : hxT s i = (isAt s i 48 && isAt s (i + 1) 120) := rfl
  rw [hI] at k0
  generalize hxT s i = hx at *
  rw [run_floats_scanner_figures]
  unfold scB txt7 at *
  simp only [Int.natCast_zero] at k0
  by_cases h1 : i < s.size
  · rw [if_pos h1] at b1
    by_cases h2 : ch s i = 48
    · rw [h2, show ((48 : Nat) : Int) = 48 from rfl] at b1
      by_cases h3 : i + 1 < s.size
      · by_cases h4 : ch s (i + 1) = 120
        · have hTT : hx = true := by rw [hT]; unfold isAt; simp [h1, h2, h3, h4]
          subst hTT
          simp only [if_true, Int.natCast_add] at k0
          have k2 : ((2 : Nat) : Int) = 2 := rfl
          rw [k2] at k0
          simp [-tl8_floats_scanner_figures, Run, home, b1, h3, h4, ch_eq, w1, w2, k0]
        · have hTT : hx = false := by rw [hT]; unfold isAt; simp [h4]
          subst hTT
          simp only [Bool.false_eq_true, if_false] at k0
          simp [-tl8_floats_scanner_figures, Run, home, b1, h3, h4, ch_eq, w1, w2, k0]
      · have hTT : hx = false := by rw [hT]; unfold isAt; simp [h3]
        subst hTT
        simp only [Bool.false_eq_true, if_false] at k0
        simp [-tl8_floats_scanner_figures, Run, home, b1, h3, ch_eq, w1, w2, k0]
    · have hTT : hx = false := by rw [hT]; unfold isAt; simp [h2]
      subst hTT
      simp only [Bool.false_eq_true, if_false] at k0
      simp [-tl8_floats_scanner_figures, Run, home, b1, h2, ch_eq, w1, w2, k0]
  · rw [if_neg h1] at b1
    have hTT : hx = false := by rw [hT]; unfold isAt; simp [h1]
    subst hTT
    simp only [Bool.false_eq_true, if_false] at k0
    simp only [Int.natCast_zero] at b1
    simp [-tl8_floats_scanner_figures, Run, home, b1, ch_eq, w1, w2, k0]
/-- A word of three letters. -/
theorem c_word3 (s : ByteArray) (i : Nat) (hs : s.size ≤ 4096) (hi : i ≤ s.size) (w : ByteArray) (x y z : UInt8) (hsz : w.size = 3) (h0 : w.extract 0 1 = ⟨#[x]⟩) (h1 : w.extract 1 2 = ⟨#[y]⟩) (h2 : w.extract 2 3 = ⟨#[z]⟩)
    (dx : Utf8.decode ⟨#[x]⟩ 0 = (x.toNat, 1)) (dy : Utf8.decode ⟨#[y]⟩ 0 = (y.toNat, 1)) (dz : Utf8.decode ⟨#[z]⟩ 0 = (z.toNat, 1)) :
    ∃ (t : Bool) (i' : Nat), Cinf T n_floats_scanner_word [scB s i, .v (.string w)] = some (.v (.bool t), [scB s i', .dead]) ∧ i' ≤ s.size := by
  have l1 := adv_at (s := s) (b := x.toNat) hi
  have t1 := c_takes1 s i (by omega) x dx hi
  generalize i + adv (isAt s i x.toNat) = i1 at *
  generalize isAt s i x.toNat = a1 at *
  have l2 := adv_at (s := s) (b := y.toNat) l1
  have t2 := c_takes1 s i1 (by omega) y dy l1
  generalize i1 + adv (isAt s i1 y.toNat) = i2 at *
  generalize isAt s i1 y.toNat = a2 at *
  have l3 := adv_at (s := s) (b := z.toNat) l2
  have t3 := c_takes1 s i2 (by omega) z dz l2
  generalize i2 + adv (isAt s i2 z.toNat) = i3 at *
  generalize isAt s i2 z.toNat = a3 at *
  rw [run_floats_scanner_word]
  unfold scB at *
  have e3 : ∀ i : Nat, Exec T l0_floats_scanner_word [(0, .ref 100000 []), (1, .v (.string w)), (7, .v (.int .i64 3)), (8, .v (.int .i64 3)), (100000, .box [.v (.string s), .v (.int .i64 i)])] = some (.exit 0, [(0, .ref 100000 []), (1, .v (.string w)), (7, .v (.int .i64 3)), (8, .v (.int .i64 3)), (100000, .box [.v (.string s), .v (.int .i64 i)])]) := by
    intro i
    rw [ex0_floats_scanner_word]
    simp
  cases a1 with
  | false =>
    have e0 : Exec T l0_floats_scanner_word [(0, .ref 100000 []), (1, .v (.string w)), (7, .v (.int .i64 3)), (8, .v (.int .i64 0)), (100000, .box [.v (.string s), .v (.int .i64 i)])] = some (.ret, [(4, .v (.bool false)), (100000, .box [.v (.string s), .v (.int .i64 i1)])]) := by
      rw [ex0_floats_scanner_word]
      simp [hsz, h0, t1]
    exact ⟨false, i1, by simp [Run, home, hsz, e0], l1⟩
  | true =>
    cases a2 with
    | false =>
      have e1 : Exec T l0_floats_scanner_word [(0, .ref 100000 []), (1, .v (.string w)), (7, .v (.int .i64 3)), (8, .v (.int .i64 1)), (100000, .box [.v (.string s), .v (.int .i64 i1)])] = some (.ret, [(4, .v (.bool false)), (100000, .box [.v (.string s), .v (.int .i64 i2)])]) := by
        rw [ex0_floats_scanner_word]
        simp [hsz, h1, t2]
      have e0 : Exec T l0_floats_scanner_word [(0, .ref 100000 []), (1, .v (.string w)), (7, .v (.int .i64 3)), (8, .v (.int .i64 0)), (100000, .box [.v (.string s), .v (.int .i64 i)])] = some (.ret, [(4, .v (.bool false)), (100000, .box [.v (.string s), .v (.int .i64 i2)])]) := by
        rw [← e1, ex0_floats_scanner_word]
        simp [hsz, h0, t1]
      exact ⟨false, i2, by simp [Run, home, hsz, e0], l2⟩
    | true =>
      cases a3 with
      | false =>
        have e2 : Exec T l0_floats_scanner_word [(0, .ref 100000 []), (1, .v (.string w)), (7, .v (.int .i64 3)), (8, .v (.int .i64 2)), (100000, .box [.v (.string s), .v (.int .i64 i2)])] = some (.ret, [(4, .v (.bool false)), (100000, .box [.v (.string s), .v (.int .i64 i3)])]) := by
          rw [ex0_floats_scanner_word]
          simp [hsz, h2, t3]
        have e1 : Exec T l0_floats_scanner_word [(0, .ref 100000 []), (1, .v (.string w)), (7, .v (.int .i64 3)), (8, .v (.int .i64 1)), (100000, .box [.v (.string s), .v (.int .i64 i1)])] = some (.ret, [(4, .v (.bool false)), (100000, .box [.v (.string s), .v (.int .i64 i3)])]) := by
          rw [← e2, ex0_floats_scanner_word]
          simp [hsz, h1, t2]
        have e0 : Exec T l0_floats_scanner_word [(0, .ref 100000 []), (1, .v (.string w)), (7, .v (.int .i64 3)), (8, .v (.int .i64 0)), (100000, .box [.v (.string s), .v (.int .i64 i)])] = some (.ret, [(4, .v (.bool false)), (100000, .box [.v (.string s), .v (.int .i64 i3)])]) := by
          rw [← e1, ex0_floats_scanner_word]
          simp [hsz, h0, t1]
        exact ⟨false, i3, by simp [Run, home, hsz, e0], l3⟩
      | true =>
        have e2 : Exec T l0_floats_scanner_word [(0, .ref 100000 []), (1, .v (.string w)), (7, .v (.int .i64 3)), (8, .v (.int .i64 2)), (100000, .box [.v (.string s), .v (.int .i64 i2)])] = some (.exit 0, [(0, .ref 100000 []), (1, .v (.string w)), (7, .v (.int .i64 3)), (8, .v (.int .i64 3)), (100000, .box [.v (.string s), .v (.int .i64 i3)])]) := by
          rw [← e3, ex0_floats_scanner_word]
          simp [hsz, h2, t3]
        have e1 : Exec T l0_floats_scanner_word [(0, .ref 100000 []), (1, .v (.string w)), (7, .v (.int .i64 3)), (8, .v (.int .i64 1)), (100000, .box [.v (.string s), .v (.int .i64 i1)])] = some (.exit 0, [(0, .ref 100000 []), (1, .v (.string w)), (7, .v (.int .i64 3)), (8, .v (.int .i64 3)), (100000, .box [.v (.string s), .v (.int .i64 i3)])]) := by
          rw [← e2, ex0_floats_scanner_word]
          simp [hsz, h1, t2]
        have e0 : Exec T l0_floats_scanner_word [(0, .ref 100000 []), (1, .v (.string w)), (7, .v (.int .i64 3)), (8, .v (.int .i64 0)), (100000, .box [.v (.string s), .v (.int .i64 i)])] = some (.exit 0, [(0, .ref 100000 []), (1, .v (.string w)), (7, .v (.int .i64 3)), (8, .v (.int .i64 3)), (100000, .box [.v (.string s), .v (.int .i64 i3)])]) := by
          rw [← e1, ex0_floats_scanner_word]
          simp [hsz, h0, t1]
        exact ⟨true, i3, by simp [Run, home, hsz, e0], l3⟩
end Go.AM.F

/- A number's text taken apart by floats: cut, taken. No conditions. -/
namespace Go.AM.F
open Go Go.AM
set_option maxRecDepth 10000
set_option linter.unusedSimpArgs false
attribute [local simp] j0_floats_cut j1_floats_cut b_floats_cut a_floats_cut j0_floats_taken j1_floats_taken b_floats_taken a_floats_taken
/-- Where a number's figures begin; its sign. -/
def sgB (s : ByteArray) : Bool := isAt s 0 45
def st (s : ByteArray) : Nat := adv (sgB s)
theorem st_le (s : ByteArray) : st s ≤ s.size := by
  have := adv_at (s := s) (i := 0) (b := 45) (Nat.zero_le _)
  rwa [Nat.zero_add] at this
def hx (s : ByteArray) : Bool := hxT s (st s)
def hi (s : ByteArray) : Nat := hxI s (st s)
/-- The beginning of a word. -/
def wordy (s : ByteArray) : Prop := (sgB s = false ∧ isAt s (st s) 110 = true) ∨ isAt s (st s) 105 = true
structure CutOK (s : ByteArray) (nan inf : Bool) (dg : ByteArray) (h : Bool) (bh : Nat) (pw : ByteArray) (a : Int) : Prop where
  word : wordy s → 0 ≤ a ∨ (a = -1 ∧ (nan = true ∨ inf = true))
  num : ¬ wordy s → nan = false ∧ inf = false ∧ ((gBad (hx s) s (hi s) ∧ 0 ≤ a) ∨ (¬ gBad (hx s) s (hi s) ∧ gI (hx s) s (hi s) < s.size ∧ 0 ≤ a) ∨ (¬ gBad (hx s) s (hi s) ∧ gI (hx s) s (hi s) = s.size ∧ a = -1 ∧ h = hx s ∧ dg = tx (gL (hx s) s (hi s)) ∧ bh = gB (hx s) s (hi s) ∧ pw = tx (gX (hx s) s (hi s))))
set_option maxHeartbeats 4000000 in
theorem c_cut (s : ByteArray) (hs : s.size ≤ 4096) :
    ∃ (nan inf h : Bool) (dg pw : ByteArray) (bh : Nat) (a : Int), Cinf T n_floats_cut [.v (.string s)] = some (.tup [.agg (txt7 (sgB s) nan inf dg h bh pw), .v (.int .i64 a)], [.dead]) ∧ CutOK s nan inf dg h bh pw a := by
  have t45 := c_takes1 s 0 (by omega) 45 d45 (Nat.zero_le _)
  rw [show (45 : UInt8).toNat = 45 from rfl, show isAt s 0 45 = sgB s from rfl, Nat.zero_add, show adv (sgB s) = st s from rfl] at t45
  have hst := st_le s
  have b1 := c_byte s (st s) (by omega)
  obtain ⟨tn, i1, wn, hi1⟩ := c_word3 s (st s) hs hst ⟨#[110, 97, 110]⟩ 110 97 110 rfl rfl rfl rfl d110 d97 d110
  obtain ⟨ti, i2, wi, hi2⟩ := c_word3 s (st s) hs hst ⟨#[105, 110, 102]⟩ 105 110 102 rfl rfl rfl rfl d105 d110 d102
  obtain ⟨dg, pw, bh, i3, a, f1, hi3, hf⟩ := c_figures s (st s) hs hst (sgB s)
  rw [show hxT s (st s) = hx s from rfl] at f1
  rw [show hxT s (st s) = hx s from rfl, show hxI s (st s) = hi s from rfl] at hf
  rw [run_floats_cut]
  unfold scB txt7 at *
  simp only [Int.natCast_zero] at t45 f1
  by_cases hw : wordy s
  · rcases hw with ⟨h1, h2⟩ | h2
    · have hlt := isAt_lt h2
      rw [if_pos hlt.1, hlt.2, show ((110 : Nat) : Int) = 110 from rfl] at b1
      rw [h1] at t45
      have wd : wordy s := .inl ⟨h1, h2⟩
      rw [h1]
      cases tn with
      | false => exact ⟨true, false, false, ⟨#[]⟩, ⟨#[]⟩, 0, i1, by simp [Run, home, t45, b1, wn], ⟨fun _ => .inl (by omega), fun h => (h wd).elim⟩⟩
      | true =>
        by_cases h3 : i1 < s.size
        · exact ⟨true, false, false, ⟨#[]⟩, ⟨#[]⟩, 0, i1, by simp [Run, home, t45, b1, wn, h3], ⟨fun _ => .inl (by omega), fun h => (h wd).elim⟩⟩
        · exact ⟨true, false, false, ⟨#[]⟩, ⟨#[]⟩, 0, -1, by simp [Run, home, t45, b1, wn, h3], ⟨fun _ => .inr ⟨rfl, .inl rfl⟩, fun h => (h wd).elim⟩⟩
    · have hlt := isAt_lt h2
      rw [if_pos hlt.1, hlt.2, show ((105 : Nat) : Int) = 105 from rfl] at b1
      have wd : wordy s := .inr h2
      generalize sgB s = N at *
      cases ti with
      | false => exact ⟨false, true, false, ⟨#[]⟩, ⟨#[]⟩, 0, i2, by cases N <;> simp [Run, home, t45, b1, wi], ⟨fun _ => .inl (by omega), fun h => (h wd).elim⟩⟩
      | true =>
        by_cases h3 : i2 < s.size
        · exact ⟨false, true, false, ⟨#[]⟩, ⟨#[]⟩, 0, i2, by cases N <;> simp [Run, home, t45, b1, wi, h3], ⟨fun _ => .inl (by omega), fun h => (h wd).elim⟩⟩
        · exact ⟨false, true, false, ⟨#[]⟩, ⟨#[]⟩, 0, -1, by cases N <;> simp [Run, home, t45, b1, wi, h3], ⟨fun _ => .inr ⟨rfl, .inr rfl⟩, fun h => (h wd).elim⟩⟩
  · have hn : sgB s = false → ¬ isAt s (st s) 110 = true := fun h k => hw (.inl ⟨h, k⟩)
    have hi' : ¬ isAt s (st s) 105 = true := fun k => hw (.inr k)
    obtain ⟨b, hb⟩ : ∃ b, (if st s < s.size then ch s (st s) else 0) = b := ⟨_, rfl⟩
    rw [hb] at b1
    have hb105 : ¬ (b : Int) = 105 := by
      intro k
      have : b = 105 := by omega
      by_cases hl : st s < s.size
      · rw [if_pos hl] at hb
        exact hi' (decide_eq_true ⟨hl, by omega⟩)
      · rw [if_neg hl] at hb; omega
    have hb110 : sgB s = false → ¬ (b : Int) = 110 := by
      intro h0 k
      have : b = 110 := by omega
      by_cases hl : st s < s.size
      · rw [if_pos hl] at hb
        exact hn h0 (decide_eq_true ⟨hl, by omega⟩)
      · rw [if_neg hl] at hb; omega
    have hc105 : ¬ b = 105 := by omega
    have hc110 : sgB s = false → ¬ b = 110 := fun h k => hb110 h (by omega)
    have hnum : ∀ a' : Int, ((gBad (hx s) s (hi s) ∧ 0 ≤ a') ∨ (¬ gBad (hx s) s (hi s) ∧ gI (hx s) s (hi s) < s.size ∧ 0 ≤ a') ∨ (¬ gBad (hx s) s (hi s) ∧ gI (hx s) s (hi s) = s.size ∧ a' = -1 ∧ hx s = hx s ∧ dg = tx (gL (hx s) s (hi s)) ∧ bh = gB (hx s) s (hi s) ∧ pw = tx (gX (hx s) s (hi s)))) → CutOK s false false dg (hx s) bh pw a' := fun a' h => ⟨fun k => (hw k).elim, fun _ => ⟨rfl, rfl, h⟩⟩
    rcases hf with ⟨q1, q2⟩ | ⟨q1, rfl, q3, q4, q5, rfl⟩
    · refine ⟨false, false, hx s, dg, pw, bh, a, ?_, hnum a (.inl ⟨q1, q2⟩)⟩
      cases hN : sgB s with
      | true => rw [hN] at t45 f1; simp [Run, home, t45, b1, hb105, hc105, f1, q2]
      | false =>
        have h110 := hc110 hN
        rw [hN] at t45 f1
        simp [Run, home, t45, b1, hb105, hc105, h110, f1, q2]
    · by_cases h3 : gI (hx s) s (hi s) < s.size
      · refine ⟨false, false, hx s, dg, pw, bh, gI (hx s) s (hi s), ?_, hnum _ (.inr (.inl ⟨q1, h3, by omega⟩))⟩
        cases hN : sgB s with
        | true => rw [hN] at t45 f1; simp [Run, home, t45, b1, hb105, hc105, f1, h3]
        | false =>
          have h110 := hc110 hN
          rw [hN] at t45 f1
          simp [Run, home, t45, b1, hb105, hc105, h110, f1, h3]
      · refine ⟨false, false, hx s, dg, pw, bh, -1, ?_, hnum _ (.inr (.inr ⟨q1, by omega, rfl, rfl, q3, q4, q5⟩))⟩
        cases hN : sgB s with
        | true => rw [hN] at t45 f1; simp [Run, home, t45, b1, hb105, hc105, f1, h3]
        | false =>
          have h110 := hc110 hN
          rw [hN] at t45 f1
          simp [Run, home, t45, b1, hb105, hc105, h110, f1, h3]
end Go.AM.F

/- floats: power, taken, value, infinities. No conditions. -/
namespace Go.AM.F
open Go Go.AM
set_option maxRecDepth 10000
set_option linter.unusedSimpArgs false
attribute [local simp] j0_floats_power j1_floats_power w0_floats_power j2_floats_power j3_floats_power b_floats_power a_floats_power
attribute [local simp] j0_floats_taken j1_floats_taken b_floats_taken a_floats_taken j0_floats_value b_floats_value a_floats_value
attribute [local simp] j0_math_Inf b_math_Inf a_math_Inf b_math_NaN a_math_NaN b_math_Copysign a_math_Copysign
theorem fpower_loop (neg : Bool) (pre l : List UInt8) (ha : AllD l) (hl : pre.length + l.length ≤ 1000000) : ∀ (n i v : Nat), l.length - i = n → i ≤ l.length → min (dV (l.take i)) 100000 = v →
    Exec T l0_floats_power [(0, .v (.string (tx (pre ++ l)))), (3, .v (.bool neg)), (4, .v (.int .i64 v)), (15, .v (.int .i64 (pre ++ l).length)), (16, .v (.int .i64 (pre.length + i : Nat)))] = some (.exit 0, [(0, .v (.string (tx (pre ++ l)))), (3, .v (.bool neg)), (4, .v (.int .i64 (pwN l))), (15, .v (.int .i64 (pre ++ l).length)), (16, .v (.int .i64 (pre ++ l).length))]) := by
  intro n
  induction n with
  | zero =>
    intro i v hn hi hv
    obtain rfl : i = l.length := by omega
    rw [List.take_of_length_le (Nat.le_refl _)] at hv
    subst hv
    rw [ex0_floats_power, ← List.length_append]
    obtain ⟨L, hL⟩ : ∃ L, pre ++ l = L := ⟨_, rfl⟩
    rw [hL]
    simp [pwN]
  | succ n ih =>
    intro i v hn hi hv
    have hlt : i < l.length := by omega
    have hx := ha _ (List.getElem_mem hlt)
    have hv2 := dV_take_succ hlt
    have hlt2 : pre.length + i < (pre ++ l).length := by simp; omega
    have hg : (pre ++ l)[pre.length + i]'hlt2 = l[i] := by simp
    obtain ⟨c, hc⟩ : ∃ c, (l[i]).toNat = c := ⟨_, rfl⟩
    rw [hc] at hx hv2
    rw [← hg] at hc
    obtain ⟨d, hd⟩ : ∃ d, c - 48 = d := ⟨_, rfl⟩
    rw [hd] at hv2
    have h0 := ih (i + 1) (min (10 * v + d) 100000) (by omega) (by omega) (by omega)
    rw [← Nat.add_assoc] at h0
    have hsz : (pre ++ l).length ≤ 1000000 := by simp; omega
    obtain ⟨k, hk⟩ : ∃ k, pre.length + i = k := ⟨_, rfl⟩
    simp only [hk] at hlt2 hc h0 ⊢
    obtain ⟨L, hL⟩ : ∃ L, pre ++ l = L := ⟨_, rfl⟩
    simp only [hL] at hlt2 hc h0 hsz ⊢
    have hv9 : v ≤ 100000 := by omega
    have hw := wrap_succ hlt2 (by omega)
    have w1 : IntKind.u8.wrap ((c : Int) - 48) = (d : Int) := by rw [wrap_u8] <;> omega
    have w2 : IntKind.i64.wrap (d : Int) = (d : Int) := by rw [wrap_i64] <;> omega
    obtain ⟨f, hf⟩ : ∃ f, 10 * v = f := ⟨_, rfl⟩
    have w5 : IntKind.i64.wrap (10 * (v : Int)) = (f : Int) := by rw [wrap_i64] <;> omega
    obtain ⟨g, hg2⟩ : ∃ g, f + d = g := ⟨_, rfl⟩
    have w6 : IntKind.i64.wrap ((f : Int) + d) = (g : Int) := by rw [wrap_i64] <;> omega
    rw [hf, hg2] at h0
    have e3 : (if (g : Int) < 100000 then (g : Int) else 100000) = ((min g 100000 : Nat) : Int) := by split <;> omega
    have e4 : (if 100000 < g then (100000 : Int) else (g : Int)) = ((min g 100000 : Nat) : Int) := by split <;> omega
    have c45 : ¬ c = 45 := by omega
    rw [succ_cast] at h0
    rw [← h0, ex0_floats_power]
    simp [hlt2, hc, c45, w1, w2, w5, w6, hw, e3, e4]
theorem c_fpower (neg : Bool) (l : List UInt8) (ha : AllD l) (hl : l.length ≤ 900000) : Cinf T n_floats_power [.v (.string (tx ((if neg then [45] else []) ++ l)))] = some (.v (.int .i64 (if neg then -(pwN l : Int) else pwN l)), [.dead]) := by
  rw [run_floats_power]
  have hp : pwN l ≤ 100000 := by unfold pwN; omega
  cases neg with
  | false =>
    have h0 := fpower_loop false [] l ha (by simp; omega) l.length 0 0 rfl (Nat.zero_le _) (by simp [dV])
    rw [List.nil_append, List.length_nil, Nat.add_zero, Int.natCast_zero] at h0
    cases l with
    | nil => simp at h0; simp [Run, h0]
    | cons x l =>
      have h3 := ha x (by simp)
      have h4 : ¬ x.toNat = 45 := by omega
      have hpos : 0 < (x :: l).length := by simp
      have hc : (x :: l)[0]'hpos = x := rfl
      simp only [Bool.false_eq_true, if_false, List.nil_append]
      obtain ⟨L, hL⟩ : ∃ L, x :: l = L := ⟨_, rfl⟩
      simp only [hL] at h0 hc hpos hp ⊢
      simp [Run, h0, hc, h4, hpos]
  | true =>
    have h0 := fpower_loop true [45] l ha (by simp; omega) l.length 0 0 rfl (Nat.zero_le _) (by simp [dV])
    rw [Nat.add_zero, Int.natCast_zero] at h0
    rw [if_pos rfl, if_pos rfl]
    have hc : ([45] ++ l)[0]'(by simp) = 45 := rfl
    have hlen : ([45] ++ l).length = l.length + 1 := by simp
    have w1 : IntKind.i64.wrap (-(pwN l : Int)) = -(pwN l : Int) := by rw [wrap_i64] <;> omega
    obtain ⟨L, hL⟩ : ∃ L, [45] ++ l = L := ⟨_, rfl⟩
    simp only [hL] at h0 hc hlen ⊢
    have hpos : 0 < L.length := by omega
    have hfirst : Exec T l0_floats_power [(0, .v (.string (tx L))), (3, .v (.bool true)), (4, .v (.int .i64 0)), (15, .v (.int .i64 L.length)), (16, .v (.int .i64 0))] = Exec T l0_floats_power [(0, .v (.string (tx L))), (3, .v (.bool true)), (4, .v (.int .i64 0)), (15, .v (.int .i64 L.length)), (16, .v (.int .i64 ([45] : List UInt8).length))] := by
      rw [ex0_floats_power]
      simp [hpos, hc]
    rw [h0] at hfirst
    simp [Run, hfirst, hpos, hc, w1]
theorem c_Inf (neg : Bool) : Cinf T n_math_Inf [.v (.int .i64 (if neg then -1 else 1))] = some (.v (.float .f64 (wrd neg infR)), [.dead]) := by
  have hi : infR = 9218868437227405312 := rfl
  rw [run_math_Inf]
  unfold wrd
  rw [hi]
  cases neg <;> simp [Run]
theorem c_NaN : ∃ w, Cinf T n_math_NaN [] = some (.v (.float .f64 w), []) := by
  rw [run_math_NaN]
  exact ⟨9221120237041090561, by simp [Run]⟩
theorem c_Copysign (neg : Bool) : Cinf T n_math_Copysign [.v (.float .f64 0), .v (.float .f64 (if neg then 13830554455654793216 else 4607182418800017408))] = some (.v (.float .f64 (wrd neg 0)), [.dead, .dead]) := by
  have a1 : binInt .andNot .u64 0 9223372036854775808 = some (.int .u64 0) := rfl
  have a2 : binInt .and .u64 13830554455654793216 9223372036854775808 = some (.int .u64 9223372036854775808) := and64 (x := 13830554455654793216) (y := 9223372036854775808) (by decide) (by decide) (by decide +kernel)
  have a3 : binInt .and .u64 4607182418800017408 9223372036854775808 = some (.int .u64 0) := and64 (x := 4607182418800017408) (y := 9223372036854775808) (by decide) (by decide) (by decide +kernel)
  have a4 : binInt .or .u64 0 9223372036854775808 = some (.int .u64 9223372036854775808) := or64 (x := 0) (y := 9223372036854775808) (by decide) (by decide) (by decide +kernel)
  have a5 : binInt .or .u64 0 0 = some (.int .u64 0) := or64 (x := 0) (y := 0) (by decide) (by decide) (by decide +kernel)
  rw [run_math_Copysign]
  unfold wrd
  cases neg <;> simp [-binInt_or, -binInt_and, -binInt_andNot, Run, a1, a2, a3, a4, a5]
theorem c_value (c : Nat) (hc : c < 256) : ∃ v : Nat, v < 300 ∧ Cinf T n_floats_value [.v (.int .u8 c)] = some (.v (.int .i64 v), [.dead]) := by
  rw [run_floats_value]
  by_cases h1 : c ≤ 57
  · have w1 : IntKind.u8.wrap ((c : Int) - 48) = ((((c : Int) - 48) % 256).toNat : Nat) := by
      simp only [IntKind.wrap, IntKind.signed, IntKind.bits]
      simp
      omega
    generalize hk : ((((c : Int) - 48) % 256).toNat) = k at w1
    have hk2 : k < 256 := by omega
    have w2 : IntKind.i64.wrap (k : Int) = (k : Int) := by rw [wrap_i64] <;> omega
    exact ⟨k, by omega, by simp [Run, h1, w1, w2]⟩
  · by_cases h2 : 97 ≤ c
    · obtain ⟨k, hk⟩ : ∃ k, c - 97 = k := ⟨_, rfl⟩
      have w1 : IntKind.u8.wrap ((c : Int) - 97) = (k : Int) := by rw [wrap_u8] <;> omega
      have w2 : IntKind.i64.wrap (k : Int) = (k : Int) := by rw [wrap_i64] <;> omega
      have w3 : IntKind.i64.wrap ((k : Int) + 10) = ((k + 10 : Nat) : Int) := by rw [wrap_i64] <;> omega
      exact ⟨k + 10, by omega, by simp [Run, h1, h2, w1, w2, w3]⟩
    · have w1 : IntKind.u8.wrap ((c : Int) - 65) = ((((c : Int) - 65) % 256).toNat : Nat) := by
        simp only [IntKind.wrap, IntKind.signed, IntKind.bits]
        simp
        omega
      generalize hk : ((((c : Int) - 65) % 256).toNat) = k at w1
      have hk2 : k < 256 := by omega
      have w2 : IntKind.i64.wrap (k : Int) = (k : Int) := by rw [wrap_i64] <;> omega
      have w3 : IntKind.i64.wrap ((k : Int) + 10) = ((k + 10 : Nat) : Int) := by rw [wrap_i64] <;> omega
      exact ⟨k + 10, by omega, by simp [Run, h1, h2, w1, w2, w3]⟩
def txt0 : List PV := txt7 false false false ⟨#[]⟩ false 0 ⟨#[]⟩
theorem c_takenL (s : ByteArray) (h : 4096 < s.size) : Cinf T n_floats_taken [.v (.string s)] = some (.tup [.agg txt0, .v (.int .i64 4), .v (.int .i64 0)], [.dead]) := by
  rw [run_floats_taken]
  unfold txt0 txt7
  simp [Run, h]
theorem c_takenB (s : ByteArray) (h : s.size ≤ 4096) (t : List PV) (a : Int) (c : Cinf T n_floats_cut [.v (.string s)] = some (.tup [.agg t, .v (.int .i64 a)], [.dead])) (nan inf hx : Bool) (dg pw : ByteArray) (bh : Nat) (ht : t = txt7 (sgB s) nan inf dg hx bh pw) (ha : 0 ≤ a) :
    Cinf T n_floats_taken [.v (.string s)] = some (.tup [.agg txt0, .v (.int .i64 20), .v (.int .i64 a)], [.dead]) := by
  subst ht
  rw [run_floats_taken]
  unfold txt0 txt7 at *
  have h' : ¬ 4096 < s.size := by omega
  simp [Run, h', c, ha]
theorem c_takenG (s : ByteArray) (h : s.size ≤ 4096) (t : List PV) (c : Cinf T n_floats_cut [.v (.string s)] = some (.tup [.agg t, .v (.int .i64 (-1))], [.dead])) (nan inf hx : Bool) (dg pw : ByteArray) (bh : Nat) (ht : t = txt7 (sgB s) nan inf dg hx bh pw) :
    Cinf T n_floats_taken [.v (.string s)] = some (.tup [.agg t, .v (.int .i64 0), .v (.int .i64 0)], [.dead]) := by
  subst ht
  rw [run_floats_taken]
  unfold txt7 at *
  have h' : ¬ 4096 < s.size := by omega
  simp [Run, h', c]
end Go.AM.F

/- floats: a decimal's quotient. No conditions. -/
namespace Go.AM.F
open Go Go.AM
set_option maxRecDepth 10000
set_option linter.unusedSimpArgs false
attribute [local simp] j0_floats_text_quotient j1_floats_text_quotient w0_floats_text_quotient j2_floats_text_quotient j3_floats_text_quotient j4_floats_text_quotient j5_floats_text_quotient b_floats_text_quotient a_floats_text_quotient
/-- A quotient's answer. -/
def qt4 (n d : Nat) (big small : Bool) : PV := .tup [.own 1 (ul (limbs n)), .own 1 (ul (limbs d)), .v (.bool big), .v (.bool small)]
def qtD (n : Nat) (p : Int) : PV := if n = 0 then qt4 0 1 false false else if 600 < ((digs n).length : Int) + p then qt4 0 1 true false else if ((digs n).length : Int) + p < -600 then qt4 0 1 false true else if 0 ≤ p then qt4 (n * 10 ^ p.toNat) 1 false false else qt4 n (10 ^ (-p).toNat) false false
set_option maxHeartbeats 4000000 in
theorem c_quotD (neg nan inf : Bool) (L : List UInt8) (pw : ByteArray) (bh : Nat) (P : Int) (hb : bh ≤ 4096) (hP : -100000 ≤ P ∧ P ≤ 100000) (hL : AllD L) (hL0 : L ≠ []) (hlen : L.length ≤ 5000)
    (c1 : Cinf T n_floats_power [.v (.string pw)] = some (.v (.int .i64 P), [.dead])) :
    Cinf T n_floats_text_quotient [.agg (txt7 neg nan inf (tx L) false bh pw)] = some (qtD (dV L) (P - bh), [.dead]) := by
  have r1 := c_Read (tx L) (by rw [tx_size]; omega)
  rw [readR_good hL hL0] at r1
  have hsm : Sml (dV L) := sml_of (dV_lt hL) hlen
  generalize dV L = n at *
  have hfit := hsm.fit
  have f1 := c_From 1 (by decide)
  rw [Int.natCast_one] at f1
  have p1 := c_Print (limbs n) hfit
  rw [val_limbs, printT_digs] at p1
  have l1 := c_Len (limbs n) hfit
  rw [val_limbs] at l1
  obtain ⟨p, hp⟩ : ∃ p, P - (bh : Int) = p := ⟨_, rfl⟩
  have w1 : IntKind.i64.wrap (P - (bh : Int)) = p := by rw [wrap_i64] <;> omega
  rw [hp]
  have hdl := hsm.digs
  obtain ⟨t, ht⟩ : ∃ t, ((digs n).length : Int) + p = t := ⟨_, rfl⟩
  have hsz : (tx (digs n)).size = (digs n).length := tx_size _
  obtain ⟨S, hS⟩ : ∃ S, tx (digs n) = S := ⟨_, rfl⟩
  rw [hS] at p1 hsz
  have w3' : IntKind.i64.wrap ((S.size : Int) + p) = t := by rw [hsz, wrap_i64] <;> omega
  unfold qtD qt4
  rw [ht]
  rw [run_floats_text_quotient]
  unfold txt7
  obtain ⟨A, hA⟩ : ∃ A, tx L = A := ⟨_, rfl⟩
  rw [hA] at r1 ⊢
  by_cases hn0 : n = 0
  · subst hn0
    rw [nbits_zero] at l1
    rw [if_pos rfl]
    have e0 : ul (limbs 0) = [] := by rw [limbs_zero]; rfl
    rw [e0] at r1 p1 l1 ⊢
    simp [Run, f1, r1, c1, w1, p1, w3', l1]
  · rw [if_neg hn0]
    have e0 : ul (limbs 0) = [] := by rw [limbs_zero]; rfl
    have hnb : ¬ nbits n = 0 := fun h => hn0 (nbits_eq_zero.1 h)
    by_cases h1 : 600 < t
    · rw [if_pos h1, e0]
      simp [Run, f1, r1, c1, w1, p1, w3', l1, hnb, h1]
    · rw [if_neg h1]
      by_cases h2 : t < -600
      · rw [if_pos h2, e0]
        simp [Run, f1, r1, c1, w1, p1, w3', l1, hnb, h1, h2]
      · rw [if_neg h2]
        have e10 : ul [10] = [.v (.int .u32 10)] := by simp [ul]
        have hd0 := (digs_bounds n hn0).2.2
        by_cases h3 : 0 ≤ p
        · rw [if_pos h3]
          obtain ⟨m, hm⟩ : ∃ m, p.toNat = m := ⟨_, rfl⟩
          have hm2 : m ≤ 600 := by omega
          have pw1 := c_Pow [10] ⟨Lim.one (by decide), by decide⟩ (by decide) p
          have hpr : powR (val [10]) p = .tup [.own 1 (ul (limbs (10 ^ m))), .v (.int .i64 0)] := by
            unfold powR
            have h4 : nbits (val [10]) = 4 := by rw [show val [10] = 10 by simp [val]]; exact nbits10
            rw [if_neg (by omega), h4, hm, if_neg (by omega), show val [10] = 10 by simp [val]]
          rw [hpr, e10] at pw1
          have hft := fit_ten (m := m) (by omega)
          have m1 := c_Mul (limbs n) (limbs (10 ^ m)) hfit hft
          rw [val_limbs, val_limbs] at m1
          rw [hm]
          obtain ⟨B, hB⟩ : ∃ B, 10 ^ m = B := ⟨_, rfl⟩
          rw [hB] at pw1 m1 ⊢
          obtain ⟨C, hC⟩ : ∃ C, n * B = C := ⟨_, rfl⟩
          rw [hC] at m1 ⊢
          simp [Run, f1, r1, c1, w1, p1, w3', l1, hnb, h1, h2, h3, pw1, m1]
        · rw [if_neg h3]
          obtain ⟨m, hm⟩ : ∃ m, (-p).toNat = m := ⟨_, rfl⟩
          have hm2 : m ≤ 5600 := by omega
          have wn : IntKind.i64.wrap (-p) = -p := by rw [wrap_i64] <;> omega
          have pw1 := c_Pow [10] ⟨Lim.one (by decide), by decide⟩ (by decide) (-p)
          have hpr : powR (val [10]) (-p) = .tup [.own 1 (ul (limbs (10 ^ m))), .v (.int .i64 0)] := by
            unfold powR
            have h4 : nbits (val [10]) = 4 := by rw [show val [10] = 10 by simp [val]]; exact nbits10
            rw [if_neg (by omega), h4, hm, if_neg (by omega), show val [10] = 10 by simp [val]]
          rw [hpr, e10] at pw1
          rw [hm]
          obtain ⟨B, hB⟩ : ∃ B, 10 ^ m = B := ⟨_, rfl⟩
          rw [hB] at pw1 ⊢
          simp [Run, f1, r1, c1, w1, p1, w3', l1, hnb, h1, h2, h3, wn, pw1]
end Go.AM.F

/- floats: a hexadecimal's quotient: some answer. No conditions. -/
namespace Go.AM.F
open Go Go.AM
set_option maxRecDepth 10000
set_option linter.unusedSimpArgs false
set_option exponentiation.threshold 110000
attribute [local simp] j0_floats_text_quotient j1_floats_text_quotient w0_floats_text_quotient j2_floats_text_quotient j3_floats_text_quotient j4_floats_text_quotient j5_floats_text_quotient b_floats_text_quotient a_floats_text_quotient
def aft31 : PV := .tup [.ref 33 [0], .v (.int .i64 0)]
def aft33 : PV := .tup [.dead, .v (.int .i64 0)]
def hE (neg nan inf : Bool) (S pw : ByteArray) (bh : Nat) (v i : Nat) (x31 x33 x34 : PV) : Env := [(1, .box (txt7 neg nan inf S true bh pw)), (6, .own 1 (ul (limbs 1))), (7, .own 1 (ul (limbs v))), (22, .dead), (27, .v (.int .i64 S.size)), (28, .v (.int .i64 i)), (31, x31), (33, x33), (34, x34), (44, .dead), (73, .dead), (76, .dead), (77, .dead)]
theorem hx_step (neg nan inf : Bool) (S pw : ByteArray) (bh : Nat) (v i : Nat) (hlt : i < S.size) (hs : S.size ≤ 100000) (hv : Fit (limbs v)) (hv2 : Fit (limbs (v * 16))) (x31 x33 x34 : PV) (hx : (x31 = .dead ∧ x33 = .dead ∧ x34 = .dead) ∨ (x31 = aft31 ∧ x33 = aft33 ∧ x34 = .ref 33 [0])) :
    ∃ x : Nat, x < 300 ∧ Exec T l0_floats_text_quotient (hE neg nan inf S pw bh v i x31 x33 x34) = Exec T l0_floats_text_quotient (hE neg nan inf S pw bh (v * 16 + x) (i + 1) aft31 aft33 (.ref 33 [0])) := by
  obtain ⟨x, hx3, c3⟩ := c_value (ch S i) (by have := ch_small S i; omega)
  refine ⟨x, hx3, ?_⟩
  have u1 := c_Up (limbs v) hv 4
  rw [val_limbs] at u1
  have hup : upR v 4 = .tup [.own 1 (ul (limbs (v * 16))), .v (.int .i64 0)] := by
    unfold upR
    rw [if_neg (by omega)]
    rfl
  rw [hup] at u1
  have f2 := c_From x (by omega)
  have a1 := c_Add (limbs (v * 16)) (limbs x) hv2 (fit_bits (k := 64) (by omega) (by decide))
  rw [val_limbs, val_limbs] at a1
  have ww : IntKind.u64.wrap (x : Int) = (x : Int) := u64_nat (by omega)
  have hw := wrap_succ hlt (by omega)
  generalize v * 16 = v16 at *
  rw [ex0_floats_text_quotient]
  unfold hE txt7 aft31 aft33 at *
  rw [succ_cast]
  rcases hx with ⟨rfl, rfl, rfl⟩ | ⟨rfl, rfl, rfl⟩
  · simp [hlt, ch_eq, u1, c3, ww, f2, a1, hw]
  · simp [hlt, ch_eq, u1, c3, ww, f2, a1, hw]
theorem b16 (i : Nat) : 20 * 16 ^ (i + 1) = 16 * (20 * 16 ^ i) := by rw [Nat.pow_succ]; omega
theorem fit_hx {v i : Nat} (h : v + 20 ≤ 20 * 16 ^ i) (hi : i ≤ 5000) : v < 2 ^ 20010 := by
  have h1 : 16 ^ i ≤ 16 ^ 5000 := Nat.pow_le_pow_right (by decide) hi
  have h2 : 20 * 16 ^ 5000 ≤ 2 ^ 20010 := by decide +kernel
  generalize 16 ^ i = A at *
  generalize 16 ^ 5000 = B at *
  generalize 2 ^ 20010 = C at *
  omega
theorem hx_loop (neg nan inf : Bool) (S pw : ByteArray) (bh : Nat) (hs : S.size ≤ 5000) : ∀ (n i v : Nat), S.size - i = n → i ≤ S.size → v + 20 ≤ 20 * 16 ^ i →
    ∃ v' : Nat, v' < 2 ^ 20010 ∧ Exec T l0_floats_text_quotient (hE neg nan inf S pw bh v i aft31 aft33 (.ref 33 [0])) = some (.exit 0, hE neg nan inf S pw bh v' S.size aft31 aft33 (.ref 33 [0])) := by
  intro n
  induction n with
  | zero =>
    intro i v hn hi hv
    obtain rfl : i = S.size := by omega
    refine ⟨v, fit_hx hv hs, ?_⟩
    rw [ex0_floats_text_quotient]
    unfold hE txt7 aft31 aft33
    simp
  | succ n ih =>
    intro i v hn hi hv
    have hb := b16 i
    have hv1 : v + 20 ≤ 20 * 16 ^ (i + 1) := by rw [hb]; omega
    have hv2 : v * 16 + 20 ≤ 20 * 16 ^ (i + 1) := by rw [hb]; omega
    obtain ⟨x, hx, hst⟩ := hx_step neg nan inf S pw bh v i (by omega) (by omega) (fit_bits (fit_hx hv1 (by omega)) (by decide)) (fit_bits (fit_hx hv2 (by omega)) (by decide)) _ _ _ (.inr ⟨rfl, rfl, rfl⟩)
    obtain ⟨v', h1, h2⟩ := ih (i + 1) (v * 16 + x) (by omega) (by omega) (by rw [hb]; omega)
    exact ⟨v', h1, hst.trans h2⟩
theorem hx_all (neg nan inf : Bool) (S pw : ByteArray) (bh : Nat) (hs : S.size ≤ 5000) (h0 : 0 < S.size) :
    ∃ v' : Nat, v' < 2 ^ 20010 ∧ Exec T l0_floats_text_quotient (hE neg nan inf S pw bh 0 0 .dead .dead .dead) = some (.exit 0, hE neg nan inf S pw bh v' S.size aft31 aft33 (.ref 33 [0])) := by
  obtain ⟨x, hx, hst⟩ := hx_step neg nan inf S pw bh 0 0 h0 (by omega) (fit_bits (k := 64) (by decide) (by decide)) (fit_bits (k := 64) (by decide) (by decide)) _ _ _ (.inl ⟨rfl, rfl, rfl⟩)
  obtain ⟨v', h1, h2⟩ := hx_loop neg nan inf S pw bh hs (S.size - 1) 1 (0 * 16 + x) (by omega) (by omega) (by omega)
  exact ⟨v', h1, hst.trans h2⟩
set_option maxHeartbeats 4000000 in
theorem c_quotX (neg nan inf : Bool) (S pw : ByteArray) (bh : Nat) (P : Int) (hb : bh ≤ 4096) (hP : -100000 ≤ P ∧ P ≤ 100000) (hs : S.size ≤ 5000) (h0 : 0 < S.size)
    (c1 : Cinf T n_floats_power [.v (.string pw)] = some (.v (.int .i64 P), [.dead])) :
    ∃ (n d : Nat) (big small : Bool), Cinf T n_floats_text_quotient [.agg (txt7 neg nan inf S true bh pw)] = some (qt4 n d big small, [.dead]) ∧ Big n ∧ Big d ∧ d ≠ 0 := by
  obtain ⟨v, hv, hl⟩ := hx_all neg nan inf S pw bh hs h0
  have e0 : ul (limbs 0) = [] := by rw [limbs_zero]; rfl
  have f1 := c_From 1 (by decide)
  rw [Int.natCast_one] at f1
  have hfit : Fit (limbs v) := fit_bits hv (by decide)
  have l1 := c_Len (limbs v) hfit
  rw [val_limbs] at l1
  have hnb := nbits_le hv
  obtain ⟨p, hp⟩ : ∃ p, P - ((4 * bh : Nat) : Int) = p := ⟨_, rfl⟩
  have w0 : IntKind.i64.wrap (4 * (bh : Int)) = ((4 * bh : Nat) : Int) := by rw [wrap_i64] <;> omega
  have w1 : IntKind.i64.wrap (P - ((4 * bh : Nat) : Int)) = p := by rw [wrap_i64] <;> omega
  obtain ⟨q, hq⟩ : ∃ q, 4 * bh = q := ⟨_, rfl⟩
  rw [hq] at w0 w1 hp
  obtain ⟨t, ht⟩ : ∃ t, (nbits v : Int) + p = t := ⟨_, rfl⟩
  have w2 : IntKind.i64.wrap ((nbits v : Int) + p) = t := by rw [wrap_i64] <;> omega
  have B0 : Big 0 := ⟨by decide +kernel⟩
  have B1 : Big 1 := ⟨by decide +kernel⟩
  have BB : ∀ k, k < 100000 → 2 ^ k < 2 ^ 100000 := fun k hk => Nat.pow_lt_pow_right (by decide) hk
  rw [run_floats_text_quotient]
  unfold hE txt7 aft31 aft33 qt4 at *
  rw [e0] at hl
  simp only [Int.natCast_zero] at hl
  by_cases hz : nbits v = 0
  · have hv0 : v = 0 := nbits_eq_zero.1 hz
    subst hv0
    rw [e0] at hl l1
    rw [hz] at l1 w2
    refine ⟨0, 1, false, false, ?_, B0, B1, by decide⟩
    rw [e0]
    simp only [Int.natCast_zero] at l1 w2
    simp [Run, f1, hl, c1, l1, w0, w1, w2]
  · by_cases h1 : 2000 < t
    · refine ⟨0, 1, true, false, ?_, B0, B1, by decide⟩
      rw [e0]
      simp [Run, f1, hl, c1, l1, w0, w1, w2, hz, h1]
    · by_cases h2 : t < -2000
      · refine ⟨0, 1, false, true, ?_, B0, B1, by decide⟩
        rw [e0]
        simp [Run, f1, hl, c1, l1, w0, w1, w2, hz, h1, h2]
      · by_cases h3 : 0 ≤ p
        · have u1 := c_Up (limbs v) hfit p
          rw [val_limbs] at u1
          have hup : upR v p = .tup [.own 1 (ul (limbs (v * 2 ^ p.toNat))), .v (.int .i64 0)] := by
            unfold upR
            rw [if_neg (by omega)]
          rw [hup] at u1
          refine ⟨v * 2 ^ p.toNat, 1, false, false, ?_, ⟨?_⟩, B1, by decide⟩
          · generalize v * 2 ^ p.toNat = C at *
            simp [Run, f1, hl, c1, l1, w0, w1, w2, hz, h1, h2, h3, u1]
          · refine Nat.lt_of_lt_of_le (Nat.mul_lt_mul_of_pos_right hv (Nat.two_pow_pos _)) ?_
            rw [← Nat.pow_add]
            exact Nat.pow_le_pow_right (by decide) (by omega)
        · have f2 : Fit (limbs 1) := fit_bits (k := 64) (by decide) (by decide)
          have u1 := c_Up (limbs 1) f2 (-p)
          rw [val_limbs] at u1
          have hup : upR 1 (-p) = .tup [.own 1 (ul (limbs (1 * 2 ^ (-p).toNat))), .v (.int .i64 0)] := by
            unfold upR
            rw [if_neg (by omega)]
          rw [hup, Nat.one_mul] at u1
          have wn : IntKind.i64.wrap (-p) = -p := by rw [wrap_i64] <;> omega
          refine ⟨v, 2 ^ (-p).toNat, false, false, ?_, ⟨Nat.lt_trans hv (BB 20010 (by decide))⟩, ⟨BB _ (by omega)⟩, Nat.ne_of_gt (Nat.two_pow_pos _)⟩
          generalize 2 ^ (-p).toNat = C at *
          simp [Run, f1, hl, c1, l1, w0, w1, w2, hz, h1, h2, h3, wn, u1]
end Go.AM.F

/- floats.Read. No conditions. -/
namespace Go.AM.F
open Go Go.AM
set_option maxRecDepth 10000
set_option linter.unusedSimpArgs false
set_option exponentiation.threshold 110000
attribute [local simp] j0_floats_Read j1_floats_Read j2_floats_Read j3_floats_Read j4_floats_Read b_floats_Read a_floats_Read
def gNeg (hex : Bool) (s : ByteArray) (i : Nat) : Bool := gE hex s i && gS hex s i
def gPL (hex : Bool) (s : ByteArray) (i : Nat) : List UInt8 := if gE hex s i then sub s (g1 hex s i) (gQ hex s i) else []
theorem gX_eq (hex : Bool) (s : ByteArray) (i : Nat) : gX hex s i = (if gNeg hex s i then [45] else []) ++ gPL hex s i := by
  unfold gX gNeg gPL
  cases gE hex s i <;> simp
theorem dgX_sub (s : ByteArray) {k : Nat} (h : k ≤ s.size) : AllD (sub s k (dgX false s k)) := by
  rw [dgX_dec]
  exact AllD.sub s (dgE_le s h).2 fun j h1 h2 => dgE_good s h1 h2
theorem gPL_all (hex : Bool) (s : ByteArray) (i : Nat) : AllD (gPL hex s i) := by
  unfold gPL
  cases h : gE hex s i with
  | false => intro x hx; simp at hx
  | true => exact dgX_sub s (gT_le h)
theorem gPL_len (hex : Bool) (s : ByteArray) (i : Nat) : (gPL hex s i).length ≤ s.size := by
  unfold gPL
  cases h : gE hex s i with
  | false => simp
  | true =>
    have := gQ_le h
    rw [if_pos rfl, sub_len s this.2]
    omega
def gPI (hex : Bool) (s : ByteArray) (i : Nat) : Int := if gNeg hex s i then -(pwN (gPL hex s i) : Int) else pwN (gPL hex s i)
theorem gPI_range (hex : Bool) (s : ByteArray) (i : Nat) : -100000 ≤ gPI hex s i ∧ gPI hex s i ≤ 100000 := by
  unfold gPI pwN
  split <;> omega
theorem c_gpower (hex : Bool) (s : ByteArray) (i : Nat) (hs : s.size ≤ 4096) : Cinf T n_floats_power [.v (.string (tx (gX hex s i)))] = some (.v (.int .i64 (gPI hex s i)), [.dead]) := by
  have := gPL_len hex s i
  rw [gX_eq]
  exact c_fpower (gNeg hex s i) (gPL hex s i) (gPL_all hex s i) (by omega)
theorem gB_le (hex : Bool) (s : ByteArray) (i : Nat) (hs : s.size ≤ 4096) : gB hex s i ≤ 4096 := by
  unfold gB
  cases h : gD hex s i with
  | false => simp
  | true =>
    have := gP_le h
    rw [if_pos rfl]
    omega
theorem gL_all (s : ByteArray) {i : Nat} (h : i ≤ s.size) : AllD (gL false s i) := by
  unfold gL
  refine AllD.append (dgX_sub s h) ?_
  cases hd : gD false s i with
  | false => intro x hx; simp at hx
  | true => exact dgX_sub s (isAt_lt hd).1
theorem gL_len (hex : Bool) (s : ByteArray) {i : Nat} (h : i ≤ s.size) (hs : s.size ≤ 4096) : (gL hex s i).length ≤ 4096 ∧ (gW hex s i ≠ i → gL hex s i ≠ []) := by
  have hw := gW_le (hex := hex) h
  have hl1 : (sub s i (gW hex s i)).length = gW hex s i - i := sub_len s hw.2
  refine ⟨?_, fun h2 h3 => ?_⟩
  · unfold gL
    rw [List.length_append, hl1]
    cases hd : gD hex s i with
    | false => simp; omega
    | true =>
      have hp := gP_le hd
      rw [if_pos rfl, sub_len s hp.2]
      omega
  · unfold gL at h3
    rw [(List.append_eq_nil_iff.1 h3).1] at hl1
    simp at hl1
    omega
/-- What is read. -/
noncomputable def WQ (n : Nat) (p : Int) : Nat := if 0 ≤ p then W (n * 10 ^ p.toNat) 1 else W n (10 ^ (-p).toNat)
def okR (w : Nat) : PV := .tup [.v (.float .f64 w), .v (.int .i64 0), .v (.int .i64 0)]
theorem conv_one : Ieee.Datum.toInt Ieee.Toward.zero (FloatKind.f64.decode 4607182418800017408) = some 1 := by rfl
theorem conv_neg : Ieee.Datum.toInt Ieee.Toward.zero (FloatKind.f64.decode 13830554455654793216) = some (-1) := by rfl
theorem min_i64 : IntKind.i64.min = -9223372036854775808 := by rfl
theorem c_fReadLong (s : ByteArray) (h : 4096 < s.size) : Cinf T n_floats_Read [.v (.string s)] = some (.tup [.v (.float .f64 0), .v (.int .i64 4), .v (.int .i64 0)], [.dead]) := by
  have t1 := c_takenL s h
  rw [run_floats_Read]
  unfold txt0 txt7 at t1
  simp [Run, t1]
theorem c_fReadBad (s : ByteArray) (a : Int) (t1 : Cinf T n_floats_taken [.v (.string s)] = some (.tup [.agg txt0, .v (.int .i64 20), .v (.int .i64 a)], [.dead])) : Cinf T n_floats_Read [.v (.string s)] = some (.tup [.v (.float .f64 0), .v (.int .i64 20), .v (.int .i64 a)], [.dead]) := by
  rw [run_floats_Read]
  unfold txt0 txt7 at t1
  simp [Run, t1]
theorem c_fReadNan (s : ByteArray) (neg inf hx : Bool) (dg pw : ByteArray) (bh : Nat) (t1 : Cinf T n_floats_taken [.v (.string s)] = some (.tup [.agg (txt7 neg true inf dg hx bh pw), .v (.int .i64 0), .v (.int .i64 0)], [.dead])) : ∃ w, Cinf T n_floats_Read [.v (.string s)] = some (okR w, [.dead]) := by
  obtain ⟨w, hw⟩ := c_NaN
  refine ⟨w, ?_⟩
  rw [run_floats_Read]
  unfold txt7 at t1
  unfold okR
  simp [Run, t1, hw]
theorem c_fReadInf (s : ByteArray) (neg hx : Bool) (dg pw : ByteArray) (bh : Nat) (t1 : Cinf T n_floats_taken [.v (.string s)] = some (.tup [.agg (txt7 neg false true dg hx bh pw), .v (.int .i64 0), .v (.int .i64 0)], [.dead])) : Cinf T n_floats_Read [.v (.string s)] = some (okR (wrd neg infR), [.dead]) := by
  have i1 := c_Inf neg
  rw [run_floats_Read]
  unfold txt7 at t1
  unfold okR
  cases neg with
  | true =>
    rw [if_pos rfl] at i1
    generalize wrd true infR = w at *
    simp [Run, t1, conv_neg, min_i64, i1]
  | false =>
    rw [if_neg (by simp)] at i1
    generalize wrd false infR = w at *
    simp [Run, t1, conv_one, min_i64, i1]
set_option maxHeartbeats 1000000 in
theorem c_fReadQ (s : ByteArray) (neg hx : Bool) (dg pw : ByteArray) (bh : Nat) (n d : Nat) (big small : Bool) (hn : Big n) (hd : Big d) (hd0 : d ≠ 0) (t1 : Cinf T n_floats_taken [.v (.string s)] = some (.tup [.agg (txt7 neg false false dg hx bh pw), .v (.int .i64 0), .v (.int .i64 0)], [.dead]))
    (q1 : Cinf T n_floats_text_quotient [.agg (txt7 neg false false dg hx bh pw)] = some (qt4 n d big small, [.dead])) :
    Cinf T n_floats_Read [.v (.string s)] = some (okR (wrd neg (if big then infR else if small then 0 else W n d)), [.dead]) := by
  have i1 := c_Inf neg
  have y1 := c_Copysign neg
  have m1 := c_numberW neg n d hn hd hd0
  rw [run_floats_Read]
  unfold txt7 at *
  unfold qt4 at q1
  unfold okR
  cases big with
  | true =>
    rw [if_pos rfl]
    cases neg with
    | true =>
      rw [if_pos rfl] at i1
      generalize wrd true infR = w at *
      simp [Run, t1, q1, conv_neg, min_i64, i1]
    | false =>
      rw [if_neg (by simp)] at i1
      generalize wrd false infR = w at *
      simp [Run, t1, q1, conv_one, min_i64, i1]
  | false =>
    rw [if_neg (by simp)]
    cases small with
    | true =>
      rw [if_pos rfl]
      cases neg with
      | true =>
        rw [if_pos rfl] at y1
        generalize wrd true 0 = w at *
        simp [Run, t1, q1, y1]
      | false =>
        rw [if_neg (by simp)] at y1
        generalize wrd false 0 = w at *
        simp [Run, t1, q1, y1]
    | false =>
      rw [if_neg (by simp)]
      cases neg with
      | true =>
        generalize wrd true (W n d) = w at *
        simp [Run, t1, q1, m1]
      | false =>
        generalize wrd false (W n d) = w at *
        simp [Run, t1, q1, m1]
end Go.AM.F

/- floats.Read of any text; of a decimal, exactly. No conditions. -/
namespace Go.AM.F
open Go Go.AM
set_option maxRecDepth 10000
set_option linter.unusedSimpArgs false
set_option exponentiation.threshold 110000

theorem WQ_zero (p : Int) : WQ 0 p = 0 := by
  unfold WQ
  split
  · rw [Nat.zero_mul, W_zero]
  · exact W_zero _
theorem ten600 : 2 ^ 1024 ≤ 10 ^ 600 := by decide +kernel
theorem ten600' : 2 ^ 1076 ≤ 10 ^ 600 := by decide +kernel
theorem WQ_top {n : Nat} {p : Int} (h0 : n ≠ 0) (hp : 600 < ((digs n).length : Int) + p) : WQ n p = infR := by
  obtain ⟨h1, _, h3⟩ := digs_bounds n h0
  obtain ⟨k, hk⟩ : ∃ k, (digs n).length = k + 1 := ⟨(digs n).length - 1, by omega⟩
  rw [hk] at h1 hp
  rw [Nat.add_sub_cancel] at h1
  unfold WQ
  split
  · rename_i h
    have hT : 0 < 10 ^ p.toNat := Nat.pow_pos (by decide)
    refine W_top (Nat.mul_ne_zero h0 (by omega)) (by decide) ?_
    rw [Nat.mul_one]
    refine Nat.le_trans ten600 (Nat.le_trans (Nat.pow_le_pow_right (n := 10) (by decide) (show 600 ≤ k + p.toNat by omega)) ?_)
    rw [Nat.pow_add]
    exact Nat.mul_le_mul_right _ h1
  · rename_i h
    refine W_top h0 (Nat.pow_pos (by decide)) ?_
    refine Nat.le_trans (Nat.mul_le_mul_right _ ten600) ?_
    rw [← Nat.pow_add]
    exact Nat.le_trans (Nat.pow_le_pow_right (by decide) (by omega)) h1
theorem WQ_low {n : Nat} {p : Int} (h0 : n ≠ 0) (hp : ((digs n).length : Int) + p < -600) : WQ n p = 0 := by
  obtain ⟨_, h2, h3⟩ := digs_bounds n h0
  unfold WQ
  rw [if_neg (by omega)]
  refine W_low (Nat.pow_pos (by decide)) ?_
  refine Nat.le_trans (Nat.mul_le_mul (Nat.le_of_lt h2) ten600') ?_
  rw [← Nat.pow_add]
  exact Nat.pow_le_pow_right (by decide) (by omega)
theorem big_ten {n k : Nat} (h : n < 10 ^ k) (hk : k ≤ 25000) : Big n := by
  refine Big.of (k := 4 * k) (Nat.lt_of_lt_of_le h ?_) (by omega)
  rw [Nat.pow_mul]
  exact Nat.pow_le_pow_left (by decide) _
theorem big_mul {n k m : Nat} (h : n < 10 ^ k) (hk : k + m ≤ 25000) : Big (n * 10 ^ m) := by
  refine big_ten (k := k + m) ?_ hk
  rw [Nat.pow_add]
  exact Nat.mul_lt_mul_of_pos_right h (Nat.pow_pos (by decide))
theorem big_pow {m : Nat} (hm : m ≤ 20000) : Big (10 ^ m) := by
  refine big_ten (k := m + 1) (Nat.pow_lt_pow_right (by decide) (by omega)) (by omega)
/-- The answer at a decimal's quotient. -/
theorem c_fReadT (s : ByteArray) (neg hx : Bool) (dg pw : ByteArray) (bh : Nat) (n : Nat) (p : Int) (hn : n < 10 ^ 5000)
    (t1 : Cinf T n_floats_taken [.v (.string s)] = some (.tup [.agg (txt7 neg false false dg hx bh pw), .v (.int .i64 0), .v (.int .i64 0)], [.dead]))
    (q1 : Cinf T n_floats_text_quotient [.agg (txt7 neg false false dg hx bh pw)] = some (qtD n p, [.dead])) :
    Cinf T n_floats_Read [.v (.string s)] = some (okR (wrd neg (WQ n p)), [.dead]) := by
  have hl := digs_len 5000 n (by decide) hn
  have bn : Big n := big_ten hn (by decide)
  have b0 : Big 0 := big_ten (k := 1) (by decide) (by decide)
  have b1 : Big 1 := big_ten (k := 1) (by decide) (by decide)
  unfold qtD at q1
  by_cases h0 : n = 0
  · rw [if_pos h0] at q1
    subst h0
    have r := c_fReadQ s neg hx dg pw bh 0 1 false false b0 b1 (by decide) t1 q1
    rw [if_neg (by simp), if_neg (by simp), W_zero] at r
    rw [WQ_zero]
    exact r
  · rw [if_neg h0] at q1
    by_cases h1 : 600 < ((digs n).length : Int) + p
    · rw [if_pos h1] at q1
      have r := c_fReadQ s neg hx dg pw bh 0 1 true false b0 b1 (by decide) t1 q1
      rw [if_pos rfl] at r
      rw [WQ_top h0 h1]
      exact r
    · rw [if_neg h1] at q1
      by_cases h2 : ((digs n).length : Int) + p < -600
      · rw [if_pos h2] at q1
        have r := c_fReadQ s neg hx dg pw bh 0 1 false true b0 b1 (by decide) t1 q1
        rw [if_neg (by simp), if_pos rfl] at r
        rw [WQ_low h0 h2]
        exact r
      · rw [if_neg h2] at q1
        have hd0 := (digs_bounds n h0).2.2
        by_cases h3 : 0 ≤ p
        · rw [if_pos h3] at q1
          have r := c_fReadQ s neg hx dg pw bh _ 1 false false (big_mul hn (m := p.toNat) (by omega)) b1 (by decide) t1 q1
          rw [if_neg (by simp), if_neg (by simp)] at r
          unfold WQ
          rw [if_pos h3]
          exact r
        · rw [if_neg h3] at q1
          have r := c_fReadQ s neg hx dg pw bh n _ false false bn (big_pow (m := (-p).toNat) (by omega)) (Nat.ne_of_gt (Nat.pow_pos (by decide))) t1 q1
          rw [if_neg (by simp), if_neg (by simp)] at r
          unfold WQ
          rw [if_neg h3]
          exact r
theorem hi_le (s : ByteArray) : hi s ≤ s.size := hxI_le (st_le s)
theorem gGood {hex : Bool} {s : ByteArray} {i : Nat} (h : ¬ gBad hex s i) : gW hex s i ≠ i := fun k => h (.inl k)
theorem quot_dec (s : ByteArray) (hs : s.size ≤ 4096) (hb : ¬ gBad false s (hi s)) (neg nan inf : Bool) : Cinf T n_floats_text_quotient [.agg (txt7 neg nan inf (tx (gL false s (hi s))) false (gB false s (hi s)) (tx (gX false s (hi s))))] = some (qtD (dV (gL false s (hi s))) (gPI false s (hi s) - gB false s (hi s)), [.dead]) := by
  have hh := hi_le s
  have hl := gL_len false s hh hs
  exact c_quotD neg nan inf _ _ _ _ (gB_le false s _ hs) (gPI_range false s _) (gL_all s hh) (hl.2 (gGood hb)) (by omega) (c_gpower false s _ hs)
theorem dV_gL (s : ByteArray) (hs : s.size ≤ 4096) : dV (gL false s (hi s)) < 10 ^ 5000 := by
  have hh := hi_le s
  have hl := gL_len false s hh hs
  exact Nat.lt_of_lt_of_le (dV_lt (gL_all s hh)) (Nat.pow_le_pow_right (by decide) (by omega))
/-- A decimal, whole. -/
theorem c_fReadD (s : ByteArray) (hs : s.size ≤ 4096) (hw : ¬ wordy s) (hx0 : hx s = false) (hb : ¬ gBad false s (hi s)) (hI : gI false s (hi s) = s.size) :
    Cinf T n_floats_Read [.v (.string s)] = some (okR (wrd (sgB s) (WQ (dV (gL false s (hi s))) (gPI false s (hi s) - gB false s (hi s)))), [.dead]) := by
  obtain ⟨nan, inf, h, dg, pw, bh, a, k1, k2⟩ := c_cut s hs
  obtain ⟨rfl, rfl, k3⟩ := k2.num hw
  rw [hx0] at k3
  rcases k3 with ⟨k, _⟩ | ⟨_, k, _⟩ | ⟨_, _, rfl, rfl, rfl, rfl, rfl⟩
  · exact (hb k).elim
  · omega
  · have t1 := c_takenG s hs _ k1 false false false _ _ _ rfl
    exact c_fReadT s _ _ _ _ _ _ _ (dV_gL s hs) t1 (quot_dec s hs hb _ _ _)
/-- Any text: some answer. -/
theorem c_fReadA (s : ByteArray) : ∃ w e a : Nat, Cinf T n_floats_Read [.v (.string s)] = some (.tup [.v (.float .f64 w), .v (.int .i64 e), .v (.int .i64 a)], [.dead]) ∧ (s.size = 0 ∨ 4096 < s.size → e ≠ 0) := by
  by_cases hs : 4096 < s.size
  · exact ⟨0, 4, 0, c_fReadLong s hs, fun _ => by decide⟩
  have hs' : s.size ≤ 4096 := by omega
  obtain ⟨nan, inf, h, dg, pw, bh, a, k1, k2⟩ := c_cut s hs'
  by_cases ha : 0 ≤ a
  · obtain ⟨k, rfl⟩ : ∃ k : Nat, a = k := ⟨a.toNat, by omega⟩
    exact ⟨0, 20, k, c_fReadBad s _ (c_takenB s hs' _ _ k1 nan inf h dg pw bh rfl ha), fun _ => by decide⟩
  have hne : s.size ≠ 0 := by
    intro h0
    have hA : ∀ i b, isAt s i b = false := fun i b => decide_eq_false fun k => by omega
    have hw : ¬ wordy s := by
      rintro (⟨_, k⟩ | k) <;> rw [hA] at k <;> cases k
    have hh := hi_le s
    have hbad : gBad (hx s) s (hi s) := .inl (dgX_end (hx s) s (by omega))
    rcases (k2.num hw).2.2 with ⟨_, k⟩ | ⟨k, _⟩ | ⟨k, _⟩
    · exact ha k
    · exact k hbad
    · exact k hbad
  by_cases hw : wordy s
  · rcases k2.word hw with k | ⟨rfl, k⟩
    · exact (ha k).elim
    · have t1 := c_takenG s hs' _ k1 nan inf h dg pw bh rfl
      cases nan with
      | true =>
        obtain ⟨w, hr⟩ := c_fReadNan s _ _ _ _ _ _ t1
        exact ⟨w, 0, 0, hr, fun k => by omega⟩
      | false =>
        have hin : inf = true := k.resolve_left (by simp)
        subst hin
        exact ⟨_, 0, 0, c_fReadInf s _ _ _ _ _ t1, fun k => by omega⟩
  · obtain ⟨rfl, rfl, k3⟩ := k2.num hw
    rcases k3 with ⟨_, k⟩ | ⟨_, _, k⟩ | ⟨hb, _, rfl, rfl, rfl, rfl, rfl⟩
    · exact (ha k).elim
    · exact (ha k).elim
    · have t1 := c_takenG s hs' _ k1 false false _ _ _ _ rfl
      have hh := hi_le s
      cases hxe : hx s with
      | false =>
        rw [hxe] at t1 hb
        exact ⟨_, 0, 0, c_fReadT s _ _ _ _ _ _ _ (dV_gL s hs') t1 (quot_dec s hs' hb _ _ _), fun k => by omega⟩
      | true =>
        rw [hxe] at t1 hb
        have hl := gL_len true s hh hs'
        have hne2 := hl.2 (gGood hb)
        have hpos : 0 < (gL true s (hi s)).length := List.length_pos_iff.2 hne2
        obtain ⟨n, d, big, small, q1, q2, q3, q4⟩ := c_quotX (sgB s) false false (tx (gL true s (hi s))) _ _ _ (gB_le true s _ hs') (gPI_range true s _) (by rw [tx_size]; omega) (by rw [tx_size]; exact hpos) (c_gpower true s _ hs')
        exact ⟨_, 0, 0, c_fReadQ s _ _ _ _ _ n d big small q2 q3 q4 t1 q1, fun k => by omega⟩
end Go.AM.F

/- floats.Nearest of any quotient; thickettop.number. No conditions. -/
namespace Go.AM.F
open Go Go.AM
set_option maxRecDepth 10000
set_option linter.unusedSimpArgs false
set_option exponentiation.threshold 110000
attribute [local simp] j0_floats_Nearest j1_floats_Nearest b_floats_Nearest a_floats_Nearest
attribute [local simp] j0_thickettop_number b_thickettop_number a_thickettop_number
theorem wrd_pos (r : Nat) : wrd false r = r := by unfold wrd; rw [if_neg (by simp)]
theorem W_far {n d : Nat} (hd : d ≠ 0) (h : 2000 < (nbits n : Int) - nbits d) : W n d = infR := by
  have hn : n ≠ 0 := by
    rintro rfl
    rw [nbits_zero] at h
    omega
  refine W_top hn (Nat.pos_of_ne_zero hd) ?_
  refine Nat.le_trans ?_ (nbits_low' hn)
  refine Nat.le_trans (Nat.mul_le_mul_left _ (Nat.le_of_lt (lt_nbits d))) ?_
  rw [← Nat.pow_add]
  exact Nat.pow_le_pow_right (by decide) (by omega)
theorem W_near0 {n d : Nat} (hd : d ≠ 0) (h : (nbits n : Int) - nbits d < -2000) : W n d = 0 := by
  refine W_low (Nat.pos_of_ne_zero hd) ?_
  refine Nat.le_trans ?_ (nbits_low' hd)
  refine Nat.le_trans (Nat.mul_le_mul_right _ (Nat.le_of_lt (lt_nbits n))) ?_
  rw [← Nat.pow_add]
  exact Nat.pow_le_pow_right (by decide) (by omega)
set_option maxHeartbeats 1000000 in
theorem c_NearestW (n d : Nat) (hn : Big n) (hd : Big d) (hd0 : d ≠ 0) :
    Cinf T n_floats_Nearest [.agg [.v (.bool false), .ro 1 (ul (limbs n)), .ro 1 (ul (limbs d))]] = some (.tup [.v (.float .f64 (W n d)), .v (.int .i64 0)], [.dead]) := by
  have fn : Fit (limbs n) := fit_bits hn.lt (by decide)
  have fd : Fit (limbs d) := fit_bits hd.lt (by decide)
  have o := c_Over false (limbs n) (limbs d) fn fd
  rw [val_limbs, val_limbs] at o
  unfold overR at o
  rw [if_neg hd0] at o
  rw [run_floats_Nearest]
  by_cases h0 : n = 0
  · subst h0
    rw [W_zero]
    have l1 := c_Len (limbs 0) (fit_bits (k := 64) (by decide) (by decide))
    have l2 := c_Len (limbs 1) (fit_bits (k := 64) (by decide) (by decide))
    rw [val_limbs] at l1 l2
    rw [nbits_zero] at l1
    have n1 : nbits 1 = 1 := by rw [nbits_pos (by decide)]; simp [nbits_zero]
    rw [n1] at l2
    simp only [rightR, rat, if_true] at o
    have w1 : IntKind.i64.wrap (-1) = -1 := wrap_i64 (by decide) (by decide)
    simp at l1 l2
    simp [Run, o, l1, l2, w1]
  · obtain ⟨g, hg⟩ : ∃ g, Nat.gcd n d = g := ⟨_, rfl⟩
    have hg0 : 0 < g := by rw [← hg]; exact Nat.gcd_pos_of_pos_left _ (Nat.pos_of_ne_zero h0)
    obtain ⟨n', hn'⟩ : ∃ n', n / g = n' := ⟨_, rfl⟩
    obtain ⟨d', hd'⟩ : ∃ d', d / g = d' := ⟨_, rfl⟩
    have en : n = g * n' := by rw [← hn', Nat.mul_div_cancel' (by rw [← hg]; exact Nat.gcd_dvd_left _ _)]
    have ed : d = g * d' := by rw [← hd', Nat.mul_div_cancel' (by rw [← hg]; exact Nat.gcd_dvd_right _ _)]
    unfold rightR at o
    rw [if_neg h0, hg, hn', hd'] at o
    have z1 : n' ≠ 0 := by rintro rfl; exact h0 (by rw [en, Nat.mul_zero])
    have z2 : d' ≠ 0 := by rintro rfl; exact hd0 (by rw [ed, Nat.mul_zero])
    have hn2 : n' ≤ n := by rw [← hn']; exact Nat.div_le_self _ _
    have hd2 : d' ≤ d := by rw [← hd']; exact Nat.div_le_self _ _
    have fn' : Fit (limbs n') := fit_mono fn hn2
    have fd' : Fit (limbs d') := fit_mono fd hd2
    have l1 := c_Len (limbs n') fn'
    have l2 := c_Len (limbs d') fd'
    rw [val_limbs] at l1 l2
    have b1 : nbits n' ≤ 100000 := nbits_le (Nat.lt_of_le_of_lt hn2 hn.lt)
    have b2 : nbits d' ≤ 100000 := nbits_le (Nat.lt_of_le_of_lt hd2 hd.lt)
    have b3 := nbits_one n' z1
    have hW := W_scale (n := n') (d := d') hg0 (Nat.pos_of_ne_zero z2)
    rw [← en, ← ed] at hW
    rw [hW]
    have hnum := c_numberW false n' d' ⟨Nat.lt_of_le_of_lt hn2 hn.lt⟩ ⟨Nat.lt_of_le_of_lt hd2 hd.lt⟩ z2
    rw [wrd_pos] at hnum
    have i1 := c_Inf false
    rw [if_neg (by simp), wrd_pos] at i1
    obtain ⟨t, ht⟩ : ∃ t, (nbits n' : Int) - nbits d' = t := ⟨_, rfl⟩
    have w1 : IntKind.i64.wrap ((nbits n' : Int) - nbits d') = t := by rw [wrap_i64] <;> omega
    have c1 : ¬ nbits n' = 0 := by omega
    simp only [rat] at o
    have far := W_far (n := n') z2
    have low := W_near0 (n := n') z2
    rw [ht] at far low
    clear hn hd fn fd en ed hn2 hd2 fn' fd' hW
    by_cases c2 : 2000 < t
    · rw [far c2]
      generalize infR = I at *
      simp [Run, o, l1, l2, w1, c1, c2, i1]
    · by_cases c3 : t < -2000
      · rw [low c3]
        simp [Run, o, l1, l2, w1, c1, c2, c3]
      · generalize W n' d' = w at *
        simp [Run, o, l1, l2, w1, c1, c2, c3, hnum]
/-- A whole number in digits. -/
def numL (v : Int) : List UInt8 := (if v < 0 then [45] else []) ++ digs v.natAbs
theorem c_tNumber (v : Int) (h1 : -1073741824 ≤ v) (h2 : v ≤ 1073741824) : Cinf T n_thickettop_number [.v (.int .i64 v)] = some (.v (.string (tx (numL v))), [.dead]) := by
  obtain ⟨n, hn⟩ : ∃ n, v.natAbs = n := ⟨_, rfl⟩
  have hf : Fit (limbs n) := fit_bits (k := 64) (by omega) (by decide)
  have f1 := c_From n (by omega)
  have p1 := c_Print (limbs n) hf
  rw [val_limbs, printT_digs] at p1
  have hl : (digs n).length ≤ 5000 := digs_len 5000 n (by decide) (Nat.lt_of_lt_of_le (show n < 10 ^ 10 by omega) (Nat.pow_le_pow_right (by decide) (by decide)))
  rw [run_thickettop_number]
  unfold numL
  rw [hn]
  by_cases h : v < 0
  · rw [if_pos h]
    have w1 : IntKind.i64.wrap (v + 1) = v + 1 := by rw [wrap_i64] <;> omega
    obtain ⟨m, hm⟩ : ∃ m : Nat, -(v + 1) = m := ⟨(-(v + 1)).toNat, by omega⟩
    have w2 : IntKind.i64.wrap (-(v + 1)) = (m : Int) := by rw [hm, wrap_i64] <;> omega
    have w3 : IntKind.u64.wrap (m : Int) = (m : Int) := u64_nat (by omega)
    have w4 : IntKind.u64.wrap ((m : Int) + 1) = (n : Int) := by rw [show (m : Int) + 1 = (n : Nat) by omega]; exact u64_nat (by omega)
    have em : (⟨#[45]⟩ : ByteArray) ++ tx (digs n) = tx ([45] ++ digs n) := tx_append [45] _
    have em1 : (⟨#[45]⟩ : ByteArray).size = 1 := rfl
    have e1 : 1 + (digs n).length ≤ 9223372036854775807 := by omega
    generalize digs n = D at *
    simp [Run, h, w1, w2, w3, w4, f1, p1, em, em1, e1]
  · rw [if_neg h]
    obtain rfl : v = n := by omega
    have w3 : IntKind.u64.wrap (n : Int) = (n : Int) := u64_nat (by omega)
    generalize digs n = D at *
    simp [Run, w3, f1, p1]
end Go.AM.F

/- A decimal that is put together is taken apart again. No conditions. -/
namespace Go.AM.F
open Go Go.AM
set_option maxRecDepth 10000
set_option linter.unusedSimpArgs false

theorem chL (A : List UInt8) (x : UInt8) (C : List UInt8) : ch (tx (A ++ x :: C)) A.length = x.toNat := by
  rw [ch_tx]
  simp
/-- Where digits end that stand amid others. -/
theorem dgE_list : ∀ (B A C : List UInt8), AllD B → (∀ x C', C = x :: C' → x.toNat < 48 ∨ 57 < x.toNat) → dgE (tx (A ++ (B ++ C))) A.length = A.length + B.length
  | [], A, C, _, hC => by
    rw [List.nil_append, List.length_nil, Nat.add_zero]
    cases C with
    | nil => exact dgE_end _ (by simp)
    | cons x C' =>
      refine dgE_here _ (by simp) ?_
      unfold badDig
      rw [chL]
      have := hC x C' rfl
      simp
      omega
  | b :: B, A, C, hB, hC => by
    have h1 := hB b (by simp)
    have hb : badDig (tx (A ++ (b :: B ++ C))) A.length = false := by
      unfold badDig
      rw [List.cons_append, chL]
      simp
      omega
    rw [dgE_next _ (by simp) hb]
    have h2 := dgE_list B (A ++ [b]) C (fun x hx => hB x (by simp [hx])) hC
    rw [List.append_assoc, List.singleton_append, List.length_append, List.length_singleton] at h2
    rw [List.cons_append, h2, List.length_cons]
    omega
theorem sub_list (A B C : List UInt8) : sub (tx (A ++ (B ++ C))) A.length (A.length + B.length) = B := by
  unfold sub
  rw [tx_data, ← List.append_assoc, List.take_append_of_le_length (by simp), List.take_of_length_le (by simp), List.drop_left]
theorem at_view {s : ByteArray} {A C : List UInt8} {x : UInt8} (h : s = tx (A ++ x :: C)) {k : Nat} (hk : k = A.length) (b : Nat) : isAt s k b = decide (x.toNat = b) := by
  subst h hk
  unfold isAt
  rw [chL]
  by_cases hb : x.toNat = b
  · rw [decide_eq_true hb, decide_eq_true ⟨by simp, hb⟩]
  · rw [decide_eq_false hb, decide_eq_false fun k => hb k.2]
theorem dg_view {s : ByteArray} {A B C : List UInt8} (h : s = tx (A ++ (B ++ C))) {k : Nat} (hk : k = A.length) (hB : AllD B) (hC : ∀ x C', C = x :: C' → x.toNat < 48 ∨ 57 < x.toNat) : dgX false s k = k + B.length := by
  subst h hk
  rw [dgX_dec]
  exact dgE_list B A C hB hC
theorem sub_view {s : ByteArray} {A B C : List UInt8} (h : s = tx (A ++ (B ++ C))) {k l : Nat} (hk : k = A.length) (hl : l = k + B.length) : sub s k l = B := by
  subst h hk hl
  exact sub_list A B C
structure Dec (s : ByteArray) (neg : Bool) (L : List UInt8) (bh : Nat) (P : Int) : Prop where
  w : ¬ wordy s
  hex : hx s = false
  bad : ¬ gBad false s (hi s)
  all : gI false s (hi s) = s.size
  sg : sgB s = neg
  dg : gL false s (hi s) = L
  be : gB false s (hi s) = bh
  pw : gPI false s (hi s) = P
theorem parse (S A F M Q D : List UInt8) (neg m pt : Bool) (hS : S = if neg then [45] else []) (hM : M = if m then [45] else []) (hD : D = if pt then 46 :: F else []) (hA0 : A ≠ []) (hA : AllD A) (hF : AllD F) (hF0 : pt = true → F ≠ []) (hFp : pt = false → F = []) (hQ : AllD Q) (hQ0 : Q ≠ [])
    (s : ByteArray) (hs : s = tx (S ++ (A ++ (D ++ 101 :: (M ++ Q))))) : Dec s neg (A ++ F) F.length (if m then -(pwN Q : Int) else pwN Q) := by
  obtain ⟨x, A', rfl⟩ : ∃ x A', A = x :: A' := by
    cases A with
    | nil => exact (hA0 rfl).elim
    | cons x A' => exact ⟨x, A', rfl⟩
  have hx1 := hA x (by simp)
  have hsg : sgB s = neg := by
    unfold sgB
    cases neg with
    | true =>
      subst hS
      exact at_view (A := []) (x := 45) hs rfl 45
    | false =>
      subst hS
      have := at_view (s := s) (A := []) (x := x) (by simpa using hs) (k := 0) rfl 45
      rw [this]
      exact decide_eq_false (by omega)
  have hst : st s = S.length := by
    unfold st
    rw [hsg, hS]
    cases neg <;> rfl
  have v1 : s = tx (S ++ x :: (A' ++ (D ++ 101 :: (M ++ Q)))) := by rw [hs]; simp
  obtain ⟨y, r, hy, hne⟩ : ∃ y r, A' ++ (D ++ 101 :: (M ++ Q)) = y :: r ∧ y.toNat ≠ 120 := by
    cases A' with
    | nil =>
      cases pt with
      | true => subst hD; exact ⟨46, _, rfl, by decide⟩
      | false => subst hD; exact ⟨101, _, rfl, by decide⟩
    | cons y A' => exact ⟨y, _, rfl, by have := hA y (by simp); omega⟩
  have v2 : s = tx ((S ++ [x]) ++ y :: r) := by rw [v1, hy]; simp
  have hhx : hx s = false := by
    have := at_view v2 (k := st s + 1) (by rw [hst]; simp) 120
    unfold hx hxT
    rw [this, decide_eq_false hne, Bool.and_false]
  have hhi : hi s = S.length := by
    have : hx s = hxT s (st s) := rfl
    rw [hhx] at this
    unfold hi hxI
    rw [← this, if_neg (by simp), hst]
  have hword : ¬ wordy s := by
    have a1 := at_view v1 hst 110
    have a2 := at_view v1 hst 105
    rintro (⟨_, k⟩ | k)
    · rw [a1] at k
      have := of_decide_eq_true k
      omega
    · rw [a2] at k
      have := of_decide_eq_true k
      omega
  generalize hAe : x :: A' = A at *
  have hC : ∀ z C', D ++ 101 :: (M ++ Q) = z :: C' → z.toNat < 48 ∨ 57 < z.toNat := by
    intro z C' h
    cases pt with
    | true =>
      subst hD
      simp at h
      rw [← h.1]
      decide
    | false =>
      subst hD
      simp at h
      rw [← h.1]
      decide
  have hW : gW false s (hi s) = S.length + A.length := by
    unfold gW
    rw [hhi]
    exact dg_view hs rfl hA hC
  have sA : sub s (hi s) (gW false s (hi s)) = A := sub_view hs hhi (by rw [hW, hhi])
  have hApos : 0 < A.length := by rw [← hAe]; simp
  obtain ⟨G, hG⟩ : ∃ G, S ++ (A ++ D) = G := ⟨_, rfl⟩
  have v3 : s = tx (G ++ 101 :: (M ++ Q)) := by rw [hs, ← hG]; simp
  have hmid : gD false s (hi s) = pt ∧ (pt = true → gP false s (hi s) = gW false s (hi s) + 1 + F.length ∧ sub s (gW false s (hi s) + 1) (gP false s (hi s)) = F) ∧ g0 false s (hi s) = G.length := by
    cases pt with
    | true =>
      subst hD
      have v4 : s = tx ((S ++ A) ++ 46 :: (F ++ 101 :: (M ++ Q))) := by rw [hs]; simp
      have v5 : s = tx ((S ++ A ++ [46]) ++ (F ++ 101 :: (M ++ Q))) := by rw [hs]; simp
      have d1 : gD false s (hi s) = true := by
        unfold gD
        rw [hW]
        exact at_view v4 (by simp) 46
      have d2 : gP false s (hi s) = gW false s (hi s) + 1 + F.length := by
        unfold gP
        exact dg_view v5 (by rw [hW]; simp; omega) hF (fun z C' h => by simp at h; rw [← h.1]; decide)
      refine ⟨d1, fun _ => ⟨d2, sub_view v5 (by rw [hW]; simp; omega) d2⟩, ?_⟩
      unfold g0
      rw [d1, if_pos rfl, d2, hW, ← hG]
      simp
      omega
    | false =>
      subst hD
      have v4 : s = tx ((S ++ A) ++ 101 :: (M ++ Q)) := by rw [hs]; simp
      have d1 : gD false s (hi s) = false := by
        unfold gD
        rw [hW]
        exact at_view v4 (by simp) 46
      refine ⟨d1, fun h => by simp at h, ?_⟩
      unfold g0
      rw [d1, if_neg (by simp), hW, ← hG]
      simp
  obtain ⟨hgD, hpt, h0⟩ := hmid
  have hE : gE false s (hi s) = true := by
    unfold gE
    rw [if_neg (by simp), h0, at_view v3 rfl 101]
    rfl
  obtain ⟨q, Q', hQe⟩ : ∃ q Q', Q = q :: Q' := by
    cases Q with
    | nil => exact (hQ0 rfl).elim
    | cons q Q' => exact ⟨q, Q', rfl⟩
  have hq := hQ q (by rw [hQe]; simp)
  have hS2 : gS false s (hi s) = m ∧ g1 false s (hi s) = G.length + 1 + M.length := by
    cases m with
    | true =>
      subst hM
      have v4 : s = tx ((G ++ [101]) ++ 45 :: Q) := by rw [v3]; simp
      have d1 : gS false s (hi s) = true := by
        unfold gS
        rw [h0]
        exact at_view v4 (by simp) 45
      refine ⟨d1, ?_⟩
      unfold g1 gT
      rw [d1, h0]
      rfl
    | false =>
      subst hM
      have v4 : s = tx ((G ++ [101]) ++ q :: Q') := by rw [v3, hQe]; simp
      have d1 : gS false s (hi s) = false := by
        unfold gS
        rw [h0, at_view v4 (by simp) 45]
        exact decide_eq_false (by omega)
      have d2 : isAt s (g0 false s (hi s) + 1) 43 = false := by
        rw [h0, at_view v4 (by simp) 43]
        exact decide_eq_false (by omega)
      refine ⟨d1, ?_⟩
      unfold g1 gT
      rw [d1, d2, h0]
      rfl
  obtain ⟨hgS, h1⟩ := hS2
  have v6 : s = tx ((G ++ [101] ++ M) ++ (Q ++ [])) := by rw [v3]; simp
  have l6 : g1 false s (hi s) = (G ++ [101] ++ M).length := by rw [h1]; simp; omega
  have hgQ : gQ false s (hi s) = g1 false s (hi s) + Q.length := by
    unfold gQ
    exact dg_view v6 l6 hQ (fun _ _ h => by cases h)
  have sQ : sub s (g1 false s (hi s)) (gQ false s (hi s)) = Q := sub_view v6 l6 hgQ
  have hQpos : 0 < Q.length := by rw [hQe]; simp
  have hsz : s.size = G.length + 1 + M.length + Q.length := by rw [v6]; simp; omega
  refine ⟨hword, hhx, ?_, ?_, hsg, ?_, ?_, ?_⟩
  · rintro (k | ⟨k1, k2⟩ | ⟨k, _⟩ | ⟨_, k⟩)
    · rw [hW, hhi] at k; omega
    · rw [hgD] at k1
      have := (hpt k1).1
      have hFl := List.length_pos_iff.2 (hF0 k1)
      omega
    · rw [hE] at k; cases k
    · omega
  · unfold gI
    rw [hE, if_pos rfl, hgQ, h1, hsz]
  · unfold gL
    rw [sA, hgD]
    cases pt with
    | true => rw [if_pos rfl, (hpt rfl).2]
    | false => rw [if_neg (by simp), hFp rfl]
  · unfold gB
    rw [hgD]
    cases pt with
    | true => rw [if_pos rfl, (hpt rfl).1]; omega
    | false => rw [if_neg (by simp), hFp rfl]; rfl
  · unfold gPI gNeg gPL
    rw [hE, hgS, Bool.true_and, if_pos rfl, sQ]
/-- What is read of a decimal that is put together. -/
theorem c_fReadP {s : ByteArray} {neg : Bool} {L : List UInt8} {bh : Nat} {P : Int} (h : Dec s neg L bh P) (hs : s.size ≤ 4096) :
    Cinf T n_floats_Read [.v (.string s)] = some (okR (wrd neg (WQ (dV L) (P - bh))), [.dead]) := by
  have r := c_fReadD s hs h.w h.hex h.bad h.all
  rw [h.sg, h.dg, h.be, h.pw] at r
  exact r
end Go.AM.F

/- TopQuotient: the law's second half: from the power of ten on. No conditions. -/
namespace Go.AM.F
open Go Go.AM
set_option maxRecDepth 10000
set_option linter.unusedSimpArgs false
set_option exponentiation.threshold 110000
attribute [local simp] j0_thickettop_TopQuotient j1_thickettop_TopQuotient j2_thickettop_TopQuotient j3_thickettop_TopQuotient
theorem WQ_le (n : Nat) (p : Int) : WQ n p ≤ infR := by
  unfold WQ
  split <;> exact W_le _ _
/-- What the two texts are read as. -/
structure Said (S : ByteArray) (x : Nat) : Prop where
  len : S.size ≤ 4095
  pos : Cinf T n_floats_Read [.v (.string S)] = some (okR x, [.dead])
  neg : Cinf T n_floats_Read [.v (.string (⟨#[45]⟩ ++ S))] = some (okR (9223372036854775808 + x), [.dead])
/-- The last question. -/
theorem tq_end (S : ByteArray) (x : Nat) (h : Said S x) (hx : x ≤ infR) : Exec T k0_thickettop_TopQuotient [(15, .v (.string S)), (20, .v (.float .f64 x))] = some (.ret, [(6, .v (.bool true))]) := by
  have r2 := h.neg
  have hl := h.len
  obtain ⟨y, hy⟩ : ∃ y, 9223372036854775808 + x = y := ⟨_, rfl⟩
  have hor := sign_or hx hy
  rw [hy] at r2
  unfold okR at r2
  have em1 : (⟨#[45]⟩ : ByteArray).size = 1 := rfl
  have e1 : 1 + S.size ≤ 9223372036854775807 := by omega
  simp [-binInt_or, em1, e1, r2, hor]
theorem tq_k1 (S : ByteArray) (n d x : Nat) (h : Said S x) (hx : x ≤ infR)
    (w1 : Cinf T n_floats_Nearest [.agg [.v (.bool false), .ro 1 (ul (limbs n)), .ro 1 (ul (limbs d))]] = some (.tup [.v (.float .f64 x), .v (.int .i64 0)], [.dead])) :
    Exec T k1_thickettop_TopQuotient [(15, .v (.string S)), (19, .box [.v (.bool false), .own 1 (ul (limbs n)), .own 1 (ul (limbs d))])] = some (.ret, [(6, .v (.bool true))]) := by
  have r1 := h.pos
  unfold okR at r1
  rw [← tq_end S x h hx]
  simp [-tl0_thickettop_TopQuotient, r1, w1]
/-- The row that limbs.Read's answer stands in. -/
def rd41 : PV := .tup [.ref 43 [0], .v (.int .i64 0), .v (.int .i64 0)]
def rd43 : PV := .tup [.dead, .v (.int .i64 0), .v (.int .i64 0)]
set_option maxHeartbeats 2000000 in
theorem tq_k2 (S : ByteArray) (n m x : Nat) (p : Int) (hm : p.natAbs = m) (hm2 : m ≤ 16384) (h : Said S x) (hx : x = WQ n p) (hn : n < 10 ^ 5000) :
    Exec T k2_thickettop_TopQuotient [(10, .own 1 (ul (limbs n))), (15, .v (.string S)), (16, .v (.int .i64 p)), (18, .own 1 (ul (limbs (10 ^ m)))), (41, rd41), (43, rd43), (44, .ref 43 [0]), (113, .tup [.ref 116 [0], .v (.int .i64 0)]), (116, .tup [.dead, .v (.int .i64 0)]), (117, .ref 116 [0])] = some (.ret, [(6, .v (.bool true))]) := by
  have f1 := c_From 1 (by decide)
  rw [Int.natCast_one] at f1
  have hfit : Fit (limbs n) := fit_lt hn (by decide)
  have hft := fit_ten (m := m) (by omega)
  have m1 := c_Mul (limbs n) (limbs (10 ^ m)) hfit hft
  rw [val_limbs, val_limbs] at m1
  have hxl : x ≤ infR := by rw [hx]; exact WQ_le _ _
  unfold rd41 rd43
  by_cases h3 : 0 ≤ p
  · have h4 : ¬ p < 0 := by omega
    have hW : W (n * 10 ^ m) 1 = x := by
      rw [hx]
      unfold WQ
      rw [if_pos h3, show p.toNat = m by omega]
    have w1 := c_NearestW (n * 10 ^ m) 1 (big_mul hn (by omega)) (big_ten (k := 1) (by decide) (by decide)) (by decide)
    rw [hW] at w1
    have k1 := tq_k1 S _ _ x h hxl w1
    generalize 10 ^ m = B at *
    generalize n * B = C at *
    have k2 : Exec T k1_thickettop_TopQuotient [(10, .own 1 (ul (limbs n))), (15, .v (.string S)), (18, .own 1 (ul (limbs B))), (19, .box [.v (.bool false), .own 1 (ul (limbs C)), .own 1 (ul (limbs 1))]), (41, .tup [.ref 43 [0], .v (.int .i64 0), .v (.int .i64 0)]), (43, .tup [.dead, .v (.int .i64 0), .v (.int .i64 0)]), (44, .ref 43 [0]), (113, .tup [.ref 116 [0], .v (.int .i64 0)]), (116, .tup [.dead, .v (.int .i64 0)]), (117, .ref 116 [0])] = _ := (tl1_thickettop_TopQuotient _).trans ((tl1_thickettop_TopQuotient _).symm.trans k1)
    simp [-tl1_thickettop_TopQuotient, f1, m1, h4, k2]
  · have h4 : p < 0 := by omega
    have hW : W n (10 ^ m) = x := by
      rw [hx]
      unfold WQ
      rw [if_neg h3, show (-p).toNat = m by omega]
    have w1 := c_NearestW n (10 ^ m) (big_ten hn (by decide)) (big_pow (by omega)) (Nat.ne_of_gt (Nat.pow_pos (by decide)))
    rw [hW] at w1
    have k1 := tq_k1 S _ _ x h hxl w1
    rw [← k1]
    generalize 10 ^ m = B at *
    generalize n * B = C at *
    simp [-tl1_thickettop_TopQuotient, f1, m1, h4]
set_option maxHeartbeats 2000000 in
theorem tq_k3 (S : ByteArray) (n m : Nat) (p : Int) (hm : p.natAbs = m) (hm2 : m ≤ 4294967296) (hS : S.size ≤ 4611686018427387903) (h : m ≤ 16384 → S.size ≤ 4095 → Said S (WQ n p) ∧ n < 10 ^ 5000) :
    Exec T k3_thickettop_TopQuotient [(10, .own 1 (ul (limbs n))), (15, .v (.string S)), (16, .v (.int .i64 p)), (17, .v (.int .i64 m)), (41, rd41), (43, rd43), (44, .ref 43 [0])] = some (.ret, [(6, .v (.bool true))]) := by
  have e10 : ul [10] = [.v (.int .u32 10)] := by simp [ul]
  have pw1 := c_Pow [10] ⟨Lim.one (by decide), by decide⟩ (by decide) (m : Int)
  rw [e10] at pw1
  have h4 : nbits (val [10]) = 4 := by rw [show val [10] = 10 by simp [val]]; exact nbits10
  by_cases c1 : 65536 < m
  · have hpr : powR (val [10]) (m : Int) = .tup [.own 1 [], .v (.int .i64 2)] := by
      unfold powR
      rw [if_pos (by omega)]
    rw [hpr] at pw1
    unfold rd41 rd43
    simp [pw1]
  by_cases c2 : 16384 < m
  · have hpr : powR (val [10]) (m : Int) = .tup [.own 1 [], .v (.int .i64 3)] := by
      unfold powR
      rw [if_neg (by omega), h4, Int.toNat_natCast, if_pos (by omega)]
    rw [hpr] at pw1
    unfold rd41 rd43
    simp [pw1]
  have hpr : powR (val [10]) (m : Int) = .tup [.own 1 (ul (limbs (10 ^ m))), .v (.int .i64 0)] := by
    unfold powR
    rw [if_neg (by omega), h4, Int.toNat_natCast, if_neg (by omega), show val [10] = 10 by simp [val]]
  rw [hpr] at pw1
  by_cases c3 : 4095 < S.size
  · unfold rd41 rd43
    generalize 10 ^ m = B at *
    simp [pw1, c3]
  · obtain ⟨hsd, hn⟩ := h (by omega) (by omega)
    have k2 := tq_k2 S n m _ p hm (by omega) hsd rfl hn
    rw [← k2]
    unfold rd41 rd43
    generalize 10 ^ m = B at *
    simp [-tl2_thickettop_TopQuotient, pw1, c3]
end Go.AM.F

/- TopQuotient: it answers true at every input. No conditions. -/
namespace Go.AM.F
open Go Go.AM
set_option maxRecDepth 10000
set_option linter.unusedSimpArgs false
set_option exponentiation.threshold 110000
attribute [local simp] j4_thickettop_TopQuotient j5_thickettop_TopQuotient j6_thickettop_TopQuotient j7_thickettop_TopQuotient b_thickettop_TopQuotient a_thickettop_TopQuotient
theorem numL_len {w : Int} (h1 : -1073741824 ≤ w) (h2 : w ≤ 1073741824) : (numL w).length ≤ 11 := by
  have hl : (digs w.natAbs).length ≤ 10 := digs_len 10 _ (by decide) (by omega)
  unfold numL
  rw [List.length_append]
  split <;> simp <;> omega
set_option maxHeartbeats 1000000 in
theorem tq_k4 (L0 : List UInt8) (n k : Nat) (w : Int) (hk : k ≤ 1048576) (hL : L0.length ≤ 2000000) (h1 : -1073741824 ≤ w) (h2 : w ≤ 1073741824)
    (h : (w - k).natAbs ≤ 16384 → (L0 ++ 101 :: numL w).length ≤ 4095 → Said (tx (L0 ++ 101 :: numL w)) (WQ n (w - k)) ∧ n < 10 ^ 5000) :
    Exec T k4_thickettop_TopQuotient [(1, .v (.int .i64 k)), (2, .v (.int .i64 w)), (10, .own 1 (ul (limbs n))), (15, .v (.string (tx L0))), (41, rd41), (43, rd43), (44, .ref 43 [0])] = some (.ret, [(6, .v (.bool true))]) := by
  have n1 := c_tNumber w h1 h2
  have hl := numL_len h1 h2
  generalize numL w = N at *
  obtain ⟨p, hp⟩ : ∃ p, w - (k : Int) = p := ⟨_, rfl⟩
  rw [hp] at h
  obtain ⟨m, hm⟩ : ∃ m, p.natAbs = m := ⟨_, rfl⟩
  have hS : (L0 ++ 101 :: N).length ≤ 3000000 := by simp; omega
  have k3 := tq_k3 (tx (L0 ++ 101 :: N)) n m p hm (by omega) (by rw [tx_size]; omega) (fun a b => h (by omega) (by rw [tx_size] at b; exact b))
  have w1 : IntKind.i64.wrap (w - (k : Int)) = p := by rw [wrap_i64] <;> omega
  have em1 : (⟨#[101]⟩ : ByteArray).size = 1 := rfl
  have em2 : tx L0 ++ (⟨#[101]⟩ : ByteArray) = tx (L0 ++ [101]) := tx_append L0 [101]
  have em3 : tx (L0 ++ [101]) ++ tx N = tx (L0 ++ 101 :: N) := by rw [tx_append, List.append_assoc]; rfl
  have e1 : L0.length + 1 ≤ 9223372036854775807 := by omega
  have e2 : L0.length + 1 + N.length ≤ 9223372036854775807 := by omega
  obtain ⟨B, hB⟩ : ∃ B, L0 ++ 101 :: N = B := ⟨_, rfl⟩
  rw [hB] at em3 k3
  unfold rd41 rd43 at *
  rw [← k3]
  by_cases h4 : p < 0
  · have hmp : -p = (m : Int) := by omega
    have w2 : IntKind.i64.wrap (-p) = (m : Int) := by rw [hmp, wrap_i64] <;> omega
    simp [-tl3_thickettop_TopQuotient, n1, w1, em1, em2, em3, e1, e2, h4, w2]
  · obtain rfl : p = m := by omega
    simp [-tl3_thickettop_TopQuotient, n1, w1, em1, em2, em3, e1, e2, h4]
theorem pw_num (w : Int) (h : w.natAbs < 100000) : (if decide (w < 0) = true then -(pwN (digs w.natAbs) : Int) else pwN (digs w.natAbs)) = w := by
  unfold pwN
  rw [digs_val]
  by_cases h0 : w < 0
  · rw [decide_eq_true h0, if_pos rfl]; omega
  · rw [decide_eq_false h0, if_neg (by simp)]; omega
theorem said_of (A F L0 : List UInt8) (pt : Bool) (hA0 : A ≠ []) (hA : AllD A) (hF : AllD F) (hF0 : pt = true → F ≠ []) (hFp : pt = false → F = []) (w : Int) (hw : w.natAbs < 100000) (hL : L0 = A ++ (if pt then 46 :: F else [])) (hl : (L0 ++ 101 :: numL w).length ≤ 4095) :
    Said (tx (L0 ++ 101 :: numL w)) (WQ (dV (A ++ F)) (w - F.length)) := by
  have hM : (if w < 0 then [45] else [] : List UInt8) = if decide (w < 0) then [45] else [] := by
    by_cases h0 : w < 0
    · rw [if_pos h0, decide_eq_true h0, if_pos rfl]
    · rw [if_neg h0, decide_eq_false h0, if_neg (by simp)]
  have e0 : L0 ++ 101 :: numL w = A ++ ((if pt then 46 :: F else []) ++ 101 :: ((if decide (w < 0) then [45] else []) ++ digs w.natAbs)) := by
    rw [hL, ← hM]
    unfold numL
    simp
  have p0 := parse [] A F _ (digs w.natAbs) _ false (decide (w < 0)) pt rfl rfl rfl hA0 hA hF hF0 hFp (digs_all _) (digs_ne _) (tx (L0 ++ 101 :: numL w)) (by rw [e0]; rfl)
  have em : (⟨#[45]⟩ : ByteArray) ++ tx (L0 ++ 101 :: numL w) = tx (45 :: (L0 ++ 101 :: numL w)) := tx_append [45] _
  have p1 := parse [45] A F _ (digs w.natAbs) _ true (decide (w < 0)) pt rfl rfl rfl hA0 hA hF hF0 hFp (digs_all _) (digs_ne _) (⟨#[45]⟩ ++ tx (L0 ++ 101 :: numL w)) (by rw [em, e0]; rfl)
  rw [pw_num w hw] at p0 p1
  have r0 := c_fReadP p0 (by rw [tx_size]; omega)
  have r1 := c_fReadP p1 (by rw [em, tx_size, List.length_cons]; omega)
  rw [wrd_pos] at r0
  refine ⟨by rw [tx_size]; exact hl, r0, ?_⟩
  rw [r1]
  unfold wrd
  rw [if_pos rfl]
theorem dV_small {L : List UInt8} (h : AllD L) (hl : L.length ≤ 4095) : dV L < 10 ^ 5000 := Nat.lt_of_lt_of_le (dV_lt h) (Nat.pow_le_pow_right (by decide) (by omega))
set_option maxHeartbeats 1000000 in
theorem tq_k5 (s : ByteArray) (hD : AllD (sub s 0 s.size)) (k : Nat) (w : Int) (hs : s.size ≤ 1048576) (hk : k < s.size) (h1 : -1073741824 ≤ w) (h2 : w ≤ 1073741824) :
    Exec T k5_thickettop_TopQuotient [(0, .v (.string s)), (1, .v (.int .i64 k)), (2, .v (.int .i64 w)), (10, .own 1 (ul (limbs (dV (sub s 0 s.size))))), (41, rd41), (43, rd43), (44, .ref 43 [0])] = some (.ret, [(6, .v (.bool true))]) := by
  have hlen : (sub s 0 s.size).length = s.size := sub_len s (Nat.le_refl _)
  by_cases hk0 : k = 0
  · subst hk0
    have k4 := tq_k4 (sub s 0 s.size) (dV (sub s 0 s.size)) 0 w (by omega) (by omega) h1 h2 (fun a b => by
      have hl : (sub s 0 s.size).length ≤ 4095 := by rw [List.length_append] at b; omega
      have hsd := said_of (sub s 0 s.size) [] (sub s 0 s.size) false (by intro h; rw [h] at hlen; simp at hlen; omega) hD (fun _ h => by simp at h) (fun h => by cases h) (fun _ => rfl) w (by omega) (by simp) b
      rw [List.append_nil] at hsd
      exact ⟨hsd, dV_small hD hl⟩)
    rw [← extract_sub] at k4
    rw [show s.extract 0 s.size = s by simp] at k4
    simp only [Int.natCast_zero] at k4
    unfold rd41 rd43 at *
    have k5 : Exec T k4_thickettop_TopQuotient [(0, .v (.string s)), (1, .v (.int .i64 0)), (2, .v (.int .i64 w)), (10, .own 1 (ul (limbs (dV (sub s 0 s.size))))), (15, .v (.string s)), (41, .tup [.ref 43 [0], .v (.int .i64 0), .v (.int .i64 0)]), (43, .tup [.dead, .v (.int .i64 0), .v (.int .i64 0)]), (44, .ref 43 [0])] = _ := (tl4_thickettop_TopQuotient _).trans ((tl4_thickettop_TopQuotient _).symm.trans k4)
    simp [-tl4_thickettop_TopQuotient, k5]
  · obtain ⟨j, hj⟩ : ∃ j, s.size - k = j := ⟨_, rfl⟩
    have hA : AllD (sub s 0 j) := fun x hx => hD x (by
      unfold sub at hx ⊢
      simp only [List.drop_zero] at hx ⊢
      rw [List.take_of_length_le (by rw [data_len]; omega)]
      exact List.mem_of_mem_take hx)
    have hF : AllD (sub s j s.size) := fun x hx => hD x (by
      unfold sub at hx ⊢
      simp only [List.drop_zero] at hx ⊢
      exact List.mem_of_mem_drop hx)
    have hAF : sub s 0 j ++ sub s j s.size = sub s 0 s.size := by
      unfold sub
      simp only [List.drop_zero]
      rw [List.take_of_length_le (l := s.data.toList) (i := s.size) (by rw [data_len]; omega)]
      exact List.take_append_drop j _
    have lA : (sub s 0 j).length = j := by rw [sub_len s (by omega)]; omega
    have lF : (sub s j s.size).length = k := by rw [sub_len s (Nat.le_refl _)]; omega
    have k4 := tq_k4 (sub s 0 j ++ 46 :: sub s j s.size) (dV (sub s 0 s.size)) k w (by omega) (by rw [List.length_append, List.length_cons]; omega) h1 h2 (fun a b => by
      have hl : (sub s 0 s.size).length ≤ 4095 := by simp only [List.length_append, List.length_cons] at b; omega
      have hsd := said_of (sub s 0 j) (sub s j s.size) (sub s 0 j ++ 46 :: sub s j s.size) true (by intro h; rw [h] at lA; simp at lA; omega) hA hF (fun _ h => by rw [h] at lF; simp at lF; omega) (fun h => by cases h) w (by omega) (by simp) b
      rw [hAF, lF] at hsd
      exact ⟨hsd, dV_small hD hl⟩)
    have x1 : s.extract 0 j = tx (sub s 0 j) := extract_sub s 0 j
    have x2 : s.extract j s.size = tx (sub s j s.size) := extract_sub s j s.size
    have w1 : IntKind.i64.wrap ((s.size : Int) - k) = (j : Int) := by rw [wrap_i64] <;> omega
    have hj2 : j ≤ s.size := by omega
    obtain ⟨A, hAe⟩ : ∃ A, sub s 0 j = A := ⟨_, rfl⟩
    obtain ⟨F, hFe⟩ : ∃ F, sub s j s.size = F := ⟨_, rfl⟩
    rw [hAe] at x1 lA k4
    rw [hFe] at x2 lF k4
    generalize dV (sub s 0 s.size) = n at *
    have em1 : (⟨#[46]⟩ : ByteArray).size = 1 := rfl
    have em2 : tx A ++ (⟨#[46]⟩ : ByteArray) = tx (A ++ [46]) := tx_append A [46]
    have em3 : tx (A ++ [46]) ++ tx F = tx (A ++ 46 :: F) := by rw [tx_append, List.append_assoc]; rfl
    have e1 : A.length + 1 ≤ 9223372036854775807 := by omega
    have e2 : A.length + 1 + F.length ≤ 9223372036854775807 := by omega
    obtain ⟨B, hB⟩ : ∃ B, A ++ 46 :: F = B := ⟨_, rfl⟩
    rw [hB] at em3 k4
    have hk1 : 0 < k := by omega
    unfold rd41 rd43 at *
    rw [← k4]
    simp [-tl4_thickettop_TopQuotient, hk1, w1, hj2, x1, x2, em1, em2, em3, e1, e2]
theorem half_eq : bin BinOp.neq (PV.v (Value.float FloatKind.f64 4602678819172646912)) (PV.v (Value.float FloatKind.f64 4602678819172646912)) = some (.v (.bool false)) := by rfl
theorem c_twelve : ∃ t : ByteArray, Cinf T n_limbs_Print [.ro 1 (ul (limbs 12))] = some (.v (.string t), [.dead]) ∧ t = ⟨#[49, 50]⟩ := by
  have p1 := c_Print (limbs 12) (fit_bits (k := 64) (by decide) (by decide))
  rw [val_limbs, printT_digs] at p1
  refine ⟨_, p1, ?_⟩
  rw [digs_big (by decide), digs_small (by decide)]
  rfl
theorem all_good {s : ByteArray} (h : fault s = s.size) : AllD (sub s 0 s.size) := by
  refine AllD.sub s (Nat.le_refl _) fun j _ hj => stop_not (badDig s) s.size 0 j (Nat.zero_le _) ?_
  have : fault s = stop (badDig s) s.size 0 := rfl
  omega
set_option maxHeartbeats 1000000 in
theorem tq_k6 (s : ByteArray) (hD : AllD (sub s 0 s.size)) (b w : Int) (hs : s.size ≤ 1048576) :
    Exec T k6_thickettop_TopQuotient [(0, .v (.string s)), (1, .v (.int .i64 b)), (2, .v (.int .i64 w)), (10, .own 1 (ul (limbs (dV (sub s 0 s.size))))), (41, rd41), (43, rd43), (44, .ref 43 [0])] = some (.ret, [(6, .v (.bool true))]) := by
  by_cases c1 : b < 0
  · unfold rd41 rd43
    simp [c1]
  obtain ⟨k, rfl⟩ : ∃ k : Nat, b = k := ⟨b.toNat, by omega⟩
  by_cases c2 : s.size ≤ k
  · unfold rd41 rd43
    simp [c2]
  by_cases c3 : w < -1073741824
  · unfold rd41 rd43
    simp [c2, c3]
  by_cases c4 : 1073741824 < w
  · unfold rd41 rd43
    simp [c2, c3, c4]
  have k5 := tq_k5 s hD k w hs (by omega) (by omega) (by omega)
  rw [← k5]
  unfold rd41 rd43
  simp [-tl5_thickettop_TopQuotient, c2, c3, c4]
set_option maxHeartbeats 1000000 in
theorem c_TopQuotient (s : ByteArray) (b w : Int) (hs : s.size ≤ 1048576) : ∃ backs, Cinf T n_thickettop_TopQuotient [.v (.string s), .v (.int .i64 b), .v (.int .i64 w)] = some (.v (.bool true), backs) := by
  have h0 := c_half
  have f1 := c_From 12 (by decide)
  obtain ⟨t, p1, ht⟩ := c_twelve
  have r1 := c_Read s (by omega)
  obtain ⟨x, e, a, ra, hz⟩ := c_fReadA s
  have h12 : ((12 : Nat) : Int) = 12 := rfl
  rw [h12] at f1
  subst ht
  rw [run_thickettop_TopQuotient]
  have hfl := (stop_le (badDig s) s.size 0).2
  have hff : fault s = stop (badDig s) s.size 0 := rfl
  by_cases c1 : fault s < s.size
  · have hr : readR s = .tup [.own 1 [], .v (.int .i64 10), .v (.int .i64 (fault s : Nat))] := by unfold readR; rw [if_pos c1]
    rw [hr] at r1
    generalize fault s = f at *
    by_cases he : e = 0
    · subst he
      exact ⟨_, by simp [Run, h0, half_eq, f1, p1, r1, ra, c1]; rfl⟩
    · exact ⟨_, by simp [Run, h0, half_eq, f1, p1, r1, ra, c1, he]; rfl⟩
  by_cases c2 : s.size = 0
  · have hr : readR s = .tup [.own 1 [], .v (.int .i64 10), .v (.int .i64 0)] := by unfold readR; rw [if_neg c1, if_pos c2]
    rw [hr] at r1
    have he := hz (.inl c2)
    exact ⟨_, by simp [Run, h0, half_eq, f1, p1, r1, ra, he]; rfl⟩
  have hD := all_good (s := s) (by omega)
  have hlen : (sub s 0 s.size).length = s.size := sub_len s (Nat.le_refl _)
  have hsub : tx (sub s 0 s.size) = s := by rw [← extract_sub]; simp
  have hr : readR s = .tup [.own 1 (ul (limbs (dV (sub s 0 s.size)))), .v (.int .i64 0), .v (.int .i64 0)] := by
    have := readR_good hD (by intro h; rw [h] at hlen; simp at hlen; omega)
    rw [hsub] at this
    exact this
  rw [hr] at r1
  have k6 := tq_k6 s hD b w hs
  unfold rd41 rd43 at k6
  generalize dV (sub s 0 s.size) = n at *
  have k7 : Exec T k6_thickettop_TopQuotient [(0, .v (.string s)), (1, .v (.int .i64 b)), (2, .v (.int .i64 w)), (10, .own 1 (ul (limbs n))), (11, .v (.int .i64 0)), (41, .tup [.ref 43 [0], .v (.int .i64 0), .v (.int .i64 0)]), (43, .tup [.dead, .v (.int .i64 0), .v (.int .i64 0)]), (44, .ref 43 [0])] = _ := (tl6_thickettop_TopQuotient _).trans ((tl6_thickettop_TopQuotient _).symm.trans k6)
  exact ⟨_, by simp [-tl6_thickettop_TopQuotient, Run, h0, half_eq, f1, p1, r1, k7]; rfl⟩
end Go.AM.F
