/- The functions of the program in the abstract machine's form, printed by a program of the session's own (ir.py); Lean checks them against the program. No conditions. -/
import Derived.Test.YtbghahcgjnlnlaaGreatDoorIrA
namespace Go.AM.F
open Go Go.AM
set_option maxRecDepth 100000

def fnTab : List (FuncId × AFunc) := [(n_stringslite_HasPrefix, a_stringslite_HasPrefix), (n_strings_HasPrefix, a_strings_HasPrefix), (n_fixed_digit, a_fixed_digit), (n_fixed_digits, a_fixed_digits), (n_limbs_low, a_limbs_low), (n_limbs_high, a_limbs_high), (n_limbs_grow, a_limbs_grow), (n_limbs_trim, a_limbs_trim), (n_limbs_Read, a_limbs_Read), (n_limbs_Small, a_limbs_Small), (n_fixed_signed, a_fixed_signed), (n_fixed_Read, a_fixed_Read), (n_thicketref04_isDigit, a_thicketref04_isDigit), (n_thicketref04_signed, a_thicketref04_signed), (n_thicketref04_whole, a_thicketref04_whole), (n_thicketref04_Read, a_thicketref04_Read), (n_stringslite_TrimPrefix, a_stringslite_TrimPrefix), (n_strings_TrimPrefix, a_strings_TrimPrefix), (n_fixed_decimal, a_fixed_decimal), (n_fixed_clamped, a_fixed_clamped), (n_limbs_Norm, a_limbs_Norm), (n_strings_trimLeftByte, a_strings_trimLeftByte), (n_strings_TrimLeft, a_strings_TrimLeft), (n_limbs_Print, a_limbs_Print), (n_bits_Len32, a_bits_Len32), (n_limbs_Len, a_limbs_Len), (n_limbs_Mul, a_limbs_Mul), (n_limbs_Pow, a_limbs_Pow), (n_limbs_Cmp, a_limbs_Cmp), (n_limbs_From, a_limbs_From), (n_bits_LeadingZeros32, a_bits_LeadingZeros32), (n_limbs_up, a_limbs_up), (n_bits_Sub32, a_bits_Sub32), (n_bits_Add32, a_bits_Add32), (n_limbs_long, a_limbs_long), (n_limbs_down, a_limbs_down), (n_limbs_DivMod, a_limbs_DivMod), (n_limbs_Add, a_limbs_Add), (n_limbs_Bit, a_limbs_Bit), (n_fixed_rounded, a_fixed_rounded), (n_fixed_Rounded, a_fixed_Rounded), (n_thicketref02_word, a_thicketref02_word), (n_thicketref02_isDigit, a_thicketref02_isDigit), (n_thicketref02_hexadecimal, a_thicketref02_hexadecimal), (n_thicketref02_run, a_thicketref02_run), (n_thicketref02_Split, a_thicketref02_Split), (n_thicketref02_norm, a_thicketref02_norm), (n_thicketref02_times, a_thicketref02_times), (n_thicketref02_Digits, a_thicketref02_Digits), (n_thicketref02_power, a_thicketref02_power), (n_thicketref02_Power, a_thicketref02_Power), (n_thicketref02_ten, a_thicketref02_ten), (n_thicketref02_Ten, a_thicketref02_Ten), (n_thicketref02_size, a_thicketref02_size), (n_thicketref02_Size, a_thicketref02_Size), (n_thicketref02_cmp, a_thicketref02_cmp), (n_thicketref02_up, a_thicketref02_up), (n_thicketref02_minus, a_thicketref02_minus), (n_thicketref02_divide, a_thicketref02_divide), (n_thicketref02_Divide, a_thicketref02_Divide), (n_thicketref02_Cmp, a_thicketref02_Cmp), (n_thicketref02_Up, a_thicketref02_Up), (n_thicketref04_Rounded, a_thicketref04_Rounded), (n_thicketref04_Decimal, a_thicketref04_Decimal), (n_fixed_amount, a_fixed_amount), (n_strconv_FormatUint, a_strconv_FormatUint), (n_strings_trimRightByte, a_strings_trimRightByte), (n_strings_TrimRight, a_strings_TrimRight), (n_fixed_Print, a_fixed_Print), (n_thicketref04_amount, a_thicketref04_amount), (n_thicketref04_digitsOf, a_thicketref04_digitsOf), (n_thicketref04_Print, a_thicketref04_Print), (n_thicketlaw04_FixedReads, a_thicketlaw04_FixedReads)]
def modeTab : List (FuncId × List Bool) := [(n_limbs_grow, [true, false, false]), (n_limbs_trim, [true]), (n_limbs_long, [true, false]), (n_thicketref02_norm, [true]), (n_strings_Repeat, [false, false]), (n_strings_Builder_WriteString, [true, false]), (n_strings_Builder_String, [true]), (n_strconv_FormatUint_69, [false, false])]
def G (n : Nat) : List PV := match n with | 0 => glob0 | _ => []
def extT : Oracle := fun f xs => if f = n_strings_Repeat then xRepeat xs else if f = n_strings_Builder_WriteString then xWriteString 78 5 xs else if f = n_strings_Builder_String then xString 78 5 xs else if f = n_strconv_FormatUint_69 then xFormatUint xs else none
def T : Tab := { fns := fun f => fnTab.lookup f, ext := extT, modes := fun f => (modeTab.lookup f).getD [], glob := G }
theorem fn_stringslite_HasPrefix : T.fns n_stringslite_HasPrefix = some a_stringslite_HasPrefix := rfl
theorem run_stringslite_HasPrefix (xs : List PV) : Cinf T n_stringslite_HasPrefix xs = Run T a_stringslite_HasPrefix xs := Cinf_eq rfl fn_stringslite_HasPrefix
@[simp] theorem md_stringslite_HasPrefix : T.modes n_stringslite_HasPrefix = [] := rfl
@[simp] theorem call_stringslite_HasPrefix (C : Oracle) (e : Env) (xs : List PV) : call T C e n_stringslite_HasPrefix xs = callK1 C n_stringslite_HasPrefix xs (moves e [] [] xs) := call_modes md_stringslite_HasPrefix
theorem fn_strings_HasPrefix : T.fns n_strings_HasPrefix = some a_strings_HasPrefix := rfl
theorem run_strings_HasPrefix (xs : List PV) : Cinf T n_strings_HasPrefix xs = Run T a_strings_HasPrefix xs := Cinf_eq rfl fn_strings_HasPrefix
@[simp] theorem md_strings_HasPrefix : T.modes n_strings_HasPrefix = [] := rfl
@[simp] theorem call_strings_HasPrefix (C : Oracle) (e : Env) (xs : List PV) : call T C e n_strings_HasPrefix xs = callK1 C n_strings_HasPrefix xs (moves e [] [] xs) := call_modes md_strings_HasPrefix
theorem fn_fixed_digit : T.fns n_fixed_digit = some a_fixed_digit := rfl
theorem run_fixed_digit (xs : List PV) : Cinf T n_fixed_digit xs = Run T a_fixed_digit xs := Cinf_eq rfl fn_fixed_digit
@[simp] theorem md_fixed_digit : T.modes n_fixed_digit = [] := rfl
@[simp] theorem call_fixed_digit (C : Oracle) (e : Env) (xs : List PV) : call T C e n_fixed_digit xs = callK1 C n_fixed_digit xs (moves e [] [] xs) := call_modes md_fixed_digit
theorem fn_fixed_digits : T.fns n_fixed_digits = some a_fixed_digits := rfl
@[simp] theorem tl0_fixed_digits (e : Env) : Exec T k0_fixed_digits e = Exec T j0_fixed_digits (e.keep [0, 1, 6]) := Exec_tail _ _ _
@[simp] theorem tl1_fixed_digits (e : Env) : Exec T k1_fixed_digits e = Exec T j1_fixed_digits (e.keep [1, 6]) := Exec_tail _ _ _
theorem ex0_fixed_digits (e : Env) : Exec T l0_fixed_digits e = andThen (Exec T w0_fixed_digits (e.keep [0, 1, 6])) (Exec T l0_fixed_digits) := Exec_loop _ _ _
theorem run_fixed_digits (xs : List PV) : Cinf T n_fixed_digits xs = Run T a_fixed_digits xs := Cinf_eq rfl fn_fixed_digits
@[simp] theorem md_fixed_digits : T.modes n_fixed_digits = [] := rfl
@[simp] theorem call_fixed_digits (C : Oracle) (e : Env) (xs : List PV) : call T C e n_fixed_digits xs = callK1 C n_fixed_digits xs (moves e [] [] xs) := call_modes md_fixed_digits
theorem fn_limbs_low : T.fns n_limbs_low = some a_limbs_low := rfl
theorem run_limbs_low (xs : List PV) : Cinf T n_limbs_low xs = Run T a_limbs_low xs := Cinf_eq rfl fn_limbs_low
@[simp] theorem md_limbs_low : T.modes n_limbs_low = [] := rfl
@[simp] theorem call_limbs_low (C : Oracle) (e : Env) (xs : List PV) : call T C e n_limbs_low xs = callK1 C n_limbs_low xs (moves e [] [] xs) := call_modes md_limbs_low
theorem fn_limbs_high : T.fns n_limbs_high = some a_limbs_high := rfl
theorem run_limbs_high (xs : List PV) : Cinf T n_limbs_high xs = Run T a_limbs_high xs := Cinf_eq rfl fn_limbs_high
@[simp] theorem md_limbs_high : T.modes n_limbs_high = [] := rfl
@[simp] theorem call_limbs_high (C : Oracle) (e : Env) (xs : List PV) : call T C e n_limbs_high xs = callK1 C n_limbs_high xs (moves e [] [] xs) := call_modes md_limbs_high
theorem fn_limbs_grow : T.fns n_limbs_grow = some a_limbs_grow := rfl
@[simp] theorem tl0_limbs_grow (e : Env) : Exec T k0_limbs_grow e = Exec T j0_limbs_grow (e.keep [0, 1, 7, 12, 13, 40, 100000]) := Exec_tail _ _ _
@[simp] theorem tl1_limbs_grow (e : Env) : Exec T k1_limbs_grow e = Exec T j1_limbs_grow (e.keep [0, 1, 7, 12, 13, 40, 100000]) := Exec_tail _ _ _
@[simp] theorem tl2_limbs_grow (e : Env) : Exec T k2_limbs_grow e = Exec T j2_limbs_grow (e.keep [0, 40, 100000]) := Exec_tail _ _ _
@[simp] theorem tl3_limbs_grow (e : Env) : Exec T k3_limbs_grow e = Exec T j3_limbs_grow (e.keep [0, 7, 40, 100000]) := Exec_tail _ _ _
theorem ex0_limbs_grow (e : Env) : Exec T l0_limbs_grow e = andThen (Exec T w0_limbs_grow (e.keep [0, 1, 7, 12, 13, 40, 100000])) (Exec T l0_limbs_grow) := Exec_loop _ _ _
theorem run_limbs_grow (xs : List PV) : Cinf T n_limbs_grow xs = Run T a_limbs_grow xs := Cinf_eq rfl fn_limbs_grow
@[simp] theorem md_limbs_grow : T.modes n_limbs_grow = [true, false, false] := rfl
@[simp] theorem call_limbs_grow (C : Oracle) (e : Env) (xs : List PV) : call T C e n_limbs_grow xs = callK1 C n_limbs_grow xs (moves e [] [true, false, false] xs) := call_modes md_limbs_grow
theorem fn_limbs_trim : T.fns n_limbs_trim = some a_limbs_trim := rfl
@[simp] theorem tl0_limbs_trim (e : Env) : Exec T k0_limbs_trim e = Exec T j0_limbs_trim (e.keep [0, 3, 100000]) := Exec_tail _ _ _
@[simp] theorem tl1_limbs_trim (e : Env) : Exec T k1_limbs_trim e = Exec T j1_limbs_trim (e.keep [0, 3, 100000]) := Exec_tail _ _ _
theorem ex0_limbs_trim (e : Env) : Exec T l0_limbs_trim e = andThen (Exec T w0_limbs_trim (e.keep [0, 3, 100000])) (Exec T l0_limbs_trim) := Exec_loop _ _ _
theorem run_limbs_trim (xs : List PV) : Cinf T n_limbs_trim xs = Run T a_limbs_trim xs := Cinf_eq rfl fn_limbs_trim
@[simp] theorem md_limbs_trim : T.modes n_limbs_trim = [true] := rfl
@[simp] theorem call_limbs_trim (C : Oracle) (e : Env) (xs : List PV) : call T C e n_limbs_trim xs = callK1 C n_limbs_trim xs (moves e [] [true] xs) := call_modes md_limbs_trim
theorem fn_limbs_Read : T.fns n_limbs_Read = some a_limbs_Read := rfl
@[simp] theorem tl0_limbs_Read (e : Env) : Exec T k0_limbs_Read e = Exec T j0_limbs_Read (e.keep [0, 12, 13]) := Exec_tail _ _ _
@[simp] theorem tl1_limbs_Read (e : Env) : Exec T k1_limbs_Read e = Exec T j1_limbs_Read (e.keep [0, 12, 13]) := Exec_tail _ _ _
@[simp] theorem tl2_limbs_Read (e : Env) : Exec T k2_limbs_Read e = Exec T j2_limbs_Read (e.keep [0, 6, 7, 8, 9, 36, 37, 54]) := Exec_tail _ _ _
@[simp] theorem tl3_limbs_Read (e : Env) : Exec T k3_limbs_Read e = Exec T j3_limbs_Read (e.keep [0, 6, 7, 8, 9, 36, 37, 54]) := Exec_tail _ _ _
@[simp] theorem tl4_limbs_Read (e : Env) : Exec T k4_limbs_Read e = Exec T j4_limbs_Read (e.keep [0, 6, 7, 8, 9, 54]) := Exec_tail _ _ _
@[simp] theorem tl5_limbs_Read (e : Env) : Exec T k5_limbs_Read e = Exec T j5_limbs_Read (e.keep [0, 6, 54]) := Exec_tail _ _ _
@[simp] theorem tl6_limbs_Read (e : Env) : Exec T k6_limbs_Read e = Exec T j6_limbs_Read (e.keep [6, 54]) := Exec_tail _ _ _
@[simp] theorem tl7_limbs_Read (e : Env) : Exec T k7_limbs_Read e = Exec T j7_limbs_Read (e.keep [0]) := Exec_tail _ _ _
@[simp] theorem tl8_limbs_Read (e : Env) : Exec T k8_limbs_Read e = Exec T j8_limbs_Read (e.keep [0]) := Exec_tail _ _ _
theorem ex0_limbs_Read (e : Env) : Exec T l0_limbs_Read e = andThen (Exec T w0_limbs_Read (e.keep [0, 12, 13])) (Exec T l0_limbs_Read) := Exec_loop _ _ _
theorem ex2_limbs_Read (e : Env) : Exec T l2_limbs_Read e = andThen (Exec T w2_limbs_Read (e.keep [0, 6, 7, 8, 9, 36, 37, 54])) (Exec T l2_limbs_Read) := Exec_loop _ _ _
theorem ex1_limbs_Read (e : Env) : Exec T l1_limbs_Read e = andThen (Exec T w1_limbs_Read (e.keep [0, 6, 54])) (Exec T l1_limbs_Read) := Exec_loop _ _ _
theorem run_limbs_Read (xs : List PV) : Cinf T n_limbs_Read xs = Run T a_limbs_Read xs := Cinf_eq rfl fn_limbs_Read
@[simp] theorem md_limbs_Read : T.modes n_limbs_Read = [] := rfl
@[simp] theorem call_limbs_Read (C : Oracle) (e : Env) (xs : List PV) : call T C e n_limbs_Read xs = callK1 C n_limbs_Read xs (moves e [] [] xs) := call_modes md_limbs_Read
theorem fn_limbs_Small : T.fns n_limbs_Small = some a_limbs_Small := rfl
@[simp] theorem tl0_limbs_Small (e : Env) : Exec T k0_limbs_Small e = Exec T j0_limbs_Small (e.keep [0, 4, 7, 12, 13]) := Exec_tail _ _ _
@[simp] theorem tl1_limbs_Small (e : Env) : Exec T k1_limbs_Small e = Exec T j1_limbs_Small (e.keep [0, 4, 7, 12, 13]) := Exec_tail _ _ _
@[simp] theorem tl2_limbs_Small (e : Env) : Exec T k2_limbs_Small e = Exec T j2_limbs_Small (e.keep [4]) := Exec_tail _ _ _
@[simp] theorem tl3_limbs_Small (e : Env) : Exec T k3_limbs_Small e = Exec T j3_limbs_Small (e.keep [0, 4, 7]) := Exec_tail _ _ _
theorem ex0_limbs_Small (e : Env) : Exec T l0_limbs_Small e = andThen (Exec T w0_limbs_Small (e.keep [0, 4, 7, 12, 13])) (Exec T l0_limbs_Small) := Exec_loop _ _ _
theorem run_limbs_Small (xs : List PV) : Cinf T n_limbs_Small xs = Run T a_limbs_Small xs := Cinf_eq rfl fn_limbs_Small
@[simp] theorem md_limbs_Small : T.modes n_limbs_Small = [] := rfl
@[simp] theorem call_limbs_Small (C : Oracle) (e : Env) (xs : List PV) : call T C e n_limbs_Small xs = callK1 C n_limbs_Small xs (moves e [] [] xs) := call_modes md_limbs_Small
theorem fn_fixed_signed : T.fns n_fixed_signed = some a_fixed_signed := rfl
@[simp] theorem tl0_fixed_signed (e : Env) : Exec T k0_fixed_signed e = Exec T j0_fixed_signed (e.keep [6]) := Exec_tail _ _ _
theorem run_fixed_signed (xs : List PV) : Cinf T n_fixed_signed xs = Run T a_fixed_signed xs := Cinf_eq rfl fn_fixed_signed
@[simp] theorem md_fixed_signed : T.modes n_fixed_signed = [] := rfl
@[simp] theorem call_fixed_signed (C : Oracle) (e : Env) (xs : List PV) : call T C e n_fixed_signed xs = callK1 C n_fixed_signed xs (moves e [] [] xs) := call_modes md_fixed_signed
theorem fn_fixed_Read : T.fns n_fixed_Read = some a_fixed_Read := rfl
@[simp] theorem tl0_fixed_Read (e : Env) : Exec T k0_fixed_Read e = Exec T j0_fixed_Read (e.keep [0, 5, 7, 9, 11]) := Exec_tail _ _ _
@[simp] theorem tl1_fixed_Read (e : Env) : Exec T k1_fixed_Read e = Exec T j1_fixed_Read (e.keep [0, 5, 7, 9, 11]) := Exec_tail _ _ _
@[simp] theorem tl2_fixed_Read (e : Env) : Exec T k2_fixed_Read e = Exec T j2_fixed_Read (e.keep [16]) := Exec_tail _ _ _
@[simp] theorem tl3_fixed_Read (e : Env) : Exec T k3_fixed_Read e = Exec T j3_fixed_Read (e.keep [5, 9, 10]) := Exec_tail _ _ _
@[simp] theorem tl4_fixed_Read (e : Env) : Exec T k4_fixed_Read e = Exec T j4_fixed_Read (e.keep [0, 5, 7, 9, 10]) := Exec_tail _ _ _
@[simp] theorem tl5_fixed_Read (e : Env) : Exec T k5_fixed_Read e = Exec T j5_fixed_Read (e.keep [0, 5, 6, 7]) := Exec_tail _ _ _
@[simp] theorem tl6_fixed_Read (e : Env) : Exec T k6_fixed_Read e = Exec T j6_fixed_Read (e.keep [0, 5, 6]) := Exec_tail _ _ _
@[simp] theorem tl7_fixed_Read (e : Env) : Exec T k7_fixed_Read e = Exec T j7_fixed_Read (e.keep [0]) := Exec_tail _ _ _
theorem run_fixed_Read (xs : List PV) : Cinf T n_fixed_Read xs = Run T a_fixed_Read xs := Cinf_eq rfl fn_fixed_Read
@[simp] theorem md_fixed_Read : T.modes n_fixed_Read = [] := rfl
@[simp] theorem call_fixed_Read (C : Oracle) (e : Env) (xs : List PV) : call T C e n_fixed_Read xs = callK1 C n_fixed_Read xs (moves e [] [] xs) := call_modes md_fixed_Read
theorem fn_thicketref04_isDigit : T.fns n_thicketref04_isDigit = some a_thicketref04_isDigit := rfl
theorem run_thicketref04_isDigit (xs : List PV) : Cinf T n_thicketref04_isDigit xs = Run T a_thicketref04_isDigit xs := Cinf_eq rfl fn_thicketref04_isDigit
@[simp] theorem md_thicketref04_isDigit : T.modes n_thicketref04_isDigit = [] := rfl
@[simp] theorem call_thicketref04_isDigit (C : Oracle) (e : Env) (xs : List PV) : call T C e n_thicketref04_isDigit xs = callK1 C n_thicketref04_isDigit xs (moves e [] [] xs) := call_modes md_thicketref04_isDigit
theorem fn_thicketref04_signed : T.fns n_thicketref04_signed = some a_thicketref04_signed := rfl
@[simp] theorem tl0_thicketref04_signed (e : Env) : Exec T k0_thicketref04_signed e = Exec T j0_thicketref04_signed (e.keep [1]) := Exec_tail _ _ _
theorem run_thicketref04_signed (xs : List PV) : Cinf T n_thicketref04_signed xs = Run T a_thicketref04_signed xs := Cinf_eq rfl fn_thicketref04_signed
@[simp] theorem md_thicketref04_signed : T.modes n_thicketref04_signed = [] := rfl
@[simp] theorem call_thicketref04_signed (C : Oracle) (e : Env) (xs : List PV) : call T C e n_thicketref04_signed xs = callK1 C n_thicketref04_signed xs (moves e [] [] xs) := call_modes md_thicketref04_signed
theorem fn_thicketref04_whole : T.fns n_thicketref04_whole = some a_thicketref04_whole := rfl
@[simp] theorem tl0_thicketref04_whole (e : Env) : Exec T k0_thicketref04_whole e = Exec T j0_thicketref04_whole (e.keep [0, 1, 6, 7, 8]) := Exec_tail _ _ _
@[simp] theorem tl1_thicketref04_whole (e : Env) : Exec T k1_thicketref04_whole e = Exec T j1_thicketref04_whole (e.keep [0, 1, 6, 7]) := Exec_tail _ _ _
@[simp] theorem tl2_thicketref04_whole (e : Env) : Exec T k2_thicketref04_whole e = Exec T j2_thicketref04_whole (e.keep [0, 1, 6, 7]) := Exec_tail _ _ _
@[simp] theorem tl3_thicketref04_whole (e : Env) : Exec T k3_thicketref04_whole e = Exec T j3_thicketref04_whole (e.keep [0, 6]) := Exec_tail _ _ _
theorem ex0_thicketref04_whole (e : Env) : Exec T l0_thicketref04_whole e = andThen (Exec T w0_thicketref04_whole (e.keep [0, 1, 6, 7])) (Exec T l0_thicketref04_whole) := Exec_loop _ _ _
theorem run_thicketref04_whole (xs : List PV) : Cinf T n_thicketref04_whole xs = Run T a_thicketref04_whole xs := Cinf_eq rfl fn_thicketref04_whole
@[simp] theorem md_thicketref04_whole : T.modes n_thicketref04_whole = [] := rfl
@[simp] theorem call_thicketref04_whole (C : Oracle) (e : Env) (xs : List PV) : call T C e n_thicketref04_whole xs = callK1 C n_thicketref04_whole xs (moves e [] [] xs) := call_modes md_thicketref04_whole
theorem fn_thicketref04_Read : T.fns n_thicketref04_Read = some a_thicketref04_Read := rfl
@[simp] theorem tl0_thicketref04_Read (e : Env) : Exec T k0_thicketref04_Read e = Exec T j0_thicketref04_Read (e.keep [0, 5, 6, 7]) := Exec_tail _ _ _
@[simp] theorem tl1_thicketref04_Read (e : Env) : Exec T k1_thicketref04_Read e = Exec T j1_thicketref04_Read (e.keep [0, 5, 6, 8, 10]) := Exec_tail _ _ _
@[simp] theorem tl2_thicketref04_Read (e : Env) : Exec T k2_thicketref04_Read e = Exec T j2_thicketref04_Read (e.keep [0, 5, 6, 8, 10]) := Exec_tail _ _ _
@[simp] theorem tl3_thicketref04_Read (e : Env) : Exec T k3_thicketref04_Read e = Exec T j3_thicketref04_Read (e.keep [0, 5, 6, 8, 10]) := Exec_tail _ _ _
@[simp] theorem tl4_thicketref04_Read (e : Env) : Exec T k4_thicketref04_Read e = Exec T j4_thicketref04_Read (e.keep [6, 8, 9]) := Exec_tail _ _ _
@[simp] theorem tl5_thicketref04_Read (e : Env) : Exec T k5_thicketref04_Read e = Exec T j5_thicketref04_Read (e.keep [11]) := Exec_tail _ _ _
@[simp] theorem tl6_thicketref04_Read (e : Env) : Exec T k6_thicketref04_Read e = Exec T j6_thicketref04_Read (e.keep [6, 8, 9]) := Exec_tail _ _ _
@[simp] theorem tl7_thicketref04_Read (e : Env) : Exec T k7_thicketref04_Read e = Exec T j7_thicketref04_Read (e.keep [6, 8, 9]) := Exec_tail _ _ _
@[simp] theorem tl8_thicketref04_Read (e : Env) : Exec T k8_thicketref04_Read e = Exec T j8_thicketref04_Read (e.keep [0, 5, 6, 8, 9]) := Exec_tail _ _ _
@[simp] theorem tl9_thicketref04_Read (e : Env) : Exec T k9_thicketref04_Read e = Exec T j9_thicketref04_Read (e.keep [0, 5, 6, 7]) := Exec_tail _ _ _
@[simp] theorem tl10_thicketref04_Read (e : Env) : Exec T k10_thicketref04_Read e = Exec T j10_thicketref04_Read (e.keep [0, 5, 6, 7]) := Exec_tail _ _ _
@[simp] theorem tl11_thicketref04_Read (e : Env) : Exec T k11_thicketref04_Read e = Exec T j11_thicketref04_Read (e.keep [0, 5, 6]) := Exec_tail _ _ _
@[simp] theorem tl12_thicketref04_Read (e : Env) : Exec T k12_thicketref04_Read e = Exec T j12_thicketref04_Read (e.keep [0]) := Exec_tail _ _ _
theorem ex0_thicketref04_Read (e : Env) : Exec T l0_thicketref04_Read e = andThen (Exec T w0_thicketref04_Read (e.keep [0, 5, 6, 7])) (Exec T l0_thicketref04_Read) := Exec_loop _ _ _
theorem ex1_thicketref04_Read (e : Env) : Exec T l1_thicketref04_Read e = andThen (Exec T w1_thicketref04_Read (e.keep [0, 5, 6, 8, 10])) (Exec T l1_thicketref04_Read) := Exec_loop _ _ _
theorem ex2_thicketref04_Read (e : Env) : Exec T l2_thicketref04_Read e = andThen (Exec T w2_thicketref04_Read (e.keep [6, 8, 9])) (Exec T l2_thicketref04_Read) := Exec_loop _ _ _
theorem run_thicketref04_Read (xs : List PV) : Cinf T n_thicketref04_Read xs = Run T a_thicketref04_Read xs := Cinf_eq rfl fn_thicketref04_Read
@[simp] theorem md_thicketref04_Read : T.modes n_thicketref04_Read = [] := rfl
@[simp] theorem call_thicketref04_Read (C : Oracle) (e : Env) (xs : List PV) : call T C e n_thicketref04_Read xs = callK1 C n_thicketref04_Read xs (moves e [] [] xs) := call_modes md_thicketref04_Read
theorem fn_stringslite_TrimPrefix : T.fns n_stringslite_TrimPrefix = some a_stringslite_TrimPrefix := rfl
@[simp] theorem tl0_stringslite_TrimPrefix (e : Env) : Exec T k0_stringslite_TrimPrefix e = Exec T j0_stringslite_TrimPrefix (e.keep [0]) := Exec_tail _ _ _
theorem run_stringslite_TrimPrefix (xs : List PV) : Cinf T n_stringslite_TrimPrefix xs = Run T a_stringslite_TrimPrefix xs := Cinf_eq rfl fn_stringslite_TrimPrefix
@[simp] theorem md_stringslite_TrimPrefix : T.modes n_stringslite_TrimPrefix = [] := rfl
@[simp] theorem call_stringslite_TrimPrefix (C : Oracle) (e : Env) (xs : List PV) : call T C e n_stringslite_TrimPrefix xs = callK1 C n_stringslite_TrimPrefix xs (moves e [] [] xs) := call_modes md_stringslite_TrimPrefix
theorem fn_strings_TrimPrefix : T.fns n_strings_TrimPrefix = some a_strings_TrimPrefix := rfl
theorem run_strings_TrimPrefix (xs : List PV) : Cinf T n_strings_TrimPrefix xs = Run T a_strings_TrimPrefix xs := Cinf_eq rfl fn_strings_TrimPrefix
@[simp] theorem md_strings_TrimPrefix : T.modes n_strings_TrimPrefix = [] := rfl
@[simp] theorem call_strings_TrimPrefix (C : Oracle) (e : Env) (xs : List PV) : call T C e n_strings_TrimPrefix xs = callK1 C n_strings_TrimPrefix xs (moves e [] [] xs) := call_modes md_strings_TrimPrefix
theorem fn_fixed_decimal : T.fns n_fixed_decimal = some a_fixed_decimal := rfl
@[simp] theorem tl0_fixed_decimal (e : Env) : Exec T k0_fixed_decimal e = Exec T j0_fixed_decimal (e.keep [0, 2, 4, 7, 9]) := Exec_tail _ _ _
@[simp] theorem tl1_fixed_decimal (e : Env) : Exec T k1_fixed_decimal e = Exec T j1_fixed_decimal (e.keep [0, 2, 3, 11, 12]) := Exec_tail _ _ _
@[simp] theorem tl2_fixed_decimal (e : Env) : Exec T k2_fixed_decimal e = Exec T j2_fixed_decimal (e.keep [0, 2, 3, 7, 11]) := Exec_tail _ _ _
@[simp] theorem tl3_fixed_decimal (e : Env) : Exec T k3_fixed_decimal e = Exec T j3_fixed_decimal (e.keep [2, 3, 4]) := Exec_tail _ _ _
@[simp] theorem tl4_fixed_decimal (e : Env) : Exec T k4_fixed_decimal e = Exec T j4_fixed_decimal (e.keep [0, 2, 3, 4, 7]) := Exec_tail _ _ _
@[simp] theorem tl5_fixed_decimal (e : Env) : Exec T k5_fixed_decimal e = Exec T j5_fixed_decimal (e.keep [0, 2, 3, 4, 7]) := Exec_tail _ _ _
@[simp] theorem tl6_fixed_decimal (e : Env) : Exec T k6_fixed_decimal e = Exec T j6_fixed_decimal (e.keep [0, 3, 4, 6, 7]) := Exec_tail _ _ _
@[simp] theorem tl7_fixed_decimal (e : Env) : Exec T k7_fixed_decimal e = Exec T j7_fixed_decimal (e.keep [0, 3, 4, 6]) := Exec_tail _ _ _
theorem run_fixed_decimal (xs : List PV) : Cinf T n_fixed_decimal xs = Run T a_fixed_decimal xs := Cinf_eq rfl fn_fixed_decimal
@[simp] theorem md_fixed_decimal : T.modes n_fixed_decimal = [] := rfl
@[simp] theorem call_fixed_decimal (C : Oracle) (e : Env) (xs : List PV) : call T C e n_fixed_decimal xs = callK1 C n_fixed_decimal xs (moves e [] [] xs) := call_modes md_fixed_decimal
theorem fn_fixed_clamped : T.fns n_fixed_clamped = some a_fixed_clamped := rfl
@[simp] theorem tl0_fixed_clamped (e : Env) : Exec T k0_fixed_clamped e = Exec T j0_fixed_clamped (e.keep [0, 3, 6, 7]) := Exec_tail _ _ _
@[simp] theorem tl1_fixed_clamped (e : Env) : Exec T k1_fixed_clamped e = Exec T j1_fixed_clamped (e.keep [0, 3, 6, 7]) := Exec_tail _ _ _
@[simp] theorem tl2_fixed_clamped (e : Env) : Exec T k2_fixed_clamped e = Exec T j2_fixed_clamped (e.keep [3]) := Exec_tail _ _ _
@[simp] theorem tl3_fixed_clamped (e : Env) : Exec T k3_fixed_clamped e = Exec T j3_fixed_clamped (e.keep [0, 3]) := Exec_tail _ _ _
theorem ex0_fixed_clamped (e : Env) : Exec T l0_fixed_clamped e = andThen (Exec T w0_fixed_clamped (e.keep [0, 3, 6, 7])) (Exec T l0_fixed_clamped) := Exec_loop _ _ _
theorem run_fixed_clamped (xs : List PV) : Cinf T n_fixed_clamped xs = Run T a_fixed_clamped xs := Cinf_eq rfl fn_fixed_clamped
@[simp] theorem md_fixed_clamped : T.modes n_fixed_clamped = [] := rfl
@[simp] theorem call_fixed_clamped (C : Oracle) (e : Env) (xs : List PV) : call T C e n_fixed_clamped xs = callK1 C n_fixed_clamped xs (moves e [] [] xs) := call_modes md_fixed_clamped
theorem fn_limbs_Norm : T.fns n_limbs_Norm = some a_limbs_Norm := rfl
theorem run_limbs_Norm (xs : List PV) : Cinf T n_limbs_Norm xs = Run T a_limbs_Norm xs := Cinf_eq rfl fn_limbs_Norm
@[simp] theorem md_limbs_Norm : T.modes n_limbs_Norm = [] := rfl
@[simp] theorem call_limbs_Norm (C : Oracle) (e : Env) (xs : List PV) : call T C e n_limbs_Norm xs = callK1 C n_limbs_Norm xs (moves e [] [] xs) := call_modes md_limbs_Norm
theorem fn_strings_trimLeftByte : T.fns n_strings_trimLeftByte = some a_strings_trimLeftByte := rfl
@[simp] theorem tl0_strings_trimLeftByte (e : Env) : Exec T k0_strings_trimLeftByte e = Exec T j0_strings_trimLeftByte (e.keep [0, 1]) := Exec_tail _ _ _
@[simp] theorem tl1_strings_trimLeftByte (e : Env) : Exec T k1_strings_trimLeftByte e = Exec T j1_strings_trimLeftByte (e.keep [0]) := Exec_tail _ _ _
theorem ex0_strings_trimLeftByte (e : Env) : Exec T l0_strings_trimLeftByte e = andThen (Exec T w0_strings_trimLeftByte (e.keep [0, 1])) (Exec T l0_strings_trimLeftByte) := Exec_loop _ _ _
theorem run_strings_trimLeftByte (xs : List PV) : Cinf T n_strings_trimLeftByte xs = Run T a_strings_trimLeftByte xs := Cinf_eq rfl fn_strings_trimLeftByte
@[simp] theorem md_strings_trimLeftByte : T.modes n_strings_trimLeftByte = [] := rfl
@[simp] theorem call_strings_trimLeftByte (C : Oracle) (e : Env) (xs : List PV) : call T C e n_strings_trimLeftByte xs = callK1 C n_strings_trimLeftByte xs (moves e [] [] xs) := call_modes md_strings_trimLeftByte
theorem fn_strings_TrimLeft : T.fns n_strings_TrimLeft = some a_strings_TrimLeft := rfl
@[simp] theorem tl0_strings_TrimLeft (e : Env) : Exec T k0_strings_TrimLeft e = Exec T j0_strings_TrimLeft (e.keep [0, 1]) := Exec_tail _ _ _
@[simp] theorem tl1_strings_TrimLeft (e : Env) : Exec T k1_strings_TrimLeft e = Exec T j1_strings_TrimLeft (e.keep [0, 1]) := Exec_tail _ _ _
@[simp] theorem tl2_strings_TrimLeft (e : Env) : Exec T k2_strings_TrimLeft e = Exec T j2_strings_TrimLeft (e.keep [0, 1]) := Exec_tail _ _ _
theorem run_strings_TrimLeft (xs : List PV) : Cinf T n_strings_TrimLeft xs = Run T a_strings_TrimLeft xs := Cinf_eq rfl fn_strings_TrimLeft
@[simp] theorem md_strings_TrimLeft : T.modes n_strings_TrimLeft = [] := rfl
@[simp] theorem call_strings_TrimLeft (C : Oracle) (e : Env) (xs : List PV) : call T C e n_strings_TrimLeft xs = callK1 C n_strings_TrimLeft xs (moves e [] [] xs) := call_modes md_strings_TrimLeft
theorem fn_limbs_Print : T.fns n_limbs_Print = some a_limbs_Print := rfl
@[simp] theorem tl0_limbs_Print (e : Env) : Exec T k0_limbs_Print e = Exec T j0_limbs_Print (e.keep [0, 3, 4, 5, 10, 41, 57]) := Exec_tail _ _ _
@[simp] theorem tl1_limbs_Print (e : Env) : Exec T k1_limbs_Print e = Exec T j1_limbs_Print (e.keep [0, 3, 4, 5, 10, 41, 57]) := Exec_tail _ _ _
@[simp] theorem tl2_limbs_Print (e : Env) : Exec T k2_limbs_Print e = Exec T j2_limbs_Print (e.keep [0, 3, 4, 6, 10, 41, 42, 57]) := Exec_tail _ _ _
@[simp] theorem tl3_limbs_Print (e : Env) : Exec T k3_limbs_Print e = Exec T j3_limbs_Print (e.keep [0, 3, 4, 6, 10, 41, 42, 57]) := Exec_tail _ _ _
@[simp] theorem tl4_limbs_Print (e : Env) : Exec T k4_limbs_Print e = Exec T j4_limbs_Print (e.keep [0, 3, 6, 10, 41, 57]) := Exec_tail _ _ _
@[simp] theorem tl5_limbs_Print (e : Env) : Exec T k5_limbs_Print e = Exec T j5_limbs_Print (e.keep [0, 3, 4, 10, 41, 57]) := Exec_tail _ _ _
@[simp] theorem tl6_limbs_Print (e : Env) : Exec T k6_limbs_Print e = Exec T j6_limbs_Print (e.keep [0, 3, 10, 41, 57]) := Exec_tail _ _ _
@[simp] theorem tl7_limbs_Print (e : Env) : Exec T k7_limbs_Print e = Exec T j7_limbs_Print (e.keep [3, 7, 8, 57]) := Exec_tail _ _ _
@[simp] theorem tl8_limbs_Print (e : Env) : Exec T k8_limbs_Print e = Exec T j8_limbs_Print (e.keep [3, 7, 8, 57]) := Exec_tail _ _ _
@[simp] theorem tl9_limbs_Print (e : Env) : Exec T k9_limbs_Print e = Exec T j9_limbs_Print (e.keep [7]) := Exec_tail _ _ _
@[simp] theorem tl10_limbs_Print (e : Env) : Exec T k10_limbs_Print e = Exec T j10_limbs_Print (e.keep [3, 57]) := Exec_tail _ _ _
@[simp] theorem tl11_limbs_Print (e : Env) : Exec T k11_limbs_Print e = Exec T j11_limbs_Print (e.keep [0, 10, 41]) := Exec_tail _ _ _
theorem ex1_limbs_Print (e : Env) : Exec T l1_limbs_Print e = andThen (Exec T w1_limbs_Print (e.keep [0, 3, 4, 5, 10, 41, 57])) (Exec T l1_limbs_Print) := Exec_loop _ _ _
theorem ex2_limbs_Print (e : Env) : Exec T l2_limbs_Print e = andThen (Exec T w2_limbs_Print (e.keep [0, 3, 4, 6, 10, 41, 42, 57])) (Exec T l2_limbs_Print) := Exec_loop _ _ _
theorem ex0_limbs_Print (e : Env) : Exec T l0_limbs_Print e = andThen (Exec T w0_limbs_Print (e.keep [0, 3, 10, 41, 57])) (Exec T l0_limbs_Print) := Exec_loop _ _ _
theorem ex3_limbs_Print (e : Env) : Exec T l3_limbs_Print e = andThen (Exec T w3_limbs_Print (e.keep [3, 7, 8, 57])) (Exec T l3_limbs_Print) := Exec_loop _ _ _
theorem run_limbs_Print (xs : List PV) : Cinf T n_limbs_Print xs = Run T a_limbs_Print xs := Cinf_eq rfl fn_limbs_Print
@[simp] theorem md_limbs_Print : T.modes n_limbs_Print = [] := rfl
@[simp] theorem call_limbs_Print (C : Oracle) (e : Env) (xs : List PV) : call T C e n_limbs_Print xs = callK1 C n_limbs_Print xs (moves e [] [] xs) := call_modes md_limbs_Print
theorem fn_bits_Len32 : T.fns n_bits_Len32 = some a_bits_Len32 := rfl
@[simp] theorem tl0_bits_Len32 (e : Env) : Exec T k0_bits_Len32 e = Exec T j0_bits_Len32 (e.keep [0, 2]) := Exec_tail _ _ _
@[simp] theorem tl1_bits_Len32 (e : Env) : Exec T k1_bits_Len32 e = Exec T j1_bits_Len32 (e.keep [0, 2]) := Exec_tail _ _ _
theorem run_bits_Len32 (xs : List PV) : Cinf T n_bits_Len32 xs = Run T a_bits_Len32 xs := Cinf_eq rfl fn_bits_Len32
@[simp] theorem md_bits_Len32 : T.modes n_bits_Len32 = [] := rfl
@[simp] theorem call_bits_Len32 (C : Oracle) (e : Env) (xs : List PV) : call T C e n_bits_Len32 xs = callK1 C n_bits_Len32 xs (moves e [] [] xs) := call_modes md_bits_Len32
theorem fn_limbs_Len : T.fns n_limbs_Len = some a_limbs_Len := rfl
@[simp] theorem tl0_limbs_Len (e : Env) : Exec T k0_limbs_Len e = Exec T j0_limbs_Len (e.keep [0, 4]) := Exec_tail _ _ _
theorem run_limbs_Len (xs : List PV) : Cinf T n_limbs_Len xs = Run T a_limbs_Len xs := Cinf_eq rfl fn_limbs_Len
@[simp] theorem md_limbs_Len : T.modes n_limbs_Len = [] := rfl
@[simp] theorem call_limbs_Len (C : Oracle) (e : Env) (xs : List PV) : call T C e n_limbs_Len xs = callK1 C n_limbs_Len xs (moves e [] [] xs) := call_modes md_limbs_Len
theorem fn_limbs_Mul : T.fns n_limbs_Mul = some a_limbs_Mul := rfl
@[simp] theorem tl0_limbs_Mul (e : Env) : Exec T k0_limbs_Mul e = Exec T j0_limbs_Mul (e.keep [0, 1, 5, 6, 7, 10, 12, 18, 20, 21, 25, 26]) := Exec_tail _ _ _
@[simp] theorem tl1_limbs_Mul (e : Env) : Exec T k1_limbs_Mul e = Exec T j1_limbs_Mul (e.keep [0, 1, 5, 6, 7, 10, 12, 18, 20, 21, 25, 26]) := Exec_tail _ _ _
@[simp] theorem tl2_limbs_Mul (e : Env) : Exec T k2_limbs_Mul e = Exec T j2_limbs_Mul (e.keep [0, 1, 5, 6, 7, 10, 12, 18, 20, 21]) := Exec_tail _ _ _
@[simp] theorem tl3_limbs_Mul (e : Env) : Exec T k3_limbs_Mul e = Exec T j3_limbs_Mul (e.keep [0, 1, 5, 10, 12, 18, 20, 21]) := Exec_tail _ _ _
@[simp] theorem tl4_limbs_Mul (e : Env) : Exec T k4_limbs_Mul e = Exec T j4_limbs_Mul (e.keep [0, 1, 5, 10, 12, 18, 20, 21]) := Exec_tail _ _ _
@[simp] theorem tl5_limbs_Mul (e : Env) : Exec T k5_limbs_Mul e = Exec T j5_limbs_Mul (e.keep [5, 18]) := Exec_tail _ _ _
theorem ex1_limbs_Mul (e : Env) : Exec T l1_limbs_Mul e = andThen (Exec T w1_limbs_Mul (e.keep [0, 1, 5, 6, 7, 10, 12, 18, 20, 21, 25, 26])) (Exec T l1_limbs_Mul) := Exec_loop _ _ _
theorem ex0_limbs_Mul (e : Env) : Exec T l0_limbs_Mul e = andThen (Exec T w0_limbs_Mul (e.keep [0, 1, 5, 10, 12, 18, 20, 21])) (Exec T l0_limbs_Mul) := Exec_loop _ _ _
theorem run_limbs_Mul (xs : List PV) : Cinf T n_limbs_Mul xs = Run T a_limbs_Mul xs := Cinf_eq rfl fn_limbs_Mul
@[simp] theorem md_limbs_Mul : T.modes n_limbs_Mul = [] := rfl
@[simp] theorem call_limbs_Mul (C : Oracle) (e : Env) (xs : List PV) : call T C e n_limbs_Mul xs = callK1 C n_limbs_Mul xs (moves e [] [] xs) := call_modes md_limbs_Mul
theorem fn_limbs_Pow : T.fns n_limbs_Pow = some a_limbs_Pow := rfl
@[simp] theorem tl0_limbs_Pow (e : Env) : Exec T k0_limbs_Pow e = Exec T j0_limbs_Pow (e.keep [0, 1, 6, 7, 19, 26, 34]) := Exec_tail _ _ _
@[simp] theorem tl1_limbs_Pow (e : Env) : Exec T k1_limbs_Pow e = Exec T j1_limbs_Pow (e.keep [0, 1, 6, 7, 19, 26, 34]) := Exec_tail _ _ _
@[simp] theorem tl2_limbs_Pow (e : Env) : Exec T k2_limbs_Pow e = Exec T j2_limbs_Pow (e.keep [6, 19, 26, 34]) := Exec_tail _ _ _
@[simp] theorem tl3_limbs_Pow (e : Env) : Exec T k3_limbs_Pow e = Exec T j3_limbs_Pow (e.keep [0, 1]) := Exec_tail _ _ _
@[simp] theorem tl4_limbs_Pow (e : Env) : Exec T k4_limbs_Pow e = Exec T j4_limbs_Pow (e.keep [0, 1]) := Exec_tail _ _ _
theorem ex0_limbs_Pow (e : Env) : Exec T l0_limbs_Pow e = andThen (Exec T w0_limbs_Pow (e.keep [0, 1, 6, 7, 19, 26, 34])) (Exec T l0_limbs_Pow) := Exec_loop _ _ _
theorem run_limbs_Pow (xs : List PV) : Cinf T n_limbs_Pow xs = Run T a_limbs_Pow xs := Cinf_eq rfl fn_limbs_Pow
@[simp] theorem md_limbs_Pow : T.modes n_limbs_Pow = [] := rfl
@[simp] theorem call_limbs_Pow (C : Oracle) (e : Env) (xs : List PV) : call T C e n_limbs_Pow xs = callK1 C n_limbs_Pow xs (moves e [] [] xs) := call_modes md_limbs_Pow
theorem fn_limbs_Cmp : T.fns n_limbs_Cmp = some a_limbs_Cmp := rfl
@[simp] theorem tl0_limbs_Cmp (e : Env) : Exec T k0_limbs_Cmp e = Exec T j0_limbs_Cmp (e.keep []) := Exec_tail _ _ _
@[simp] theorem tl1_limbs_Cmp (e : Env) : Exec T k1_limbs_Cmp e = Exec T j1_limbs_Cmp (e.keep [0, 1, 5, 7, 9]) := Exec_tail _ _ _
@[simp] theorem tl2_limbs_Cmp (e : Env) : Exec T k2_limbs_Cmp e = Exec T j2_limbs_Cmp (e.keep [0, 1, 5, 7, 9]) := Exec_tail _ _ _
@[simp] theorem tl3_limbs_Cmp (e : Env) : Exec T k3_limbs_Cmp e = Exec T j3_limbs_Cmp (e.keep []) := Exec_tail _ _ _
@[simp] theorem tl4_limbs_Cmp (e : Env) : Exec T k4_limbs_Cmp e = Exec T j4_limbs_Cmp (e.keep [0, 1, 7, 9]) := Exec_tail _ _ _
theorem ex0_limbs_Cmp (e : Env) : Exec T l0_limbs_Cmp e = andThen (Exec T w0_limbs_Cmp (e.keep [0, 1, 5, 7, 9])) (Exec T l0_limbs_Cmp) := Exec_loop _ _ _
theorem run_limbs_Cmp (xs : List PV) : Cinf T n_limbs_Cmp xs = Run T a_limbs_Cmp xs := Cinf_eq rfl fn_limbs_Cmp
@[simp] theorem md_limbs_Cmp : T.modes n_limbs_Cmp = [] := rfl
@[simp] theorem call_limbs_Cmp (C : Oracle) (e : Env) (xs : List PV) : call T C e n_limbs_Cmp xs = callK1 C n_limbs_Cmp xs (moves e [] [] xs) := call_modes md_limbs_Cmp
theorem fn_limbs_From : T.fns n_limbs_From = some a_limbs_From := rfl
theorem run_limbs_From (xs : List PV) : Cinf T n_limbs_From xs = Run T a_limbs_From xs := Cinf_eq rfl fn_limbs_From
@[simp] theorem md_limbs_From : T.modes n_limbs_From = [] := rfl
@[simp] theorem call_limbs_From (C : Oracle) (e : Env) (xs : List PV) : call T C e n_limbs_From xs = callK1 C n_limbs_From xs (moves e [] [] xs) := call_modes md_limbs_From
theorem fn_bits_LeadingZeros32 : T.fns n_bits_LeadingZeros32 = some a_bits_LeadingZeros32 := rfl
theorem run_bits_LeadingZeros32 (xs : List PV) : Cinf T n_bits_LeadingZeros32 xs = Run T a_bits_LeadingZeros32 xs := Cinf_eq rfl fn_bits_LeadingZeros32
@[simp] theorem md_bits_LeadingZeros32 : T.modes n_bits_LeadingZeros32 = [] := rfl
@[simp] theorem call_bits_LeadingZeros32 (C : Oracle) (e : Env) (xs : List PV) : call T C e n_bits_LeadingZeros32 xs = callK1 C n_bits_LeadingZeros32 xs (moves e [] [] xs) := call_modes md_bits_LeadingZeros32
theorem fn_limbs_up : T.fns n_limbs_up = some a_limbs_up := rfl
@[simp] theorem tl0_limbs_up (e : Env) : Exec T k0_limbs_up e = Exec T j0_limbs_up (e.keep [0, 1, 5, 6, 10, 22, 23, 24, 25, 40]) := Exec_tail _ _ _
@[simp] theorem tl1_limbs_up (e : Env) : Exec T k1_limbs_up e = Exec T j1_limbs_up (e.keep [0, 1, 5, 6, 10, 22, 23, 24, 25, 40]) := Exec_tail _ _ _
@[simp] theorem tl2_limbs_up (e : Env) : Exec T k2_limbs_up e = Exec T j2_limbs_up (e.keep [5, 6, 22, 40]) := Exec_tail _ _ _
@[simp] theorem tl3_limbs_up (e : Env) : Exec T k3_limbs_up e = Exec T j3_limbs_up (e.keep [0, 1, 10]) := Exec_tail _ _ _
theorem ex0_limbs_up (e : Env) : Exec T l0_limbs_up e = andThen (Exec T w0_limbs_up (e.keep [0, 1, 5, 6, 10, 22, 23, 24, 25, 40])) (Exec T l0_limbs_up) := Exec_loop _ _ _
theorem run_limbs_up (xs : List PV) : Cinf T n_limbs_up xs = Run T a_limbs_up xs := Cinf_eq rfl fn_limbs_up
@[simp] theorem md_limbs_up : T.modes n_limbs_up = [] := rfl
@[simp] theorem call_limbs_up (C : Oracle) (e : Env) (xs : List PV) : call T C e n_limbs_up xs = callK1 C n_limbs_up xs (moves e [] [] xs) := call_modes md_limbs_up
theorem fn_bits_Sub32 : T.fns n_bits_Sub32 = some a_bits_Sub32 := rfl
theorem run_bits_Sub32 (xs : List PV) : Cinf T n_bits_Sub32 xs = Run T a_bits_Sub32 xs := Cinf_eq rfl fn_bits_Sub32
@[simp] theorem md_bits_Sub32 : T.modes n_bits_Sub32 = [] := rfl
@[simp] theorem call_bits_Sub32 (C : Oracle) (e : Env) (xs : List PV) : call T C e n_bits_Sub32 xs = callK1 C n_bits_Sub32 xs (moves e [] [] xs) := call_modes md_bits_Sub32
theorem fn_bits_Add32 : T.fns n_bits_Add32 = some a_bits_Add32 := rfl
theorem run_bits_Add32 (xs : List PV) : Cinf T n_bits_Add32 xs = Run T a_bits_Add32 xs := Cinf_eq rfl fn_bits_Add32
@[simp] theorem md_bits_Add32 : T.modes n_bits_Add32 = [] := rfl
@[simp] theorem call_bits_Add32 (C : Oracle) (e : Env) (xs : List PV) : call T C e n_bits_Add32 xs = callK1 C n_bits_Add32 xs (moves e [] [] xs) := call_modes md_bits_Add32
theorem fn_limbs_long : T.fns n_limbs_long = some a_limbs_long := rfl
@[simp] theorem tl0_limbs_long (e : Env) : Exec T k0_limbs_long e = Exec T j0_limbs_long (e.keep [0, 1, 5, 6, 7, 8, 9, 11, 12, 24, 71, 100000]) := Exec_tail _ _ _
@[simp] theorem tl1_limbs_long (e : Env) : Exec T k1_limbs_long e = Exec T j1_limbs_long (e.keep [0, 1, 5, 6, 7, 8, 9, 11, 12, 24, 100000]) := Exec_tail _ _ _
@[simp] theorem tl2_limbs_long (e : Env) : Exec T k2_limbs_long e = Exec T j2_limbs_long (e.keep [0, 1, 5, 6, 7, 8, 9, 11, 13, 14, 24, 94, 95, 100000]) := Exec_tail _ _ _
@[simp] theorem tl3_limbs_long (e : Env) : Exec T k3_limbs_long e = Exec T j3_limbs_long (e.keep [0, 1, 5, 6, 7, 8, 9, 11, 13, 14, 24, 94, 95, 100000]) := Exec_tail _ _ _
@[simp] theorem tl4_limbs_long (e : Env) : Exec T k4_limbs_long e = Exec T j4_limbs_long (e.keep [0, 1, 5, 6, 7, 8, 9, 16, 24, 159, 160, 100000]) := Exec_tail _ _ _
@[simp] theorem tl5_limbs_long (e : Env) : Exec T k5_limbs_long e = Exec T j5_limbs_long (e.keep [0, 1, 5, 6, 7, 8, 9, 16, 24, 159, 160, 100000]) := Exec_tail _ _ _
@[simp] theorem tl6_limbs_long (e : Env) : Exec T k6_limbs_long e = Exec T j6_limbs_long (e.keep [0, 1, 5, 6, 7, 8, 9, 16, 24, 100000]) := Exec_tail _ _ _
@[simp] theorem tl7_limbs_long (e : Env) : Exec T k7_limbs_long e = Exec T j7_limbs_long (e.keep [0, 1, 5, 6, 7, 8, 9, 24, 100000]) := Exec_tail _ _ _
@[simp] theorem tl8_limbs_long (e : Env) : Exec T k8_limbs_long e = Exec T j8_limbs_long (e.keep [0, 1, 5, 6, 7, 8, 9, 11, 13, 14, 24, 100000]) := Exec_tail _ _ _
@[simp] theorem tl9_limbs_long (e : Env) : Exec T k9_limbs_long e = Exec T j9_limbs_long (e.keep [0, 1, 5, 6, 7, 8, 9, 11, 24, 100000]) := Exec_tail _ _ _
@[simp] theorem tl10_limbs_long (e : Env) : Exec T k10_limbs_long e = Exec T j10_limbs_long (e.keep [0, 1, 5, 6, 7, 8, 9, 24, 100000]) := Exec_tail _ _ _
@[simp] theorem tl11_limbs_long (e : Env) : Exec T k11_limbs_long e = Exec T j11_limbs_long (e.keep [0, 1, 5, 6, 7, 8, 9, 24, 100000]) := Exec_tail _ _ _
@[simp] theorem tl12_limbs_long (e : Env) : Exec T k12_limbs_long e = Exec T j12_limbs_long (e.keep [6, 24, 100000]) := Exec_tail _ _ _
theorem ex1_limbs_long (e : Env) : Exec T l1_limbs_long e = andThen (Exec T w1_limbs_long (e.keep [0, 1, 5, 6, 7, 8, 9, 11, 12, 24, 100000])) (Exec T l1_limbs_long) := Exec_loop _ _ _
theorem ex2_limbs_long (e : Env) : Exec T l2_limbs_long e = andThen (Exec T w2_limbs_long (e.keep [0, 1, 5, 6, 7, 8, 9, 11, 13, 14, 24, 94, 95, 100000])) (Exec T l2_limbs_long) := Exec_loop _ _ _
theorem ex3_limbs_long (e : Env) : Exec T l3_limbs_long e = andThen (Exec T w3_limbs_long (e.keep [0, 1, 5, 6, 7, 8, 9, 16, 24, 159, 160, 100000])) (Exec T l3_limbs_long) := Exec_loop _ _ _
theorem ex0_limbs_long (e : Env) : Exec T l0_limbs_long e = andThen (Exec T w0_limbs_long (e.keep [0, 1, 5, 6, 7, 8, 9, 24, 100000])) (Exec T l0_limbs_long) := Exec_loop _ _ _
theorem run_limbs_long (xs : List PV) : Cinf T n_limbs_long xs = Run T a_limbs_long xs := Cinf_eq rfl fn_limbs_long
@[simp] theorem md_limbs_long : T.modes n_limbs_long = [true, false] := rfl
@[simp] theorem call_limbs_long (C : Oracle) (e : Env) (xs : List PV) : call T C e n_limbs_long xs = callK1 C n_limbs_long xs (moves e [] [true, false] xs) := call_modes md_limbs_long
theorem fn_limbs_down : T.fns n_limbs_down = some a_limbs_down := rfl
@[simp] theorem tl0_limbs_down (e : Env) : Exec T k0_limbs_down e = Exec T j0_limbs_down (e.keep [0, 1, 5, 6, 7, 9, 15, 17, 18, 21, 23, 24]) := Exec_tail _ _ _
@[simp] theorem tl1_limbs_down (e : Env) : Exec T k1_limbs_down e = Exec T j1_limbs_down (e.keep [0, 1, 5, 9, 15, 17, 18, 21, 23, 24]) := Exec_tail _ _ _
@[simp] theorem tl2_limbs_down (e : Env) : Exec T k2_limbs_down e = Exec T j2_limbs_down (e.keep [0, 1, 5, 9, 15, 17, 18, 21, 23, 24]) := Exec_tail _ _ _
@[simp] theorem tl3_limbs_down (e : Env) : Exec T k3_limbs_down e = Exec T j3_limbs_down (e.keep [5, 21]) := Exec_tail _ _ _
@[simp] theorem tl4_limbs_down (e : Env) : Exec T k4_limbs_down e = Exec T j4_limbs_down (e.keep [0, 1, 9, 15, 17, 18]) := Exec_tail _ _ _
theorem ex0_limbs_down (e : Env) : Exec T l0_limbs_down e = andThen (Exec T w0_limbs_down (e.keep [0, 1, 5, 9, 15, 17, 18, 21, 23, 24])) (Exec T l0_limbs_down) := Exec_loop _ _ _
theorem run_limbs_down (xs : List PV) : Cinf T n_limbs_down xs = Run T a_limbs_down xs := Cinf_eq rfl fn_limbs_down
@[simp] theorem md_limbs_down : T.modes n_limbs_down = [] := rfl
@[simp] theorem call_limbs_down (C : Oracle) (e : Env) (xs : List PV) : call T C e n_limbs_down xs = callK1 C n_limbs_down xs (moves e [] [] xs) := call_modes md_limbs_down
theorem fn_limbs_DivMod : T.fns n_limbs_DivMod = some a_limbs_DivMod := rfl
@[simp] theorem tl0_limbs_DivMod (e : Env) : Exec T k0_limbs_DivMod e = Exec T j0_limbs_DivMod (e.keep [0, 1, 7, 8, 9, 15, 17, 32]) := Exec_tail _ _ _
@[simp] theorem tl1_limbs_DivMod (e : Env) : Exec T k1_limbs_DivMod e = Exec T j1_limbs_DivMod (e.keep [0, 1, 7, 8, 9, 15, 17, 32]) := Exec_tail _ _ _
@[simp] theorem tl2_limbs_DivMod (e : Env) : Exec T k2_limbs_DivMod e = Exec T j2_limbs_DivMod (e.keep [7, 8, 32]) := Exec_tail _ _ _
@[simp] theorem tl3_limbs_DivMod (e : Env) : Exec T k3_limbs_DivMod e = Exec T j3_limbs_DivMod (e.keep [0, 10, 11, 12, 15, 77, 80, 88]) := Exec_tail _ _ _
@[simp] theorem tl4_limbs_DivMod (e : Env) : Exec T k4_limbs_DivMod e = Exec T j4_limbs_DivMod (e.keep [10, 11, 12, 77, 80, 88]) := Exec_tail _ _ _
@[simp] theorem tl5_limbs_DivMod (e : Env) : Exec T k5_limbs_DivMod e = Exec T j5_limbs_DivMod (e.keep [0, 1, 15, 17]) := Exec_tail _ _ _
@[simp] theorem tl6_limbs_DivMod (e : Env) : Exec T k6_limbs_DivMod e = Exec T j6_limbs_DivMod (e.keep [0, 1, 15, 17]) := Exec_tail _ _ _
@[simp] theorem tl7_limbs_DivMod (e : Env) : Exec T k7_limbs_DivMod e = Exec T j7_limbs_DivMod (e.keep [0, 1, 15, 17]) := Exec_tail _ _ _
theorem ex0_limbs_DivMod (e : Env) : Exec T l0_limbs_DivMod e = andThen (Exec T w0_limbs_DivMod (e.keep [0, 1, 7, 8, 9, 15, 17, 32])) (Exec T l0_limbs_DivMod) := Exec_loop _ _ _
theorem ex1_limbs_DivMod (e : Env) : Exec T l1_limbs_DivMod e = andThen (Exec T w1_limbs_DivMod (e.keep [0, 10, 11, 12, 15, 77, 80, 88])) (Exec T l1_limbs_DivMod) := Exec_loop _ _ _
theorem run_limbs_DivMod (xs : List PV) : Cinf T n_limbs_DivMod xs = Run T a_limbs_DivMod xs := Cinf_eq rfl fn_limbs_DivMod
@[simp] theorem md_limbs_DivMod : T.modes n_limbs_DivMod = [] := rfl
@[simp] theorem call_limbs_DivMod (C : Oracle) (e : Env) (xs : List PV) : call T C e n_limbs_DivMod xs = callK1 C n_limbs_DivMod xs (moves e [] [] xs) := call_modes md_limbs_DivMod
theorem fn_limbs_Add : T.fns n_limbs_Add = some a_limbs_Add := rfl
@[simp] theorem tl0_limbs_Add (e : Env) : Exec T k0_limbs_Add e = Exec T j0_limbs_Add (e.keep [0, 1, 5, 6, 13, 14, 18, 20, 21, 46]) := Exec_tail _ _ _
@[simp] theorem tl1_limbs_Add (e : Env) : Exec T k1_limbs_Add e = Exec T j1_limbs_Add (e.keep [0, 1, 5, 6, 13, 14, 18, 20, 21, 46]) := Exec_tail _ _ _
@[simp] theorem tl2_limbs_Add (e : Env) : Exec T k2_limbs_Add e = Exec T j2_limbs_Add (e.keep [0, 1, 5, 6, 13, 14, 18, 20, 21, 46]) := Exec_tail _ _ _
@[simp] theorem tl3_limbs_Add (e : Env) : Exec T k3_limbs_Add e = Exec T j3_limbs_Add (e.keep [5, 6, 18, 46]) := Exec_tail _ _ _
@[simp] theorem tl4_limbs_Add (e : Env) : Exec T k4_limbs_Add e = Exec T j4_limbs_Add (e.keep [0, 1, 13, 14]) := Exec_tail _ _ _
theorem ex0_limbs_Add (e : Env) : Exec T l0_limbs_Add e = andThen (Exec T w0_limbs_Add (e.keep [0, 1, 5, 6, 13, 14, 18, 20, 21, 46])) (Exec T l0_limbs_Add) := Exec_loop _ _ _
theorem run_limbs_Add (xs : List PV) : Cinf T n_limbs_Add xs = Run T a_limbs_Add xs := Cinf_eq rfl fn_limbs_Add
@[simp] theorem md_limbs_Add : T.modes n_limbs_Add = [] := rfl
@[simp] theorem call_limbs_Add (C : Oracle) (e : Env) (xs : List PV) : call T C e n_limbs_Add xs = callK1 C n_limbs_Add xs (moves e [] [] xs) := call_modes md_limbs_Add
theorem fn_limbs_Bit : T.fns n_limbs_Bit = some a_limbs_Bit := rfl
theorem run_limbs_Bit (xs : List PV) : Cinf T n_limbs_Bit xs = Run T a_limbs_Bit xs := Cinf_eq rfl fn_limbs_Bit
@[simp] theorem md_limbs_Bit : T.modes n_limbs_Bit = [] := rfl
@[simp] theorem call_limbs_Bit (C : Oracle) (e : Env) (xs : List PV) : call T C e n_limbs_Bit xs = callK1 C n_limbs_Bit xs (moves e [] [] xs) := call_modes md_limbs_Bit
theorem fn_fixed_rounded : T.fns n_fixed_rounded = some a_fixed_rounded := rfl
@[simp] theorem tl0_fixed_rounded (e : Env) : Exec T k0_fixed_rounded e = Exec T j0_fixed_rounded (e.keep [5, 9, 12, 13]) := Exec_tail _ _ _
theorem run_fixed_rounded (xs : List PV) : Cinf T n_fixed_rounded xs = Run T a_fixed_rounded xs := Cinf_eq rfl fn_fixed_rounded
@[simp] theorem md_fixed_rounded : T.modes n_fixed_rounded = [] := rfl
@[simp] theorem call_fixed_rounded (C : Oracle) (e : Env) (xs : List PV) : call T C e n_fixed_rounded xs = callK1 C n_fixed_rounded xs (moves e [] [] xs) := call_modes md_fixed_rounded
theorem fn_fixed_Rounded : T.fns n_fixed_Rounded = some a_fixed_Rounded := rfl
@[simp] theorem tl0_fixed_Rounded (e : Env) : Exec T k0_fixed_Rounded e = Exec T j0_fixed_Rounded (e.keep [18]) := Exec_tail _ _ _
@[simp] theorem tl1_fixed_Rounded (e : Env) : Exec T k1_fixed_Rounded e = Exec T j1_fixed_Rounded (e.keep [0, 9, 33, 35, 36, 58, 81]) := Exec_tail _ _ _
@[simp] theorem tl2_fixed_Rounded (e : Env) : Exec T k2_fixed_Rounded e = Exec T j2_fixed_Rounded (e.keep [0, 5, 6, 7]) := Exec_tail _ _ _
@[simp] theorem tl3_fixed_Rounded (e : Env) : Exec T k3_fixed_Rounded e = Exec T j3_fixed_Rounded (e.keep [0]) := Exec_tail _ _ _
theorem run_fixed_Rounded (xs : List PV) : Cinf T n_fixed_Rounded xs = Run T a_fixed_Rounded xs := Cinf_eq rfl fn_fixed_Rounded
@[simp] theorem md_fixed_Rounded : T.modes n_fixed_Rounded = [] := rfl
@[simp] theorem call_fixed_Rounded (C : Oracle) (e : Env) (xs : List PV) : call T C e n_fixed_Rounded xs = callK1 C n_fixed_Rounded xs (moves e [] [] xs) := call_modes md_fixed_Rounded
theorem fn_thicketref02_word : T.fns n_thicketref02_word = some a_thicketref02_word := rfl
@[simp] theorem tl0_thicketref02_word (e : Env) : Exec T k0_thicketref02_word e = Exec T j0_thicketref02_word (e.keep [0, 1, 2, 7]) := Exec_tail _ _ _
@[simp] theorem tl1_thicketref02_word (e : Env) : Exec T k1_thicketref02_word e = Exec T j1_thicketref02_word (e.keep [7]) := Exec_tail _ _ _
theorem ex0_thicketref02_word (e : Env) : Exec T l0_thicketref02_word e = andThen (Exec T w0_thicketref02_word (e.keep [0, 1, 2, 7])) (Exec T l0_thicketref02_word) := Exec_loop _ _ _
theorem run_thicketref02_word (xs : List PV) : Cinf T n_thicketref02_word xs = Run T a_thicketref02_word xs := Cinf_eq rfl fn_thicketref02_word
@[simp] theorem md_thicketref02_word : T.modes n_thicketref02_word = [] := rfl
@[simp] theorem call_thicketref02_word (C : Oracle) (e : Env) (xs : List PV) : call T C e n_thicketref02_word xs = callK1 C n_thicketref02_word xs (moves e [] [] xs) := call_modes md_thicketref02_word
theorem fn_thicketref02_isDigit : T.fns n_thicketref02_isDigit = some a_thicketref02_isDigit := rfl
theorem run_thicketref02_isDigit (xs : List PV) : Cinf T n_thicketref02_isDigit xs = Run T a_thicketref02_isDigit xs := Cinf_eq rfl fn_thicketref02_isDigit
@[simp] theorem md_thicketref02_isDigit : T.modes n_thicketref02_isDigit = [] := rfl
@[simp] theorem call_thicketref02_isDigit (C : Oracle) (e : Env) (xs : List PV) : call T C e n_thicketref02_isDigit xs = callK1 C n_thicketref02_isDigit xs (moves e [] [] xs) := call_modes md_thicketref02_isDigit
theorem fn_thicketref02_hexadecimal : T.fns n_thicketref02_hexadecimal = some a_thicketref02_hexadecimal := rfl
@[simp] theorem tl0_thicketref02_hexadecimal (e : Env) : Exec T k0_thicketref02_hexadecimal e = Exec T j0_thicketref02_hexadecimal (e.keep []) := Exec_tail _ _ _
theorem run_thicketref02_hexadecimal (xs : List PV) : Cinf T n_thicketref02_hexadecimal xs = Run T a_thicketref02_hexadecimal xs := Cinf_eq rfl fn_thicketref02_hexadecimal
@[simp] theorem md_thicketref02_hexadecimal : T.modes n_thicketref02_hexadecimal = [] := rfl
@[simp] theorem call_thicketref02_hexadecimal (C : Oracle) (e : Env) (xs : List PV) : call T C e n_thicketref02_hexadecimal xs = callK1 C n_thicketref02_hexadecimal xs (moves e [] [] xs) := call_modes md_thicketref02_hexadecimal
theorem fn_thicketref02_run : T.fns n_thicketref02_run = some a_thicketref02_run := rfl
@[simp] theorem tl0_thicketref02_run (e : Env) : Exec T k0_thicketref02_run e = Exec T j0_thicketref02_run (e.keep [0, 1, 2, 8]) := Exec_tail _ _ _
@[simp] theorem tl1_thicketref02_run (e : Env) : Exec T k1_thicketref02_run e = Exec T j1_thicketref02_run (e.keep [1, 8]) := Exec_tail _ _ _
theorem ex0_thicketref02_run (e : Env) : Exec T l0_thicketref02_run e = andThen (Exec T w0_thicketref02_run (e.keep [0, 1, 2, 8])) (Exec T l0_thicketref02_run) := Exec_loop _ _ _
theorem run_thicketref02_run (xs : List PV) : Cinf T n_thicketref02_run xs = Run T a_thicketref02_run xs := Cinf_eq rfl fn_thicketref02_run
@[simp] theorem md_thicketref02_run : T.modes n_thicketref02_run = [] := rfl
@[simp] theorem call_thicketref02_run (C : Oracle) (e : Env) (xs : List PV) : call T C e n_thicketref02_run xs = callK1 C n_thicketref02_run xs (moves e [] [] xs) := call_modes md_thicketref02_run
theorem fn_thicketref02_Split : T.fns n_thicketref02_Split = some a_thicketref02_Split := rfl
@[simp] theorem tl0_thicketref02_Split (e : Env) : Exec T k0_thicketref02_Split e = Exec T j0_thicketref02_Split (e.keep [2, 4]) := Exec_tail _ _ _
@[simp] theorem tl1_thicketref02_Split (e : Env) : Exec T k1_thicketref02_Split e = Exec T j1_thicketref02_Split (e.keep [0, 2, 4, 5, 6]) := Exec_tail _ _ _
@[simp] theorem tl2_thicketref02_Split (e : Env) : Exec T k2_thicketref02_Split e = Exec T j2_thicketref02_Split (e.keep [0, 2, 4, 5, 8, 9]) := Exec_tail _ _ _
@[simp] theorem tl3_thicketref02_Split (e : Env) : Exec T k3_thicketref02_Split e = Exec T j3_thicketref02_Split (e.keep [0, 2, 4, 9, 11]) := Exec_tail _ _ _
@[simp] theorem tl4_thicketref02_Split (e : Env) : Exec T k4_thicketref02_Split e = Exec T j4_thicketref02_Split (e.keep [0, 2, 4, 9, 10, 11]) := Exec_tail _ _ _
@[simp] theorem tl5_thicketref02_Split (e : Env) : Exec T k5_thicketref02_Split e = Exec T j5_thicketref02_Split (e.keep [2, 4]) := Exec_tail _ _ _
@[simp] theorem tl6_thicketref02_Split (e : Env) : Exec T k6_thicketref02_Split e = Exec T j6_thicketref02_Split (e.keep [0, 2, 4, 5]) := Exec_tail _ _ _
@[simp] theorem tl7_thicketref02_Split (e : Env) : Exec T k7_thicketref02_Split e = Exec T j7_thicketref02_Split (e.keep [0, 2, 4, 5, 8]) := Exec_tail _ _ _
@[simp] theorem tl8_thicketref02_Split (e : Env) : Exec T k8_thicketref02_Split e = Exec T j8_thicketref02_Split (e.keep [0, 2, 4, 5, 8, 9]) := Exec_tail _ _ _
@[simp] theorem tl9_thicketref02_Split (e : Env) : Exec T k9_thicketref02_Split e = Exec T j9_thicketref02_Split (e.keep [0, 2, 4, 5, 8]) := Exec_tail _ _ _
@[simp] theorem tl10_thicketref02_Split (e : Env) : Exec T k10_thicketref02_Split e = Exec T j10_thicketref02_Split (e.keep [0, 2, 4, 5]) := Exec_tail _ _ _
@[simp] theorem tl11_thicketref02_Split (e : Env) : Exec T k11_thicketref02_Split e = Exec T j11_thicketref02_Split (e.keep [0, 2, 4, 5]) := Exec_tail _ _ _
theorem run_thicketref02_Split (xs : List PV) : Cinf T n_thicketref02_Split xs = Run T a_thicketref02_Split xs := Cinf_eq rfl fn_thicketref02_Split
@[simp] theorem md_thicketref02_Split : T.modes n_thicketref02_Split = [] := rfl
@[simp] theorem call_thicketref02_Split (C : Oracle) (e : Env) (xs : List PV) : call T C e n_thicketref02_Split xs = callK1 C n_thicketref02_Split xs (moves e [] [] xs) := call_modes md_thicketref02_Split
theorem fn_thicketref02_norm : T.fns n_thicketref02_norm = some a_thicketref02_norm := rfl
@[simp] theorem tl0_thicketref02_norm (e : Env) : Exec T k0_thicketref02_norm e = Exec T j0_thicketref02_norm (e.keep [0, 3, 100000]) := Exec_tail _ _ _
@[simp] theorem tl1_thicketref02_norm (e : Env) : Exec T k1_thicketref02_norm e = Exec T j1_thicketref02_norm (e.keep [0, 3, 100000]) := Exec_tail _ _ _
theorem ex0_thicketref02_norm (e : Env) : Exec T l0_thicketref02_norm e = andThen (Exec T w0_thicketref02_norm (e.keep [0, 3, 100000])) (Exec T l0_thicketref02_norm) := Exec_loop _ _ _
theorem run_thicketref02_norm (xs : List PV) : Cinf T n_thicketref02_norm xs = Run T a_thicketref02_norm xs := Cinf_eq rfl fn_thicketref02_norm
@[simp] theorem md_thicketref02_norm : T.modes n_thicketref02_norm = [true] := rfl
@[simp] theorem call_thicketref02_norm (C : Oracle) (e : Env) (xs : List PV) : call T C e n_thicketref02_norm xs = callK1 C n_thicketref02_norm xs (moves e [] [true] xs) := call_modes md_thicketref02_norm
theorem fn_thicketref02_times : T.fns n_thicketref02_times = some a_thicketref02_times := rfl
@[simp] theorem tl0_thicketref02_times (e : Env) : Exec T k0_thicketref02_times e = Exec T j0_thicketref02_times (e.keep [0, 1, 7, 8, 9, 32, 39]) := Exec_tail _ _ _
@[simp] theorem tl1_thicketref02_times (e : Env) : Exec T k1_thicketref02_times e = Exec T j1_thicketref02_times (e.keep [0, 1, 7, 8, 9, 32, 39]) := Exec_tail _ _ _
@[simp] theorem tl2_thicketref02_times (e : Env) : Exec T k2_thicketref02_times e = Exec T j2_thicketref02_times (e.keep [7, 8, 32, 39]) := Exec_tail _ _ _
theorem ex0_thicketref02_times (e : Env) : Exec T l0_thicketref02_times e = andThen (Exec T w0_thicketref02_times (e.keep [0, 1, 7, 8, 9, 32, 39])) (Exec T l0_thicketref02_times) := Exec_loop _ _ _
theorem run_thicketref02_times (xs : List PV) : Cinf T n_thicketref02_times xs = Run T a_thicketref02_times xs := Cinf_eq rfl fn_thicketref02_times
@[simp] theorem md_thicketref02_times : T.modes n_thicketref02_times = [] := rfl
@[simp] theorem call_thicketref02_times (C : Oracle) (e : Env) (xs : List PV) : call T C e n_thicketref02_times xs = callK1 C n_thicketref02_times xs (moves e [] [] xs) := call_modes md_thicketref02_times
theorem fn_thicketref02_Digits : T.fns n_thicketref02_Digits = some a_thicketref02_Digits := rfl
@[simp] theorem tl0_thicketref02_Digits (e : Env) : Exec T k0_thicketref02_Digits e = Exec T j0_thicketref02_Digits (e.keep [0, 3, 4, 17]) := Exec_tail _ _ _
@[simp] theorem tl1_thicketref02_Digits (e : Env) : Exec T k1_thicketref02_Digits e = Exec T j1_thicketref02_Digits (e.keep [0, 3, 4, 17]) := Exec_tail _ _ _
@[simp] theorem tl2_thicketref02_Digits (e : Env) : Exec T k2_thicketref02_Digits e = Exec T j2_thicketref02_Digits (e.keep [3, 17]) := Exec_tail _ _ _
theorem ex0_thicketref02_Digits (e : Env) : Exec T l0_thicketref02_Digits e = andThen (Exec T w0_thicketref02_Digits (e.keep [0, 3, 4, 17])) (Exec T l0_thicketref02_Digits) := Exec_loop _ _ _
theorem run_thicketref02_Digits (xs : List PV) : Cinf T n_thicketref02_Digits xs = Run T a_thicketref02_Digits xs := Cinf_eq rfl fn_thicketref02_Digits
@[simp] theorem md_thicketref02_Digits : T.modes n_thicketref02_Digits = [] := rfl
@[simp] theorem call_thicketref02_Digits (C : Oracle) (e : Env) (xs : List PV) : call T C e n_thicketref02_Digits xs = callK1 C n_thicketref02_Digits xs (moves e [] [] xs) := call_modes md_thicketref02_Digits
theorem fn_thicketref02_power : T.fns n_thicketref02_power = some a_thicketref02_power := rfl
@[simp] theorem tl0_thicketref02_power (e : Env) : Exec T k0_thicketref02_power e = Exec T j0_thicketref02_power (e.keep [0, 1, 5, 6, 7]) := Exec_tail _ _ _
@[simp] theorem tl1_thicketref02_power (e : Env) : Exec T k1_thicketref02_power e = Exec T j1_thicketref02_power (e.keep [0, 1, 5, 6, 7]) := Exec_tail _ _ _
@[simp] theorem tl2_thicketref02_power (e : Env) : Exec T k2_thicketref02_power e = Exec T j2_thicketref02_power (e.keep [6]) := Exec_tail _ _ _
@[simp] theorem tl3_thicketref02_power (e : Env) : Exec T k3_thicketref02_power e = Exec T j3_thicketref02_power (e.keep [5, 6]) := Exec_tail _ _ _
@[simp] theorem tl4_thicketref02_power (e : Env) : Exec T k4_thicketref02_power e = Exec T j4_thicketref02_power (e.keep [1, 5, 6]) := Exec_tail _ _ _
theorem ex0_thicketref02_power (e : Env) : Exec T l0_thicketref02_power e = andThen (Exec T w0_thicketref02_power (e.keep [0, 1, 5, 6, 7])) (Exec T l0_thicketref02_power) := Exec_loop _ _ _
theorem run_thicketref02_power (xs : List PV) : Cinf T n_thicketref02_power xs = Run T a_thicketref02_power xs := Cinf_eq rfl fn_thicketref02_power
@[simp] theorem md_thicketref02_power : T.modes n_thicketref02_power = [] := rfl
@[simp] theorem call_thicketref02_power (C : Oracle) (e : Env) (xs : List PV) : call T C e n_thicketref02_power xs = callK1 C n_thicketref02_power xs (moves e [] [] xs) := call_modes md_thicketref02_power
theorem fn_thicketref02_Power : T.fns n_thicketref02_Power = some a_thicketref02_Power := rfl
theorem run_thicketref02_Power (xs : List PV) : Cinf T n_thicketref02_Power xs = Run T a_thicketref02_Power xs := Cinf_eq rfl fn_thicketref02_Power
@[simp] theorem md_thicketref02_Power : T.modes n_thicketref02_Power = [] := rfl
@[simp] theorem call_thicketref02_Power (C : Oracle) (e : Env) (xs : List PV) : call T C e n_thicketref02_Power xs = callK1 C n_thicketref02_Power xs (moves e [] [] xs) := call_modes md_thicketref02_Power
theorem fn_thicketref02_ten : T.fns n_thicketref02_ten = some a_thicketref02_ten := rfl
@[simp] theorem tl0_thicketref02_ten (e : Env) : Exec T k0_thicketref02_ten e = Exec T j0_thicketref02_ten (e.keep [0, 1, 5, 12]) := Exec_tail _ _ _
@[simp] theorem tl1_thicketref02_ten (e : Env) : Exec T k1_thicketref02_ten e = Exec T j1_thicketref02_ten (e.keep [0, 1, 5, 12]) := Exec_tail _ _ _
@[simp] theorem tl2_thicketref02_ten (e : Env) : Exec T k2_thicketref02_ten e = Exec T j2_thicketref02_ten (e.keep [0, 12]) := Exec_tail _ _ _
theorem ex0_thicketref02_ten (e : Env) : Exec T l0_thicketref02_ten e = andThen (Exec T w0_thicketref02_ten (e.keep [0, 1, 5, 12])) (Exec T l0_thicketref02_ten) := Exec_loop _ _ _
theorem run_thicketref02_ten (xs : List PV) : Cinf T n_thicketref02_ten xs = Run T a_thicketref02_ten xs := Cinf_eq rfl fn_thicketref02_ten
@[simp] theorem md_thicketref02_ten : T.modes n_thicketref02_ten = [] := rfl
@[simp] theorem call_thicketref02_ten (C : Oracle) (e : Env) (xs : List PV) : call T C e n_thicketref02_ten xs = callK1 C n_thicketref02_ten xs (moves e [] [] xs) := call_modes md_thicketref02_ten
theorem fn_thicketref02_Ten : T.fns n_thicketref02_Ten = some a_thicketref02_Ten := rfl
theorem run_thicketref02_Ten (xs : List PV) : Cinf T n_thicketref02_Ten xs = Run T a_thicketref02_Ten xs := Cinf_eq rfl fn_thicketref02_Ten
@[simp] theorem md_thicketref02_Ten : T.modes n_thicketref02_Ten = [] := rfl
@[simp] theorem call_thicketref02_Ten (C : Oracle) (e : Env) (xs : List PV) : call T C e n_thicketref02_Ten xs = callK1 C n_thicketref02_Ten xs (moves e [] [] xs) := call_modes md_thicketref02_Ten
theorem fn_thicketref02_size : T.fns n_thicketref02_size = some a_thicketref02_size := rfl
@[simp] theorem tl0_thicketref02_size (e : Env) : Exec T k0_thicketref02_size e = Exec T j0_thicketref02_size (e.keep [3, 4]) := Exec_tail _ _ _
@[simp] theorem tl1_thicketref02_size (e : Env) : Exec T k1_thicketref02_size e = Exec T j1_thicketref02_size (e.keep [3, 4]) := Exec_tail _ _ _
@[simp] theorem tl2_thicketref02_size (e : Env) : Exec T k2_thicketref02_size e = Exec T j2_thicketref02_size (e.keep [3]) := Exec_tail _ _ _
@[simp] theorem tl3_thicketref02_size (e : Env) : Exec T k3_thicketref02_size e = Exec T j3_thicketref02_size (e.keep [0]) := Exec_tail _ _ _
theorem ex0_thicketref02_size (e : Env) : Exec T l0_thicketref02_size e = andThen (Exec T w0_thicketref02_size (e.keep [3, 4])) (Exec T l0_thicketref02_size) := Exec_loop _ _ _
theorem run_thicketref02_size (xs : List PV) : Cinf T n_thicketref02_size xs = Run T a_thicketref02_size xs := Cinf_eq rfl fn_thicketref02_size
@[simp] theorem md_thicketref02_size : T.modes n_thicketref02_size = [] := rfl
@[simp] theorem call_thicketref02_size (C : Oracle) (e : Env) (xs : List PV) : call T C e n_thicketref02_size xs = callK1 C n_thicketref02_size xs (moves e [] [] xs) := call_modes md_thicketref02_size
theorem fn_thicketref02_Size : T.fns n_thicketref02_Size = some a_thicketref02_Size := rfl
theorem run_thicketref02_Size (xs : List PV) : Cinf T n_thicketref02_Size xs = Run T a_thicketref02_Size xs := Cinf_eq rfl fn_thicketref02_Size
@[simp] theorem md_thicketref02_Size : T.modes n_thicketref02_Size = [] := rfl
@[simp] theorem call_thicketref02_Size (C : Oracle) (e : Env) (xs : List PV) : call T C e n_thicketref02_Size xs = callK1 C n_thicketref02_Size xs (moves e [] [] xs) := call_modes md_thicketref02_Size
theorem fn_thicketref02_cmp : T.fns n_thicketref02_cmp = some a_thicketref02_cmp := rfl
@[simp] theorem tl0_thicketref02_cmp (e : Env) : Exec T k0_thicketref02_cmp e = Exec T j0_thicketref02_cmp (e.keep []) := Exec_tail _ _ _
@[simp] theorem tl1_thicketref02_cmp (e : Env) : Exec T k1_thicketref02_cmp e = Exec T j1_thicketref02_cmp (e.keep []) := Exec_tail _ _ _
@[simp] theorem tl2_thicketref02_cmp (e : Env) : Exec T k2_thicketref02_cmp e = Exec T j2_thicketref02_cmp (e.keep [0, 1, 5]) := Exec_tail _ _ _
@[simp] theorem tl3_thicketref02_cmp (e : Env) : Exec T k3_thicketref02_cmp e = Exec T j3_thicketref02_cmp (e.keep [0, 1, 5]) := Exec_tail _ _ _
@[simp] theorem tl4_thicketref02_cmp (e : Env) : Exec T k4_thicketref02_cmp e = Exec T j4_thicketref02_cmp (e.keep []) := Exec_tail _ _ _
@[simp] theorem tl5_thicketref02_cmp (e : Env) : Exec T k5_thicketref02_cmp e = Exec T j5_thicketref02_cmp (e.keep [0, 1]) := Exec_tail _ _ _
theorem ex0_thicketref02_cmp (e : Env) : Exec T l0_thicketref02_cmp e = andThen (Exec T w0_thicketref02_cmp (e.keep [0, 1, 5])) (Exec T l0_thicketref02_cmp) := Exec_loop _ _ _
theorem run_thicketref02_cmp (xs : List PV) : Cinf T n_thicketref02_cmp xs = Run T a_thicketref02_cmp xs := Cinf_eq rfl fn_thicketref02_cmp
@[simp] theorem md_thicketref02_cmp : T.modes n_thicketref02_cmp = [] := rfl
@[simp] theorem call_thicketref02_cmp (C : Oracle) (e : Env) (xs : List PV) : call T C e n_thicketref02_cmp xs = callK1 C n_thicketref02_cmp xs (moves e [] [] xs) := call_modes md_thicketref02_cmp
theorem fn_thicketref02_up : T.fns n_thicketref02_up = some a_thicketref02_up := rfl
@[simp] theorem tl0_thicketref02_up (e : Env) : Exec T k0_thicketref02_up e = Exec T j0_thicketref02_up (e.keep [0, 1, 5, 6, 21, 44, 51]) := Exec_tail _ _ _
@[simp] theorem tl1_thicketref02_up (e : Env) : Exec T k1_thicketref02_up e = Exec T j1_thicketref02_up (e.keep [0, 1, 5, 6, 21, 44, 51]) := Exec_tail _ _ _
@[simp] theorem tl2_thicketref02_up (e : Env) : Exec T k2_thicketref02_up e = Exec T j2_thicketref02_up (e.keep [0, 5, 7, 8, 9, 21, 44, 51]) := Exec_tail _ _ _
@[simp] theorem tl3_thicketref02_up (e : Env) : Exec T k3_thicketref02_up e = Exec T j3_thicketref02_up (e.keep [0, 5, 7, 8, 9, 21, 44, 51]) := Exec_tail _ _ _
@[simp] theorem tl4_thicketref02_up (e : Env) : Exec T k4_thicketref02_up e = Exec T j4_thicketref02_up (e.keep [5, 8, 21, 44, 51]) := Exec_tail _ _ _
@[simp] theorem tl5_thicketref02_up (e : Env) : Exec T k5_thicketref02_up e = Exec T j5_thicketref02_up (e.keep [0, 1, 5, 21, 44, 51]) := Exec_tail _ _ _
@[simp] theorem tl6_thicketref02_up (e : Env) : Exec T k6_thicketref02_up e = Exec T j6_thicketref02_up (e.keep [0, 1, 5, 21, 44, 51]) := Exec_tail _ _ _
theorem ex0_thicketref02_up (e : Env) : Exec T l0_thicketref02_up e = andThen (Exec T w0_thicketref02_up (e.keep [0, 1, 5, 6, 21, 44, 51])) (Exec T l0_thicketref02_up) := Exec_loop _ _ _
theorem ex1_thicketref02_up (e : Env) : Exec T l1_thicketref02_up e = andThen (Exec T w1_thicketref02_up (e.keep [0, 5, 7, 8, 9, 21, 44, 51])) (Exec T l1_thicketref02_up) := Exec_loop _ _ _
theorem run_thicketref02_up (xs : List PV) : Cinf T n_thicketref02_up xs = Run T a_thicketref02_up xs := Cinf_eq rfl fn_thicketref02_up
@[simp] theorem md_thicketref02_up : T.modes n_thicketref02_up = [] := rfl
@[simp] theorem call_thicketref02_up (C : Oracle) (e : Env) (xs : List PV) : call T C e n_thicketref02_up xs = callK1 C n_thicketref02_up xs (moves e [] [] xs) := call_modes md_thicketref02_up
theorem fn_thicketref02_minus : T.fns n_thicketref02_minus = some a_thicketref02_minus := rfl
@[simp] theorem tl0_thicketref02_minus (e : Env) : Exec T k0_thicketref02_minus e = Exec T j0_thicketref02_minus (e.keep [0, 1, 5, 6, 7, 36]) := Exec_tail _ _ _
@[simp] theorem tl1_thicketref02_minus (e : Env) : Exec T k1_thicketref02_minus e = Exec T j1_thicketref02_minus (e.keep [0, 1, 5, 6, 7, 36]) := Exec_tail _ _ _
@[simp] theorem tl2_thicketref02_minus (e : Env) : Exec T k2_thicketref02_minus e = Exec T j2_thicketref02_minus (e.keep [0, 1, 5, 6, 7, 36]) := Exec_tail _ _ _
@[simp] theorem tl3_thicketref02_minus (e : Env) : Exec T k3_thicketref02_minus e = Exec T j3_thicketref02_minus (e.keep [5, 36]) := Exec_tail _ _ _
theorem ex0_thicketref02_minus (e : Env) : Exec T l0_thicketref02_minus e = andThen (Exec T w0_thicketref02_minus (e.keep [0, 1, 5, 6, 7, 36])) (Exec T l0_thicketref02_minus) := Exec_loop _ _ _
theorem run_thicketref02_minus (xs : List PV) : Cinf T n_thicketref02_minus xs = Run T a_thicketref02_minus xs := Cinf_eq rfl fn_thicketref02_minus
@[simp] theorem md_thicketref02_minus : T.modes n_thicketref02_minus = [] := rfl
@[simp] theorem call_thicketref02_minus (C : Oracle) (e : Env) (xs : List PV) : call T C e n_thicketref02_minus xs = callK1 C n_thicketref02_minus xs (moves e [] [] xs) := call_modes md_thicketref02_minus
theorem fn_thicketref02_divide : T.fns n_thicketref02_divide = some a_thicketref02_divide := rfl
@[simp] theorem tl0_thicketref02_divide (e : Env) : Exec T k0_thicketref02_divide e = Exec T j0_thicketref02_divide (e.keep [0, 1, 6, 8, 29]) := Exec_tail _ _ _
@[simp] theorem tl1_thicketref02_divide (e : Env) : Exec T k1_thicketref02_divide e = Exec T j1_thicketref02_divide (e.keep [0, 1, 6, 8, 29]) := Exec_tail _ _ _
@[simp] theorem tl2_thicketref02_divide (e : Env) : Exec T k2_thicketref02_divide e = Exec T j2_thicketref02_divide (e.keep [0, 6, 29]) := Exec_tail _ _ _
theorem ex0_thicketref02_divide (e : Env) : Exec T l0_thicketref02_divide e = andThen (Exec T w0_thicketref02_divide (e.keep [0, 1, 6, 8, 29])) (Exec T l0_thicketref02_divide) := Exec_loop _ _ _
theorem run_thicketref02_divide (xs : List PV) : Cinf T n_thicketref02_divide xs = Run T a_thicketref02_divide xs := Cinf_eq rfl fn_thicketref02_divide
@[simp] theorem md_thicketref02_divide : T.modes n_thicketref02_divide = [] := rfl
@[simp] theorem call_thicketref02_divide (C : Oracle) (e : Env) (xs : List PV) : call T C e n_thicketref02_divide xs = callK1 C n_thicketref02_divide xs (moves e [] [] xs) := call_modes md_thicketref02_divide
theorem fn_thicketref02_Divide : T.fns n_thicketref02_Divide = some a_thicketref02_Divide := rfl
theorem run_thicketref02_Divide (xs : List PV) : Cinf T n_thicketref02_Divide xs = Run T a_thicketref02_Divide xs := Cinf_eq rfl fn_thicketref02_Divide
@[simp] theorem md_thicketref02_Divide : T.modes n_thicketref02_Divide = [] := rfl
@[simp] theorem call_thicketref02_Divide (C : Oracle) (e : Env) (xs : List PV) : call T C e n_thicketref02_Divide xs = callK1 C n_thicketref02_Divide xs (moves e [] [] xs) := call_modes md_thicketref02_Divide
theorem fn_thicketref02_Cmp : T.fns n_thicketref02_Cmp = some a_thicketref02_Cmp := rfl
theorem run_thicketref02_Cmp (xs : List PV) : Cinf T n_thicketref02_Cmp xs = Run T a_thicketref02_Cmp xs := Cinf_eq rfl fn_thicketref02_Cmp
@[simp] theorem md_thicketref02_Cmp : T.modes n_thicketref02_Cmp = [] := rfl
@[simp] theorem call_thicketref02_Cmp (C : Oracle) (e : Env) (xs : List PV) : call T C e n_thicketref02_Cmp xs = callK1 C n_thicketref02_Cmp xs (moves e [] [] xs) := call_modes md_thicketref02_Cmp
theorem fn_thicketref02_Up : T.fns n_thicketref02_Up = some a_thicketref02_Up := rfl
theorem run_thicketref02_Up (xs : List PV) : Cinf T n_thicketref02_Up xs = Run T a_thicketref02_Up xs := Cinf_eq rfl fn_thicketref02_Up
@[simp] theorem md_thicketref02_Up : T.modes n_thicketref02_Up = [] := rfl
@[simp] theorem call_thicketref02_Up (C : Oracle) (e : Env) (xs : List PV) : call T C e n_thicketref02_Up xs = callK1 C n_thicketref02_Up xs (moves e [] [] xs) := call_modes md_thicketref02_Up
theorem fn_thicketref04_Rounded : T.fns n_thicketref04_Rounded = some a_thicketref04_Rounded := rfl
@[simp] theorem tl0_thicketref04_Rounded (e : Env) : Exec T k0_thicketref04_Rounded e = Exec T j0_thicketref04_Rounded (e.keep [6]) := Exec_tail _ _ _
@[simp] theorem tl1_thicketref04_Rounded (e : Env) : Exec T k1_thicketref04_Rounded e = Exec T j1_thicketref04_Rounded (e.keep [1, 6, 7, 15, 18, 20]) := Exec_tail _ _ _
@[simp] theorem tl2_thicketref04_Rounded (e : Env) : Exec T k2_thicketref04_Rounded e = Exec T j2_thicketref04_Rounded (e.keep [0, 1]) := Exec_tail _ _ _
theorem run_thicketref04_Rounded (xs : List PV) : Cinf T n_thicketref04_Rounded xs = Run T a_thicketref04_Rounded xs := Cinf_eq rfl fn_thicketref04_Rounded
@[simp] theorem md_thicketref04_Rounded : T.modes n_thicketref04_Rounded = [] := rfl
@[simp] theorem call_thicketref04_Rounded (C : Oracle) (e : Env) (xs : List PV) : call T C e n_thicketref04_Rounded xs = callK1 C n_thicketref04_Rounded xs (moves e [] [] xs) := call_modes md_thicketref04_Rounded
theorem fn_thicketref04_Decimal : T.fns n_thicketref04_Decimal = some a_thicketref04_Decimal := rfl
@[simp] theorem tl0_thicketref04_Decimal (e : Env) : Exec T k0_thicketref04_Decimal e = Exec T j0_thicketref04_Decimal (e.keep [14]) := Exec_tail _ _ _
@[simp] theorem tl1_thicketref04_Decimal (e : Env) : Exec T k1_thicketref04_Decimal e = Exec T j1_thicketref04_Decimal (e.keep [6, 8, 11, 77, 96, 99, 115]) := Exec_tail _ _ _
@[simp] theorem tl2_thicketref04_Decimal (e : Env) : Exec T k2_thicketref04_Decimal e = Exec T j2_thicketref04_Decimal (e.keep [6, 8, 77, 99]) := Exec_tail _ _ _
@[simp] theorem tl3_thicketref04_Decimal (e : Env) : Exec T k3_thicketref04_Decimal e = Exec T j3_thicketref04_Decimal (e.keep [6]) := Exec_tail _ _ _
@[simp] theorem tl4_thicketref04_Decimal (e : Env) : Exec T k4_thicketref04_Decimal e = Exec T j4_thicketref04_Decimal (e.keep [0]) := Exec_tail _ _ _
@[simp] theorem tl5_thicketref04_Decimal (e : Env) : Exec T k5_thicketref04_Decimal e = Exec T j5_thicketref04_Decimal (e.keep [0, 5]) := Exec_tail _ _ _
@[simp] theorem tl6_thicketref04_Decimal (e : Env) : Exec T k6_thicketref04_Decimal e = Exec T j6_thicketref04_Decimal (e.keep [0, 5]) := Exec_tail _ _ _
@[simp] theorem tl7_thicketref04_Decimal (e : Env) : Exec T k7_thicketref04_Decimal e = Exec T j7_thicketref04_Decimal (e.keep [0]) := Exec_tail _ _ _
theorem run_thicketref04_Decimal (xs : List PV) : Cinf T n_thicketref04_Decimal xs = Run T a_thicketref04_Decimal xs := Cinf_eq rfl fn_thicketref04_Decimal
@[simp] theorem md_thicketref04_Decimal : T.modes n_thicketref04_Decimal = [] := rfl
@[simp] theorem call_thicketref04_Decimal (C : Oracle) (e : Env) (xs : List PV) : call T C e n_thicketref04_Decimal xs = callK1 C n_thicketref04_Decimal xs (moves e [] [] xs) := call_modes md_thicketref04_Decimal
theorem fn_fixed_amount : T.fns n_fixed_amount = some a_fixed_amount := rfl
@[simp] theorem tl0_fixed_amount (e : Env) : Exec T k0_fixed_amount e = Exec T j0_fixed_amount (e.keep [0]) := Exec_tail _ _ _
theorem run_fixed_amount (xs : List PV) : Cinf T n_fixed_amount xs = Run T a_fixed_amount xs := Cinf_eq rfl fn_fixed_amount
@[simp] theorem md_fixed_amount : T.modes n_fixed_amount = [] := rfl
@[simp] theorem call_fixed_amount (C : Oracle) (e : Env) (xs : List PV) : call T C e n_fixed_amount xs = callK1 C n_fixed_amount xs (moves e [] [] xs) := call_modes md_fixed_amount
theorem fn_strconv_FormatUint : T.fns n_strconv_FormatUint = some a_strconv_FormatUint := rfl
theorem run_strconv_FormatUint (xs : List PV) : Cinf T n_strconv_FormatUint xs = Run T a_strconv_FormatUint xs := Cinf_eq rfl fn_strconv_FormatUint
@[simp] theorem md_strconv_FormatUint : T.modes n_strconv_FormatUint = [] := rfl
@[simp] theorem call_strconv_FormatUint (C : Oracle) (e : Env) (xs : List PV) : call T C e n_strconv_FormatUint xs = callK1 C n_strconv_FormatUint xs (moves e [] [] xs) := call_modes md_strconv_FormatUint
theorem fn_strings_trimRightByte : T.fns n_strings_trimRightByte = some a_strings_trimRightByte := rfl
@[simp] theorem tl0_strings_trimRightByte (e : Env) : Exec T k0_strings_trimRightByte e = Exec T j0_strings_trimRightByte (e.keep [0, 1]) := Exec_tail _ _ _
@[simp] theorem tl1_strings_trimRightByte (e : Env) : Exec T k1_strings_trimRightByte e = Exec T j1_strings_trimRightByte (e.keep [0]) := Exec_tail _ _ _
theorem ex0_strings_trimRightByte (e : Env) : Exec T l0_strings_trimRightByte e = andThen (Exec T w0_strings_trimRightByte (e.keep [0, 1])) (Exec T l0_strings_trimRightByte) := Exec_loop _ _ _
theorem run_strings_trimRightByte (xs : List PV) : Cinf T n_strings_trimRightByte xs = Run T a_strings_trimRightByte xs := Cinf_eq rfl fn_strings_trimRightByte
@[simp] theorem md_strings_trimRightByte : T.modes n_strings_trimRightByte = [] := rfl
@[simp] theorem call_strings_trimRightByte (C : Oracle) (e : Env) (xs : List PV) : call T C e n_strings_trimRightByte xs = callK1 C n_strings_trimRightByte xs (moves e [] [] xs) := call_modes md_strings_trimRightByte
theorem fn_strings_TrimRight : T.fns n_strings_TrimRight = some a_strings_TrimRight := rfl
@[simp] theorem tl0_strings_TrimRight (e : Env) : Exec T k0_strings_TrimRight e = Exec T j0_strings_TrimRight (e.keep [0, 1]) := Exec_tail _ _ _
@[simp] theorem tl1_strings_TrimRight (e : Env) : Exec T k1_strings_TrimRight e = Exec T j1_strings_TrimRight (e.keep [0, 1]) := Exec_tail _ _ _
@[simp] theorem tl2_strings_TrimRight (e : Env) : Exec T k2_strings_TrimRight e = Exec T j2_strings_TrimRight (e.keep [0, 1]) := Exec_tail _ _ _
theorem run_strings_TrimRight (xs : List PV) : Cinf T n_strings_TrimRight xs = Run T a_strings_TrimRight xs := Cinf_eq rfl fn_strings_TrimRight
@[simp] theorem md_strings_TrimRight : T.modes n_strings_TrimRight = [] := rfl
@[simp] theorem call_strings_TrimRight (C : Oracle) (e : Env) (xs : List PV) : call T C e n_strings_TrimRight xs = callK1 C n_strings_TrimRight xs (moves e [] [] xs) := call_modes md_strings_TrimRight
theorem fn_fixed_Print : T.fns n_fixed_Print = some a_fixed_Print := rfl
@[simp] theorem tl0_fixed_Print (e : Env) : Exec T k0_fixed_Print e = Exec T j0_fixed_Print (e.keep [4]) := Exec_tail _ _ _
@[simp] theorem tl1_fixed_Print (e : Env) : Exec T k1_fixed_Print e = Exec T j1_fixed_Print (e.keep [0, 4]) := Exec_tail _ _ _
theorem run_fixed_Print (xs : List PV) : Cinf T n_fixed_Print xs = Run T a_fixed_Print xs := Cinf_eq rfl fn_fixed_Print
@[simp] theorem md_fixed_Print : T.modes n_fixed_Print = [] := rfl
@[simp] theorem call_fixed_Print (C : Oracle) (e : Env) (xs : List PV) : call T C e n_fixed_Print xs = callK1 C n_fixed_Print xs (moves e [] [] xs) := call_modes md_fixed_Print
theorem fn_thicketref04_amount : T.fns n_thicketref04_amount = some a_thicketref04_amount := rfl
@[simp] theorem tl0_thicketref04_amount (e : Env) : Exec T k0_thicketref04_amount e = Exec T j0_thicketref04_amount (e.keep [0]) := Exec_tail _ _ _
theorem run_thicketref04_amount (xs : List PV) : Cinf T n_thicketref04_amount xs = Run T a_thicketref04_amount xs := Cinf_eq rfl fn_thicketref04_amount
@[simp] theorem md_thicketref04_amount : T.modes n_thicketref04_amount = [] := rfl
@[simp] theorem call_thicketref04_amount (C : Oracle) (e : Env) (xs : List PV) : call T C e n_thicketref04_amount xs = callK1 C n_thicketref04_amount xs (moves e [] [] xs) := call_modes md_thicketref04_amount
theorem fn_thicketref04_digitsOf : T.fns n_thicketref04_digitsOf = some a_thicketref04_digitsOf := rfl
theorem ex0_thicketref04_digitsOf (e : Env) : Exec T l0_thicketref04_digitsOf e = andThen (Exec T w0_thicketref04_digitsOf (e.keep [0, 3])) (Exec T l0_thicketref04_digitsOf) := Exec_loop _ _ _
theorem run_thicketref04_digitsOf (xs : List PV) : Cinf T n_thicketref04_digitsOf xs = Run T a_thicketref04_digitsOf xs := Cinf_eq rfl fn_thicketref04_digitsOf
@[simp] theorem md_thicketref04_digitsOf : T.modes n_thicketref04_digitsOf = [] := rfl
@[simp] theorem call_thicketref04_digitsOf (C : Oracle) (e : Env) (xs : List PV) : call T C e n_thicketref04_digitsOf xs = callK1 C n_thicketref04_digitsOf xs (moves e [] [] xs) := call_modes md_thicketref04_digitsOf
theorem fn_thicketref04_Print : T.fns n_thicketref04_Print = some a_thicketref04_Print := rfl
@[simp] theorem tl0_thicketref04_Print (e : Env) : Exec T k0_thicketref04_Print e = Exec T j0_thicketref04_Print (e.keep [4, 6]) := Exec_tail _ _ _
@[simp] theorem tl1_thicketref04_Print (e : Env) : Exec T k1_thicketref04_Print e = Exec T j1_thicketref04_Print (e.keep [4, 6]) := Exec_tail _ _ _
@[simp] theorem tl2_thicketref04_Print (e : Env) : Exec T k2_thicketref04_Print e = Exec T j2_thicketref04_Print (e.keep [4, 6]) := Exec_tail _ _ _
@[simp] theorem tl3_thicketref04_Print (e : Env) : Exec T k3_thicketref04_Print e = Exec T j3_thicketref04_Print (e.keep [4, 6]) := Exec_tail _ _ _
@[simp] theorem tl4_thicketref04_Print (e : Env) : Exec T k4_thicketref04_Print e = Exec T j4_thicketref04_Print (e.keep [4, 5]) := Exec_tail _ _ _
@[simp] theorem tl5_thicketref04_Print (e : Env) : Exec T k5_thicketref04_Print e = Exec T j5_thicketref04_Print (e.keep [3, 4]) := Exec_tail _ _ _
theorem ex0_thicketref04_Print (e : Env) : Exec T l0_thicketref04_Print e = andThen (Exec T w0_thicketref04_Print (e.keep [4, 6])) (Exec T l0_thicketref04_Print) := Exec_loop _ _ _
theorem ex1_thicketref04_Print (e : Env) : Exec T l1_thicketref04_Print e = andThen (Exec T w1_thicketref04_Print (e.keep [4, 6])) (Exec T l1_thicketref04_Print) := Exec_loop _ _ _
theorem run_thicketref04_Print (xs : List PV) : Cinf T n_thicketref04_Print xs = Run T a_thicketref04_Print xs := Cinf_eq rfl fn_thicketref04_Print
@[simp] theorem md_thicketref04_Print : T.modes n_thicketref04_Print = [] := rfl
@[simp] theorem call_thicketref04_Print (C : Oracle) (e : Env) (xs : List PV) : call T C e n_thicketref04_Print xs = callK1 C n_thicketref04_Print xs (moves e [] [] xs) := call_modes md_thicketref04_Print
theorem fn_thicketlaw04_FixedReads : T.fns n_thicketlaw04_FixedReads = some a_thicketlaw04_FixedReads := rfl
theorem run_thicketlaw04_FixedReads (xs : List PV) : Cinf T n_thicketlaw04_FixedReads xs = Run T a_thicketlaw04_FixedReads xs := Cinf_eq rfl fn_thicketlaw04_FixedReads
@[simp] theorem md_thicketlaw04_FixedReads : T.modes n_thicketlaw04_FixedReads = [] := rfl
@[simp] theorem call_thicketlaw04_FixedReads (C : Oracle) (e : Env) (xs : List PV) : call T C e n_thicketlaw04_FixedReads xs = callK1 C n_thicketlaw04_FixedReads xs (moves e [] [] xs) := call_modes md_thicketlaw04_FixedReads
theorem x_strings_Repeat (xs : List PV) {r : PV × List PV} (h : xRepeat xs = some r) : Cinf T n_strings_Repeat xs = some r := Cinf_iff.2 ⟨1, by show (match xRepeat xs with | some r => some r | none => _) = some r; rw [h]⟩
@[simp] theorem md_strings_Repeat : T.modes n_strings_Repeat = [false, false] := rfl
@[simp] theorem call_strings_Repeat (C : Oracle) (e : Env) (xs : List PV) : call T C e n_strings_Repeat xs = callK1 C n_strings_Repeat xs (moves e [] [false, false] xs) := call_modes md_strings_Repeat
theorem x_strings_Builder_WriteString (xs : List PV) {r : PV × List PV} (h : xWriteString 78 5 xs = some r) : Cinf T n_strings_Builder_WriteString xs = some r := Cinf_iff.2 ⟨1, by show (match xWriteString 78 5 xs with | some r => some r | none => _) = some r; rw [h]⟩
@[simp] theorem md_strings_Builder_WriteString : T.modes n_strings_Builder_WriteString = [true, false] := rfl
@[simp] theorem call_strings_Builder_WriteString (C : Oracle) (e : Env) (xs : List PV) : call T C e n_strings_Builder_WriteString xs = callK1 C n_strings_Builder_WriteString xs (moves e [] [true, false] xs) := call_modes md_strings_Builder_WriteString
theorem x_strings_Builder_String (xs : List PV) {r : PV × List PV} (h : xString 78 5 xs = some r) : Cinf T n_strings_Builder_String xs = some r := Cinf_iff.2 ⟨1, by show (match xString 78 5 xs with | some r => some r | none => _) = some r; rw [h]⟩
@[simp] theorem md_strings_Builder_String : T.modes n_strings_Builder_String = [true] := rfl
@[simp] theorem call_strings_Builder_String (C : Oracle) (e : Env) (xs : List PV) : call T C e n_strings_Builder_String xs = callK1 C n_strings_Builder_String xs (moves e [] [true] xs) := call_modes md_strings_Builder_String
theorem x_strconv_FormatUint_69 (xs : List PV) {r : PV × List PV} (h : xFormatUint xs = some r) : Cinf T n_strconv_FormatUint_69 xs = some r := Cinf_iff.2 ⟨1, by show (match xFormatUint xs with | some r => some r | none => _) = some r; rw [h]⟩
@[simp] theorem md_strconv_FormatUint_69 : T.modes n_strconv_FormatUint_69 = [false, false] := rfl
@[simp] theorem call_strconv_FormatUint_69 (C : Oracle) (e : Env) (xs : List PV) : call T C e n_strconv_FormatUint_69 xs = callK1 C n_strconv_FormatUint_69 xs (moves e [] [false, false] xs) := call_modes md_strconv_FormatUint_69
end Go.AM.F
