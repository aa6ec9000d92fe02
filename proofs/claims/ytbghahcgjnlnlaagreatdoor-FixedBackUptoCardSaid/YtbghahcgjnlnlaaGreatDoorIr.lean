/- The functions of the program in the abstract machine's form, printed by a program of the session's own (ir.py); Lean checks them against the program. No conditions. -/
import Derived.Test.YtbghahcgjnlnlaaGreatDoorAmBld
namespace Go.AM.F
open Go Go.AM
set_option maxRecDepth 100000

abbrev n_thicketlaw04_FixedBack : FuncId := 4
abbrev n_fixed_Read : FuncId := 5
abbrev n_fixed_Rounded : FuncId := 7
abbrev n_fixed_Print : FuncId := 9
abbrev n_thicketlaw04_begins : FuncId := 11
abbrev n_strings_HasPrefix : FuncId := 12
abbrev n_fixed_digits : FuncId := 13
abbrev n_limbs_Read : FuncId := 14
abbrev n_strings_Repeat : FuncId := 15
abbrev n_fixed_signed : FuncId := 16
abbrev n_fixed_decimal : FuncId := 19
abbrev n_fixed_clamped : FuncId := 20
abbrev n_limbs_Print : FuncId := 21
abbrev n_limbs_Len : FuncId := 22
abbrev n_limbs_Pow : FuncId := 23
abbrev n_limbs_Mul : FuncId := 24
abbrev n_fixed_rounded : FuncId := 25
abbrev n_fixed_amount : FuncId := 32
abbrev n_strconv_FormatUint : FuncId := 33
abbrev n_strings_TrimRight : FuncId := 34
abbrev n_fixed_Scale : FuncId := 37
abbrev n_fixed_Float : FuncId := 38
abbrev n_stringslite_HasPrefix : FuncId := 39
abbrev n_fixed_digit : FuncId := 40
abbrev n_limbs_grow : FuncId := 41
abbrev n_limbs_trim : FuncId := 42
abbrev n_strings_Builder_WriteString : FuncId := 45
abbrev n_strings_Builder_String : FuncId := 47
abbrev n_limbs_Small : FuncId := 48
abbrev n_strings_TrimPrefix : FuncId := 49
abbrev n_limbs_Norm : FuncId := 50
abbrev n_strings_TrimLeft : FuncId := 51
abbrev n_bits_Len32 : FuncId := 52
abbrev n_limbs_low : FuncId := 53
abbrev n_limbs_high : FuncId := 54
abbrev n_limbs_DivMod : FuncId := 55
abbrev n_limbs_Cmp : FuncId := 56
abbrev n_limbs_Add : FuncId := 57
abbrev n_limbs_Bit : FuncId := 58
abbrev n_limbs_From : FuncId := 59
abbrev n_strconv_FormatUint_69 : FuncId := 69
abbrev n_strings_trimRightByte : FuncId := 70
abbrev n_strings_makeASCIISet : FuncId := 71
abbrev n_strings_trimRightASCII : FuncId := 72
abbrev n_strings_trimRightUnicode : FuncId := 73
abbrev n_floats_Nearest : FuncId := 74
abbrev n_fixed_Ratio : FuncId := 75
abbrev n_stringslite_TrimPrefix : FuncId := 80
abbrev n_strings_trimLeftByte : FuncId := 81
abbrev n_strings_trimLeftASCII : FuncId := 82
abbrev n_strings_trimLeftUnicode : FuncId := 83
abbrev n_bits_LeadingZeros32 : FuncId := 84
abbrev n_limbs_up : FuncId := 85
abbrev n_limbs_long : FuncId := 86
abbrev n_limbs_down : FuncId := 87
abbrev n_limbs_Over : FuncId := 102
abbrev n_math_Inf : FuncId := 103
abbrev n_math_Copysign : FuncId := 104
abbrev n_floats_number : FuncId := 105
abbrev n_bits_Sub32 : FuncId := 109
abbrev n_bits_Add32 : FuncId := 110
abbrev n_limbs_right : FuncId := 119
abbrev n_math_Float64frombits : FuncId := 120
abbrev n_math_Float64bits : FuncId := 121
abbrev n_floats_format_nearest : FuncId := 122
abbrev n_limbs_Gcd : FuncId := 130
abbrev n_limbs_Up : FuncId := 131
def glob0 : List PV := ([1, 10, 100, 1000, 10000, 100000, 1000000, 10000000, 100000000, 1000000000, 10000000000, 100000000000, 1000000000000, 10000000000000, 100000000000000, 1000000000000000, 10000000000000000, 100000000000000000, 1000000000000000000, 10000000000000000000] : List Int).map fun z => .v (.int .u64 z)
def glob2 : List PV := ([53, -1074, 971] : List Int).map fun z => .v (.int .i64 z)
def b_stringslite_HasPrefix : IR :=
 (.seq (.reg 0 [⟨some 4, .assign (.c (Value.bool false)), none, [4]⟩] none [0, 1])
 (.seq (.reg 1 [⟨some 5, .move (.t 0), none, []⟩,
  ⟨some 6, .len 9 true (.t 5), none, [5]⟩,
  ⟨some 7, .move (.t 1), none, []⟩,
  ⟨some 8, .len 9 true (.t 7), none, [7]⟩,
  ⟨some 9, .bin .geq 3 (.t 6) (.t 8) 3, none, [6, 8]⟩,
  ⟨some 10, .move (.t 9), none, [9]⟩,
  ⟨some 11, .move (.t 0), some (5, true), [0]⟩,
  ⟨some 12, .move (.t 1), some (5, true), []⟩,
  ⟨some 13, .len 9 true (.t 12), some (5, true), [12]⟩,
  ⟨some 14, .slice 9 .str (.t 11) none (some (.t 13)) none, some (5, true), [11, 13]⟩,
  ⟨some 15, .move (.t 1), some (5, true), [1]⟩,
  ⟨some 16, .bin .eql 9 (.t 14) (.t 15) 9, some (5, true), [14, 15]⟩,
  ⟨some 17, .pick (.t 10) (.t 16) (.c (Value.bool false)), none, [10, 16]⟩,
  ⟨some 4, .assign (.t 17), none, [17]⟩] none [4])
 .ret))
def a_stringslite_HasPrefix : AFunc := ⟨18, [.tmp 4], b_stringslite_HasPrefix⟩

def b_strings_HasPrefix : IR :=
 (.seq (.reg 0 [⟨some 4, .assign (.c (Value.bool false)), none, [4]⟩] none [0, 1])
 (.seq (.reg 1 [⟨some 5, .move (.t 0), none, [0]⟩,
  ⟨some 6, .move (.t 1), none, [1]⟩,
  ⟨some 7, .call n_stringslite_HasPrefix [(.t 5), (.t 6)] [9, 9], none, [5, 6]⟩,
  ⟨some 4, .assign (.t 7), none, [7]⟩] none [4])
 .ret))
def a_strings_HasPrefix : AFunc := ⟨8, [.tmp 4], b_strings_HasPrefix⟩

def b_fixed_digit : IR :=
 (.seq (.reg 0 [⟨some 4, .assign (.c (Value.bool false)), none, [4]⟩] none [0, 1])
 (.seq (.reg 1 [⟨some 5, .move (.t 1), none, []⟩,
  ⟨some 6, .move (.t 0), none, []⟩,
  ⟨some 7, .len 9 true (.t 6), none, [6]⟩,
  ⟨some 8, .bin .lss 3 (.t 5) (.t 7) 3, none, [5, 7]⟩,
  ⟨some 9, .move (.t 8), none, [8]⟩,
  ⟨some 10, .move (.t 0), some (4, true), []⟩,
  ⟨some 11, .move (.t 1), some (4, true), []⟩,
  ⟨some 12, .index 9 .str none (.t 10) (.t 11), some (4, true), [10, 11]⟩,
  ⟨some 13, .bin .geq 5 (.t 12) (.c (Value.int IntKind.u8 48)) 5, some (4, true), [12]⟩,
  ⟨some 14, .pick (.t 9) (.t 13) (.c (Value.bool false)), none, [9, 13]⟩,
  ⟨some 15, .move (.t 14), none, [14]⟩,
  ⟨some 16, .move (.t 0), some (10, true), [0]⟩,
  ⟨some 17, .move (.t 1), some (10, true), [1]⟩,
  ⟨some 18, .index 9 .str none (.t 16) (.t 17), some (10, true), [16, 17]⟩,
  ⟨some 19, .bin .leq 5 (.t 18) (.c (Value.int IntKind.u8 57)) 5, some (10, true), [18]⟩,
  ⟨some 20, .pick (.t 15) (.t 19) (.c (Value.bool false)), none, [15, 19]⟩,
  ⟨some 4, .assign (.t 20), none, [20]⟩] none [4])
 .ret))
def a_fixed_digit : AFunc := ⟨21, [.tmp 4], b_fixed_digit⟩

def j0_fixed_digits : IR :=
 (.block 1 (.reg 3 [⟨some 11, .move (.t 1), none, []⟩,
  ⟨some 12, .bin .add 3 (.t 11) (.c (Value.int IntKind.i64 1)) 3, none, [11]⟩,
  ⟨some 1, .assign (.t 12), none, [12]⟩] none [0, 1, 6]))
def k0_fixed_digits : IR := .tail [0, 1, 6] j0_fixed_digits
def w0_fixed_digits : IR :=
 (.seq (.seq (.reg 2 [⟨some 8, .move (.t 0), none, []⟩,
  ⟨some 9, .move (.t 1), none, []⟩,
  ⟨some 10, .call n_fixed_digit [(.t 8), (.t 9)] [9, 3], none, [8, 9]⟩] none [0, 1, 6, 10])
 (.cond [0, 1, 6] (.t 10) .skip (.exit 0)))
 k0_fixed_digits)
def l0_fixed_digits : IR := .loop [0, 1, 6] w0_fixed_digits
def j1_fixed_digits : IR :=
 (.seq (.reg 4 [⟨some 13, .move (.t 1), none, []⟩,
  ⟨some 14, .move (.t 1), none, [1]⟩,
  ⟨some 15, .move (.t 6), none, [6]⟩,
  ⟨some 16, .bin .gtr 3 (.t 14) (.t 15) 3, none, [14, 15]⟩,
  ⟨some 4, .assign (.t 13), none, [13]⟩,
  ⟨some 5, .assign (.t 16), none, [16]⟩] none [4, 5])
 .ret)
def k1_fixed_digits : IR := .tail [1, 6] j1_fixed_digits
def b_fixed_digits : IR :=
 (.seq (.reg 0 [⟨some 4, .assign (.c (Value.int IntKind.i64 0)), none, [4]⟩,
  ⟨some 5, .assign (.c (Value.bool false)), none, [5]⟩] none [0, 1])
 (.seq (.reg 1 [⟨some 7, .move (.t 1), none, []⟩,
  ⟨some 6, .assign (.t 7), none, [7]⟩] none [0, 1, 6])
 (.seq (.block 0 l0_fixed_digits)
 k1_fixed_digits)))
def a_fixed_digits : AFunc := ⟨17, [.tmp 4, .tmp 5], b_fixed_digits⟩

def b_limbs_low : IR :=
 (.seq (.reg 0 [⟨some 2, .assign (.c (Value.int IntKind.u32 0)), none, [2]⟩] none [0])
 (.seq (.reg 1 [⟨some 3, .move (.t 0), none, [0]⟩,
  ⟨some 4, .bin .and 49 (.t 3) (.c (Value.int IntKind.u64 4294967295)) 49, none, [3]⟩,
  ⟨some 5, .conv 49 47 (.int .u32) (.t 4), none, [4]⟩,
  ⟨some 2, .assign (.t 5), none, [5]⟩] none [2])
 .ret))
def a_limbs_low : AFunc := ⟨6, [.tmp 2], b_limbs_low⟩

def b_limbs_high : IR :=
 (.seq (.reg 0 [⟨some 2, .assign (.c (Value.int IntKind.u64 0)), none, [2]⟩] none [0])
 (.seq (.reg 1 [⟨some 3, .move (.t 0), none, [0]⟩,
  ⟨some 4, .bin .shr 49 (.t 3) (.c (Value.int IntKind.u64 32)) 72, none, [3]⟩,
  ⟨some 2, .assign (.t 4), none, [4]⟩] none [2])
 .ret))
def a_limbs_high : AFunc := ⟨5, [.tmp 2], b_limbs_high⟩

def j0_limbs_grow : IR :=
 (.reg 8 [⟨some 33, .bin .add 3 (.t 13) (.c (Value.int IntKind.i64 1)) 3, none, []⟩,
  ⟨some 13, .move (.t 33), none, [33]⟩] none [0, 1, 7, 12, 13, 40, 100000])
def k0_limbs_grow : IR := .tail [0, 1, 7, 12, 13, 40, 100000] j0_limbs_grow
def j1_limbs_grow : IR :=
 (.seq (.block 1 (.seq (.reg 4 [⟨some 15, .move (.t 13), none, []⟩,
  ⟨some 8, .assign (.t 15), none, [15]⟩] none [0, 1, 7, 8, 12, 13, 40, 100000])
 (.seq (.reg 5 [⟨some 16, .move (.t 7), none, []⟩,
  ⟨some 17, .move (.t 0), none, []⟩,
  ⟨some 18, .move (.t 8), none, []⟩,
  ⟨some 19, .iaddr 32 (.sl 1) (.t 17) (.t 18), none, []⟩,
  ⟨some 20, .load 47 none (.t 19), none, [17, 18, 19]⟩,
  ⟨some 21, .conv 47 49 (.int .u64) (.t 20), none, [20]⟩,
  ⟨some 22, .move (.t 1), none, []⟩,
  ⟨some 23, .conv 47 49 (.int .u64) (.t 22), none, [22]⟩,
  ⟨some 24, .bin .mul 49 (.t 21) (.t 23) 49, none, [21, 23]⟩,
  ⟨some 25, .bin .add 49 (.t 16) (.t 24) 49, none, [16, 24]⟩,
  ⟨some 7, .assign (.t 25), none, [25]⟩] none [0, 1, 7, 8, 12, 13, 40, 100000])
 (.seq (.reg 6 [⟨some 26, .move (.t 0), none, []⟩,
  ⟨some 27, .move (.t 8), none, [8]⟩,
  ⟨some 28, .move (.t 7), none, []⟩,
  ⟨some 29, .call n_limbs_low [(.t 28)] [49], none, [28]⟩,
  ⟨some 30, .iaddr 32 (.sl 1) (.t 26) (.t 27), none, []⟩,
  ⟨none, .store 47 none (.t 30) (.t 29), none, [26, 27, 29, 30]⟩] none [0, 1, 7, 12, 13, 40, 100000])
 (.reg 7 [⟨some 31, .move (.t 7), none, []⟩,
  ⟨some 32, .call n_limbs_high [(.t 31)] [49], none, [31]⟩,
  ⟨some 7, .assign (.t 32), none, [32]⟩] none [0, 1, 7, 12, 13, 40, 100000])))))
 k0_limbs_grow)
def k1_limbs_grow : IR := .tail [0, 1, 7, 12, 13, 40, 100000] j1_limbs_grow
def w0_limbs_grow : IR :=
 (.seq (.reg 3 [⟨some 14, .bin .lss 3 (.t 13) (.t 12) 3, none, []⟩] none [0, 1, 7, 12, 13, 14, 40, 100000])
 (.seq (.cond [0, 1, 7, 12, 13, 40, 100000] (.t 14) .skip (.exit 0))
 k1_limbs_grow))
def l0_limbs_grow : IR := .loop [0, 1, 7, 12, 13, 40, 100000] w0_limbs_grow
def j2_limbs_grow : IR :=
 (.seq (.reg 11 [⟨some 41, .move (.t 0), none, []⟩,
  ⟨some 6, .assign (.t 41), none, []⟩] none [0, 6, 40, 41, 100000])
 .ret)
def k2_limbs_grow : IR := .tail [0, 40, 100000] j2_limbs_grow
def j3_limbs_grow : IR :=
 (.seq (.seq (.reg 9 [⟨some 34, .move (.t 7), none, []⟩,
  ⟨some 35, .bin .gtr 49 (.t 34) (.c (Value.int IntKind.u64 0)) 49, none, [34]⟩] none [0, 7, 35, 40, 100000])
 (.cond [0, 7, 40, 100000] (.t 35) (.reg 10 [⟨some 36, .move (.t 0), none, []⟩,
  ⟨some 37, .move (.t 7), none, [7]⟩,
  ⟨some 38, .conv 49 47 (.int .u32) (.t 37), none, [37]⟩,
  ⟨some 39, .lit 32 1 [(.t 38)], none, [38]⟩,
  ⟨some 40, .append 32 32 false 1 4 (.t 36) (.t 39), none, [36, 39]⟩,
  ⟨some 0, .assign (.t 40), none, []⟩] none [0, 40, 100000]) .skip))
 k2_limbs_grow)
def k3_limbs_grow : IR := .tail [0, 7, 40, 100000] j3_limbs_grow
def b_limbs_grow : IR :=
 (.seq (.reg 0 [⟨some 6, .assign (.nilS 1), none, [6]⟩] none [0, 1, 2, 40, 100000])
 (.seq (.reg 1 [⟨some 9, .move (.t 2), none, [2]⟩,
  ⟨some 10, .conv 47 49 (.int .u64) (.t 9), none, [9]⟩,
  ⟨some 7, .assign (.t 10), none, [10]⟩] none [0, 1, 7, 40, 100000])
 (.seq (.seq (.reg 2 [⟨some 11, .move (.t 0), none, []⟩,
  ⟨some 12, .len 32 false (.t 11), none, [11]⟩,
  ⟨some 13, .move (.c (Value.int IntKind.i64 0)), none, []⟩] none [0, 1, 7, 12, 13, 40, 100000])
 (.block 0 l0_limbs_grow))
 k3_limbs_grow)))
def a_limbs_grow : AFunc := ⟨42, [.tmp 6], b_limbs_grow⟩

def j0_limbs_trim : IR :=
 (.block 1 (.reg 3 [⟨some 16, .move (.t 3), none, []⟩,
  ⟨some 17, .bin .sub 3 (.t 16) (.c (Value.int IntKind.i64 1)) 3, none, [16]⟩,
  ⟨some 3, .assign (.t 17), none, [17]⟩] none [0, 3, 100000]))
def k0_limbs_trim : IR := .tail [0, 3, 100000] j0_limbs_trim
def w0_limbs_trim : IR :=
 (.seq (.seq (.reg 2 [⟨some 6, .move (.t 3), none, []⟩,
  ⟨some 7, .bin .gtr 3 (.t 6) (.c (Value.int IntKind.i64 0)) 3, none, [6]⟩,
  ⟨some 8, .move (.t 7), none, [7]⟩,
  ⟨some 9, .move (.t 0), some (2, true), []⟩,
  ⟨some 10, .move (.t 3), some (2, true), []⟩,
  ⟨some 11, .bin .sub 3 (.t 10) (.c (Value.int IntKind.i64 1)) 3, some (2, true), [10]⟩,
  ⟨some 12, .iaddr 32 (.sl 1) (.t 9) (.t 11), some (2, true), []⟩,
  ⟨some 13, .load 47 none (.t 12), some (2, true), [9, 11, 12]⟩,
  ⟨some 14, .bin .eql 47 (.t 13) (.c (Value.int IntKind.u32 0)) 47, some (2, true), [13]⟩,
  ⟨some 15, .pick (.t 8) (.t 14) (.c (Value.bool false)), none, [8, 14]⟩] none [0, 3, 15, 100000])
 (.cond [0, 3, 100000] (.t 15) .skip (.exit 0)))
 k0_limbs_trim)
def l0_limbs_trim : IR := .loop [0, 3, 100000] w0_limbs_trim
def j1_limbs_trim : IR :=
 (.seq (.reg 4 [⟨some 18, .move (.t 0), none, []⟩,
  ⟨some 19, .move (.t 3), none, []⟩,
  ⟨some 20, .move (.t 3), none, [3]⟩,
  ⟨some 21, .slice 32 (.sl 1) (.t 18) none (some (.t 19)) (some (.t 20)), none, []⟩,
  ⟨some 2, .assign (.t 21), none, []⟩] none [0, 2, 18, 19, 20, 21, 100000])
 .ret)
def k1_limbs_trim : IR := .tail [0, 3, 100000] j1_limbs_trim
def b_limbs_trim : IR :=
 (.seq (.reg 0 [⟨some 2, .assign (.nilS 1), none, [2]⟩] none [0, 100000])
 (.seq (.reg 1 [⟨some 4, .move (.t 0), none, []⟩,
  ⟨some 5, .len 32 false (.t 4), none, [4]⟩,
  ⟨some 3, .assign (.t 5), none, [5]⟩] none [0, 3, 100000])
 (.seq (.block 0 l0_limbs_trim)
 k1_limbs_trim)))
def a_limbs_trim : AFunc := ⟨22, [.tmp 2], b_limbs_trim⟩

def j0_limbs_Read : IR :=
 (.reg 6 [⟨some 27, .bin .add 3 (.t 13) (.c (Value.int IntKind.i64 1)) 3, none, []⟩,
  ⟨some 13, .move (.t 27), none, [27]⟩] none [0, 12, 13])
def k0_limbs_Read : IR := .tail [0, 12, 13] j0_limbs_Read
def j1_limbs_Read : IR :=
 (.seq (.block 1 (.seq (.reg 3 [⟨some 15, .move (.t 13), none, []⟩,
  ⟨some 5, .assign (.t 15), none, [15]⟩] none [0, 5, 12, 13])
 (.seq (.reg 4 [⟨some 16, .move (.t 0), none, []⟩,
  ⟨some 17, .move (.t 5), none, []⟩,
  ⟨some 18, .index 9 .str none (.t 16) (.t 17), none, [16, 17]⟩,
  ⟨some 19, .bin .lss 5 (.t 18) (.c (Value.int IntKind.u8 48)) 5, none, [18]⟩,
  ⟨some 20, .move (.t 19), none, [19]⟩,
  ⟨some 21, .move (.t 0), some (4, false), []⟩,
  ⟨some 22, .move (.t 5), some (4, false), []⟩,
  ⟨some 23, .index 9 .str none (.t 21) (.t 22), some (4, false), [21, 22]⟩,
  ⟨some 24, .bin .gtr 5 (.t 23) (.c (Value.int IntKind.u8 57)) 5, some (4, false), [23]⟩,
  ⟨some 25, .pick (.t 20) (.c (Value.bool true)) (.t 24), none, [20, 24]⟩] none [0, 5, 12, 13, 25])
 (.cond [0, 5, 12, 13] (.t 25) (.seq (.reg 5 [⟨some 26, .move (.t 5), none, [5]⟩,
  ⟨some 2, .assign (.nilS 1), none, []⟩,
  ⟨some 3, .assign (.c (Value.int IntKind.i64 10)), none, []⟩,
  ⟨some 4, .assign (.t 26), none, [26]⟩] none [2, 3, 4, 59])
 .ret) .skip))))
 k0_limbs_Read)
def k1_limbs_Read : IR := .tail [0, 12, 13] j1_limbs_Read
def w0_limbs_Read : IR :=
 (.seq (.reg 2 [⟨some 14, .bin .lss 3 (.t 13) (.t 12) 3, none, []⟩] none [0, 12, 13, 14])
 (.seq (.cond [0, 12, 13] (.t 14) .skip (.exit 0))
 k1_limbs_Read))
def l0_limbs_Read : IR := .loop [0, 12, 13] w0_limbs_Read
def j2_limbs_Read : IR :=
 (.reg 18 [⟨some 50, .bin .add 3 (.t 37) (.c (Value.int IntKind.i64 1)) 3, none, []⟩,
  ⟨some 37, .move (.t 50), none, [50]⟩] none [0, 6, 7, 8, 9, 36, 37, 54])
def k2_limbs_Read : IR := .tail [0, 6, 7, 8, 9, 36, 37, 54] j2_limbs_Read
def j3_limbs_Read : IR :=
 (.seq (.block 5 (.seq (.reg 15 [⟨some 39, .move (.t 37), none, []⟩,
  ⟨some 10, .assign (.t 39), none, [39]⟩] none [0, 6, 7, 8, 9, 10, 36, 37, 54])
 (.seq (.reg 16 [⟨some 40, .move (.t 8), none, []⟩,
  ⟨some 41, .bin .mul 47 (.t 40) (.c (Value.int IntKind.u32 10)) 47, none, [40]⟩,
  ⟨some 8, .assign (.t 41), none, [41]⟩] none [0, 6, 7, 8, 9, 10, 36, 37, 54])
 (.reg 17 [⟨some 42, .move (.t 9), none, []⟩,
  ⟨some 43, .bin .mul 47 (.c (Value.int IntKind.u32 10)) (.t 42) 47, none, [42]⟩,
  ⟨some 44, .move (.t 0), none, []⟩,
  ⟨some 45, .move (.t 10), none, [10]⟩,
  ⟨some 46, .index 9 .str none (.t 44) (.t 45), none, [44, 45]⟩,
  ⟨some 47, .bin .sub 5 (.t 46) (.c (Value.int IntKind.u8 48)) 5, none, [46]⟩,
  ⟨some 48, .conv 5 47 (.int .u32) (.t 47), none, [47]⟩,
  ⟨some 49, .bin .add 47 (.t 43) (.t 48) 47, none, [43, 48]⟩,
  ⟨some 9, .assign (.t 49), none, [49]⟩] none [0, 6, 7, 8, 9, 36, 37, 54]))))
 k2_limbs_Read)
def k3_limbs_Read : IR := .tail [0, 6, 7, 8, 9, 36, 37, 54] j3_limbs_Read
def w2_limbs_Read : IR :=
 (.seq (.reg 14 [⟨some 38, .bin .lss 3 (.t 37) (.t 36) 3, none, []⟩] none [0, 6, 7, 8, 9, 36, 37, 38, 54])
 (.seq (.cond [0, 6, 7, 8, 9, 36, 37, 54] (.t 38) .skip (.exit 4))
 k3_limbs_Read))
def l2_limbs_Read : IR := .loop [0, 6, 7, 8, 9, 36, 37, 54] w2_limbs_Read
def j4_limbs_Read : IR :=
 (.seq (.reg 19 [⟨some 51, .move (.t 6), none, []⟩,
  ⟨some 52, .move (.t 8), none, [8]⟩,
  ⟨some 53, .move (.t 9), none, [9]⟩,
  ⟨some 54, .call n_limbs_grow [(.t 51), (.t 52), (.t 53)] [32, 47, 47], none, [51, 52, 53]⟩,
  ⟨some 6, .assign (.t 54), none, []⟩] none [0, 6, 7, 54])
 (.reg 20 [⟨some 55, .move (.t 0), none, []⟩,
  ⟨some 56, .move (.t 7), none, [7]⟩,
  ⟨some 57, .slice 9 .str (.t 55) (some (.t 56)) none none, none, [55, 56]⟩,
  ⟨some 0, .assign (.t 57), none, [57]⟩] none [0, 6, 54]))
def k4_limbs_Read : IR := .tail [0, 6, 7, 8, 9, 54] j4_limbs_Read
def j5_limbs_Read : IR :=
 (.block 3 (.seq (.reg 11 [⟨some 33, .move (.t 0), none, []⟩,
  ⟨some 34, .len 9 true (.t 33), none, [33]⟩,
  ⟨some 35, .minmax false [3, 3] (.c (Value.int IntKind.i64 9)) (.t 34), none, [34]⟩,
  ⟨some 7, .assign (.t 35), none, [35]⟩] none [0, 6, 7, 54])
 (.seq (.reg 12 [⟨some 8, .assign (.c (Value.int IntKind.u32 1)), none, []⟩,
  ⟨some 9, .assign (.c (Value.int IntKind.u32 0)), none, []⟩] none [0, 6, 7, 8, 9, 54])
 (.seq (.seq (.reg 13 [⟨some 36, .move (.t 7), none, []⟩,
  ⟨some 37, .move (.c (Value.int IntKind.i64 0)), none, []⟩] none [0, 6, 7, 8, 9, 36, 37, 54])
 (.block 4 l2_limbs_Read))
 k4_limbs_Read))))
def k5_limbs_Read : IR := .tail [0, 6, 54] j5_limbs_Read
def w1_limbs_Read : IR :=
 (.seq (.seq (.reg 10 [⟨some 30, .move (.t 0), none, []⟩,
  ⟨some 31, .len 9 true (.t 30), none, [30]⟩,
  ⟨some 32, .bin .gtr 3 (.t 31) (.c (Value.int IntKind.i64 0)) 3, none, [31]⟩] none [0, 6, 32, 54])
 (.cond [0, 6, 54] (.t 32) .skip (.exit 2)))
 k5_limbs_Read)
def l1_limbs_Read : IR := .loop [0, 6, 54] w1_limbs_Read
def j6_limbs_Read : IR :=
 (.seq (.reg 21 [⟨some 58, .move (.t 6), none, []⟩,
  ⟨some 59, .call n_limbs_trim [(.t 58)] [32], none, [6, 54, 58]⟩,
  ⟨some 2, .assign (.t 59), none, []⟩,
  ⟨some 3, .assign (.c (Value.int IntKind.i64 0)), none, []⟩,
  ⟨some 4, .assign (.c (Value.int IntKind.i64 0)), none, []⟩] none [2, 3, 4, 59])
 .ret)
def k6_limbs_Read : IR := .tail [6, 54] j6_limbs_Read
def j7_limbs_Read : IR :=
 (.seq (.reg 9 [⟨some 6, .assign (.nilS 1), none, []⟩] none [0, 6, 54])
 (.seq (.block 2 l1_limbs_Read)
 k6_limbs_Read))
def k7_limbs_Read : IR := .tail [0] j7_limbs_Read
def j8_limbs_Read : IR :=
 (.seq (.seq (.reg 7 [⟨some 28, .move (.t 0), none, []⟩,
  ⟨some 29, .bin .eql 9 (.t 28) (.c (Value.string { data := #[] })) 9, none, [28]⟩] none [0, 29])
 (.cond [0] (.t 29) (.seq (.reg 8 [⟨some 2, .assign (.nilS 1), none, []⟩,
  ⟨some 3, .assign (.c (Value.int IntKind.i64 10)), none, []⟩,
  ⟨some 4, .assign (.c (Value.int IntKind.i64 0)), none, []⟩] none [2, 3, 4, 59])
 .ret) .skip))
 k7_limbs_Read)
def k8_limbs_Read : IR := .tail [0] j8_limbs_Read
def b_limbs_Read : IR :=
 (.seq (.reg 0 [⟨some 2, .assign (.nilS 1), none, [2]⟩,
  ⟨some 3, .assign (.c (Value.int IntKind.i64 0)), none, [3]⟩,
  ⟨some 4, .assign (.c (Value.int IntKind.i64 0)), none, [4]⟩] none [0])
 (.seq (.seq (.reg 1 [⟨some 11, .move (.t 0), none, []⟩,
  ⟨some 12, .len 9 true (.t 11), none, [11]⟩,
  ⟨some 13, .move (.c (Value.int IntKind.i64 0)), none, []⟩] none [0, 12, 13])
 (.block 0 l0_limbs_Read))
 k8_limbs_Read))
def a_limbs_Read : AFunc := ⟨60, [.tmp 2, .tmp 3, .tmp 4], b_limbs_Read⟩

def j0_limbs_Small : IR :=
 (.reg 9 [⟨some 26, .bin .add 3 (.t 13) (.c (Value.int IntKind.i64 1)) 3, none, []⟩,
  ⟨some 13, .move (.t 26), none, [26]⟩] none [0, 4, 7, 12, 13])
def k0_limbs_Small : IR := .tail [0, 4, 7, 12, 13] j0_limbs_Small
def j1_limbs_Small : IR :=
 (.seq (.block 1 (.seq (.reg 7 [⟨some 15, .move (.t 13), none, []⟩,
  ⟨some 5, .assign (.t 15), none, [15]⟩] none [0, 4, 5, 7, 12, 13])
 (.reg 8 [⟨some 16, .move (.t 4), none, []⟩,
  ⟨some 17, .move (.t 0), none, []⟩,
  ⟨some 18, .move (.t 5), none, []⟩,
  ⟨some 19, .iaddr 32 (.sl 1) (.t 17) (.t 18), none, []⟩,
  ⟨some 20, .load 47 none (.t 19), none, [17, 18, 19]⟩,
  ⟨some 21, .conv 47 49 (.int .u64) (.t 20), none, [20]⟩,
  ⟨some 22, .move (.t 5), none, [5]⟩,
  ⟨some 23, .bin .mul 3 (.c (Value.int IntKind.i64 32)) (.t 22) 3, none, [22]⟩,
  ⟨some 24, .bin .shl 49 (.t 21) (.t 23) 3, none, [21, 23]⟩,
  ⟨some 25, .bin .or 49 (.t 16) (.t 24) 49, none, [16, 24]⟩,
  ⟨some 4, .assign (.t 25), none, [25]⟩] none [0, 4, 7, 12, 13])))
 k0_limbs_Small)
def k1_limbs_Small : IR := .tail [0, 4, 7, 12, 13] j1_limbs_Small
def w0_limbs_Small : IR :=
 (.seq (.reg 6 [⟨some 14, .bin .lss 3 (.t 13) (.t 12) 3, none, []⟩] none [0, 4, 7, 12, 13, 14])
 (.seq (.cond [0, 4, 7, 12, 13] (.t 14) .skip (.exit 0))
 k1_limbs_Small))
def l0_limbs_Small : IR := .loop [0, 4, 7, 12, 13] w0_limbs_Small
def j2_limbs_Small : IR :=
 (.seq (.reg 10 [⟨some 27, .move (.t 4), none, [4]⟩,
  ⟨some 2, .assign (.t 27), none, [27]⟩,
  ⟨some 3, .assign (.c (Value.bool true)), none, []⟩] none [2, 3])
 .ret)
def k2_limbs_Small : IR := .tail [4] j2_limbs_Small
def j3_limbs_Small : IR :=
 (.seq (.seq (.reg 5 [⟨some 11, .move (.t 0), none, []⟩,
  ⟨some 12, .len 32 false (.t 11), none, [11]⟩,
  ⟨some 13, .move (.c (Value.int IntKind.i64 0)), none, []⟩] none [0, 4, 7, 12, 13])
 (.block 0 l0_limbs_Small))
 k2_limbs_Small)
def k3_limbs_Small : IR := .tail [0, 4, 7] j3_limbs_Small
def b_limbs_Small : IR :=
 (.seq (.reg 0 [⟨some 2, .assign (.c (Value.int IntKind.u64 0)), none, [2]⟩,
  ⟨some 3, .assign (.c (Value.bool false)), none, [3]⟩] none [0, 7])
 (.seq (.reg 1 [⟨some 6, .move (.t 0), none, []⟩,
  ⟨some 7, .call n_limbs_trim [(.t 6)] [32], none, [6]⟩,
  ⟨some 0, .assign (.t 7), none, []⟩] none [0, 7])
 (.seq (.reg 2 [⟨some 4, .assign (.c (Value.int IntKind.u64 0)), none, []⟩] none [0, 4, 7])
 (.seq (.seq (.reg 3 [⟨some 8, .move (.t 0), none, []⟩,
  ⟨some 9, .len 32 false (.t 8), none, [8]⟩,
  ⟨some 10, .bin .gtr 3 (.t 9) (.c (Value.int IntKind.i64 2)) 3, none, [9]⟩] none [0, 4, 7, 10])
 (.cond [0, 4, 7] (.t 10) (.seq (.reg 4 [⟨some 2, .assign (.c (Value.int IntKind.u64 0)), none, []⟩,
  ⟨some 3, .assign (.c (Value.bool false)), none, []⟩] none [2, 3])
 .ret) .skip))
 k3_limbs_Small))))
def a_limbs_Small : AFunc := ⟨28, [.tmp 2, .tmp 3], b_limbs_Small⟩

def j0_fixed_signed : IR :=
 (.seq (.reg 6 [⟨some 33, .move (.t 6), none, [6]⟩,
  ⟨some 34, .conv 49 2 (.int .i64) (.t 33), none, [33]⟩,
  ⟨some 4, .assign (.t 34), none, [34]⟩,
  ⟨some 5, .assign (.c (Value.bool true)), none, []⟩] none [4, 5])
 .ret)
def k0_fixed_signed : IR := .tail [6] j0_fixed_signed
def b_fixed_signed : IR :=
 (.seq (.reg 0 [⟨some 4, .assign (.c (Value.int IntKind.i64 0)), none, [4]⟩,
  ⟨some 5, .assign (.c (Value.bool false)), none, [5]⟩] none [0, 1])
 (.seq (.reg 1 [⟨some 9, .move (.t 1), none, []⟩,
  ⟨some 10, .call n_limbs_Small [(.t 9)] [32], none, [1, 9]⟩,
  ⟨some 8, .move (.t 10), none, [10]⟩,
  ⟨some 11, .extr (.t 8) 0, none, []⟩,
  ⟨some 12, .extr (.t 8) 1, none, [8]⟩,
  ⟨some 6, .assign (.t 11), none, [11]⟩,
  ⟨some 7, .assign (.t 12), none, [12]⟩] none [0, 6, 7])
 (.seq (.block 0 (.seq (.reg 2 [⟨some 14, .move (.t 7), none, [7]⟩,
  ⟨some 15, .un .not 4 (.t 14), none, [14]⟩,
  ⟨some 16, .move (.t 15), none, [15]⟩,
  ⟨some 17, .move (.t 6), some (2, false), []⟩,
  ⟨some 18, .bin .gtr 49 (.t 17) (.c (Value.int IntKind.u64 9223372036854775808)) 49, some (2, false), [17]⟩,
  ⟨some 19, .pick (.t 16) (.c (Value.bool true)) (.t 18), none, [16, 18]⟩,
  ⟨some 20, .move (.t 19), none, [19]⟩,
  ⟨some 21, .move (.t 6), some (6, false), []⟩,
  ⟨some 22, .bin .eql 49 (.t 21) (.c (Value.int IntKind.u64 9223372036854775808)) 49, some (6, false), [21]⟩,
  ⟨some 23, .move (.t 22), some (6, false), [22]⟩,
  ⟨some 24, .move (.t 0), some (9, true), []⟩,
  ⟨some 25, .un .not 4 (.t 24), some (9, true), [24]⟩,
  ⟨some 26, .pick (.t 23) (.t 25) (.c (Value.bool false)), some (6, false), [23, 25]⟩,
  ⟨some 27, .pick (.t 20) (.c (Value.bool true)) (.t 26), none, [20, 26]⟩,
  ⟨some 13, .assign (.t 27), none, [27]⟩] none [0, 6, 13])
 (.cond [0, 6] (.t 13) (.seq (.reg 3 [⟨some 4, .assign (.c (Value.int IntKind.i64 0)), none, []⟩,
  ⟨some 5, .assign (.c (Value.bool false)), none, []⟩] none [4, 5])
 .ret) (.seq (.reg 4 [⟨some 29, .move (.t 0), none, [0]⟩,
  ⟨some 28, .assign (.t 29), none, [29]⟩] none [6, 28])
 (.cond [6] (.t 28) (.seq (.reg 5 [⟨some 30, .move (.t 6), none, [6]⟩,
  ⟨some 31, .conv 49 2 (.int .i64) (.t 30), none, [30]⟩,
  ⟨some 32, .un .neg 2 (.t 31), none, [31]⟩,
  ⟨some 4, .assign (.t 32), none, [32]⟩,
  ⟨some 5, .assign (.c (Value.bool true)), none, []⟩] none [4, 5])
 .ret) .skip)))))
 k0_fixed_signed)))
def a_fixed_signed : AFunc := ⟨35, [.tmp 4, .tmp 5], b_fixed_signed⟩

def j0_fixed_Read : IR :=
 (.seq (.reg 18 [⟨some 63, .move (.t 9), none, []⟩,
  ⟨some 64, .move (.t 0), none, []⟩,
  ⟨some 65, .move (.t 7), none, []⟩,
  ⟨some 66, .bin .add 3 (.t 65) (.c (Value.int IntKind.i64 1)) 3, none, [65]⟩,
  ⟨some 67, .move (.t 11), none, []⟩,
  ⟨some 68, .slice 9 .str (.t 64) (some (.t 66)) (some (.t 67)) none, none, [64, 66, 67]⟩,
  ⟨some 69, .bin .add 9 (.t 63) (.t 68) 9, none, [63, 68]⟩,
  ⟨some 9, .assign (.t 69), none, [69]⟩] none [0, 5, 7, 9, 11])
 (.seq (.reg 19 [⟨some 70, .move (.t 11), none, []⟩,
  ⟨some 71, .move (.t 7), none, [7]⟩,
  ⟨some 72, .bin .sub 3 (.t 70) (.t 71) 3, none, [70, 71]⟩,
  ⟨some 73, .bin .sub 3 (.t 72) (.c (Value.int IntKind.i64 1)) 3, none, [72]⟩,
  ⟨some 10, .assign (.t 73), none, [73]⟩] none [0, 5, 9, 10, 11])
 (.reg 20 [⟨some 74, .move (.t 11), none, [11]⟩,
  ⟨some 7, .assign (.t 74), none, [74]⟩] none [0, 5, 7, 9, 10])))
def k0_fixed_Read : IR := .tail [0, 5, 7, 9, 11] j0_fixed_Read
def j1_fixed_Read : IR :=
 (.seq (.seq (.reg 16 [⟨some 57, .move (.t 11), none, []⟩,
  ⟨some 58, .move (.t 7), none, []⟩,
  ⟨some 59, .bin .add 3 (.t 58) (.c (Value.int IntKind.i64 7)) 3, none, [58]⟩,
  ⟨some 60, .bin .gtr 3 (.t 57) (.t 59) 3, none, [57, 59]⟩] none [0, 5, 7, 9, 11, 60])
 (.cond [0, 5, 7, 9, 11] (.t 60) (.seq (.reg 17 [⟨some 61, .move (.t 7), none, [7]⟩,
  ⟨some 62, .bin .add 3 (.t 61) (.c (Value.int IntKind.i64 7)) 3, none, [61]⟩,
  ⟨some 2, .assign (.c (Value.int IntKind.i64 0)), none, []⟩,
  ⟨some 3, .assign (.c (Value.int IntKind.i64 40)), none, []⟩,
  ⟨some 4, .assign (.t 62), none, [62]⟩] none [2, 3, 4])
 .ret) .skip))
 k0_fixed_Read)
def k1_fixed_Read : IR := .tail [0, 5, 7, 9, 11] j1_fixed_Read
def j2_fixed_Read : IR :=
 (.seq (.reg 27 [⟨some 98, .move (.t 16), none, [16]⟩,
  ⟨some 2, .assign (.t 98), none, [98]⟩,
  ⟨some 3, .assign (.c (Value.int IntKind.i64 0)), none, []⟩,
  ⟨some 4, .assign (.c (Value.int IntKind.i64 0)), none, []⟩] none [2, 3, 4])
 .ret)
def k2_fixed_Read : IR := .tail [16] j2_fixed_Read
def j3_fixed_Read : IR :=
 (.seq (.reg 23 [⟨some 81, .move (.t 9), none, [9]⟩,
  ⟨some 82, .move (.t 10), none, [10]⟩,
  ⟨some 83, .bin .sub 3 (.c (Value.int IntKind.i64 6)) (.t 82) 3, none, [82]⟩,
  ⟨some 84, .call n_strings_Repeat [(.c (Value.string { data := #[48] })), (.t 83)] [9, 3], none, [83]⟩,
  ⟨some 85, .bin .add 9 (.t 81) (.t 84) 9, none, [81, 84]⟩,
  ⟨some 86, .call n_limbs_Read [(.t 85)] [9], none, [85]⟩,
  ⟨some 80, .move (.t 86), none, []⟩,
  ⟨some 87, .extr (.t 80) 0, none, []⟩,
  ⟨some 88, .extr (.t 80) 1, none, []⟩,
  ⟨some 89, .extr (.t 80) 2, none, []⟩,
  ⟨some 13, .assign (.t 87), none, []⟩,
  ⟨some 14, .assign (.t 88), none, [14, 88]⟩,
  ⟨some 15, .assign (.t 89), none, [15, 89]⟩] none [5, 13, 80, 86, 87])
 (.seq (.reg 24 [⟨some 91, .move (.t 5), none, [5]⟩,
  ⟨some 92, .move (.t 13), none, []⟩,
  ⟨some 93, .call n_fixed_signed [(.t 91), (.t 92)] [4, 32], none, [13, 80, 86, 87, 91, 92]⟩,
  ⟨some 90, .move (.t 93), none, [93]⟩,
  ⟨some 94, .extr (.t 90) 0, none, []⟩,
  ⟨some 95, .extr (.t 90) 1, none, [90]⟩,
  ⟨some 16, .assign (.t 94), none, [94]⟩,
  ⟨some 17, .assign (.t 95), none, [95]⟩] none [16, 17])
 (.seq (.seq (.reg 25 [⟨some 96, .move (.t 17), none, [17]⟩,
  ⟨some 97, .un .not 4 (.t 96), none, [96]⟩] none [16, 97])
 (.cond [16] (.t 97) (.seq (.reg 26 [⟨some 2, .assign (.c (Value.int IntKind.i64 0)), none, []⟩,
  ⟨some 3, .assign (.c (Value.int IntKind.i64 41)), none, []⟩,
  ⟨some 4, .assign (.c (Value.int IntKind.i64 0)), none, []⟩] none [2, 3, 4])
 .ret) .skip))
 k2_fixed_Read)))
def k3_fixed_Read : IR := .tail [5, 9, 10] j3_fixed_Read
def j4_fixed_Read : IR :=
 (.seq (.seq (.reg 21 [⟨some 75, .move (.t 7), none, []⟩,
  ⟨some 76, .move (.t 0), none, [0]⟩,
  ⟨some 77, .len 9 true (.t 76), none, [76]⟩,
  ⟨some 78, .bin .lss 3 (.t 75) (.t 77) 3, none, [75, 77]⟩] none [5, 7, 9, 10, 78])
 (.cond [5, 7, 9, 10] (.t 78) (.seq (.reg 22 [⟨some 79, .move (.t 7), none, [7]⟩,
  ⟨some 2, .assign (.c (Value.int IntKind.i64 0)), none, []⟩,
  ⟨some 3, .assign (.c (Value.int IntKind.i64 40)), none, []⟩,
  ⟨some 4, .assign (.t 79), none, [79]⟩] none [2, 3, 4])
 .ret) .skip))
 k3_fixed_Read)
def k4_fixed_Read : IR := .tail [0, 5, 7, 9, 10] j4_fixed_Read
def j5_fixed_Read : IR :=
 (.seq (.reg 10 [⟨some 33, .move (.t 0), none, []⟩,
  ⟨some 34, .move (.t 6), none, [6]⟩,
  ⟨some 35, .move (.t 7), none, []⟩,
  ⟨some 36, .slice 9 .str (.t 33) (some (.t 34)) (some (.t 35)) none, none, [33, 34, 35]⟩,
  ⟨some 9, .assign (.t 36), none, [36]⟩] none [0, 5, 7, 9])
 (.seq (.reg 11 [⟨some 10, .assign (.c (Value.int IntKind.i64 0)), none, []⟩] none [0, 5, 7, 9, 10])
 (.seq (.seq (.reg 12 [⟨some 37, .move (.t 7), none, []⟩,
  ⟨some 38, .move (.t 0), none, []⟩,
  ⟨some 39, .len 9 true (.t 38), none, [38]⟩,
  ⟨some 40, .bin .lss 3 (.t 37) (.t 39) 3, none, [37, 39]⟩,
  ⟨some 41, .move (.t 40), none, [40]⟩,
  ⟨some 42, .move (.t 0), some (4, true), []⟩,
  ⟨some 43, .move (.t 7), some (4, true), []⟩,
  ⟨some 44, .index 9 .str none (.t 42) (.t 43), some (4, true), [42, 43]⟩,
  ⟨some 45, .bin .eql 5 (.t 44) (.c (Value.int IntKind.u8 46)) 5, some (4, true), [44]⟩,
  ⟨some 46, .pick (.t 41) (.t 45) (.c (Value.bool false)), none, [41, 45]⟩] none [0, 5, 7, 9, 10, 46])
 (.cond [0, 5, 7, 9, 10] (.t 46) (.seq (.reg 13 [⟨some 48, .move (.t 0), none, []⟩,
  ⟨some 49, .move (.t 7), none, []⟩,
  ⟨some 50, .bin .add 3 (.t 49) (.c (Value.int IntKind.i64 1)) 3, none, [49]⟩,
  ⟨some 51, .call n_fixed_digits [(.t 48), (.t 50)] [9, 3], none, [48, 50]⟩,
  ⟨some 47, .move (.t 51), none, [51]⟩,
  ⟨some 52, .extr (.t 47) 0, none, []⟩,
  ⟨some 53, .extr (.t 47) 1, none, [47]⟩,
  ⟨some 11, .assign (.t 52), none, [52]⟩,
  ⟨some 12, .assign (.t 53), none, [53]⟩] none [0, 5, 7, 9, 11, 12])
 (.seq (.seq (.reg 14 [⟨some 54, .move (.t 12), none, [12]⟩,
  ⟨some 55, .un .not 4 (.t 54), none, [54]⟩] none [0, 5, 7, 9, 11, 55])
 (.cond [0, 5, 7, 9, 11] (.t 55) (.seq (.reg 15 [⟨some 56, .move (.t 11), none, [11]⟩,
  ⟨some 2, .assign (.c (Value.int IntKind.i64 0)), none, []⟩,
  ⟨some 3, .assign (.c (Value.int IntKind.i64 40)), none, []⟩,
  ⟨some 4, .assign (.t 56), none, [56]⟩] none [2, 3, 4])
 .ret) .skip))
 k1_fixed_Read)) .skip))
 k4_fixed_Read)))
def k5_fixed_Read : IR := .tail [0, 5, 6, 7] j5_fixed_Read
def j6_fixed_Read : IR :=
 (.seq (.reg 7 [⟨some 25, .move (.t 0), none, []⟩,
  ⟨some 26, .move (.t 6), none, []⟩,
  ⟨some 27, .call n_fixed_digits [(.t 25), (.t 26)] [9, 3], none, [25, 26]⟩,
  ⟨some 24, .move (.t 27), none, [27]⟩,
  ⟨some 28, .extr (.t 24) 0, none, []⟩,
  ⟨some 29, .extr (.t 24) 1, none, [24]⟩,
  ⟨some 7, .assign (.t 28), none, [28]⟩,
  ⟨some 8, .assign (.t 29), none, [29]⟩] none [0, 5, 6, 7, 8])
 (.seq (.seq (.reg 8 [⟨some 30, .move (.t 8), none, [8]⟩,
  ⟨some 31, .un .not 4 (.t 30), none, [30]⟩] none [0, 5, 6, 7, 31])
 (.cond [0, 5, 6, 7] (.t 31) (.seq (.reg 9 [⟨some 32, .move (.t 7), none, [7]⟩,
  ⟨some 2, .assign (.c (Value.int IntKind.i64 0)), none, []⟩,
  ⟨some 3, .assign (.c (Value.int IntKind.i64 40)), none, []⟩,
  ⟨some 4, .assign (.t 32), none, [32]⟩] none [2, 3, 4])
 .ret) .skip))
 k5_fixed_Read))
def k6_fixed_Read : IR := .tail [0, 5, 6] j6_fixed_Read
def j7_fixed_Read : IR :=
 (.seq (.reg 3 [⟨some 21, .move (.t 0), none, []⟩,
  ⟨some 22, .call n_strings_HasPrefix [(.t 21), (.c (Value.string { data := #[45] }))] [9, 9], none, [21]⟩,
  ⟨some 5, .assign (.t 22), none, [22]⟩] none [0, 5])
 (.seq (.reg 4 [⟨some 6, .assign (.c (Value.int IntKind.i64 0)), none, []⟩] none [0, 5, 6])
 (.seq (.seq (.reg 5 [⟨some 23, .move (.t 5), none, []⟩] none [0, 5, 6, 23])
 (.cond [0, 5, 6] (.t 23) (.reg 6 [⟨some 6, .assign (.c (Value.int IntKind.i64 1)), none, []⟩] none [0, 5, 6]) .skip))
 k6_fixed_Read)))
def k7_fixed_Read : IR := .tail [0] j7_fixed_Read
def b_fixed_Read : IR :=
 (.seq (.reg 0 [⟨some 2, .assign (.c (Value.int IntKind.i64 0)), none, [2]⟩,
  ⟨some 3, .assign (.c (Value.int IntKind.i64 0)), none, [3]⟩,
  ⟨some 4, .assign (.c (Value.int IntKind.i64 0)), none, [4]⟩] none [0])
 (.seq (.seq (.reg 1 [⟨some 18, .move (.t 0), none, []⟩,
  ⟨some 19, .len 9 true (.t 18), none, [18]⟩,
  ⟨some 20, .bin .gtr 3 (.t 19) (.c (Value.int IntKind.i64 4096)) 3, none, [19]⟩] none [0, 20])
 (.cond [0] (.t 20) (.seq (.reg 2 [⟨some 2, .assign (.c (Value.int IntKind.i64 0)), none, []⟩,
  ⟨some 3, .assign (.c (Value.int IntKind.i64 4)), none, []⟩,
  ⟨some 4, .assign (.c (Value.int IntKind.i64 0)), none, []⟩] none [2, 3, 4])
 .ret) .skip))
 k7_fixed_Read))
def a_fixed_Read : AFunc := ⟨99, [.tmp 2, .tmp 3, .tmp 4], b_fixed_Read⟩

def j0_stringslite_TrimPrefix : IR :=
 (.seq (.reg 3 [⟨some 12, .move (.t 0), none, [0]⟩,
  ⟨some 4, .assign (.t 12), none, [12]⟩] none [4])
 .ret)
def k0_stringslite_TrimPrefix : IR := .tail [0] j0_stringslite_TrimPrefix
def b_stringslite_TrimPrefix : IR :=
 (.seq (.reg 0 [⟨some 4, .assign (.c (Value.string { data := #[] })), none, [4]⟩] none [0, 1])
 (.seq (.seq (.reg 1 [⟨some 5, .move (.t 0), none, []⟩,
  ⟨some 6, .move (.t 1), none, []⟩,
  ⟨some 7, .call n_stringslite_HasPrefix [(.t 5), (.t 6)] [9, 9], none, [5, 6]⟩] none [0, 1, 7])
 (.cond [0, 1] (.t 7) (.seq (.reg 2 [⟨some 8, .move (.t 0), none, [0]⟩,
  ⟨some 9, .move (.t 1), none, [1]⟩,
  ⟨some 10, .len 9 true (.t 9), none, [9]⟩,
  ⟨some 11, .slice 9 .str (.t 8) (some (.t 10)) none none, none, [8, 10]⟩,
  ⟨some 4, .assign (.t 11), none, [11]⟩] none [4])
 .ret) .skip))
 k0_stringslite_TrimPrefix))
def a_stringslite_TrimPrefix : AFunc := ⟨13, [.tmp 4], b_stringslite_TrimPrefix⟩

def b_strings_TrimPrefix : IR :=
 (.seq (.reg 0 [⟨some 4, .assign (.c (Value.string { data := #[] })), none, [4]⟩] none [0, 1])
 (.seq (.reg 1 [⟨some 5, .move (.t 0), none, [0]⟩,
  ⟨some 6, .move (.t 1), none, [1]⟩,
  ⟨some 7, .call n_stringslite_TrimPrefix [(.t 5), (.t 6)] [9, 9], none, [5, 6]⟩,
  ⟨some 4, .assign (.t 7), none, [7]⟩] none [4])
 .ret))
def a_strings_TrimPrefix : AFunc := ⟨8, [.tmp 4], b_strings_TrimPrefix⟩

def j0_fixed_decimal : IR :=
 (.seq (.reg 12 [⟨some 49, .move (.t 2), none, []⟩,
  ⟨some 50, .move (.t 0), none, []⟩,
  ⟨some 51, .move (.t 7), none, []⟩,
  ⟨some 52, .bin .add 3 (.t 51) (.c (Value.int IntKind.i64 1)) 3, none, [51]⟩,
  ⟨some 53, .move (.t 9), none, []⟩,
  ⟨some 54, .slice 9 .str (.t 50) (some (.t 52)) (some (.t 53)) none, none, [50, 52, 53]⟩,
  ⟨some 55, .bin .add 9 (.t 49) (.t 54) 9, none, [49, 54]⟩,
  ⟨some 2, .assign (.t 55), none, [55]⟩] none [0, 2, 4, 7, 9])
 (.seq (.reg 13 [⟨some 56, .move (.t 9), none, []⟩,
  ⟨some 57, .move (.t 7), none, [7]⟩,
  ⟨some 58, .bin .sub 3 (.t 56) (.t 57) 3, none, [56, 57]⟩,
  ⟨some 59, .bin .sub 3 (.t 58) (.c (Value.int IntKind.i64 1)) 3, none, [58]⟩,
  ⟨some 3, .assign (.t 59), none, [59]⟩] none [0, 2, 3, 4, 9])
 (.reg 14 [⟨some 60, .move (.t 9), none, [9]⟩,
  ⟨some 7, .assign (.t 60), none, [60]⟩] none [0, 2, 3, 4, 7])))
def k0_fixed_decimal : IR := .tail [0, 2, 4, 7, 9] j0_fixed_decimal
def j1_fixed_decimal : IR :=
 (.seq (.reg 23 [⟨some 107, .move (.t 0), none, []⟩,
  ⟨some 108, .move (.t 11), none, [11]⟩,
  ⟨some 109, .move (.t 12), none, []⟩,
  ⟨some 110, .slice 9 .str (.t 107) (some (.t 108)) (some (.t 109)) none, none, [107, 108, 109]⟩,
  ⟨some 111, .call n_strings_TrimPrefix [(.t 110), (.c (Value.string { data := #[43] }))] [9, 9], none, [110]⟩,
  ⟨some 4, .assign (.t 111), none, [111]⟩] none [0, 2, 3, 4, 12])
 (.reg 24 [⟨some 112, .move (.t 12), none, [12]⟩,
  ⟨some 7, .assign (.t 112), none, [112]⟩] none [0, 2, 3, 4, 7]))
def k1_fixed_decimal : IR := .tail [0, 2, 3, 11, 12] j1_fixed_decimal
def j2_fixed_decimal : IR :=
 (.seq (.reg 20 [⟨some 99, .move (.t 0), none, []⟩,
  ⟨some 100, .move (.t 7), none, [7]⟩,
  ⟨some 101, .call n_fixed_digits [(.t 99), (.t 100)] [9, 3], none, [99, 100]⟩,
  ⟨some 98, .move (.t 101), none, [101]⟩,
  ⟨some 102, .extr (.t 98) 0, none, []⟩,
  ⟨some 103, .extr (.t 98) 1, none, [98]⟩,
  ⟨some 12, .assign (.t 102), none, [102]⟩,
  ⟨some 13, .assign (.t 103), none, [103]⟩] none [0, 2, 3, 11, 12, 13])
 (.seq (.seq (.reg 21 [⟨some 104, .move (.t 13), none, [13]⟩,
  ⟨some 105, .un .not 4 (.t 104), none, [104]⟩] none [0, 2, 3, 11, 12, 105])
 (.cond [0, 2, 3, 11, 12] (.t 105) (.seq (.reg 22 [⟨some 106, .move (.t 12), none, [12]⟩,
  ⟨some 2, .assign (.c (Value.string { data := #[] })), none, []⟩,
  ⟨some 3, .assign (.c (Value.int IntKind.i64 0)), none, []⟩,
  ⟨some 4, .assign (.c (Value.string { data := #[] })), none, []⟩,
  ⟨some 5, .assign (.t 106), none, [106]⟩] none [2, 3, 4, 5])
 .ret) .skip))
 k1_fixed_decimal))
def k2_fixed_decimal : IR := .tail [0, 2, 3, 7, 11] j2_fixed_decimal
def j3_fixed_decimal : IR :=
 (.seq (.reg 27 [⟨some 118, .move (.t 2), none, []⟩,
  ⟨some 119, .move (.t 3), none, []⟩,
  ⟨some 120, .move (.t 4), none, []⟩,
  ⟨some 2, .assign (.t 118), none, [118]⟩,
  ⟨some 3, .assign (.t 119), none, [119]⟩,
  ⟨some 4, .assign (.t 120), none, [120]⟩,
  ⟨some 5, .assign (.c (Value.int IntKind.i64 (-1))), none, []⟩] none [2, 3, 4, 5])
 .ret)
def k3_fixed_decimal : IR := .tail [2, 3, 4] j3_fixed_decimal
def j4_fixed_decimal : IR :=
 (.seq (.seq (.reg 25 [⟨some 113, .move (.t 7), none, []⟩,
  ⟨some 114, .move (.t 0), none, [0]⟩,
  ⟨some 115, .len 9 true (.t 114), none, [114]⟩,
  ⟨some 116, .bin .lss 3 (.t 113) (.t 115) 3, none, [113, 115]⟩] none [2, 3, 4, 7, 116])
 (.cond [2, 3, 4, 7] (.t 116) (.seq (.reg 26 [⟨some 117, .move (.t 7), none, [7]⟩,
  ⟨some 2, .assign (.c (Value.string { data := #[] })), none, []⟩,
  ⟨some 3, .assign (.c (Value.int IntKind.i64 0)), none, []⟩,
  ⟨some 4, .assign (.c (Value.string { data := #[] })), none, []⟩,
  ⟨some 5, .assign (.t 117), none, [117]⟩] none [2, 3, 4, 5])
 .ret) .skip))
 k3_fixed_decimal)
def k4_fixed_decimal : IR := .tail [0, 2, 3, 4, 7] j4_fixed_decimal
def j5_fixed_decimal : IR :=
 (.seq (.seq (.reg 15 [⟨some 61, .move (.t 7), none, []⟩,
  ⟨some 62, .move (.t 0), none, []⟩,
  ⟨some 63, .len 9 true (.t 62), none, [62]⟩,
  ⟨some 64, .bin .lss 3 (.t 61) (.t 63) 3, none, [61, 63]⟩,
  ⟨some 65, .move (.t 64), none, [64]⟩,
  ⟨some 66, .move (.t 0), some (4, true), []⟩,
  ⟨some 67, .move (.t 7), some (4, true), []⟩,
  ⟨some 68, .index 9 .str none (.t 66) (.t 67), some (4, true), [66, 67]⟩,
  ⟨some 69, .bin .eql 5 (.t 68) (.c (Value.int IntKind.u8 101)) 5, some (4, true), [68]⟩,
  ⟨some 70, .move (.t 69), some (4, true), [69]⟩,
  ⟨some 71, .move (.t 0), some (9, false), []⟩,
  ⟨some 72, .move (.t 7), some (9, false), []⟩,
  ⟨some 73, .index 9 .str none (.t 71) (.t 72), some (9, false), [71, 72]⟩,
  ⟨some 74, .bin .eql 5 (.t 73) (.c (Value.int IntKind.u8 69)) 5, some (9, false), [73]⟩,
  ⟨some 75, .pick (.t 70) (.c (Value.bool true)) (.t 74), some (4, true), [70, 74]⟩,
  ⟨some 76, .pick (.t 65) (.t 75) (.c (Value.bool false)), none, [65, 75]⟩] none [0, 2, 3, 4, 7, 76])
 (.cond [0, 2, 3, 4, 7] (.t 76) (.seq (.reg 16 [⟨some 77, .move (.t 7), none, []⟩,
  ⟨some 78, .bin .add 3 (.t 77) (.c (Value.int IntKind.i64 1)) 3, none, [77]⟩,
  ⟨some 7, .assign (.t 78), none, [78]⟩] none [0, 2, 3, 7])
 (.seq (.reg 17 [⟨some 79, .move (.t 7), none, []⟩,
  ⟨some 11, .assign (.t 79), none, [79]⟩] none [0, 2, 3, 7, 11])
 (.seq (.seq (.reg 18 [⟨some 80, .move (.t 7), none, []⟩,
  ⟨some 81, .move (.t 0), none, []⟩,
  ⟨some 82, .len 9 true (.t 81), none, [81]⟩,
  ⟨some 83, .bin .lss 3 (.t 80) (.t 82) 3, none, [80, 82]⟩,
  ⟨some 84, .move (.t 83), none, [83]⟩,
  ⟨some 85, .move (.t 0), some (4, true), []⟩,
  ⟨some 86, .move (.t 7), some (4, true), []⟩,
  ⟨some 87, .index 9 .str none (.t 85) (.t 86), some (4, true), [85, 86]⟩,
  ⟨some 88, .bin .eql 5 (.t 87) (.c (Value.int IntKind.u8 43)) 5, some (4, true), [87]⟩,
  ⟨some 89, .move (.t 88), some (4, true), [88]⟩,
  ⟨some 90, .move (.t 0), some (9, false), []⟩,
  ⟨some 91, .move (.t 7), some (9, false), []⟩,
  ⟨some 92, .index 9 .str none (.t 90) (.t 91), some (9, false), [90, 91]⟩,
  ⟨some 93, .bin .eql 5 (.t 92) (.c (Value.int IntKind.u8 45)) 5, some (9, false), [92]⟩,
  ⟨some 94, .pick (.t 89) (.c (Value.bool true)) (.t 93), some (4, true), [89, 93]⟩,
  ⟨some 95, .pick (.t 84) (.t 94) (.c (Value.bool false)), none, [84, 94]⟩] none [0, 2, 3, 7, 11, 95])
 (.cond [0, 2, 3, 7, 11] (.t 95) (.reg 19 [⟨some 96, .move (.t 7), none, []⟩,
  ⟨some 97, .bin .add 3 (.t 96) (.c (Value.int IntKind.i64 1)) 3, none, [96]⟩,
  ⟨some 7, .assign (.t 97), none, [97]⟩] none [0, 2, 3, 7, 11]) .skip))
 k2_fixed_decimal))) .skip))
 k4_fixed_decimal)
def k5_fixed_decimal : IR := .tail [0, 2, 3, 4, 7] j5_fixed_decimal
def j6_fixed_decimal : IR :=
 (.seq (.reg 7 [⟨some 25, .move (.t 0), none, []⟩,
  ⟨some 26, .move (.t 6), none, [6]⟩,
  ⟨some 27, .move (.t 7), none, []⟩,
  ⟨some 28, .slice 9 .str (.t 25) (some (.t 26)) (some (.t 27)) none, none, [25, 26, 27]⟩,
  ⟨some 2, .assign (.t 28), none, [28]⟩] none [0, 2, 3, 4, 7])
 (.seq (.seq (.reg 8 [⟨some 29, .move (.t 7), none, []⟩,
  ⟨some 30, .move (.t 0), none, []⟩,
  ⟨some 31, .len 9 true (.t 30), none, [30]⟩,
  ⟨some 32, .bin .lss 3 (.t 29) (.t 31) 3, none, [29, 31]⟩,
  ⟨some 33, .move (.t 32), none, [32]⟩,
  ⟨some 34, .move (.t 0), some (4, true), []⟩,
  ⟨some 35, .move (.t 7), some (4, true), []⟩,
  ⟨some 36, .index 9 .str none (.t 34) (.t 35), some (4, true), [34, 35]⟩,
  ⟨some 37, .bin .eql 5 (.t 36) (.c (Value.int IntKind.u8 46)) 5, some (4, true), [36]⟩,
  ⟨some 38, .pick (.t 33) (.t 37) (.c (Value.bool false)), none, [33, 37]⟩] none [0, 2, 3, 4, 7, 38])
 (.cond [0, 2, 3, 4, 7] (.t 38) (.seq (.reg 9 [⟨some 40, .move (.t 0), none, []⟩,
  ⟨some 41, .move (.t 7), none, []⟩,
  ⟨some 42, .bin .add 3 (.t 41) (.c (Value.int IntKind.i64 1)) 3, none, [41]⟩,
  ⟨some 43, .call n_fixed_digits [(.t 40), (.t 42)] [9, 3], none, [40, 42]⟩,
  ⟨some 39, .move (.t 43), none, [43]⟩,
  ⟨some 44, .extr (.t 39) 0, none, []⟩,
  ⟨some 45, .extr (.t 39) 1, none, [39]⟩,
  ⟨some 9, .assign (.t 44), none, [44]⟩,
  ⟨some 10, .assign (.t 45), none, [45]⟩] none [0, 2, 4, 7, 9, 10])
 (.seq (.seq (.reg 10 [⟨some 46, .move (.t 10), none, [10]⟩,
  ⟨some 47, .un .not 4 (.t 46), none, [46]⟩] none [0, 2, 4, 7, 9, 47])
 (.cond [0, 2, 4, 7, 9] (.t 47) (.seq (.reg 11 [⟨some 48, .move (.t 9), none, [9]⟩,
  ⟨some 2, .assign (.c (Value.string { data := #[] })), none, []⟩,
  ⟨some 3, .assign (.c (Value.int IntKind.i64 0)), none, []⟩,
  ⟨some 4, .assign (.c (Value.string { data := #[] })), none, []⟩,
  ⟨some 5, .assign (.t 48), none, [48]⟩] none [2, 3, 4, 5])
 .ret) .skip))
 k0_fixed_decimal)) .skip))
 k5_fixed_decimal))
def k6_fixed_decimal : IR := .tail [0, 3, 4, 6, 7] j6_fixed_decimal
def j7_fixed_decimal : IR :=
 (.seq (.reg 4 [⟨some 17, .move (.t 0), none, []⟩,
  ⟨some 18, .move (.t 6), none, []⟩,
  ⟨some 19, .call n_fixed_digits [(.t 17), (.t 18)] [9, 3], none, [17, 18]⟩,
  ⟨some 16, .move (.t 19), none, [19]⟩,
  ⟨some 20, .extr (.t 16) 0, none, []⟩,
  ⟨some 21, .extr (.t 16) 1, none, [16]⟩,
  ⟨some 7, .assign (.t 20), none, [20]⟩,
  ⟨some 8, .assign (.t 21), none, [21]⟩] none [0, 3, 4, 6, 7, 8])
 (.seq (.seq (.reg 5 [⟨some 22, .move (.t 8), none, [8]⟩,
  ⟨some 23, .un .not 4 (.t 22), none, [22]⟩] none [0, 3, 4, 6, 7, 23])
 (.cond [0, 3, 4, 6, 7] (.t 23) (.seq (.reg 6 [⟨some 24, .move (.t 7), none, [7]⟩,
  ⟨some 2, .assign (.c (Value.string { data := #[] })), none, []⟩,
  ⟨some 3, .assign (.c (Value.int IntKind.i64 0)), none, []⟩,
  ⟨some 4, .assign (.c (Value.string { data := #[] })), none, []⟩,
  ⟨some 5, .assign (.t 24), none, [24]⟩] none [2, 3, 4, 5])
 .ret) .skip))
 k6_fixed_decimal))
def k7_fixed_decimal : IR := .tail [0, 3, 4, 6] j7_fixed_decimal
def b_fixed_decimal : IR :=
 (.seq (.reg 0 [⟨some 2, .assign (.c (Value.string { data := #[] })), none, [2]⟩,
  ⟨some 3, .assign (.c (Value.int IntKind.i64 0)), none, []⟩,
  ⟨some 4, .assign (.c (Value.string { data := #[] })), none, []⟩,
  ⟨some 5, .assign (.c (Value.int IntKind.i64 0)), none, [5]⟩] none [0, 3, 4])
 (.seq (.reg 1 [⟨some 6, .assign (.c (Value.int IntKind.i64 0)), none, []⟩] none [0, 3, 4, 6])
 (.seq (.seq (.reg 2 [⟨some 14, .move (.t 0), none, []⟩,
  ⟨some 15, .call n_strings_HasPrefix [(.t 14), (.c (Value.string { data := #[45] }))] [9, 9], none, [14]⟩] none [0, 3, 4, 6, 15])
 (.cond [0, 3, 4, 6] (.t 15) (.reg 3 [⟨some 6, .assign (.c (Value.int IntKind.i64 1)), none, []⟩] none [0, 3, 4, 6]) .skip))
 k7_fixed_decimal)))
def a_fixed_decimal : AFunc := ⟨121, [.tmp 2, .tmp 3, .tmp 4, .tmp 5], b_fixed_decimal⟩

def j0_fixed_clamped : IR :=
 (.reg 7 [⟨some 23, .bin .add 3 (.t 7) (.c (Value.int IntKind.i64 1)) 3, none, []⟩,
  ⟨some 7, .move (.t 23), none, [23]⟩] none [0, 3, 6, 7])
def k0_fixed_clamped : IR := .tail [0, 3, 6, 7] j0_fixed_clamped
def j1_fixed_clamped : IR :=
 (.seq (.block 1 (.seq (.reg 4 [⟨some 9, .move (.t 7), none, []⟩,
  ⟨some 4, .assign (.t 9), none, [9]⟩] none [0, 3, 4, 6, 7])
 (.seq (.reg 5 [⟨some 10, .move (.t 0), none, []⟩,
  ⟨some 11, .move (.t 4), none, []⟩,
  ⟨some 12, .index 9 .str none (.t 10) (.t 11), none, [10, 11]⟩,
  ⟨some 13, .bin .neq 5 (.t 12) (.c (Value.int IntKind.u8 45)) 5, none, [12]⟩] none [0, 3, 4, 6, 7, 13])
 (.cond [0, 3, 4, 6, 7] (.t 13) (.reg 6 [⟨some 14, .move (.t 3), none, []⟩,
  ⟨some 15, .bin .mul 3 (.c (Value.int IntKind.i64 10)) (.t 14) 3, none, [14]⟩,
  ⟨some 16, .move (.t 0), none, []⟩,
  ⟨some 17, .move (.t 4), none, [4]⟩,
  ⟨some 18, .index 9 .str none (.t 16) (.t 17), none, [16, 17]⟩,
  ⟨some 19, .bin .sub 5 (.t 18) (.c (Value.int IntKind.u8 48)) 5, none, [18]⟩,
  ⟨some 20, .conv 5 3 (.int .i64) (.t 19), none, [19]⟩,
  ⟨some 21, .bin .add 3 (.t 15) (.t 20) 3, none, [15, 20]⟩,
  ⟨some 22, .minmax false [3, 3] (.t 21) (.c (Value.int IntKind.i64 100000)), none, [21]⟩,
  ⟨some 3, .assign (.t 22), none, [22]⟩] none [0, 3, 6, 7]) .skip))))
 k0_fixed_clamped)
def k1_fixed_clamped : IR := .tail [0, 3, 6, 7] j1_fixed_clamped
def w0_fixed_clamped : IR :=
 (.seq (.reg 3 [⟨some 8, .bin .lss 3 (.t 7) (.t 6) 3, none, []⟩] none [0, 3, 6, 7, 8])
 (.seq (.cond [0, 3, 6, 7] (.t 8) .skip (.exit 0))
 k1_fixed_clamped))
def l0_fixed_clamped : IR := .loop [0, 3, 6, 7] w0_fixed_clamped
def j2_fixed_clamped : IR :=
 (.seq (.reg 10 [⟨some 28, .move (.t 3), none, [3]⟩,
  ⟨some 2, .assign (.t 28), none, [28]⟩] none [2])
 .ret)
def k2_fixed_clamped : IR := .tail [3] j2_fixed_clamped
def j3_fixed_clamped : IR :=
 (.seq (.seq (.reg 8 [⟨some 24, .move (.t 0), none, [0]⟩,
  ⟨some 25, .call n_strings_HasPrefix [(.t 24), (.c (Value.string { data := #[45] }))] [9, 9], none, [24]⟩] none [3, 25])
 (.cond [3] (.t 25) (.seq (.reg 9 [⟨some 26, .move (.t 3), none, [3]⟩,
  ⟨some 27, .un .neg 3 (.t 26), none, [26]⟩,
  ⟨some 2, .assign (.t 27), none, [27]⟩] none [2])
 .ret) .skip))
 k2_fixed_clamped)
def k3_fixed_clamped : IR := .tail [0, 3] j3_fixed_clamped
def b_fixed_clamped : IR :=
 (.seq (.reg 0 [⟨some 2, .assign (.c (Value.int IntKind.i64 0)), none, [2]⟩] none [0])
 (.seq (.reg 1 [⟨some 3, .assign (.c (Value.int IntKind.i64 0)), none, []⟩] none [0, 3])
 (.seq (.seq (.reg 2 [⟨some 5, .move (.t 0), none, []⟩,
  ⟨some 6, .len 9 true (.t 5), none, [5]⟩,
  ⟨some 7, .move (.c (Value.int IntKind.i64 0)), none, []⟩] none [0, 3, 6, 7])
 (.block 0 l0_fixed_clamped))
 k3_fixed_clamped)))
def a_fixed_clamped : AFunc := ⟨29, [.tmp 2], b_fixed_clamped⟩

def b_limbs_Norm : IR :=
 (.seq (.reg 0 [⟨some 2, .assign (.nilS 1), none, [2]⟩] none [0])
 (.seq (.reg 1 [⟨some 3, .move (.t 0), none, []⟩,
  ⟨some 4, .call n_limbs_trim [(.t 3)] [32], none, [0, 3]⟩,
  ⟨some 5, .append 32 32 false 1 4 (.nilS 1) (.t 4), none, [4]⟩,
  ⟨some 2, .assign (.t 5), none, []⟩] none [2, 5])
 .ret))
def a_limbs_Norm : AFunc := ⟨6, [.tmp 2], b_limbs_Norm⟩

def j0_strings_trimLeftByte : IR :=
 (.block 1 (.reg 2 [⟨some 14, .move (.t 0), none, []⟩,
  ⟨some 15, .slice 9 .str (.t 14) (some (.c (Value.int IntKind.i64 1))) none none, none, [14]⟩,
  ⟨some 0, .assign (.t 15), none, [15]⟩] none [0, 1]))
def k0_strings_trimLeftByte : IR := .tail [0, 1] j0_strings_trimLeftByte
def w0_strings_trimLeftByte : IR :=
 (.seq (.seq (.reg 1 [⟨some 5, .move (.t 0), none, []⟩,
  ⟨some 6, .len 9 true (.t 5), none, [5]⟩,
  ⟨some 7, .bin .gtr 3 (.t 6) (.c (Value.int IntKind.i64 0)) 3, none, [6]⟩,
  ⟨some 8, .move (.t 7), none, [7]⟩,
  ⟨some 9, .move (.t 0), some (3, true), []⟩,
  ⟨some 10, .index 9 .str none (.t 9) (.c (Value.int IntKind.i64 0)), some (3, true), [9]⟩,
  ⟨some 11, .move (.t 1), some (3, true), []⟩,
  ⟨some 12, .bin .eql 5 (.t 10) (.t 11) 5, some (3, true), [10, 11]⟩,
  ⟨some 13, .pick (.t 8) (.t 12) (.c (Value.bool false)), none, [8, 12]⟩] none [0, 1, 13])
 (.cond [0, 1] (.t 13) .skip (.exit 0)))
 k0_strings_trimLeftByte)
def l0_strings_trimLeftByte : IR := .loop [0, 1] w0_strings_trimLeftByte
def j1_strings_trimLeftByte : IR :=
 (.seq (.reg 3 [⟨some 16, .move (.t 0), none, [0]⟩,
  ⟨some 4, .assign (.t 16), none, [16]⟩] none [4])
 .ret)
def k1_strings_trimLeftByte : IR := .tail [0] j1_strings_trimLeftByte
def b_strings_trimLeftByte : IR :=
 (.seq (.reg 0 [⟨some 4, .assign (.c (Value.string { data := #[] })), none, [4]⟩] none [0, 1])
 (.seq (.block 0 l0_strings_trimLeftByte)
 k1_strings_trimLeftByte))
def a_strings_trimLeftByte : AFunc := ⟨17, [.tmp 4], b_strings_trimLeftByte⟩

def j0_strings_TrimLeft : IR :=
 (.seq (.reg 8 [⟨some 34, .move (.t 0), none, [0]⟩,
  ⟨some 35, .move (.t 1), none, [1]⟩,
  ⟨some 36, .call n_strings_trimLeftUnicode [(.t 34), (.t 35)] [9, 9], none, [34, 35]⟩,
  ⟨some 4, .assign (.t 36), none, [36]⟩] none [4])
 .ret)
def k0_strings_TrimLeft : IR := .tail [0, 1] j0_strings_TrimLeft
def j1_strings_TrimLeft : IR :=
 (.seq (.seq (.reg 5 [⟨some 27, .move (.t 1), none, []⟩,
  ⟨some 28, .call n_strings_makeASCIISet [(.t 27)] [9], none, [27]⟩,
  ⟨some 26, .move (.t 28), none, [28]⟩,
  ⟨some 29, .extr (.t 26) 0, none, []⟩,
  ⟨some 30, .extr (.t 26) 1, none, [26]⟩,
  ⟨some 5, .alloc 103 [.v (.bool false), .v (.bool false), .v (.bool false), .v (.bool false), .v (.bool false), .v (.bool false), .v (.bool false), .v (.bool false), .v (.bool false), .v (.bool false), .v (.bool false), .v (.bool false), .v (.bool false), .v (.bool false), .v (.bool false), .v (.bool false), .v (.bool false), .v (.bool false), .v (.bool false), .v (.bool false), .v (.bool false), .v (.bool false), .v (.bool false), .v (.bool false), .v (.bool false), .v (.bool false), .v (.bool false), .v (.bool false), .v (.bool false), .v (.bool false), .v (.bool false), .v (.bool false), .v (.bool false), .v (.bool false), .v (.bool false), .v (.bool false), .v (.bool false), .v (.bool false), .v (.bool false), .v (.bool false), .v (.bool false), .v (.bool false), .v (.bool false), .v (.bool false), .v (.bool false), .v (.bool false), .v (.bool false), .v (.bool false), .v (.bool false), .v (.bool false), .v (.bool false), .v (.bool false), .v (.bool false), .v (.bool false), .v (.bool false), .v (.bool false), .v (.bool false), .v (.bool false), .v (.bool false), .v (.bool false), .v (.bool false), .v (.bool false), .v (.bool false), .v (.bool false), .v (.bool false), .v (.bool false), .v (.bool false), .v (.bool false), .v (.bool false), .v (.bool false), .v (.bool false), .v (.bool false), .v (.bool false), .v (.bool false), .v (.bool false), .v (.bool false), .v (.bool false), .v (.bool false), .v (.bool false), .v (.bool false), .v (.bool false), .v (.bool false), .v (.bool false), .v (.bool false), .v (.bool false), .v (.bool false), .v (.bool false), .v (.bool false), .v (.bool false), .v (.bool false), .v (.bool false), .v (.bool false), .v (.bool false), .v (.bool false), .v (.bool false), .v (.bool false), .v (.bool false), .v (.bool false), .v (.bool false), .v (.bool false), .v (.bool false), .v (.bool false), .v (.bool false), .v (.bool false), .v (.bool false), .v (.bool false), .v (.bool false), .v (.bool false), .v (.bool false), .v (.bool false), .v (.bool false), .v (.bool false), .v (.bool false), .v (.bool false), .v (.bool false), .v (.bool false), .v (.bool false), .v (.bool false), .v (.bool false), .v (.bool false), .v (.bool false), .v (.bool false), .v (.bool false), .v (.bool false), .v (.bool false), .v (.bool false), .v (.bool false), .v (.bool false), .v (.bool false), .v (.bool false), .v (.bool false), .v (.bool false), .v (.bool false), .v (.bool false), .v (.bool false), .v (.bool false), .v (.bool false), .v (.bool false), .v (.bool false), .v (.bool false), .v (.bool false), .v (.bool false), .v (.bool false), .v (.bool false), .v (.bool false), .v (.bool false), .v (.bool false), .v (.bool false), .v (.bool false), .v (.bool false), .v (.bool false), .v (.bool false), .v (.bool false), .v (.bool false), .v (.bool false), .v (.bool false), .v (.bool false), .v (.bool false), .v (.bool false), .v (.bool false), .v (.bool false), .v (.bool false), .v (.bool false), .v (.bool false), .v (.bool false), .v (.bool false), .v (.bool false), .v (.bool false), .v (.bool false), .v (.bool false), .v (.bool false), .v (.bool false), .v (.bool false), .v (.bool false), .v (.bool false), .v (.bool false), .v (.bool false), .v (.bool false), .v (.bool false), .v (.bool false), .v (.bool false), .v (.bool false), .v (.bool false), .v (.bool false), .v (.bool false), .v (.bool false), .v (.bool false), .v (.bool false), .v (.bool false), .v (.bool false), .v (.bool false), .v (.bool false), .v (.bool false), .v (.bool false), .v (.bool false), .v (.bool false), .v (.bool false), .v (.bool false), .v (.bool false), .v (.bool false), .v (.bool false), .v (.bool false), .v (.bool false), .v (.bool false), .v (.bool false), .v (.bool false), .v (.bool false), .v (.bool false), .v (.bool false), .v (.bool false), .v (.bool false), .v (.bool false), .v (.bool false), .v (.bool false), .v (.bool false), .v (.bool false), .v (.bool false), .v (.bool false), .v (.bool false), .v (.bool false), .v (.bool false), .v (.bool false), .v (.bool false), .v (.bool false), .v (.bool false), .v (.bool false), .v (.bool false), .v (.bool false), .v (.bool false), .v (.bool false), .v (.bool false), .v (.bool false), .v (.bool false), .v (.bool false), .v (.bool false), .v (.bool false), .v (.bool false), .v (.bool false), .v (.bool false), .v (.bool false), .v (.bool false), .v (.bool false), .v (.bool false), .v (.bool false), .v (.bool false), .v (.bool false), .v (.bool false), .v (.bool false), .v (.bool false), .v (.bool false), .v (.bool false), .v (.bool false), .v (.bool false), .v (.bool false), .v (.bool false), .v (.bool false)], none, []⟩,
  ⟨none, .store 103 (some 256) (.t 5) (.t 29), none, [29]⟩,
  ⟨some 6, .assign (.t 30), none, [30]⟩] none [0, 1, 5, 6])
 (.seq (.reg 6 [⟨some 31, .move (.t 6), none, [6]⟩] none [0, 1, 5, 31])
 (.cond [0, 1, 5] (.t 31) (.seq (.reg 7 [⟨some 32, .move (.t 0), none, [0]⟩,
  ⟨some 33, .call n_strings_trimLeftASCII [(.t 32), (.t 5)] [9, 107], none, [5, 32]⟩,
  ⟨some 4, .assign (.t 33), none, [33]⟩] none [4])
 .ret) .skip)))
 k0_strings_TrimLeft)
def k1_strings_TrimLeft : IR := .tail [0, 1] j1_strings_TrimLeft
def j2_strings_TrimLeft : IR :=
 (.seq (.seq (.reg 3 [⟨some 14, .move (.t 1), none, []⟩,
  ⟨some 15, .len 9 true (.t 14), none, [14]⟩,
  ⟨some 16, .bin .eql 3 (.t 15) (.c (Value.int IntKind.i64 1)) 3, none, [15]⟩,
  ⟨some 17, .move (.t 16), none, [16]⟩,
  ⟨some 18, .move (.t 1), some (3, true), []⟩,
  ⟨some 19, .index 9 .str none (.t 18) (.c (Value.int IntKind.i64 0)), some (3, true), [18]⟩,
  ⟨some 20, .bin .lss 5 (.t 19) (.c (Value.int IntKind.u8 128)) 5, some (3, true), [19]⟩,
  ⟨some 21, .pick (.t 17) (.t 20) (.c (Value.bool false)), none, [17, 20]⟩] none [0, 1, 21])
 (.cond [0, 1] (.t 21) (.seq (.reg 4 [⟨some 22, .move (.t 0), none, [0]⟩,
  ⟨some 23, .move (.t 1), none, [1]⟩,
  ⟨some 24, .index 9 .str none (.t 23) (.c (Value.int IntKind.i64 0)), none, [23]⟩,
  ⟨some 25, .call n_strings_trimLeftByte [(.t 22), (.t 24)] [9, 5], none, [22, 24]⟩,
  ⟨some 4, .assign (.t 25), none, [25]⟩] none [4])
 .ret) .skip))
 k1_strings_TrimLeft)
def k2_strings_TrimLeft : IR := .tail [0, 1] j2_strings_TrimLeft
def b_strings_TrimLeft : IR :=
 (.seq (.reg 0 [⟨some 4, .assign (.c (Value.string { data := #[] })), none, [4]⟩] none [0, 1])
 (.seq (.seq (.reg 1 [⟨some 7, .move (.t 0), none, []⟩,
  ⟨some 8, .bin .eql 9 (.t 7) (.c (Value.string { data := #[] })) 9, none, [7]⟩,
  ⟨some 9, .move (.t 8), none, [8]⟩,
  ⟨some 10, .move (.t 1), some (2, false), []⟩,
  ⟨some 11, .bin .eql 9 (.t 10) (.c (Value.string { data := #[] })) 9, some (2, false), [10]⟩,
  ⟨some 12, .pick (.t 9) (.c (Value.bool true)) (.t 11), none, [9, 11]⟩] none [0, 1, 12])
 (.cond [0, 1] (.t 12) (.seq (.reg 2 [⟨some 13, .move (.t 0), none, [0]⟩,
  ⟨some 4, .assign (.t 13), none, [13]⟩] none [4])
 .ret) .skip))
 k2_strings_TrimLeft))
def a_strings_TrimLeft : AFunc := ⟨37, [.tmp 4], b_strings_TrimLeft⟩

def j0_limbs_Print : IR :=
 (.reg 9 [⟨some 22, .move (.t 5), none, []⟩,
  ⟨some 23, .bin .sub 3 (.t 22) (.c (Value.int IntKind.i64 1)) 3, none, [22]⟩,
  ⟨some 5, .assign (.t 23), none, [23]⟩] none [0, 3, 4, 5, 10, 41, 57])
def k0_limbs_Print : IR := .tail [0, 3, 4, 5, 10, 41, 57] j0_limbs_Print
def j1_limbs_Print : IR :=
 (.seq (.block 3 (.seq (.reg 10 [⟨some 24, .move (.t 4), none, []⟩,
  ⟨some 25, .bin .shl 49 (.t 24) (.c (Value.int IntKind.u64 32)) 72, none, [24]⟩,
  ⟨some 26, .move (.t 0), none, []⟩,
  ⟨some 27, .move (.t 5), none, []⟩,
  ⟨some 28, .iaddr 32 (.sl 1) (.t 26) (.t 27), none, []⟩,
  ⟨some 29, .load 47 none (.t 28), none, [26, 27, 28]⟩,
  ⟨some 30, .conv 47 49 (.int .u64) (.t 29), none, [29]⟩,
  ⟨some 31, .bin .or 49 (.t 25) (.t 30) 49, none, [25, 30]⟩,
  ⟨some 4, .assign (.t 31), none, [31]⟩] none [0, 3, 4, 5, 10, 41, 57])
 (.seq (.reg 11 [⟨some 32, .move (.t 0), none, []⟩,
  ⟨some 33, .move (.t 5), none, []⟩,
  ⟨some 34, .move (.t 4), none, []⟩,
  ⟨some 35, .bin .quo 49 (.t 34) (.c (Value.int IntKind.u64 1000000000)) 49, none, [34]⟩,
  ⟨some 36, .conv 49 47 (.int .u32) (.t 35), none, [35]⟩,
  ⟨some 37, .iaddr 32 (.sl 1) (.t 32) (.t 33), none, []⟩,
  ⟨none, .store 47 none (.t 37) (.t 36), none, [32, 33, 36, 37]⟩] none [0, 3, 4, 5, 10, 41, 57])
 (.reg 12 [⟨some 38, .move (.t 4), none, []⟩,
  ⟨some 39, .bin .rem 49 (.t 38) (.c (Value.int IntKind.u64 1000000000)) 49, none, [38]⟩,
  ⟨some 4, .assign (.t 39), none, [39]⟩] none [0, 3, 4, 5, 10, 41, 57]))))
 k0_limbs_Print)
def k1_limbs_Print : IR := .tail [0, 3, 4, 5, 10, 41, 57] j1_limbs_Print
def w1_limbs_Print : IR :=
 (.seq (.seq (.reg 8 [⟨some 20, .move (.t 5), none, []⟩,
  ⟨some 21, .bin .geq 3 (.t 20) (.c (Value.int IntKind.i64 0)) 3, none, [20]⟩] none [0, 3, 4, 5, 10, 21, 41, 57])
 (.cond [0, 3, 4, 5, 10, 41, 57] (.t 21) .skip (.exit 2)))
 k1_limbs_Print)
def l1_limbs_Print : IR := .loop [0, 3, 4, 5, 10, 41, 57] w1_limbs_Print
def j2_limbs_Print : IR :=
 (.reg 19 [⟨some 53, .bin .add 3 (.t 42) (.c (Value.int IntKind.i64 1)) 3, none, []⟩,
  ⟨some 42, .move (.t 53), none, [53]⟩] none [0, 3, 4, 6, 10, 41, 42, 57])
def k2_limbs_Print : IR := .tail [0, 3, 4, 6, 10, 41, 42, 57] j2_limbs_Print
def j3_limbs_Print : IR :=
 (.seq (.block 5 (.seq (.reg 17 [⟨some 44, .move (.t 4), none, []⟩,
  ⟨some 45, .bin .rem 49 (.t 44) (.c (Value.int IntKind.u64 10)) 49, none, [44]⟩,
  ⟨some 46, .bin .add 49 (.c (Value.int IntKind.u64 48)) (.t 45) 49, none, [45]⟩,
  ⟨some 47, .conv 49 21 (.int .i32) (.t 46), none, [46]⟩,
  ⟨some 48, .conv 21 9 .rune (.t 47), none, [47]⟩,
  ⟨some 49, .move (.t 6), none, []⟩,
  ⟨some 50, .bin .add 9 (.t 48) (.t 49) 9, none, [48, 49]⟩,
  ⟨some 6, .assign (.t 50), none, [50]⟩] none [0, 3, 4, 6, 10, 41, 42, 57])
 (.reg 18 [⟨some 51, .move (.t 4), none, []⟩,
  ⟨some 52, .bin .quo 49 (.t 51) (.c (Value.int IntKind.u64 10)) 49, none, [51]⟩,
  ⟨some 4, .assign (.t 52), none, [52]⟩] none [0, 3, 4, 6, 10, 41, 42, 57])))
 k2_limbs_Print)
def k3_limbs_Print : IR := .tail [0, 3, 4, 6, 10, 41, 42, 57] j3_limbs_Print
def w2_limbs_Print : IR :=
 (.seq (.reg 16 [⟨some 43, .bin .lss 3 (.t 42) (.c (Value.int IntKind.i64 9)) 3, none, []⟩] none [0, 3, 4, 6, 10, 41, 42, 43, 57])
 (.seq (.cond [0, 3, 4, 6, 10, 41, 42, 57] (.t 43) .skip (.exit 4))
 k3_limbs_Print))
def l2_limbs_Print : IR := .loop [0, 3, 4, 6, 10, 41, 42, 57] w2_limbs_Print
def j4_limbs_Print : IR :=
 (.reg 20 [⟨some 54, .move (.t 3), none, []⟩,
  ⟨some 55, .move (.t 6), none, [6]⟩,
  ⟨some 56, .lit 87 1 [(.t 55)], none, [55]⟩,
  ⟨some 57, .append 87 87 false 1 16 (.t 54) (.t 56), none, [54, 56]⟩,
  ⟨some 3, .assign (.t 57), none, []⟩] none [0, 3, 10, 41, 57])
def k4_limbs_Print : IR := .tail [0, 3, 6, 10, 41, 57] j4_limbs_Print
def j5_limbs_Print : IR :=
 (.seq (.reg 13 [⟨some 40, .move (.t 0), none, []⟩,
  ⟨some 41, .call n_limbs_trim [(.t 40)] [32], none, [40]⟩,
  ⟨some 0, .assign (.t 41), none, []⟩] none [0, 3, 4, 10, 41, 57])
 (.seq (.reg 14 [⟨some 6, .assign (.c (Value.string { data := #[] })), none, []⟩] none [0, 3, 4, 6, 10, 41, 57])
 (.seq (.seq (.reg 15 [⟨some 42, .move (.c (Value.int IntKind.i64 0)), none, []⟩] none [0, 3, 4, 6, 10, 41, 42, 57])
 (.block 4 l2_limbs_Print))
 k4_limbs_Print)))
def k5_limbs_Print : IR := .tail [0, 3, 4, 10, 41, 57] j5_limbs_Print
def j6_limbs_Print : IR :=
 (.block 1 (.seq (.reg 6 [⟨some 4, .assign (.c (Value.int IntKind.u64 0)), none, []⟩] none [0, 3, 4, 10, 41, 57])
 (.seq (.seq (.reg 7 [⟨some 17, .move (.t 0), none, []⟩,
  ⟨some 18, .len 32 false (.t 17), none, [17]⟩,
  ⟨some 19, .bin .sub 3 (.t 18) (.c (Value.int IntKind.i64 1)) 3, none, [18]⟩,
  ⟨some 5, .assign (.t 19), none, [19]⟩] none [0, 3, 4, 5, 10, 41, 57])
 (.block 2 l1_limbs_Print))
 k5_limbs_Print)))
def k6_limbs_Print : IR := .tail [0, 3, 10, 41, 57] j6_limbs_Print
def w0_limbs_Print : IR :=
 (.seq (.seq (.reg 5 [⟨some 14, .move (.t 0), none, []⟩,
  ⟨some 15, .len 32 false (.t 14), none, [14]⟩,
  ⟨some 16, .bin .gtr 3 (.t 15) (.c (Value.int IntKind.i64 0)) 3, none, [15]⟩] none [0, 3, 10, 16, 41, 57])
 (.cond [0, 3, 10, 41, 57] (.t 16) .skip (.exit 0)))
 k6_limbs_Print)
def l0_limbs_Print : IR := .loop [0, 3, 10, 41, 57] w0_limbs_Print
def j7_limbs_Print : IR :=
 (.reg 24 [⟨some 63, .move (.t 8), none, []⟩,
  ⟨some 64, .bin .sub 3 (.t 63) (.c (Value.int IntKind.i64 1)) 3, none, [63]⟩,
  ⟨some 8, .assign (.t 64), none, [64]⟩] none [3, 7, 8, 57])
def k7_limbs_Print : IR := .tail [3, 7, 8, 57] j7_limbs_Print
def j8_limbs_Print : IR :=
 (.seq (.block 7 (.reg 25 [⟨some 65, .move (.t 3), none, []⟩,
  ⟨some 66, .move (.t 8), none, []⟩,
  ⟨some 67, .iaddr 87 (.sl 1) (.t 65) (.t 66), none, []⟩,
  ⟨some 68, .load 9 none (.t 67), none, [65, 66, 67]⟩,
  ⟨some 69, .call n_strings_Builder_WriteString [(.t 7), (.t 68)] [78, 9], none, [68, 69]⟩] none [3, 7, 8, 57]))
 k7_limbs_Print)
def k8_limbs_Print : IR := .tail [3, 7, 8, 57] j8_limbs_Print
def w3_limbs_Print : IR :=
 (.seq (.seq (.reg 23 [⟨some 61, .move (.t 8), none, []⟩,
  ⟨some 62, .bin .geq 3 (.t 61) (.c (Value.int IntKind.i64 0)) 3, none, [61]⟩] none [3, 7, 8, 57, 62])
 (.cond [3, 7, 8, 57] (.t 62) .skip (.exit 6)))
 k8_limbs_Print)
def l3_limbs_Print : IR := .loop [3, 7, 8, 57] w3_limbs_Print
def j9_limbs_Print : IR :=
 (.seq (.reg 26 [⟨some 70, .call n_strings_Builder_String [(.t 7)] [78], none, [7]⟩,
  ⟨some 71, .call n_strings_TrimLeft [(.t 70), (.c (Value.string { data := #[48] }))] [9, 9], none, [70]⟩,
  ⟨some 2, .assign (.t 71), none, [71]⟩] none [2])
 .ret)
def k9_limbs_Print : IR := .tail [7] j9_limbs_Print
def j10_limbs_Print : IR :=
 (.seq (.reg 21 [⟨some 7, .allocB 78 5, none, []⟩] none [3, 7, 57])
 (.seq (.seq (.reg 22 [⟨some 58, .move (.t 3), none, []⟩,
  ⟨some 59, .len 87 false (.t 58), none, [58]⟩,
  ⟨some 60, .bin .sub 3 (.t 59) (.c (Value.int IntKind.i64 1)) 3, none, [59]⟩,
  ⟨some 8, .assign (.t 60), none, [60]⟩] none [3, 7, 8, 57])
 (.block 6 l3_limbs_Print))
 k9_limbs_Print))
def k10_limbs_Print : IR := .tail [3, 57] j10_limbs_Print
def j11_limbs_Print : IR :=
 (.seq (.reg 4 [⟨some 3, .assign (.nilS 1), none, []⟩] none [0, 3, 10, 41, 57])
 (.seq (.block 0 l0_limbs_Print)
 k10_limbs_Print))
def k11_limbs_Print : IR := .tail [0, 10, 41] j11_limbs_Print
def b_limbs_Print : IR :=
 (.seq (.reg 0 [⟨some 2, .assign (.c (Value.string { data := #[] })), none, [2]⟩] none [0, 10, 41])
 (.seq (.reg 1 [⟨some 9, .move (.t 0), none, []⟩,
  ⟨some 10, .call n_limbs_Norm [(.t 9)] [32], none, [9]⟩,
  ⟨some 0, .assign (.t 10), none, []⟩] none [0, 10, 41])
 (.seq (.seq (.reg 2 [⟨some 11, .move (.t 0), none, []⟩,
  ⟨some 12, .len 32 false (.t 11), none, [11]⟩,
  ⟨some 13, .bin .eql 3 (.t 12) (.c (Value.int IntKind.i64 0)) 3, none, [12]⟩] none [0, 10, 13, 41])
 (.cond [0, 10, 41] (.t 13) (.seq (.reg 3 [⟨some 2, .assign (.c (Value.string { data := #[48] })), none, []⟩] none [2])
 .ret) .skip))
 k11_limbs_Print)))
def a_limbs_Print : AFunc := ⟨72, [.tmp 2], b_limbs_Print⟩

def j0_bits_Len32 : IR :=
 (.seq (.reg 7 [⟨some 13, .move (.t 2), none, []⟩,
  ⟨some 14, .move (.t 0), none, [0]⟩,
  ⟨some 15, .conv 47 5 (.int .u8) (.t 14), none, [14]⟩,
  ⟨some 16, .index 9 .str none (.c (Value.string { data := #[0, 1, 2, 2, 3, 3, 3, 3, 4, 4, 4, 4, 4, 4, 4, 4, 5, 5, 5, 5, 5, 5, 5, 5, 5, 5, 5, 5, 5, 5, 5, 5, 6, 6, 6, 6, 6, 6, 6, 6, 6, 6, 6, 6, 6, 6, 6, 6, 6, 6, 6, 6, 6, 6, 6, 6, 6, 6, 6, 6, 6, 6, 6, 6, 7, 7, 7, 7, 7, 7, 7, 7, 7, 7, 7, 7, 7, 7, 7, 7, 7, 7, 7, 7, 7, 7, 7, 7, 7, 7, 7, 7, 7, 7, 7, 7, 7, 7, 7, 7, 7, 7, 7, 7, 7, 7, 7, 7, 7, 7, 7, 7, 7, 7, 7, 7, 7, 7, 7, 7, 7, 7, 7, 7, 7, 7, 7, 7, 8, 8, 8, 8, 8, 8, 8, 8, 8, 8, 8, 8, 8, 8, 8, 8, 8, 8, 8, 8, 8, 8, 8, 8, 8, 8, 8, 8, 8, 8, 8, 8, 8, 8, 8, 8, 8, 8, 8, 8, 8, 8, 8, 8, 8, 8, 8, 8, 8, 8, 8, 8, 8, 8, 8, 8, 8, 8, 8, 8, 8, 8, 8, 8, 8, 8, 8, 8, 8, 8, 8, 8, 8, 8, 8, 8, 8, 8, 8, 8, 8, 8, 8, 8, 8, 8, 8, 8, 8, 8, 8, 8, 8, 8, 8, 8, 8, 8, 8, 8, 8, 8, 8, 8, 8, 8, 8, 8, 8, 8, 8, 8, 8, 8, 8, 8, 8, 8, 8, 8, 8, 8, 8, 8, 8, 8, 8, 8] })) (.t 15), none, [15]⟩,
  ⟨some 17, .conv 5 3 (.int .i64) (.t 16), none, [16]⟩,
  ⟨some 18, .bin .add 3 (.t 13) (.t 17) 3, none, [13, 17]⟩,
  ⟨some 2, .assign (.t 18), none, [18]⟩] none [2])
 .ret)
def k0_bits_Len32 : IR := .tail [0, 2] j0_bits_Len32
def j1_bits_Len32 : IR :=
 (.seq (.seq (.reg 4 [⟨some 7, .move (.t 0), none, []⟩,
  ⟨some 8, .bin .geq 47 (.t 7) (.c (Value.int IntKind.u32 256)) 47, none, [7]⟩] none [0, 2, 8])
 (.cond [0, 2] (.t 8) (.seq (.reg 5 [⟨some 9, .move (.t 0), none, []⟩,
  ⟨some 10, .bin .shr 47 (.t 9) (.c (Value.int IntKind.u64 8)) 72, none, [9]⟩,
  ⟨some 0, .assign (.t 10), none, [10]⟩] none [0, 2])
 (.reg 6 [⟨some 11, .move (.t 2), none, []⟩,
  ⟨some 12, .bin .add 3 (.t 11) (.c (Value.int IntKind.i64 8)) 3, none, [11]⟩,
  ⟨some 2, .assign (.t 12), none, [12]⟩] none [0, 2])) .skip))
 k0_bits_Len32)
def k1_bits_Len32 : IR := .tail [0, 2] j1_bits_Len32
def b_bits_Len32 : IR :=
 (.seq (.reg 0 [⟨some 2, .assign (.c (Value.int IntKind.i64 0)), none, []⟩] none [0, 2])
 (.seq (.seq (.reg 1 [⟨some 3, .move (.t 0), none, []⟩,
  ⟨some 4, .bin .geq 47 (.t 3) (.c (Value.int IntKind.u32 65536)) 47, none, [3]⟩] none [0, 2, 4])
 (.cond [0, 2] (.t 4) (.seq (.reg 2 [⟨some 5, .move (.t 0), none, []⟩,
  ⟨some 6, .bin .shr 47 (.t 5) (.c (Value.int IntKind.u64 16)) 72, none, [5]⟩,
  ⟨some 0, .assign (.t 6), none, [6]⟩] none [0])
 (.reg 3 [⟨some 2, .assign (.c (Value.int IntKind.i64 16)), none, []⟩] none [0, 2])) .skip))
 k1_bits_Len32))
def a_bits_Len32 : AFunc := ⟨19, [.tmp 2], b_bits_Len32⟩

def j0_limbs_Len : IR :=
 (.seq (.reg 4 [⟨some 8, .move (.t 0), none, []⟩,
  ⟨some 9, .len 32 false (.t 8), none, [8]⟩,
  ⟨some 10, .bin .sub 3 (.t 9) (.c (Value.int IntKind.i64 1)) 3, none, [9]⟩,
  ⟨some 11, .bin .mul 3 (.c (Value.int IntKind.i64 32)) (.t 10) 3, none, [10]⟩,
  ⟨some 12, .move (.t 0), none, []⟩,
  ⟨some 13, .move (.t 0), none, []⟩,
  ⟨some 14, .len 32 false (.t 13), none, [13]⟩,
  ⟨some 15, .bin .sub 3 (.t 14) (.c (Value.int IntKind.i64 1)) 3, none, [14]⟩,
  ⟨some 16, .iaddr 32 (.sl 1) (.t 12) (.t 15), none, []⟩,
  ⟨some 17, .load 47 none (.t 16), none, [0, 4, 12, 15, 16]⟩,
  ⟨some 18, .call n_bits_Len32 [(.t 17)] [47], none, [17]⟩,
  ⟨some 19, .bin .add 3 (.t 11) (.t 18) 3, none, [11, 18]⟩,
  ⟨some 2, .assign (.t 19), none, [19]⟩] none [2])
 .ret)
def k0_limbs_Len : IR := .tail [0, 4] j0_limbs_Len
def b_limbs_Len : IR :=
 (.seq (.reg 0 [⟨some 2, .assign (.c (Value.int IntKind.i64 0)), none, [2]⟩] none [0, 4])
 (.seq (.reg 1 [⟨some 3, .move (.t 0), none, []⟩,
  ⟨some 4, .call n_limbs_trim [(.t 3)] [32], none, [3]⟩,
  ⟨some 0, .assign (.t 4), none, []⟩] none [0, 4])
 (.seq (.seq (.reg 2 [⟨some 5, .move (.t 0), none, []⟩,
  ⟨some 6, .len 32 false (.t 5), none, [5]⟩,
  ⟨some 7, .bin .eql 3 (.t 6) (.c (Value.int IntKind.i64 0)) 3, none, [6]⟩] none [0, 4, 7])
 (.cond [0, 4] (.t 7) (.seq (.reg 3 [⟨some 2, .assign (.c (Value.int IntKind.i64 0)), none, []⟩] none [2])
 .ret) .skip))
 k0_limbs_Len)))
def a_limbs_Len : AFunc := ⟨20, [.tmp 2], b_limbs_Len⟩

def j0_limbs_Mul : IR :=
 (.reg 13 [⟨some 59, .bin .add 3 (.t 26) (.c (Value.int IntKind.i64 1)) 3, none, []⟩,
  ⟨some 26, .move (.t 59), none, [59]⟩] none [0, 1, 5, 6, 7, 10, 12, 18, 20, 21, 25, 26])
def k0_limbs_Mul : IR := .tail [0, 1, 5, 6, 7, 10, 12, 18, 20, 21, 25, 26] j0_limbs_Mul
def j1_limbs_Mul : IR :=
 (.seq (.block 3 (.seq (.reg 9 [⟨some 28, .move (.t 26), none, []⟩,
  ⟨some 8, .assign (.t 28), none, [28]⟩] none [0, 1, 5, 6, 7, 8, 10, 12, 18, 20, 21, 25, 26])
 (.seq (.reg 10 [⟨some 29, .move (.t 7), none, []⟩,
  ⟨some 30, .move (.t 0), none, []⟩,
  ⟨some 31, .move (.t 6), none, []⟩,
  ⟨some 32, .iaddr 32 (.sl 1) (.t 30) (.t 31), none, []⟩,
  ⟨some 33, .load 47 none (.t 32), none, [30, 31, 32]⟩,
  ⟨some 34, .conv 47 49 (.int .u64) (.t 33), none, [33]⟩,
  ⟨some 35, .move (.t 1), none, []⟩,
  ⟨some 36, .move (.t 8), none, []⟩,
  ⟨some 37, .iaddr 32 (.sl 1) (.t 35) (.t 36), none, []⟩,
  ⟨some 38, .load 47 none (.t 37), none, [35, 36, 37]⟩,
  ⟨some 39, .conv 47 49 (.int .u64) (.t 38), none, [38]⟩,
  ⟨some 40, .bin .mul 49 (.t 34) (.t 39) 49, none, [34, 39]⟩,
  ⟨some 41, .move (.t 5), none, []⟩,
  ⟨some 42, .move (.t 6), none, []⟩,
  ⟨some 43, .move (.t 8), none, []⟩,
  ⟨some 44, .bin .add 3 (.t 42) (.t 43) 3, none, [42, 43]⟩,
  ⟨some 45, .iaddr 32 (.sl 1) (.t 41) (.t 44), none, []⟩,
  ⟨some 46, .load 47 none (.t 45), none, [41, 44, 45]⟩,
  ⟨some 47, .conv 47 49 (.int .u64) (.t 46), none, [46]⟩,
  ⟨some 48, .bin .add 49 (.t 40) (.t 47) 49, none, [40, 47]⟩,
  ⟨some 49, .bin .add 49 (.t 29) (.t 48) 49, none, [29, 48]⟩,
  ⟨some 7, .assign (.t 49), none, [49]⟩] (some (.cons ⟨0, []⟩ (.cons ⟨1, []⟩ (.cons ⟨2, []⟩ (.cons ⟨3, []⟩ (.cons ⟨6, []⟩ (.cons ⟨7, []⟩ (.cons ⟨8, []⟩ (.cons ⟨12, []⟩ (.cons ⟨13, []⟩ (.cons ⟨14, []⟩ (.cons ⟨15, []⟩ (.cons ⟨16, []⟩ (.cons ⟨4, []⟩ (.cons ⟨5, []⟩ (.cons ⟨9, []⟩ (.cons ⟨10, []⟩ (.cons ⟨11, []⟩ (.cons ⟨17, []⟩ (.cons ⟨18, []⟩ (.cons ⟨19, []⟩ (.cons ⟨20, []⟩ (.cons ⟨21, []⟩ .nil))))))))))))))))))))))) [0, 1, 5, 6, 7, 8, 10, 12, 18, 20, 21, 25, 26])
 (.seq (.reg 11 [⟨some 50, .move (.t 5), none, []⟩,
  ⟨some 51, .move (.t 6), none, []⟩,
  ⟨some 52, .move (.t 8), none, [8]⟩,
  ⟨some 53, .bin .add 3 (.t 51) (.t 52) 3, none, [51, 52]⟩,
  ⟨some 54, .move (.t 7), none, []⟩,
  ⟨some 55, .call n_limbs_low [(.t 54)] [49], none, [54]⟩,
  ⟨some 56, .iaddr 32 (.sl 1) (.t 50) (.t 53), none, []⟩,
  ⟨none, .store 47 none (.t 56) (.t 55), none, [50, 53, 55, 56]⟩] none [0, 1, 5, 6, 7, 10, 12, 18, 20, 21, 25, 26])
 (.reg 12 [⟨some 57, .move (.t 7), none, []⟩,
  ⟨some 58, .call n_limbs_high [(.t 57)] [49], none, [57]⟩,
  ⟨some 7, .assign (.t 58), none, [58]⟩] none [0, 1, 5, 6, 7, 10, 12, 18, 20, 21, 25, 26])))))
 k0_limbs_Mul)
def k1_limbs_Mul : IR := .tail [0, 1, 5, 6, 7, 10, 12, 18, 20, 21, 25, 26] j1_limbs_Mul
def w1_limbs_Mul : IR :=
 (.seq (.reg 8 [⟨some 27, .bin .lss 3 (.t 26) (.t 25) 3, none, []⟩] none [0, 1, 5, 6, 7, 10, 12, 18, 20, 21, 25, 26, 27])
 (.seq (.cond [0, 1, 5, 6, 7, 10, 12, 18, 20, 21, 25, 26] (.t 27) .skip (.exit 2))
 k1_limbs_Mul))
def l1_limbs_Mul : IR := .loop [0, 1, 5, 6, 7, 10, 12, 18, 20, 21, 25, 26] w1_limbs_Mul
def j2_limbs_Mul : IR :=
 (.reg 14 [⟨some 60, .move (.t 5), none, []⟩,
  ⟨some 61, .move (.t 6), none, [6]⟩,
  ⟨some 62, .move (.t 1), none, []⟩,
  ⟨some 63, .len 32 false (.t 62), none, [62]⟩,
  ⟨some 64, .bin .add 3 (.t 61) (.t 63) 3, none, [61, 63]⟩,
  ⟨some 65, .move (.t 7), none, [7]⟩,
  ⟨some 66, .conv 49 47 (.int .u32) (.t 65), none, [65]⟩,
  ⟨some 67, .iaddr 32 (.sl 1) (.t 60) (.t 64), none, []⟩,
  ⟨none, .store 47 none (.t 67) (.t 66), none, [60, 64, 66, 67]⟩] none [0, 1, 5, 10, 12, 18, 20, 21])
def k2_limbs_Mul : IR := .tail [0, 1, 5, 6, 7, 10, 12, 18, 20, 21] j2_limbs_Mul
def j3_limbs_Mul : IR :=
 (.reg 15 [⟨some 68, .bin .add 3 (.t 21) (.c (Value.int IntKind.i64 1)) 3, none, []⟩,
  ⟨some 21, .move (.t 68), none, [68]⟩] none [0, 1, 5, 10, 12, 18, 20, 21])
def k3_limbs_Mul : IR := .tail [0, 1, 5, 10, 12, 18, 20, 21] j3_limbs_Mul
def j4_limbs_Mul : IR :=
 (.seq (.block 1 (.seq (.reg 5 [⟨some 23, .move (.t 21), none, []⟩,
  ⟨some 6, .assign (.t 23), none, [23]⟩] none [0, 1, 5, 6, 10, 12, 18, 20, 21])
 (.seq (.reg 6 [⟨some 7, .assign (.c (Value.int IntKind.u64 0)), none, []⟩] none [0, 1, 5, 6, 7, 10, 12, 18, 20, 21])
 (.seq (.seq (.reg 7 [⟨some 24, .move (.t 1), none, []⟩,
  ⟨some 25, .len 32 false (.t 24), none, [24]⟩,
  ⟨some 26, .move (.c (Value.int IntKind.i64 0)), none, []⟩] none [0, 1, 5, 6, 7, 10, 12, 18, 20, 21, 25, 26])
 (.block 2 l1_limbs_Mul))
 k2_limbs_Mul))))
 k3_limbs_Mul)
def k4_limbs_Mul : IR := .tail [0, 1, 5, 10, 12, 18, 20, 21] j4_limbs_Mul
def w0_limbs_Mul : IR :=
 (.seq (.reg 4 [⟨some 22, .bin .lss 3 (.t 21) (.t 20) 3, none, []⟩] none [0, 1, 5, 10, 12, 18, 20, 21, 22])
 (.seq (.cond [0, 1, 5, 10, 12, 18, 20, 21] (.t 22) .skip (.exit 0))
 k4_limbs_Mul))
def l0_limbs_Mul : IR := .loop [0, 1, 5, 10, 12, 18, 20, 21] w0_limbs_Mul
def j5_limbs_Mul : IR :=
 (.seq (.reg 16 [⟨some 69, .move (.t 5), none, []⟩,
  ⟨some 70, .call n_limbs_trim [(.t 69)] [32], none, [5, 18, 69]⟩,
  ⟨some 4, .assign (.t 70), none, []⟩] none [4, 70])
 .ret)
def k5_limbs_Mul : IR := .tail [5, 18] j5_limbs_Mul
def b_limbs_Mul : IR :=
 (.seq (.reg 0 [⟨some 4, .assign (.nilS 1), none, [4]⟩] none [0, 1, 10, 12])
 (.seq (.reg 1 [⟨some 9, .move (.t 0), none, []⟩,
  ⟨some 10, .call n_limbs_trim [(.t 9)] [32], none, [9]⟩,
  ⟨some 11, .move (.t 1), none, []⟩,
  ⟨some 12, .call n_limbs_trim [(.t 11)] [32], none, [11]⟩,
  ⟨some 0, .assign (.t 10), none, []⟩,
  ⟨some 1, .assign (.t 12), none, []⟩] none [0, 1, 10, 12])
 (.seq (.reg 2 [⟨some 13, .move (.t 0), none, []⟩,
  ⟨some 14, .len 32 false (.t 13), none, [13]⟩,
  ⟨some 15, .move (.t 1), none, []⟩,
  ⟨some 16, .len 32 false (.t 15), none, [15]⟩,
  ⟨some 17, .bin .add 3 (.t 14) (.t 16) 3, none, [14, 16]⟩,
  ⟨some 18, .mk 32 1 4 (.v (.int .u32 0)) (.t 17) (.t 17), none, [17]⟩,
  ⟨some 5, .assign (.t 18), none, []⟩] none [0, 1, 5, 10, 12, 18])
 (.seq (.seq (.reg 3 [⟨some 19, .move (.t 0), none, []⟩,
  ⟨some 20, .len 32 false (.t 19), none, [19]⟩,
  ⟨some 21, .move (.c (Value.int IntKind.i64 0)), none, []⟩] none [0, 1, 5, 10, 12, 18, 20, 21])
 (.block 0 l0_limbs_Mul))
 k5_limbs_Mul))))
def a_limbs_Mul : AFunc := ⟨71, [.tmp 4], b_limbs_Mul⟩

def j0_limbs_Pow : IR :=
 (.reg 8 [⟨some 22, .move (.t 7), none, []⟩,
  ⟨some 23, .bin .sub 3 (.t 22) (.c (Value.int IntKind.i64 1)) 3, none, [22]⟩,
  ⟨some 7, .assign (.t 23), none, [23]⟩] none [0, 1, 6, 7, 19, 26, 34])
def k0_limbs_Pow : IR := .tail [0, 1, 6, 7, 19, 26, 34] j0_limbs_Pow
def j1_limbs_Pow : IR :=
 (.seq (.block 1 (.seq (.reg 9 [⟨some 24, .move (.t 6), none, []⟩,
  ⟨some 25, .move (.t 6), none, []⟩,
  ⟨some 26, .call n_limbs_Mul [(.t 24), (.t 25)] [32, 32], none, [24, 25]⟩,
  ⟨some 6, .assign (.t 26), none, []⟩] none [0, 1, 6, 7, 19, 26, 34])
 (.seq (.reg 10 [⟨some 27, .move (.t 1), none, []⟩,
  ⟨some 28, .move (.t 7), none, []⟩,
  ⟨some 29, .bin .shr 3 (.t 27) (.t 28) 3, none, [27, 28]⟩,
  ⟨some 30, .bin .and 3 (.t 29) (.c (Value.int IntKind.i64 1)) 3, none, [29]⟩,
  ⟨some 31, .bin .eql 3 (.t 30) (.c (Value.int IntKind.i64 1)) 3, none, [30]⟩] none [0, 1, 6, 7, 19, 26, 31, 34])
 (.cond [0, 1, 6, 7, 19, 26, 34] (.t 31) (.reg 11 [⟨some 32, .move (.t 6), none, []⟩,
  ⟨some 33, .move (.t 0), none, []⟩,
  ⟨some 34, .call n_limbs_Mul [(.t 32), (.t 33)] [32, 32], none, [32, 33]⟩,
  ⟨some 6, .assign (.t 34), none, []⟩] none [0, 1, 6, 7, 19, 26, 34]) .skip))))
 k0_limbs_Pow)
def k1_limbs_Pow : IR := .tail [0, 1, 6, 7, 19, 26, 34] j1_limbs_Pow
def w0_limbs_Pow : IR :=
 (.seq (.seq (.reg 7 [⟨some 20, .move (.t 7), none, []⟩,
  ⟨some 21, .bin .geq 3 (.t 20) (.c (Value.int IntKind.i64 0)) 3, none, [20]⟩] none [0, 1, 6, 7, 19, 21, 26, 34])
 (.cond [0, 1, 6, 7, 19, 26, 34] (.t 21) .skip (.exit 0)))
 k1_limbs_Pow)
def l0_limbs_Pow : IR := .loop [0, 1, 6, 7, 19, 26, 34] w0_limbs_Pow
def j2_limbs_Pow : IR :=
 (.seq (.reg 12 [⟨some 35, .move (.t 6), none, []⟩,
  ⟨some 4, .assign (.t 35), none, []⟩,
  ⟨some 5, .assign (.c (Value.int IntKind.i64 0)), none, []⟩] none [4, 5, 6, 19, 26, 34, 35])
 .ret)
def k2_limbs_Pow : IR := .tail [6, 19, 26, 34] j2_limbs_Pow
def j3_limbs_Pow : IR :=
 (.seq (.reg 5 [⟨some 19, .lit 32 1 [(.c (Value.int IntKind.u32 1))], none, []⟩,
  ⟨some 6, .assign (.t 19), none, []⟩] none [0, 1, 6, 19, 26, 34])
 (.seq (.seq (.reg 6 [⟨some 7, .assign (.c (Value.int IntKind.i64 16)), none, []⟩] none [0, 1, 6, 7, 19, 26, 34])
 (.block 0 l0_limbs_Pow))
 k2_limbs_Pow))
def k3_limbs_Pow : IR := .tail [0, 1] j3_limbs_Pow
def j4_limbs_Pow : IR :=
 (.seq (.seq (.reg 3 [⟨some 14, .move (.t 0), none, []⟩,
  ⟨some 15, .call n_limbs_Len [(.t 14)] [32], none, [14]⟩,
  ⟨some 16, .move (.t 1), none, []⟩,
  ⟨some 17, .bin .mul 3 (.t 15) (.t 16) 3, none, [15, 16]⟩,
  ⟨some 18, .bin .gtr 3 (.t 17) (.c (Value.int IntKind.i64 65536)) 3, none, [17]⟩] none [0, 1, 18])
 (.cond [0, 1] (.t 18) (.seq (.reg 4 [⟨some 4, .assign (.nilS 1), none, []⟩,
  ⟨some 5, .assign (.c (Value.int IntKind.i64 3)), none, []⟩] none [4, 5, 6, 19, 26, 34, 35])
 .ret) .skip))
 k3_limbs_Pow)
def k4_limbs_Pow : IR := .tail [0, 1] j4_limbs_Pow
def b_limbs_Pow : IR :=
 (.seq (.reg 0 [⟨some 4, .assign (.nilS 1), none, [4]⟩,
  ⟨some 5, .assign (.c (Value.int IntKind.i64 0)), none, [5]⟩] none [0, 1])
 (.seq (.seq (.reg 1 [⟨some 8, .move (.t 1), none, []⟩,
  ⟨some 9, .bin .lss 3 (.t 8) (.c (Value.int IntKind.i64 0)) 3, none, [8]⟩,
  ⟨some 10, .move (.t 9), none, [9]⟩,
  ⟨some 11, .move (.t 1), some (2, false), []⟩,
  ⟨some 12, .bin .gtr 3 (.t 11) (.c (Value.int IntKind.i64 65536)) 3, some (2, false), [11]⟩,
  ⟨some 13, .pick (.t 10) (.c (Value.bool true)) (.t 12), none, [10, 12]⟩] none [0, 1, 13])
 (.cond [0, 1] (.t 13) (.seq (.reg 2 [⟨some 4, .assign (.nilS 1), none, []⟩,
  ⟨some 5, .assign (.c (Value.int IntKind.i64 2)), none, []⟩] none [4, 5, 6, 19, 26, 34, 35])
 .ret) .skip))
 k4_limbs_Pow))
def a_limbs_Pow : AFunc := ⟨36, [.tmp 4, .tmp 5], b_limbs_Pow⟩

def j0_limbs_Cmp : IR :=
 (.seq (.reg 5 [⟨some 4, .assign (.c (Value.int IntKind.i64 1)), none, []⟩] none [4])
 .ret)
def k0_limbs_Cmp : IR := .tail [] j0_limbs_Cmp
def j1_limbs_Cmp : IR :=
 (.reg 8 [⟨some 25, .move (.t 5), none, []⟩,
  ⟨some 26, .bin .sub 3 (.t 25) (.c (Value.int IntKind.i64 1)) 3, none, [25]⟩,
  ⟨some 5, .assign (.t 26), none, [26]⟩] none [0, 1, 5, 7, 9])
def k1_limbs_Cmp : IR := .tail [0, 1, 5, 7, 9] j1_limbs_Cmp
def j2_limbs_Cmp : IR :=
 (.seq (.block 1 (.block 2 (.seq (.reg 9 [⟨some 28, .move (.t 0), none, []⟩,
  ⟨some 29, .move (.t 5), none, []⟩,
  ⟨some 30, .iaddr 32 (.sl 1) (.t 28) (.t 29), none, []⟩,
  ⟨some 31, .load 47 none (.t 30), none, [28, 29, 30]⟩,
  ⟨some 32, .move (.t 1), none, []⟩,
  ⟨some 33, .move (.t 5), none, []⟩,
  ⟨some 34, .iaddr 32 (.sl 1) (.t 32) (.t 33), none, []⟩,
  ⟨some 35, .load 47 none (.t 34), none, [32, 33, 34]⟩,
  ⟨some 36, .bin .lss 47 (.t 31) (.t 35) 47, none, [31, 35]⟩,
  ⟨some 27, .assign (.t 36), none, [36]⟩] (some (.cons ⟨0, []⟩ (.cons ⟨1, []⟩ (.cons ⟨2, []⟩ (.cons ⟨4, []⟩ (.cons ⟨5, []⟩ (.cons ⟨6, []⟩ (.cons ⟨3, []⟩ (.cons ⟨7, []⟩ (.cons ⟨8, []⟩ (.cons ⟨9, []⟩ .nil))))))))))) [0, 1, 5, 7, 9, 27])
 (.cond [0, 1, 5, 7, 9] (.t 27) (.seq (.reg 10 [⟨some 4, .assign (.c (Value.int IntKind.i64 (-1))), none, []⟩] none [4])
 .ret) (.seq (.reg 11 [⟨some 38, .move (.t 0), none, []⟩,
  ⟨some 39, .move (.t 5), none, []⟩,
  ⟨some 40, .iaddr 32 (.sl 1) (.t 38) (.t 39), none, []⟩,
  ⟨some 41, .load 47 none (.t 40), none, [38, 39, 40]⟩,
  ⟨some 42, .move (.t 1), none, []⟩,
  ⟨some 43, .move (.t 5), none, []⟩,
  ⟨some 44, .iaddr 32 (.sl 1) (.t 42) (.t 43), none, []⟩,
  ⟨some 45, .load 47 none (.t 44), none, [42, 43, 44]⟩,
  ⟨some 46, .bin .gtr 47 (.t 41) (.t 45) 47, none, [41, 45]⟩,
  ⟨some 37, .assign (.t 46), none, [46]⟩] (some (.cons ⟨0, []⟩ (.cons ⟨1, []⟩ (.cons ⟨2, []⟩ (.cons ⟨4, []⟩ (.cons ⟨5, []⟩ (.cons ⟨6, []⟩ (.cons ⟨3, []⟩ (.cons ⟨7, []⟩ (.cons ⟨8, []⟩ (.cons ⟨9, []⟩ .nil))))))))))) [0, 1, 5, 7, 9, 37])
 (.cond [0, 1, 5, 7, 9] (.t 37) (.seq (.reg 12 [⟨some 4, .assign (.c (Value.int IntKind.i64 1)), none, []⟩] none [4])
 .ret) .skip))))))
 k1_limbs_Cmp)
def k2_limbs_Cmp : IR := .tail [0, 1, 5, 7, 9] j2_limbs_Cmp
def w0_limbs_Cmp : IR :=
 (.seq (.seq (.reg 7 [⟨some 23, .move (.t 5), none, []⟩,
  ⟨some 24, .bin .geq 3 (.t 23) (.c (Value.int IntKind.i64 0)) 3, none, [23]⟩] none [0, 1, 5, 7, 9, 24])
 (.cond [0, 1, 5, 7, 9] (.t 24) .skip (.exit 0)))
 k2_limbs_Cmp)
def l0_limbs_Cmp : IR := .loop [0, 1, 5, 7, 9] w0_limbs_Cmp
def j3_limbs_Cmp : IR :=
 (.seq (.reg 13 [⟨some 4, .assign (.c (Value.int IntKind.i64 0)), none, []⟩] none [4])
 .ret)
def k3_limbs_Cmp : IR := .tail [] j3_limbs_Cmp
def j4_limbs_Cmp : IR :=
 (.seq (.seq (.reg 6 [⟨some 20, .move (.t 0), none, []⟩,
  ⟨some 21, .len 32 false (.t 20), none, [20]⟩,
  ⟨some 22, .bin .sub 3 (.t 21) (.c (Value.int IntKind.i64 1)) 3, none, [21]⟩,
  ⟨some 5, .assign (.t 22), none, [22]⟩] none [0, 1, 5, 7, 9])
 (.block 0 l0_limbs_Cmp))
 k3_limbs_Cmp)
def k4_limbs_Cmp : IR := .tail [0, 1, 7, 9] j4_limbs_Cmp
def b_limbs_Cmp : IR :=
 (.seq (.reg 0 [⟨some 4, .assign (.c (Value.int IntKind.i64 0)), none, [4]⟩] none [0, 1, 7, 9])
 (.seq (.reg 1 [⟨some 6, .move (.t 0), none, []⟩,
  ⟨some 7, .call n_limbs_trim [(.t 6)] [32], none, [6]⟩,
  ⟨some 8, .move (.t 1), none, []⟩,
  ⟨some 9, .call n_limbs_trim [(.t 8)] [32], none, [8]⟩,
  ⟨some 0, .assign (.t 7), none, []⟩,
  ⟨some 1, .assign (.t 9), none, []⟩] none [0, 1, 7, 9])
 (.seq (.seq (.reg 2 [⟨some 10, .move (.t 0), none, []⟩,
  ⟨some 11, .len 32 false (.t 10), none, [10]⟩,
  ⟨some 12, .move (.t 1), none, []⟩,
  ⟨some 13, .len 32 false (.t 12), none, [12]⟩,
  ⟨some 14, .bin .neq 3 (.t 11) (.t 13) 3, none, [11, 13]⟩] none [0, 1, 7, 9, 14])
 (.cond [0, 1, 7, 9] (.t 14) (.seq (.seq (.reg 3 [⟨some 15, .move (.t 0), none, []⟩,
  ⟨some 16, .len 32 false (.t 15), none, [0, 7, 15]⟩,
  ⟨some 17, .move (.t 1), none, []⟩,
  ⟨some 18, .len 32 false (.t 17), none, [1, 9, 17]⟩,
  ⟨some 19, .bin .lss 3 (.t 16) (.t 18) 3, none, [16, 18]⟩] none [19])
 (.cond [] (.t 19) (.seq (.reg 4 [⟨some 4, .assign (.c (Value.int IntKind.i64 (-1))), none, []⟩] none [4])
 .ret) .skip))
 k0_limbs_Cmp) .skip))
 k4_limbs_Cmp)))
def a_limbs_Cmp : AFunc := ⟨47, [.tmp 4], b_limbs_Cmp⟩

def b_limbs_From : IR :=
 (.seq (.reg 0 [⟨some 2, .assign (.nilS 1), none, [2]⟩] none [0])
 (.seq (.reg 1 [⟨some 3, .move (.t 0), none, []⟩,
  ⟨some 4, .call n_limbs_low [(.t 3)] [49], none, [3]⟩,
  ⟨some 5, .move (.t 0), none, [0]⟩,
  ⟨some 6, .call n_limbs_high [(.t 5)] [49], none, [5]⟩,
  ⟨some 7, .conv 49 47 (.int .u32) (.t 6), none, [6]⟩,
  ⟨some 8, .lit 32 1 [(.t 4), (.t 7)], none, [4, 7]⟩,
  ⟨some 9, .call n_limbs_trim [(.t 8)] [32], none, [8]⟩,
  ⟨some 2, .assign (.t 9), none, []⟩] none [2, 9])
 .ret))
def a_limbs_From : AFunc := ⟨10, [.tmp 2], b_limbs_From⟩

def b_bits_LeadingZeros32 : IR :=
 (.seq (.reg 0 [⟨some 2, .assign (.c (Value.int IntKind.i64 0)), none, [2]⟩] none [0])
 (.seq (.reg 1 [⟨some 3, .move (.t 0), none, [0]⟩,
  ⟨some 4, .call n_bits_Len32 [(.t 3)] [47], none, [3]⟩,
  ⟨some 5, .bin .sub 3 (.c (Value.int IntKind.i64 32)) (.t 4) 3, none, [4]⟩,
  ⟨some 2, .assign (.t 5), none, [5]⟩] none [2])
 .ret))
def a_bits_LeadingZeros32 : AFunc := ⟨6, [.tmp 2], b_bits_LeadingZeros32⟩

def j0_limbs_up : IR :=
 (.reg 12 [⟨some 43, .bin .add 3 (.t 25) (.c (Value.int IntKind.i64 1)) 3, none, []⟩,
  ⟨some 25, .move (.t 43), none, [43]⟩] none [0, 1, 5, 6, 10, 22, 23, 24, 25, 40])
def k0_limbs_up : IR := .tail [0, 1, 5, 6, 10, 22, 23, 24, 25, 40] j0_limbs_up
def j1_limbs_up : IR :=
 (.seq (.block 1 (.seq (.reg 8 [⟨some 27, .iaddr 32 (.sl 1) (.t 23) (.t 25), none, []⟩,
  ⟨some 28, .load 47 none (.t 27), none, [27]⟩,
  ⟨some 8, .assign (.t 28), none, [28]⟩] none [0, 1, 5, 6, 8, 10, 22, 23, 24, 25, 40])
 (.seq (.reg 9 [⟨some 29, .move (.t 6), none, []⟩,
  ⟨some 30, .move (.t 8), none, [8]⟩,
  ⟨some 31, .conv 47 49 (.int .u64) (.t 30), none, [30]⟩,
  ⟨some 32, .move (.t 1), none, []⟩,
  ⟨some 33, .bin .rem 3 (.t 32) (.c (Value.int IntKind.i64 32)) 3, none, [32]⟩,
  ⟨some 34, .bin .shl 49 (.t 31) (.t 33) 3, none, [31, 33]⟩,
  ⟨some 35, .bin .or 49 (.t 29) (.t 34) 49, none, [29, 34]⟩,
  ⟨some 6, .assign (.t 35), none, [35]⟩] none [0, 1, 5, 6, 10, 22, 23, 24, 25, 40])
 (.seq (.reg 10 [⟨some 36, .move (.t 5), none, []⟩,
  ⟨some 37, .move (.t 6), none, []⟩,
  ⟨some 38, .call n_limbs_low [(.t 37)] [49], none, [37]⟩,
  ⟨some 39, .lit 32 1 [(.t 38)], none, [38]⟩,
  ⟨some 40, .append 32 32 false 1 4 (.t 36) (.t 39), none, [36, 39]⟩,
  ⟨some 5, .assign (.t 40), none, []⟩] none [0, 1, 5, 6, 10, 22, 23, 24, 25, 40])
 (.reg 11 [⟨some 41, .move (.t 6), none, []⟩,
  ⟨some 42, .call n_limbs_high [(.t 41)] [49], none, [41]⟩,
  ⟨some 6, .assign (.t 42), none, [42]⟩] none [0, 1, 5, 6, 10, 22, 23, 24, 25, 40])))))
 k0_limbs_up)
def k1_limbs_up : IR := .tail [0, 1, 5, 6, 10, 22, 23, 24, 25, 40] j1_limbs_up
def w0_limbs_up : IR :=
 (.seq (.reg 7 [⟨some 26, .bin .lss 3 (.t 25) (.t 24) 3, none, []⟩] none [0, 1, 5, 6, 10, 22, 23, 24, 25, 26, 40])
 (.seq (.cond [0, 1, 5, 6, 10, 22, 23, 24, 25, 40] (.t 26) .skip (.exit 0))
 k1_limbs_up))
def l0_limbs_up : IR := .loop [0, 1, 5, 6, 10, 22, 23, 24, 25, 40] w0_limbs_up
def j2_limbs_up : IR :=
 (.seq (.reg 13 [⟨some 44, .move (.t 5), none, []⟩,
  ⟨some 45, .move (.t 6), none, [6]⟩,
  ⟨some 46, .conv 49 47 (.int .u32) (.t 45), none, [45]⟩,
  ⟨some 47, .lit 32 1 [(.t 46)], none, [46]⟩,
  ⟨some 48, .append 32 32 false 1 4 (.t 44) (.t 47), none, [5, 22, 40, 44, 47]⟩,
  ⟨some 49, .call n_limbs_trim [(.t 48)] [32], none, [48]⟩,
  ⟨some 4, .assign (.t 49), none, []⟩] none [4, 49])
 .ret)
def k2_limbs_up : IR := .tail [5, 6, 22, 40] j2_limbs_up
def j3_limbs_up : IR :=
 (.seq (.reg 4 [⟨some 14, .move (.t 1), none, []⟩,
  ⟨some 15, .bin .quo 3 (.t 14) (.c (Value.int IntKind.i64 32)) 3, none, [14]⟩,
  ⟨some 16, .move (.t 1), none, []⟩,
  ⟨some 17, .bin .quo 3 (.t 16) (.c (Value.int IntKind.i64 32)) 3, none, [16]⟩,
  ⟨some 18, .move (.t 0), none, []⟩,
  ⟨some 19, .len 32 false (.t 18), none, [18]⟩,
  ⟨some 20, .bin .add 3 (.t 17) (.t 19) 3, none, [17, 19]⟩,
  ⟨some 21, .bin .add 3 (.t 20) (.c (Value.int IntKind.i64 1)) 3, none, [20]⟩,
  ⟨some 22, .mk 32 1 4 (.v (.int .u32 0)) (.t 15) (.t 21), none, [15, 21]⟩,
  ⟨some 5, .assign (.t 22), none, []⟩] none [0, 1, 5, 10, 22, 40])
 (.seq (.reg 5 [⟨some 6, .assign (.c (Value.int IntKind.u64 0)), none, []⟩] none [0, 1, 5, 6, 10, 22, 40])
 (.seq (.seq (.reg 6 [⟨some 23, .move (.t 0), none, []⟩,
  ⟨some 24, .len 32 false (.t 23), none, []⟩,
  ⟨some 25, .move (.c (Value.int IntKind.i64 0)), none, []⟩] none [0, 1, 5, 6, 10, 22, 23, 24, 25, 40])
 (.block 0 l0_limbs_up))
 k2_limbs_up)))
def k3_limbs_up : IR := .tail [0, 1, 10] j3_limbs_up
def b_limbs_up : IR :=
 (.seq (.reg 0 [⟨some 4, .assign (.nilS 1), none, [4]⟩] none [0, 1, 10])
 (.seq (.reg 1 [⟨some 9, .move (.t 0), none, []⟩,
  ⟨some 10, .call n_limbs_trim [(.t 9)] [32], none, [9]⟩,
  ⟨some 0, .assign (.t 10), none, []⟩] none [0, 1, 10])
 (.seq (.seq (.reg 2 [⟨some 11, .move (.t 0), none, []⟩,
  ⟨some 12, .len 32 false (.t 11), none, [11]⟩,
  ⟨some 13, .bin .eql 3 (.t 12) (.c (Value.int IntKind.i64 0)) 3, none, [12]⟩] none [0, 1, 10, 13])
 (.cond [0, 1, 10] (.t 13) (.seq (.reg 3 [⟨some 4, .assign (.nilS 1), none, []⟩] none [4, 49])
 .ret) .skip))
 k3_limbs_up)))
def a_limbs_up : AFunc := ⟨50, [.tmp 4], b_limbs_up⟩

def b_bits_Sub32 : IR :=
 (.seq (.reg 0 [⟨some 6, .assign (.c (Value.int IntKind.u32 0)), none, [6]⟩,
  ⟨some 7, .assign (.c (Value.int IntKind.u32 0)), none, [7]⟩] none [0, 1, 2])
 (.seq (.reg 1 [⟨some 8, .move (.t 0), none, []⟩,
  ⟨some 9, .move (.t 1), none, []⟩,
  ⟨some 10, .bin .sub 47 (.t 8) (.t 9) 47, none, [8, 9]⟩,
  ⟨some 11, .move (.t 2), none, [2]⟩,
  ⟨some 12, .bin .sub 47 (.t 10) (.t 11) 47, none, [10, 11]⟩,
  ⟨some 6, .assign (.t 12), none, [12]⟩] none [0, 1, 6])
 (.seq (.reg 2 [⟨some 13, .move (.t 0), none, []⟩,
  ⟨some 14, .un .xor 47 (.t 13), none, [13]⟩,
  ⟨some 15, .move (.t 1), none, []⟩,
  ⟨some 16, .bin .and 47 (.t 14) (.t 15) 47, none, [14, 15]⟩,
  ⟨some 17, .move (.t 0), none, [0]⟩,
  ⟨some 18, .move (.t 1), none, [1]⟩,
  ⟨some 19, .bin .xor 47 (.t 17) (.t 18) 47, none, [17, 18]⟩,
  ⟨some 20, .un .xor 47 (.t 19), none, [19]⟩,
  ⟨some 21, .move (.t 6), none, []⟩,
  ⟨some 22, .bin .and 47 (.t 20) (.t 21) 47, none, [20, 21]⟩,
  ⟨some 23, .bin .or 47 (.t 16) (.t 22) 47, none, [16, 22]⟩,
  ⟨some 24, .bin .shr 47 (.t 23) (.c (Value.int IntKind.u64 31)) 72, none, [23]⟩,
  ⟨some 7, .assign (.t 24), none, [24]⟩] none [6, 7])
 .ret)))
def a_bits_Sub32 : AFunc := ⟨25, [.tmp 6, .tmp 7], b_bits_Sub32⟩

def b_bits_Add32 : IR :=
 (.seq (.reg 0 [⟨some 6, .assign (.c (Value.int IntKind.u32 0)), none, [6]⟩,
  ⟨some 7, .assign (.c (Value.int IntKind.u32 0)), none, [7]⟩] none [0, 1, 2])
 (.seq (.reg 1 [⟨some 9, .move (.t 0), none, [0]⟩,
  ⟨some 10, .conv 47 49 (.int .u64) (.t 9), none, [9]⟩,
  ⟨some 11, .move (.t 1), none, [1]⟩,
  ⟨some 12, .conv 47 49 (.int .u64) (.t 11), none, [11]⟩,
  ⟨some 13, .bin .add 49 (.t 10) (.t 12) 49, none, [10, 12]⟩,
  ⟨some 14, .move (.t 2), none, [2]⟩,
  ⟨some 15, .conv 47 49 (.int .u64) (.t 14), none, [14]⟩,
  ⟨some 16, .bin .add 49 (.t 13) (.t 15) 49, none, [13, 15]⟩,
  ⟨some 8, .assign (.t 16), none, [16]⟩] none [8])
 (.seq (.reg 2 [⟨some 17, .move (.t 8), none, []⟩,
  ⟨some 18, .conv 49 47 (.int .u32) (.t 17), none, [17]⟩,
  ⟨some 6, .assign (.t 18), none, [18]⟩] none [6, 8])
 (.seq (.reg 3 [⟨some 19, .move (.t 8), none, [8]⟩,
  ⟨some 20, .bin .shr 49 (.t 19) (.c (Value.int IntKind.u64 32)) 72, none, [19]⟩,
  ⟨some 21, .conv 49 47 (.int .u32) (.t 20), none, [20]⟩,
  ⟨some 7, .assign (.t 21), none, [21]⟩] none [6, 7])
 .ret))))
def a_bits_Add32 : AFunc := ⟨22, [.tmp 6, .tmp 7], b_bits_Add32⟩

def j0_limbs_long : IR :=
 (.cond [0, 1, 5, 6, 7, 8, 9, 11, 12, 24, 100000] (.t 71) (.seq (.reg 12 [⟨some 89, .move (.t 11), none, []⟩,
  ⟨some 90, .bin .sub 49 (.t 89) (.c (Value.int IntKind.u64 1)) 49, none, [89]⟩,
  ⟨some 11, .assign (.t 90), none, [90]⟩] none [0, 1, 5, 6, 7, 8, 9, 11, 12, 24, 100000])
 (.reg 13 [⟨some 91, .move (.t 12), none, []⟩,
  ⟨some 92, .move (.t 7), none, []⟩,
  ⟨some 93, .bin .add 49 (.t 91) (.t 92) 49, none, [91, 92]⟩,
  ⟨some 12, .assign (.t 93), none, [93]⟩] none [0, 1, 5, 6, 7, 8, 9, 11, 12, 24, 100000])) (.exit 2))
def k0_limbs_long : IR := .tail [0, 1, 5, 6, 7, 8, 9, 11, 12, 24, 71, 100000] j0_limbs_long
def j1_limbs_long : IR :=
 (.block 3 (.block 4 (.seq (.seq (.reg 10 [⟨some 72, .move (.t 11), none, []⟩,
  ⟨some 73, .bin .geq 49 (.t 72) (.c (Value.int IntKind.u64 4294967296)) 49, none, [72]⟩,
  ⟨some 71, .assign (.t 73), none, [73]⟩] none [0, 1, 5, 6, 7, 8, 9, 11, 12, 24, 71, 100000])
 (.cond [0, 1, 5, 6, 7, 8, 9, 11, 12, 24, 71, 100000] (.t 71) .skip (.reg 11 [⟨some 74, .move (.t 11), none, []⟩,
  ⟨some 75, .move (.t 8), none, []⟩,
  ⟨some 76, .bin .mul 49 (.t 74) (.t 75) 49, none, [74, 75]⟩,
  ⟨some 77, .move (.t 12), none, []⟩,
  ⟨some 78, .bin .shl 49 (.t 77) (.c (Value.int IntKind.u64 32)) 72, none, [77]⟩,
  ⟨some 79, .move (.t 0), none, []⟩,
  ⟨some 80, .move (.t 9), none, []⟩,
  ⟨some 81, .move (.t 5), none, []⟩,
  ⟨some 82, .bin .add 3 (.t 80) (.t 81) 3, none, [80, 81]⟩,
  ⟨some 83, .bin .sub 3 (.t 82) (.c (Value.int IntKind.i64 2)) 3, none, [82]⟩,
  ⟨some 84, .iaddr 32 (.sl 1) (.t 79) (.t 83), none, []⟩,
  ⟨some 85, .load 47 none (.t 84), none, [79, 83, 84]⟩,
  ⟨some 86, .conv 47 49 (.int .u64) (.t 85), none, [85]⟩,
  ⟨some 87, .bin .or 49 (.t 78) (.t 86) 49, none, [78, 86]⟩,
  ⟨some 88, .bin .gtr 49 (.t 76) (.t 87) 49, none, [76, 87]⟩,
  ⟨some 71, .assign (.t 88), none, [88]⟩] none [0, 1, 5, 6, 7, 8, 9, 11, 12, 24, 71, 100000])))
 k0_limbs_long)))
def k1_limbs_long : IR := .tail [0, 1, 5, 6, 7, 8, 9, 11, 12, 24, 100000] j1_limbs_long
def w1_limbs_long : IR :=
 (.seq (.seq (.reg 9 [⟨some 69, .move (.t 12), none, []⟩,
  ⟨some 70, .bin .lss 49 (.t 69) (.c (Value.int IntKind.u64 4294967296)) 49, none, [69]⟩] none [0, 1, 5, 6, 7, 8, 9, 11, 12, 24, 70, 100000])
 (.cond [0, 1, 5, 6, 7, 8, 9, 11, 12, 24, 100000] (.t 70) .skip (.exit 2)))
 k1_limbs_long)
def l1_limbs_long : IR := .loop [0, 1, 5, 6, 7, 8, 9, 11, 12, 24, 100000] w1_limbs_long
def j2_limbs_long : IR :=
 (.reg 22 [⟨some 127, .bin .add 3 (.t 95) (.c (Value.int IntKind.i64 1)) 3, none, []⟩,
  ⟨some 95, .move (.t 127), none, [127]⟩] none [0, 1, 5, 6, 7, 8, 9, 11, 13, 14, 24, 94, 95, 100000])
def k2_limbs_long : IR := .tail [0, 1, 5, 6, 7, 8, 9, 11, 13, 14, 24, 94, 95, 100000] j2_limbs_long
def j3_limbs_long : IR :=
 (.seq (.block 6 (.seq (.reg 18 [⟨some 97, .move (.t 95), none, []⟩,
  ⟨some 15, .assign (.t 97), none, [97]⟩] none [0, 1, 5, 6, 7, 8, 9, 11, 13, 14, 15, 24, 94, 95, 100000])
 (.seq (.reg 19 [⟨some 98, .move (.t 13), none, []⟩,
  ⟨some 99, .move (.t 11), none, []⟩,
  ⟨some 100, .move (.t 1), none, []⟩,
  ⟨some 101, .move (.t 15), none, []⟩,
  ⟨some 102, .iaddr 32 (.sl 1) (.t 100) (.t 101), none, []⟩,
  ⟨some 103, .load 47 none (.t 102), none, [100, 101, 102]⟩,
  ⟨some 104, .conv 47 49 (.int .u64) (.t 103), none, [103]⟩,
  ⟨some 105, .bin .mul 49 (.t 99) (.t 104) 49, none, [99, 104]⟩,
  ⟨some 106, .bin .add 49 (.t 98) (.t 105) 49, none, [98, 105]⟩,
  ⟨some 13, .assign (.t 106), none, [106]⟩] none [0, 1, 5, 6, 7, 8, 9, 11, 13, 14, 15, 24, 94, 95, 100000])
 (.seq (.reg 20 [⟨some 108, .move (.t 0), none, []⟩,
  ⟨some 109, .move (.t 15), none, []⟩,
  ⟨some 110, .move (.t 9), none, []⟩,
  ⟨some 111, .bin .add 3 (.t 109) (.t 110) 3, none, [109, 110]⟩,
  ⟨some 112, .move (.t 0), none, []⟩,
  ⟨some 113, .move (.t 15), none, [15]⟩,
  ⟨some 114, .move (.t 9), none, []⟩,
  ⟨some 115, .bin .add 3 (.t 113) (.t 114) 3, none, [113, 114]⟩,
  ⟨some 116, .iaddr 32 (.sl 1) (.t 112) (.t 115), none, []⟩,
  ⟨some 117, .load 47 none (.t 116), none, []⟩,
  ⟨some 118, .move (.t 13), none, []⟩,
  ⟨some 119, .call n_limbs_low [(.t 118)] [49], none, [112, 115, 116, 118]⟩,
  ⟨some 120, .move (.t 14), none, []⟩,
  ⟨some 121, .call n_bits_Sub32 [(.t 117), (.t 119), (.t 120)] [47, 47, 47], none, [117, 119, 120]⟩,
  ⟨some 107, .move (.t 121), none, [121]⟩,
  ⟨some 122, .extr (.t 107) 0, none, []⟩,
  ⟨some 123, .extr (.t 107) 1, none, [107]⟩,
  ⟨some 124, .iaddr 32 (.sl 1) (.t 108) (.t 111), none, []⟩,
  ⟨none, .store 47 none (.t 124) (.t 122), none, [108, 111, 122, 124]⟩,
  ⟨some 14, .assign (.t 123), none, [123]⟩] (some (.cons ⟨0, []⟩ (.cons ⟨1, []⟩ (.cons ⟨2, []⟩ (.cons ⟨3, []⟩ (.cons ⟨4, []⟩ (.cons ⟨5, []⟩ (.cons ⟨6, []⟩ (.cons ⟨7, []⟩ (.cons ⟨8, []⟩ (.cons ⟨10, []⟩ (.cons ⟨12, []⟩ (.cons ⟨9, []⟩ (.cons ⟨11, [9]⟩ (.cons ⟨13, []⟩ (.cons ⟨14, []⟩ (.cons ⟨15, []⟩ (.cons ⟨16, []⟩ (.cons ⟨17, []⟩ (.cons ⟨18, []⟩ (.cons ⟨19, []⟩ .nil))))))))))))))))))))) [0, 1, 5, 6, 7, 8, 9, 11, 13, 14, 24, 94, 95, 100000])
 (.reg 21 [⟨some 125, .move (.t 13), none, []⟩,
  ⟨some 126, .call n_limbs_high [(.t 125)] [49], none, [125]⟩,
  ⟨some 13, .assign (.t 126), none, [126]⟩] none [0, 1, 5, 6, 7, 8, 9, 11, 13, 14, 24, 94, 95, 100000])))))
 k2_limbs_long)
def k3_limbs_long : IR := .tail [0, 1, 5, 6, 7, 8, 9, 11, 13, 14, 24, 94, 95, 100000] j3_limbs_long
def w2_limbs_long : IR :=
 (.seq (.reg 17 [⟨some 96, .bin .lss 3 (.t 95) (.t 94) 3, none, []⟩] none [0, 1, 5, 6, 7, 8, 9, 11, 13, 14, 24, 94, 95, 96, 100000])
 (.seq (.cond [0, 1, 5, 6, 7, 8, 9, 11, 13, 14, 24, 94, 95, 100000] (.t 96) .skip (.exit 5))
 k3_limbs_long))
def l2_limbs_long : IR := .loop [0, 1, 5, 6, 7, 8, 9, 11, 13, 14, 24, 94, 95, 100000] w2_limbs_long
def j4_limbs_long : IR :=
 (.reg 32 [⟨some 183, .bin .add 3 (.t 160) (.c (Value.int IntKind.i64 1)) 3, none, []⟩,
  ⟨some 160, .move (.t 183), none, [183]⟩] none [0, 1, 5, 6, 7, 8, 9, 16, 24, 159, 160, 100000])
def k4_limbs_long : IR := .tail [0, 1, 5, 6, 7, 8, 9, 16, 24, 159, 160, 100000] j4_limbs_long
def j5_limbs_long : IR :=
 (.seq (.block 8 (.seq (.reg 30 [⟨some 162, .move (.t 160), none, []⟩,
  ⟨some 17, .assign (.t 162), none, [162]⟩] none [0, 1, 5, 6, 7, 8, 9, 16, 17, 24, 159, 160, 100000])
 (.reg 31 [⟨some 164, .move (.t 0), none, []⟩,
  ⟨some 165, .move (.t 17), none, []⟩,
  ⟨some 166, .move (.t 9), none, []⟩,
  ⟨some 167, .bin .add 3 (.t 165) (.t 166) 3, none, [165, 166]⟩,
  ⟨some 168, .move (.t 0), none, []⟩,
  ⟨some 169, .move (.t 17), none, []⟩,
  ⟨some 170, .move (.t 9), none, []⟩,
  ⟨some 171, .bin .add 3 (.t 169) (.t 170) 3, none, [169, 170]⟩,
  ⟨some 172, .iaddr 32 (.sl 1) (.t 168) (.t 171), none, []⟩,
  ⟨some 173, .load 47 none (.t 172), none, [168, 171, 172]⟩,
  ⟨some 174, .move (.t 1), none, []⟩,
  ⟨some 175, .move (.t 17), none, [17]⟩,
  ⟨some 176, .iaddr 32 (.sl 1) (.t 174) (.t 175), none, []⟩,
  ⟨some 177, .load 47 none (.t 176), none, [174, 175, 176]⟩,
  ⟨some 178, .move (.t 16), none, []⟩,
  ⟨some 179, .call n_bits_Add32 [(.t 173), (.t 177), (.t 178)] [47, 47, 47], none, [173, 177, 178]⟩,
  ⟨some 163, .move (.t 179), none, [179]⟩,
  ⟨some 180, .extr (.t 163) 0, none, []⟩,
  ⟨some 181, .extr (.t 163) 1, none, [163]⟩,
  ⟨some 182, .iaddr 32 (.sl 1) (.t 164) (.t 167), none, []⟩,
  ⟨none, .store 47 none (.t 182) (.t 180), none, [164, 167, 180, 182]⟩,
  ⟨some 16, .assign (.t 181), none, [181]⟩] (some (.cons ⟨0, []⟩ (.cons ⟨1, []⟩ (.cons ⟨2, []⟩ (.cons ⟨3, []⟩ (.cons ⟨4, []⟩ (.cons ⟨5, []⟩ (.cons ⟨6, []⟩ (.cons ⟨7, []⟩ (.cons ⟨8, []⟩ (.cons ⟨10, []⟩ (.cons ⟨11, []⟩ (.cons ⟨12, []⟩ (.cons ⟨14, []⟩ (.cons ⟨9, []⟩ (.cons ⟨13, []⟩ (.cons ⟨15, []⟩ (.cons ⟨16, []⟩ (.cons ⟨17, []⟩ (.cons ⟨18, []⟩ (.cons ⟨19, []⟩ (.cons ⟨20, []⟩ (.cons ⟨21, []⟩ .nil))))))))))))))))))))))) [0, 1, 5, 6, 7, 8, 9, 16, 24, 159, 160, 100000])))
 k4_limbs_long)
def k5_limbs_long : IR := .tail [0, 1, 5, 6, 7, 8, 9, 16, 24, 159, 160, 100000] j5_limbs_long
def w3_limbs_long : IR :=
 (.seq (.reg 29 [⟨some 161, .bin .lss 3 (.t 160) (.t 159) 3, none, []⟩] none [0, 1, 5, 6, 7, 8, 9, 16, 24, 159, 160, 161, 100000])
 (.seq (.cond [0, 1, 5, 6, 7, 8, 9, 16, 24, 159, 160, 100000] (.t 161) .skip (.exit 7))
 k5_limbs_long))
def l3_limbs_long : IR := .loop [0, 1, 5, 6, 7, 8, 9, 16, 24, 159, 160, 100000] w3_limbs_long
def j6_limbs_long : IR :=
 (.reg 33 [⟨some 184, .move (.t 0), none, []⟩,
  ⟨some 185, .move (.t 9), none, []⟩,
  ⟨some 186, .move (.t 5), none, []⟩,
  ⟨some 187, .bin .add 3 (.t 185) (.t 186) 3, none, [185, 186]⟩,
  ⟨some 188, .iaddr 32 (.sl 1) (.t 184) (.t 187), none, []⟩,
  ⟨some 189, .load 47 none (.t 188), none, [188]⟩,
  ⟨some 190, .move (.t 16), none, [16]⟩,
  ⟨some 191, .bin .add 47 (.t 189) (.t 190) 47, none, [189, 190]⟩,
  ⟨some 192, .iaddr 32 (.sl 1) (.t 184) (.t 187), none, []⟩,
  ⟨none, .store 47 none (.t 192) (.t 191), none, [184, 187, 191, 192]⟩] none [0, 1, 5, 6, 7, 8, 9, 24, 100000])
def k6_limbs_long : IR := .tail [0, 1, 5, 6, 7, 8, 9, 16, 24, 100000] j6_limbs_long
def j7_limbs_long : IR :=
 (.seq (.reg 26 [⟨some 153, .move (.t 6), none, []⟩,
  ⟨some 154, .move (.t 9), none, []⟩,
  ⟨some 155, .iaddr 32 (.sl 1) (.t 153) (.t 154), none, []⟩,
  ⟨some 156, .load 47 none (.t 155), none, [155]⟩,
  ⟨some 157, .bin .sub 47 (.t 156) (.c (Value.int IntKind.u32 1)) 47, none, [156]⟩,
  ⟨some 158, .iaddr 32 (.sl 1) (.t 153) (.t 154), none, []⟩,
  ⟨none, .store 47 none (.t 158) (.t 157), none, [153, 154, 157, 158]⟩] none [0, 1, 5, 6, 7, 8, 9, 24, 100000])
 (.seq (.reg 27 [⟨some 16, .assign (.c (Value.int IntKind.u32 0)), none, []⟩] none [0, 1, 5, 6, 7, 8, 9, 16, 24, 100000])
 (.seq (.seq (.reg 28 [⟨some 159, .move (.t 5), none, []⟩,
  ⟨some 160, .move (.c (Value.int IntKind.i64 0)), none, []⟩] none [0, 1, 5, 6, 7, 8, 9, 16, 24, 159, 160, 100000])
 (.block 7 l3_limbs_long))
 k6_limbs_long)))
def k7_limbs_long : IR := .tail [0, 1, 5, 6, 7, 8, 9, 24, 100000] j7_limbs_long
def j8_limbs_long : IR :=
 (.seq (.reg 23 [⟨some 129, .move (.t 0), none, []⟩,
  ⟨some 130, .move (.t 9), none, []⟩,
  ⟨some 131, .move (.t 5), none, []⟩,
  ⟨some 132, .bin .add 3 (.t 130) (.t 131) 3, none, [130, 131]⟩,
  ⟨some 133, .move (.t 0), none, []⟩,
  ⟨some 134, .move (.t 9), none, []⟩,
  ⟨some 135, .move (.t 5), none, []⟩,
  ⟨some 136, .bin .add 3 (.t 134) (.t 135) 3, none, [134, 135]⟩,
  ⟨some 137, .iaddr 32 (.sl 1) (.t 133) (.t 136), none, []⟩,
  ⟨some 138, .load 47 none (.t 137), none, [133, 136, 137]⟩,
  ⟨some 139, .move (.t 13), none, [13]⟩,
  ⟨some 140, .conv 49 47 (.int .u32) (.t 139), none, [139]⟩,
  ⟨some 141, .move (.t 14), none, []⟩,
  ⟨some 142, .call n_bits_Sub32 [(.t 138), (.t 140), (.t 141)] [47, 47, 47], none, [138, 140, 141]⟩,
  ⟨some 128, .move (.t 142), none, [142]⟩,
  ⟨some 143, .extr (.t 128) 0, none, []⟩,
  ⟨some 144, .extr (.t 128) 1, none, [128]⟩,
  ⟨some 145, .iaddr 32 (.sl 1) (.t 129) (.t 132), none, []⟩,
  ⟨none, .store 47 none (.t 145) (.t 143), none, [129, 132, 143, 145]⟩,
  ⟨some 14, .assign (.t 144), none, [144]⟩] none [0, 1, 5, 6, 7, 8, 9, 11, 14, 24, 100000])
 (.seq (.reg 24 [⟨some 146, .move (.t 6), none, []⟩,
  ⟨some 147, .move (.t 9), none, []⟩,
  ⟨some 148, .move (.t 11), none, [11]⟩,
  ⟨some 149, .conv 49 47 (.int .u32) (.t 148), none, [148]⟩,
  ⟨some 150, .iaddr 32 (.sl 1) (.t 146) (.t 147), none, []⟩,
  ⟨none, .store 47 none (.t 150) (.t 149), none, [146, 147, 149, 150]⟩] none [0, 1, 5, 6, 7, 8, 9, 14, 24, 100000])
 (.seq (.seq (.reg 25 [⟨some 151, .move (.t 14), none, [14]⟩,
  ⟨some 152, .bin .eql 47 (.t 151) (.c (Value.int IntKind.u32 0)) 47, none, [151]⟩] none [0, 1, 5, 6, 7, 8, 9, 24, 152, 100000])
 (.cond [0, 1, 5, 6, 7, 8, 9, 24, 100000] (.t 152) (.exit 1) .skip))
 k7_limbs_long)))
def k8_limbs_long : IR := .tail [0, 1, 5, 6, 7, 8, 9, 11, 13, 14, 24, 100000] j8_limbs_long
def j9_limbs_long : IR :=
 (.seq (.reg 14 [⟨some 13, .assign (.c (Value.int IntKind.u64 0)), none, []⟩] none [0, 1, 5, 6, 7, 8, 9, 11, 13, 24, 100000])
 (.seq (.reg 15 [⟨some 14, .assign (.c (Value.int IntKind.u32 0)), none, []⟩] none [0, 1, 5, 6, 7, 8, 9, 11, 13, 14, 24, 100000])
 (.seq (.seq (.reg 16 [⟨some 94, .move (.t 5), none, []⟩,
  ⟨some 95, .move (.c (Value.int IntKind.i64 0)), none, []⟩] none [0, 1, 5, 6, 7, 8, 9, 11, 13, 14, 24, 94, 95, 100000])
 (.block 5 l2_limbs_long))
 k8_limbs_long)))
def k9_limbs_long : IR := .tail [0, 1, 5, 6, 7, 8, 9, 11, 24, 100000] j9_limbs_long
def j10_limbs_long : IR :=
 (.reg 6 [⟨some 44, .move (.t 9), none, []⟩,
  ⟨some 45, .bin .sub 3 (.t 44) (.c (Value.int IntKind.i64 1)) 3, none, [44]⟩,
  ⟨some 9, .assign (.t 45), none, [45]⟩] none [0, 1, 5, 6, 7, 8, 9, 24, 100000])
def k10_limbs_long : IR := .tail [0, 1, 5, 6, 7, 8, 9, 24, 100000] j10_limbs_long
def j11_limbs_long : IR :=
 (.seq (.block 1 (.scope (.seq (.reg 7 [⟨some 46, .move (.t 0), none, []⟩,
  ⟨some 47, .move (.t 9), none, []⟩,
  ⟨some 48, .move (.t 5), none, []⟩,
  ⟨some 49, .bin .add 3 (.t 47) (.t 48) 3, none, [47, 48]⟩,
  ⟨some 50, .iaddr 32 (.sl 1) (.t 46) (.t 49), none, []⟩,
  ⟨some 51, .load 47 none (.t 50), none, [46, 49, 50]⟩,
  ⟨some 52, .conv 47 49 (.int .u64) (.t 51), none, [51]⟩,
  ⟨some 53, .bin .shl 49 (.t 52) (.c (Value.int IntKind.u64 32)) 72, none, [52]⟩,
  ⟨some 54, .move (.t 0), none, []⟩,
  ⟨some 55, .move (.t 9), none, []⟩,
  ⟨some 56, .move (.t 5), none, []⟩,
  ⟨some 57, .bin .add 3 (.t 55) (.t 56) 3, none, [55, 56]⟩,
  ⟨some 58, .bin .sub 3 (.t 57) (.c (Value.int IntKind.i64 1)) 3, none, [57]⟩,
  ⟨some 59, .iaddr 32 (.sl 1) (.t 54) (.t 58), none, []⟩,
  ⟨some 60, .load 47 none (.t 59), none, [54, 58, 59]⟩,
  ⟨some 61, .conv 47 49 (.int .u64) (.t 60), none, [60]⟩,
  ⟨some 62, .bin .or 49 (.t 53) (.t 61) 49, none, [53, 61]⟩,
  ⟨some 10, .assign (.t 62), none, [62]⟩] (some (.cons ⟨0, []⟩ (.cons ⟨1, []⟩ (.cons ⟨2, []⟩ (.cons ⟨3, []⟩ (.cons ⟨4, []⟩ (.cons ⟨8, []⟩ (.cons ⟨9, []⟩ (.cons ⟨10, []⟩ (.cons ⟨11, []⟩ (.cons ⟨12, []⟩ (.cons ⟨13, []⟩ (.cons ⟨5, []⟩ (.cons ⟨6, []⟩ (.cons ⟨7, []⟩ (.cons ⟨14, []⟩ (.cons ⟨15, []⟩ (.cons ⟨16, []⟩ (.cons ⟨17, []⟩ .nil))))))))))))))))))) [0, 1, 5, 6, 7, 8, 9, 10, 24, 100000])
 (.seq (.reg 8 [⟨some 63, .move (.t 10), none, []⟩,
  ⟨some 64, .move (.t 7), none, []⟩,
  ⟨some 65, .bin .quo 49 (.t 63) (.t 64) 49, none, [63, 64]⟩,
  ⟨some 66, .move (.t 10), none, [10]⟩,
  ⟨some 67, .move (.t 7), none, []⟩,
  ⟨some 68, .bin .rem 49 (.t 66) (.t 67) 49, none, [66, 67]⟩,
  ⟨some 11, .assign (.t 65), none, [65]⟩,
  ⟨some 12, .assign (.t 68), none, [68]⟩] (some (.cons ⟨0, []⟩ (.cons ⟨1, []⟩ (.cons ⟨2, []⟩ (.cons ⟨3, []⟩ (.cons ⟨4, []⟩ (.cons ⟨5, []⟩ (.cons ⟨6, []⟩ (.cons ⟨7, []⟩ .nil))))))))) [0, 1, 5, 6, 7, 8, 9, 11, 12, 24, 100000])
 (.seq (.label 0)
 (.seq (.block 2 l1_limbs_long)
 k9_limbs_long))))))
 k10_limbs_long)
def k11_limbs_long : IR := .tail [0, 1, 5, 6, 7, 8, 9, 24, 100000] j11_limbs_long
def w0_limbs_long : IR :=
 (.seq (.seq (.reg 5 [⟨some 42, .move (.t 9), none, []⟩,
  ⟨some 43, .bin .geq 3 (.t 42) (.c (Value.int IntKind.i64 0)) 3, none, [42]⟩] none [0, 1, 5, 6, 7, 8, 9, 24, 43, 100000])
 (.cond [0, 1, 5, 6, 7, 8, 9, 24, 100000] (.t 43) .skip (.exit 0)))
 k11_limbs_long)
def l0_limbs_long : IR := .loop [0, 1, 5, 6, 7, 8, 9, 24, 100000] w0_limbs_long
def j12_limbs_long : IR :=
 (.seq (.reg 34 [⟨some 193, .move (.t 6), none, []⟩,
  ⟨some 4, .assign (.t 193), none, []⟩] none [4, 6, 24, 193, 100000])
 .ret)
def k12_limbs_long : IR := .tail [6, 24, 100000] j12_limbs_long
def b_limbs_long : IR :=
 (.seq (.reg 0 [⟨some 4, .assign (.nilS 1), none, [4]⟩] none [0, 1, 100000])
 (.seq (.reg 1 [⟨some 18, .move (.t 1), none, []⟩,
  ⟨some 19, .len 32 false (.t 18), none, [18]⟩,
  ⟨some 5, .assign (.t 19), none, [19]⟩] none [0, 1, 5, 100000])
 (.seq (.reg 2 [⟨some 20, .move (.t 0), none, []⟩,
  ⟨some 21, .len 32 false (.t 20), none, [20]⟩,
  ⟨some 22, .move (.t 5), none, []⟩,
  ⟨some 23, .bin .sub 3 (.t 21) (.t 22) 3, none, [21, 22]⟩,
  ⟨some 24, .mk 32 1 4 (.v (.int .u32 0)) (.t 23) (.t 23), none, [23]⟩,
  ⟨some 6, .assign (.t 24), none, []⟩] none [0, 1, 5, 6, 24, 100000])
 (.seq (.reg 3 [⟨some 25, .move (.t 1), none, []⟩,
  ⟨some 26, .move (.t 5), none, []⟩,
  ⟨some 27, .bin .sub 3 (.t 26) (.c (Value.int IntKind.i64 1)) 3, none, [26]⟩,
  ⟨some 28, .iaddr 32 (.sl 1) (.t 25) (.t 27), none, []⟩,
  ⟨some 29, .load 47 none (.t 28), none, [25, 27, 28]⟩,
  ⟨some 30, .conv 47 49 (.int .u64) (.t 29), none, [29]⟩,
  ⟨some 31, .move (.t 1), none, []⟩,
  ⟨some 32, .move (.t 5), none, []⟩,
  ⟨some 33, .bin .sub 3 (.t 32) (.c (Value.int IntKind.i64 2)) 3, none, [32]⟩,
  ⟨some 34, .iaddr 32 (.sl 1) (.t 31) (.t 33), none, []⟩,
  ⟨some 35, .load 47 none (.t 34), none, []⟩,
  ⟨some 36, .conv 47 49 (.int .u64) (.t 35), none, [35]⟩,
  ⟨some 7, .assign (.t 30), none, [30, 31, 33, 34]⟩,
  ⟨some 8, .assign (.t 36), none, [36]⟩] (some (.cons ⟨0, []⟩ (.cons ⟨1, []⟩ (.cons ⟨2, []⟩ (.cons ⟨3, []⟩ (.cons ⟨6, []⟩ (.cons ⟨7, []⟩ (.cons ⟨8, []⟩ (.cons ⟨9, []⟩ (.cons ⟨4, []⟩ (.cons ⟨5, []⟩ (.cons ⟨10, []⟩ (.cons ⟨11, []⟩ (.cons ⟨12, [10]⟩ (.cons ⟨13, []⟩ .nil))))))))))))))) [0, 1, 5, 6, 7, 8, 24, 100000])
 (.seq (.seq (.reg 4 [⟨some 37, .move (.t 0), none, []⟩,
  ⟨some 38, .len 32 false (.t 37), none, [37]⟩,
  ⟨some 39, .move (.t 5), none, []⟩,
  ⟨some 40, .bin .sub 3 (.t 38) (.t 39) 3, none, [38, 39]⟩,
  ⟨some 41, .bin .sub 3 (.t 40) (.c (Value.int IntKind.i64 1)) 3, none, [40]⟩,
  ⟨some 9, .assign (.t 41), none, [41]⟩] none [0, 1, 5, 6, 7, 8, 9, 24, 100000])
 (.block 0 l0_limbs_long))
 k12_limbs_long)))))
def a_limbs_long : AFunc := ⟨194, [.tmp 4], b_limbs_long⟩

def j0_limbs_down : IR :=
 (.reg 12 [⟨some 46, .move (.t 5), none, []⟩,
  ⟨some 47, .move (.t 6), none, [6]⟩,
  ⟨some 48, .move (.t 7), none, [7]⟩,
  ⟨some 49, .move (.t 1), none, []⟩,
  ⟨some 50, .bin .rem 3 (.t 49) (.c (Value.int IntKind.i64 32)) 3, none, [49]⟩,
  ⟨some 51, .bin .shr 49 (.t 48) (.t 50) 3, none, [48, 50]⟩,
  ⟨some 52, .call n_limbs_low [(.t 51)] [49], none, [51]⟩,
  ⟨some 53, .iaddr 32 (.sl 1) (.t 46) (.t 47), none, []⟩,
  ⟨none, .store 47 none (.t 53) (.t 52), none, [46, 47, 52, 53]⟩] none [0, 1, 5, 9, 15, 17, 18, 21, 23, 24])
def k0_limbs_down : IR := .tail [0, 1, 5, 6, 7, 9, 15, 17, 18, 21, 23, 24] j0_limbs_down
def j1_limbs_down : IR :=
 (.reg 13 [⟨some 54, .bin .add 3 (.t 24) (.c (Value.int IntKind.i64 1)) 3, none, []⟩,
  ⟨some 24, .move (.t 54), none, [54]⟩] none [0, 1, 5, 9, 15, 17, 18, 21, 23, 24])
def k1_limbs_down : IR := .tail [0, 1, 5, 9, 15, 17, 18, 21, 23, 24] j1_limbs_down
def j2_limbs_down : IR :=
 (.seq (.block 1 (.seq (.reg 8 [⟨some 26, .move (.t 24), none, []⟩,
  ⟨some 6, .assign (.t 26), none, [26]⟩] none [0, 1, 5, 6, 9, 15, 17, 18, 21, 23, 24])
 (.seq (.reg 9 [⟨some 27, .move (.t 0), none, []⟩,
  ⟨some 28, .move (.t 6), none, []⟩,
  ⟨some 29, .iaddr 32 (.sl 1) (.t 27) (.t 28), none, []⟩,
  ⟨some 30, .load 47 none (.t 29), none, [27, 28, 29]⟩,
  ⟨some 31, .conv 47 49 (.int .u64) (.t 30), none, [30]⟩,
  ⟨some 7, .assign (.t 31), none, [31]⟩] none [0, 1, 5, 6, 7, 9, 15, 17, 18, 21, 23, 24])
 (.seq (.seq (.reg 10 [⟨some 32, .move (.t 6), none, []⟩,
  ⟨some 33, .bin .add 3 (.t 32) (.c (Value.int IntKind.i64 1)) 3, none, [32]⟩,
  ⟨some 34, .move (.t 0), none, []⟩,
  ⟨some 35, .len 32 false (.t 34), none, [34]⟩,
  ⟨some 36, .bin .lss 3 (.t 33) (.t 35) 3, none, [33, 35]⟩] none [0, 1, 5, 6, 7, 9, 15, 17, 18, 21, 23, 24, 36])
 (.cond [0, 1, 5, 6, 7, 9, 15, 17, 18, 21, 23, 24] (.t 36) (.reg 11 [⟨some 37, .move (.t 7), none, []⟩,
  ⟨some 38, .move (.t 0), none, []⟩,
  ⟨some 39, .move (.t 6), none, []⟩,
  ⟨some 40, .bin .add 3 (.t 39) (.c (Value.int IntKind.i64 1)) 3, none, [39]⟩,
  ⟨some 41, .iaddr 32 (.sl 1) (.t 38) (.t 40), none, []⟩,
  ⟨some 42, .load 47 none (.t 41), none, [38, 40, 41]⟩,
  ⟨some 43, .conv 47 49 (.int .u64) (.t 42), none, [42]⟩,
  ⟨some 44, .bin .shl 49 (.t 43) (.c (Value.int IntKind.u64 32)) 72, none, [43]⟩,
  ⟨some 45, .bin .or 49 (.t 37) (.t 44) 49, none, [37, 44]⟩,
  ⟨some 7, .assign (.t 45), none, [45]⟩] none [0, 1, 5, 6, 7, 9, 15, 17, 18, 21, 23, 24]) .skip))
 k0_limbs_down))))
 k1_limbs_down)
def k2_limbs_down : IR := .tail [0, 1, 5, 9, 15, 17, 18, 21, 23, 24] j2_limbs_down
def w0_limbs_down : IR :=
 (.seq (.reg 7 [⟨some 25, .bin .lss 3 (.t 24) (.t 23) 3, none, []⟩] none [0, 1, 5, 9, 15, 17, 18, 21, 23, 24, 25])
 (.seq (.cond [0, 1, 5, 9, 15, 17, 18, 21, 23, 24] (.t 25) .skip (.exit 0))
 k2_limbs_down))
def l0_limbs_down : IR := .loop [0, 1, 5, 9, 15, 17, 18, 21, 23, 24] w0_limbs_down
def j3_limbs_down : IR :=
 (.seq (.reg 14 [⟨some 55, .move (.t 5), none, []⟩,
  ⟨some 56, .call n_limbs_trim [(.t 55)] [32], none, [5, 21, 55]⟩,
  ⟨some 4, .assign (.t 56), none, []⟩] none [4, 56])
 .ret)
def k3_limbs_down : IR := .tail [5, 21] j3_limbs_down
def j4_limbs_down : IR :=
 (.seq (.reg 4 [⟨some 15, .move (.t 0), none, []⟩,
  ⟨some 16, .move (.t 1), none, []⟩,
  ⟨some 17, .bin .quo 3 (.t 16) (.c (Value.int IntKind.i64 32)) 3, none, [16]⟩,
  ⟨some 18, .slice 32 (.sl 1) (.t 15) (some (.t 17)) none none, none, []⟩,
  ⟨some 0, .assign (.t 18), none, []⟩] none [0, 1, 9, 15, 17, 18])
 (.seq (.reg 5 [⟨some 19, .move (.t 0), none, []⟩,
  ⟨some 20, .len 32 false (.t 19), none, [19]⟩,
  ⟨some 21, .mk 32 1 4 (.v (.int .u32 0)) (.t 20) (.t 20), none, [20]⟩,
  ⟨some 5, .assign (.t 21), none, []⟩] none [0, 1, 5, 9, 15, 17, 18, 21])
 (.seq (.seq (.reg 6 [⟨some 22, .move (.t 0), none, []⟩,
  ⟨some 23, .len 32 false (.t 22), none, [22]⟩,
  ⟨some 24, .move (.c (Value.int IntKind.i64 0)), none, []⟩] none [0, 1, 5, 9, 15, 17, 18, 21, 23, 24])
 (.block 0 l0_limbs_down))
 k3_limbs_down)))
def k4_limbs_down : IR := .tail [0, 1, 9, 15, 17, 18] j4_limbs_down
def b_limbs_down : IR :=
 (.seq (.reg 0 [⟨some 4, .assign (.nilS 1), none, [4]⟩] none [0, 1, 9, 15, 17, 18])
 (.seq (.reg 1 [⟨some 8, .move (.t 0), none, []⟩,
  ⟨some 9, .call n_limbs_trim [(.t 8)] [32], none, [8]⟩,
  ⟨some 0, .assign (.t 9), none, []⟩] none [0, 1, 9, 15, 17, 18])
 (.seq (.seq (.reg 2 [⟨some 10, .move (.t 1), none, []⟩,
  ⟨some 11, .bin .quo 3 (.t 10) (.c (Value.int IntKind.i64 32)) 3, none, [10]⟩,
  ⟨some 12, .move (.t 0), none, []⟩,
  ⟨some 13, .len 32 false (.t 12), none, [12]⟩,
  ⟨some 14, .bin .geq 3 (.t 11) (.t 13) 3, none, [11, 13]⟩] none [0, 1, 9, 14, 15, 17, 18])
 (.cond [0, 1, 9, 15, 17, 18] (.t 14) (.seq (.reg 3 [⟨some 4, .assign (.nilS 1), none, []⟩] none [4, 56])
 .ret) .skip))
 k4_limbs_down)))
def a_limbs_down : AFunc := ⟨57, [.tmp 4], b_limbs_down⟩

def j0_limbs_DivMod : IR :=
 (.reg 11 [⟨some 38, .move (.t 9), none, []⟩,
  ⟨some 39, .bin .sub 3 (.t 38) (.c (Value.int IntKind.i64 1)) 3, none, [38]⟩,
  ⟨some 9, .assign (.t 39), none, [39]⟩] none [0, 1, 7, 8, 9, 15, 17, 32])
def k0_limbs_DivMod : IR := .tail [0, 1, 7, 8, 9, 15, 17, 32] j0_limbs_DivMod
def j1_limbs_DivMod : IR :=
 (.seq (.block 1 (.seq (.reg 12 [⟨some 40, .move (.t 8), none, []⟩,
  ⟨some 41, .bin .shl 49 (.t 40) (.c (Value.int IntKind.u64 32)) 72, none, [40]⟩,
  ⟨some 42, .move (.t 0), none, []⟩,
  ⟨some 43, .move (.t 9), none, []⟩,
  ⟨some 44, .iaddr 32 (.sl 1) (.t 42) (.t 43), none, []⟩,
  ⟨some 45, .load 47 none (.t 44), none, [42, 43, 44]⟩,
  ⟨some 46, .conv 47 49 (.int .u64) (.t 45), none, [45]⟩,
  ⟨some 47, .bin .or 49 (.t 41) (.t 46) 49, none, [41, 46]⟩,
  ⟨some 8, .assign (.t 47), none, [47]⟩] none [0, 1, 7, 8, 9, 15, 17, 32])
 (.seq (.reg 13 [⟨some 48, .move (.t 7), none, []⟩,
  ⟨some 49, .move (.t 9), none, []⟩,
  ⟨some 50, .move (.t 8), none, []⟩,
  ⟨some 51, .move (.t 1), none, []⟩,
  ⟨some 52, .iaddr 32 (.sl 1) (.t 51) (.c (Value.int IntKind.i64 0)), none, []⟩,
  ⟨some 53, .load 47 none (.t 52), none, [51, 52]⟩,
  ⟨some 54, .conv 47 49 (.int .u64) (.t 53), none, [53]⟩,
  ⟨some 55, .bin .quo 49 (.t 50) (.t 54) 49, none, [50, 54]⟩,
  ⟨some 56, .conv 49 47 (.int .u32) (.t 55), none, [55]⟩,
  ⟨some 57, .iaddr 32 (.sl 1) (.t 48) (.t 49), none, []⟩,
  ⟨none, .store 47 none (.t 57) (.t 56), none, [48, 49, 56, 57]⟩] none [0, 1, 7, 8, 9, 15, 17, 32])
 (.reg 14 [⟨some 58, .move (.t 8), none, []⟩,
  ⟨some 59, .move (.t 1), none, []⟩,
  ⟨some 60, .iaddr 32 (.sl 1) (.t 59) (.c (Value.int IntKind.i64 0)), none, []⟩,
  ⟨some 61, .load 47 none (.t 60), none, [59, 60]⟩,
  ⟨some 62, .conv 47 49 (.int .u64) (.t 61), none, [61]⟩,
  ⟨some 63, .bin .rem 49 (.t 58) (.t 62) 49, none, [58, 62]⟩,
  ⟨some 8, .assign (.t 63), none, [63]⟩] none [0, 1, 7, 8, 9, 15, 17, 32]))))
 k0_limbs_DivMod)
def k1_limbs_DivMod : IR := .tail [0, 1, 7, 8, 9, 15, 17, 32] j1_limbs_DivMod
def w0_limbs_DivMod : IR :=
 (.seq (.seq (.reg 10 [⟨some 36, .move (.t 9), none, []⟩,
  ⟨some 37, .bin .geq 3 (.t 36) (.c (Value.int IntKind.i64 0)) 3, none, [36]⟩] none [0, 1, 7, 8, 9, 15, 17, 32, 37])
 (.cond [0, 1, 7, 8, 9, 15, 17, 32] (.t 37) .skip (.exit 0)))
 k1_limbs_DivMod)
def l0_limbs_DivMod : IR := .loop [0, 1, 7, 8, 9, 15, 17, 32] w0_limbs_DivMod
def j2_limbs_DivMod : IR :=
 (.seq (.reg 15 [⟨some 64, .move (.t 7), none, []⟩,
  ⟨some 65, .call n_limbs_trim [(.t 64)] [32], none, [7, 32, 64]⟩,
  ⟨some 66, .move (.t 8), none, [8]⟩,
  ⟨some 67, .call n_limbs_From [(.t 66)] [49], none, [66]⟩,
  ⟨some 4, .assign (.t 65), none, []⟩,
  ⟨some 5, .assign (.t 67), none, []⟩,
  ⟨some 6, .assign (.c (Value.int IntKind.i64 0)), none, []⟩] none [4, 5, 6, 26, 65, 67, 93, 100])
 .ret)
def k2_limbs_DivMod : IR := .tail [7, 8, 32] j2_limbs_DivMod
def j3_limbs_DivMod : IR :=
 (.block 3 (.reg 19 [⟨some 86, .move (.t 11), none, []⟩,
  ⟨some 87, .lit 32 1 [(.c (Value.int IntKind.u32 0))], none, []⟩,
  ⟨some 88, .append 32 32 false 1 4 (.t 86) (.t 87), none, [86, 87]⟩,
  ⟨some 11, .assign (.t 88), none, []⟩] none [0, 10, 11, 12, 15, 77, 80, 88]))
def k3_limbs_DivMod : IR := .tail [0, 10, 11, 12, 15, 77, 80, 88] j3_limbs_DivMod
def w1_limbs_DivMod : IR :=
 (.seq (.seq (.reg 18 [⟨some 81, .move (.t 11), none, []⟩,
  ⟨some 82, .len 32 false (.t 81), none, [81]⟩,
  ⟨some 83, .move (.t 0), none, []⟩,
  ⟨some 84, .len 32 false (.t 83), none, [83]⟩,
  ⟨some 85, .bin .leq 3 (.t 82) (.t 84) 3, none, [82, 84]⟩] none [0, 10, 11, 12, 15, 77, 80, 85, 88])
 (.cond [0, 10, 11, 12, 15, 77, 80, 88] (.t 85) .skip (.exit 2)))
 k3_limbs_DivMod)
def l1_limbs_DivMod : IR := .loop [0, 10, 11, 12, 15, 77, 80, 88] w1_limbs_DivMod
def j4_limbs_DivMod : IR :=
 (.seq (.reg 20 [⟨some 89, .move (.t 11), none, []⟩,
  ⟨some 90, .move (.t 12), none, []⟩,
  ⟨some 91, .call n_limbs_long [(.t 89), (.t 90)] [32, 32], none, [89, 90]⟩,
  ⟨some 13, .assign (.t 91), none, []⟩] none [10, 11, 12, 13, 77, 80, 88, 91])
 (.seq (.reg 21 [⟨some 92, .move (.t 13), none, []⟩,
  ⟨some 93, .call n_limbs_trim [(.t 92)] [32], none, [13, 91, 92]⟩,
  ⟨some 94, .move (.t 11), none, []⟩,
  ⟨some 95, .move (.t 12), none, []⟩,
  ⟨some 96, .len 32 false (.t 95), none, [12, 80, 95]⟩,
  ⟨some 97, .slice 32 (.sl 1) (.t 94) none (some (.t 96)) none, none, []⟩,
  ⟨some 98, .call n_limbs_trim [(.t 97)] [32], none, [11, 77, 88, 94, 96, 97]⟩,
  ⟨some 99, .move (.t 10), none, [10]⟩,
  ⟨some 100, .call n_limbs_down [(.t 98), (.t 99)] [32, 3], none, [98, 99]⟩,
  ⟨some 4, .assign (.t 93), none, []⟩,
  ⟨some 5, .assign (.t 100), none, []⟩,
  ⟨some 6, .assign (.c (Value.int IntKind.i64 0)), none, []⟩] (some (.cons ⟨0, []⟩ (.cons ⟨2, []⟩ (.cons ⟨3, []⟩ (.cons ⟨4, []⟩ (.cons ⟨5, []⟩ (.cons ⟨7, []⟩ (.cons ⟨1, []⟩ (.cons ⟨6, []⟩ (.cons ⟨8, []⟩ (.cons ⟨9, []⟩ (.cons ⟨10, []⟩ (.cons ⟨11, []⟩ .nil))))))))))))) [4, 5, 6, 26, 65, 67, 93, 100])
 .ret))
def k4_limbs_DivMod : IR := .tail [10, 11, 12, 77, 80, 88] j4_limbs_DivMod
def j5_limbs_DivMod : IR :=
 (.seq (.reg 16 [⟨some 68, .move (.t 1), none, []⟩,
  ⟨some 69, .move (.t 1), none, []⟩,
  ⟨some 70, .len 32 false (.t 69), none, [69]⟩,
  ⟨some 71, .bin .sub 3 (.t 70) (.c (Value.int IntKind.i64 1)) 3, none, [70]⟩,
  ⟨some 72, .iaddr 32 (.sl 1) (.t 68) (.t 71), none, []⟩,
  ⟨some 73, .load 47 none (.t 72), none, [68, 71, 72]⟩,
  ⟨some 74, .call n_bits_LeadingZeros32 [(.t 73)] [47], none, [73]⟩,
  ⟨some 10, .assign (.t 74), none, [74]⟩] none [0, 1, 10, 15, 17])
 (.seq (.reg 17 [⟨some 75, .move (.t 0), none, []⟩,
  ⟨some 76, .move (.t 10), none, []⟩,
  ⟨some 77, .call n_limbs_up [(.t 75), (.t 76)] [32, 3], none, [75, 76]⟩,
  ⟨some 78, .move (.t 1), none, []⟩,
  ⟨some 79, .move (.t 10), none, []⟩,
  ⟨some 80, .call n_limbs_up [(.t 78), (.t 79)] [32, 3], none, [1, 17, 78, 79]⟩,
  ⟨some 11, .assign (.t 77), none, []⟩,
  ⟨some 12, .assign (.t 80), none, []⟩] none [0, 10, 11, 12, 15, 77, 80, 88])
 (.seq (.block 2 l1_limbs_DivMod)
 k4_limbs_DivMod)))
def k5_limbs_DivMod : IR := .tail [0, 1, 15, 17] j5_limbs_DivMod
def j6_limbs_DivMod : IR :=
 (.seq (.seq (.reg 6 [⟨some 27, .move (.t 1), none, []⟩,
  ⟨some 28, .len 32 false (.t 27), none, [27]⟩,
  ⟨some 29, .bin .eql 3 (.t 28) (.c (Value.int IntKind.i64 1)) 3, none, [28]⟩] none [0, 1, 15, 17, 29])
 (.cond [0, 1, 15, 17] (.t 29) (.seq (.reg 7 [⟨some 30, .move (.t 0), none, []⟩,
  ⟨some 31, .len 32 false (.t 30), none, [30]⟩,
  ⟨some 32, .mk 32 1 4 (.v (.int .u32 0)) (.t 31) (.t 31), none, [31]⟩,
  ⟨some 7, .assign (.t 32), none, []⟩] none [0, 1, 7, 15, 17, 32])
 (.seq (.reg 8 [⟨some 8, .assign (.c (Value.int IntKind.u64 0)), none, []⟩] none [0, 1, 7, 8, 15, 17, 32])
 (.seq (.seq (.reg 9 [⟨some 33, .move (.t 0), none, []⟩,
  ⟨some 34, .len 32 false (.t 33), none, [33]⟩,
  ⟨some 35, .bin .sub 3 (.t 34) (.c (Value.int IntKind.i64 1)) 3, none, [34]⟩,
  ⟨some 9, .assign (.t 35), none, [35]⟩] none [0, 1, 7, 8, 9, 15, 17, 32])
 (.block 0 l0_limbs_DivMod))
 k2_limbs_DivMod))) .skip))
 k5_limbs_DivMod)
def k6_limbs_DivMod : IR := .tail [0, 1, 15, 17] j6_limbs_DivMod
def j7_limbs_DivMod : IR :=
 (.seq (.seq (.reg 4 [⟨some 21, .move (.t 0), none, []⟩,
  ⟨some 22, .move (.t 1), none, []⟩,
  ⟨some 23, .call n_limbs_Cmp [(.t 21), (.t 22)] [32, 32], none, [21, 22]⟩,
  ⟨some 24, .bin .lss 3 (.t 23) (.c (Value.int IntKind.i64 0)) 3, none, [23]⟩] none [0, 1, 15, 17, 24])
 (.cond [0, 1, 15, 17] (.t 24) (.seq (.reg 5 [⟨some 25, .move (.t 0), none, []⟩,
  ⟨some 26, .call n_limbs_Norm [(.t 25)] [32], none, [0, 15, 25]⟩,
  ⟨some 4, .assign (.nilS 1), none, []⟩,
  ⟨some 5, .assign (.t 26), none, []⟩,
  ⟨some 6, .assign (.c (Value.int IntKind.i64 0)), none, []⟩] none [4, 5, 6, 26, 65, 67, 93, 100])
 .ret) .skip))
 k6_limbs_DivMod)
def k7_limbs_DivMod : IR := .tail [0, 1, 15, 17] j7_limbs_DivMod
def b_limbs_DivMod : IR :=
 (.seq (.reg 0 [⟨some 4, .assign (.nilS 1), none, [4]⟩,
  ⟨some 5, .assign (.nilS 1), none, [5]⟩,
  ⟨some 6, .assign (.c (Value.int IntKind.i64 0)), none, [6]⟩] none [0, 1, 15, 17])
 (.seq (.reg 1 [⟨some 14, .move (.t 0), none, []⟩,
  ⟨some 15, .call n_limbs_trim [(.t 14)] [32], none, [14]⟩,
  ⟨some 16, .move (.t 1), none, []⟩,
  ⟨some 17, .call n_limbs_trim [(.t 16)] [32], none, [16]⟩,
  ⟨some 0, .assign (.t 15), none, []⟩,
  ⟨some 1, .assign (.t 17), none, []⟩] none [0, 1, 15, 17])
 (.seq (.seq (.reg 2 [⟨some 18, .move (.t 1), none, []⟩,
  ⟨some 19, .len 32 false (.t 18), none, [18]⟩,
  ⟨some 20, .bin .eql 3 (.t 19) (.c (Value.int IntKind.i64 0)) 3, none, [19]⟩] none [0, 1, 15, 17, 20])
 (.cond [0, 1, 15, 17] (.t 20) (.seq (.reg 3 [⟨some 4, .assign (.nilS 1), none, []⟩,
  ⟨some 5, .assign (.nilS 1), none, []⟩,
  ⟨some 6, .assign (.c (Value.int IntKind.i64 11)), none, []⟩] none [4, 5, 6, 26, 65, 67, 93, 100])
 .ret) .skip))
 k7_limbs_DivMod)))
def a_limbs_DivMod : AFunc := ⟨101, [.tmp 4, .tmp 5, .tmp 6], b_limbs_DivMod⟩

def j0_limbs_Add : IR :=
 (.seq (.reg 11 [⟨some 42, .move (.t 5), none, []⟩,
  ⟨some 43, .move (.t 6), none, []⟩,
  ⟨some 44, .call n_limbs_low [(.t 43)] [49], none, [43]⟩,
  ⟨some 45, .lit 32 1 [(.t 44)], none, [44]⟩,
  ⟨some 46, .append 32 32 false 1 4 (.t 42) (.t 45), none, [42, 45]⟩,
  ⟨some 5, .assign (.t 46), none, []⟩] none [0, 1, 5, 6, 13, 14, 18, 20, 21, 46])
 (.reg 12 [⟨some 47, .move (.t 6), none, []⟩,
  ⟨some 48, .call n_limbs_high [(.t 47)] [49], none, [47]⟩,
  ⟨some 6, .assign (.t 48), none, [48]⟩] none [0, 1, 5, 6, 13, 14, 18, 20, 21, 46]))
def k0_limbs_Add : IR := .tail [0, 1, 5, 6, 13, 14, 18, 20, 21, 46] j0_limbs_Add
def j1_limbs_Add : IR :=
 (.reg 13 [⟨some 49, .bin .add 3 (.t 21) (.c (Value.int IntKind.i64 1)) 3, none, []⟩,
  ⟨some 21, .move (.t 49), none, [49]⟩] none [0, 1, 5, 6, 13, 14, 18, 20, 21, 46])
def k1_limbs_Add : IR := .tail [0, 1, 5, 6, 13, 14, 18, 20, 21, 46] j1_limbs_Add
def j2_limbs_Add : IR :=
 (.seq (.block 1 (.seq (.reg 7 [⟨some 23, .move (.t 21), none, []⟩,
  ⟨some 7, .assign (.t 23), none, [23]⟩] none [0, 1, 5, 6, 7, 13, 14, 18, 20, 21, 46])
 (.seq (.reg 8 [⟨some 24, .move (.t 6), none, []⟩,
  ⟨some 25, .move (.t 0), none, []⟩,
  ⟨some 26, .move (.t 7), none, []⟩,
  ⟨some 27, .iaddr 32 (.sl 1) (.t 25) (.t 26), none, []⟩,
  ⟨some 28, .load 47 none (.t 27), none, [25, 26, 27]⟩,
  ⟨some 29, .conv 47 49 (.int .u64) (.t 28), none, [28]⟩,
  ⟨some 30, .bin .add 49 (.t 24) (.t 29) 49, none, [24, 29]⟩,
  ⟨some 6, .assign (.t 30), none, [30]⟩] none [0, 1, 5, 6, 7, 13, 14, 18, 20, 21, 46])
 (.seq (.seq (.reg 9 [⟨some 31, .move (.t 7), none, []⟩,
  ⟨some 32, .move (.t 1), none, []⟩,
  ⟨some 33, .len 32 false (.t 32), none, [32]⟩,
  ⟨some 34, .bin .lss 3 (.t 31) (.t 33) 3, none, [31, 33]⟩] none [0, 1, 5, 6, 7, 13, 14, 18, 20, 21, 34, 46])
 (.cond [0, 1, 5, 6, 7, 13, 14, 18, 20, 21, 46] (.t 34) (.reg 10 [⟨some 35, .move (.t 6), none, []⟩,
  ⟨some 36, .move (.t 1), none, []⟩,
  ⟨some 37, .move (.t 7), none, [7]⟩,
  ⟨some 38, .iaddr 32 (.sl 1) (.t 36) (.t 37), none, []⟩,
  ⟨some 39, .load 47 none (.t 38), none, [36, 37, 38]⟩,
  ⟨some 40, .conv 47 49 (.int .u64) (.t 39), none, [39]⟩,
  ⟨some 41, .bin .add 49 (.t 35) (.t 40) 49, none, [35, 40]⟩,
  ⟨some 6, .assign (.t 41), none, [41]⟩] none [0, 1, 5, 6, 13, 14, 18, 20, 21, 46]) .skip))
 k0_limbs_Add))))
 k1_limbs_Add)
def k2_limbs_Add : IR := .tail [0, 1, 5, 6, 13, 14, 18, 20, 21, 46] j2_limbs_Add
def w0_limbs_Add : IR :=
 (.seq (.reg 6 [⟨some 22, .bin .lss 3 (.t 21) (.t 20) 3, none, []⟩] none [0, 1, 5, 6, 13, 14, 18, 20, 21, 22, 46])
 (.seq (.cond [0, 1, 5, 6, 13, 14, 18, 20, 21, 46] (.t 22) .skip (.exit 0))
 k2_limbs_Add))
def l0_limbs_Add : IR := .loop [0, 1, 5, 6, 13, 14, 18, 20, 21, 46] w0_limbs_Add
def j3_limbs_Add : IR :=
 (.seq (.reg 14 [⟨some 50, .move (.t 5), none, []⟩,
  ⟨some 51, .move (.t 6), none, [6]⟩,
  ⟨some 52, .conv 49 47 (.int .u32) (.t 51), none, [51]⟩,
  ⟨some 53, .lit 32 1 [(.t 52)], none, [52]⟩,
  ⟨some 54, .append 32 32 false 1 4 (.t 50) (.t 53), none, [5, 18, 46, 50, 53]⟩,
  ⟨some 55, .call n_limbs_trim [(.t 54)] [32], none, [54]⟩,
  ⟨some 4, .assign (.t 55), none, []⟩] none [4, 55])
 .ret)
def k3_limbs_Add : IR := .tail [5, 6, 18, 46] j3_limbs_Add
def j4_limbs_Add : IR :=
 (.seq (.reg 3 [⟨some 15, .move (.t 0), none, []⟩,
  ⟨some 16, .len 32 false (.t 15), none, [15]⟩,
  ⟨some 17, .bin .add 3 (.t 16) (.c (Value.int IntKind.i64 1)) 3, none, [16]⟩,
  ⟨some 18, .mk 32 1 4 (.v (.int .u32 0)) (.c (Value.int IntKind.i64 0)) (.t 17), none, [17]⟩,
  ⟨some 5, .assign (.t 18), none, []⟩] none [0, 1, 5, 13, 14, 18, 46])
 (.seq (.reg 4 [⟨some 6, .assign (.c (Value.int IntKind.u64 0)), none, []⟩] none [0, 1, 5, 6, 13, 14, 18, 46])
 (.seq (.seq (.reg 5 [⟨some 19, .move (.t 0), none, []⟩,
  ⟨some 20, .len 32 false (.t 19), none, [19]⟩,
  ⟨some 21, .move (.c (Value.int IntKind.i64 0)), none, []⟩] none [0, 1, 5, 6, 13, 14, 18, 20, 21, 46])
 (.block 0 l0_limbs_Add))
 k3_limbs_Add)))
def k4_limbs_Add : IR := .tail [0, 1, 13, 14] j4_limbs_Add
def b_limbs_Add : IR :=
 (.seq (.reg 0 [⟨some 4, .assign (.nilS 1), none, [4]⟩] none [0, 1, 13, 14])
 (.seq (.seq (.reg 1 [⟨some 8, .move (.t 0), none, []⟩,
  ⟨some 9, .len 32 false (.t 8), none, [8]⟩,
  ⟨some 10, .move (.t 1), none, []⟩,
  ⟨some 11, .len 32 false (.t 10), none, [10]⟩,
  ⟨some 12, .bin .lss 3 (.t 9) (.t 11) 3, none, [9, 11]⟩] none [0, 1, 12, 13, 14])
 (.cond [0, 1, 13, 14] (.t 12) (.reg 2 [⟨some 13, .move (.t 1), none, []⟩,
  ⟨some 14, .move (.t 0), none, []⟩,
  ⟨some 0, .assign (.t 13), none, []⟩,
  ⟨some 1, .assign (.t 14), none, []⟩] none [0, 1, 13, 14]) .skip))
 k4_limbs_Add))
def a_limbs_Add : AFunc := ⟨56, [.tmp 4], b_limbs_Add⟩

def b_limbs_Bit : IR :=
 (.seq (.reg 0 [⟨some 4, .assign (.c (Value.bool false)), none, [4]⟩] none [0, 1])
 (.seq (.reg 1 [⟨some 5, .move (.t 1), none, []⟩,
  ⟨some 6, .bin .geq 3 (.t 5) (.c (Value.int IntKind.i64 0)) 3, none, [5]⟩,
  ⟨some 7, .move (.t 6), none, [6]⟩,
  ⟨some 8, .move (.t 1), some (2, true), []⟩,
  ⟨some 9, .bin .quo 3 (.t 8) (.c (Value.int IntKind.i64 32)) 3, some (2, true), [8]⟩,
  ⟨some 10, .move (.t 0), some (2, true), []⟩,
  ⟨some 11, .len 32 false (.t 10), some (2, true), [10]⟩,
  ⟨some 12, .bin .lss 3 (.t 9) (.t 11) 3, some (2, true), [9, 11]⟩,
  ⟨some 13, .pick (.t 7) (.t 12) (.c (Value.bool false)), none, [7, 12]⟩,
  ⟨some 14, .move (.t 13), none, [13]⟩,
  ⟨some 15, .move (.t 0), some (9, true), []⟩,
  ⟨some 16, .move (.t 1), some (9, true), []⟩,
  ⟨some 17, .bin .quo 3 (.t 16) (.c (Value.int IntKind.i64 32)) 3, some (9, true), [16]⟩,
  ⟨some 18, .iaddr 32 (.sl 1) (.t 15) (.t 17), some (9, true), []⟩,
  ⟨some 19, .load 47 none (.t 18), some (9, true), [0, 15, 17, 18]⟩,
  ⟨some 20, .move (.t 1), some (9, true), [1]⟩,
  ⟨some 21, .bin .rem 3 (.t 20) (.c (Value.int IntKind.i64 32)) 3, some (9, true), [20]⟩,
  ⟨some 22, .bin .shr 47 (.t 19) (.t 21) 3, some (9, true), [19, 21]⟩,
  ⟨some 23, .bin .and 47 (.t 22) (.c (Value.int IntKind.u32 1)) 47, some (9, true), [22]⟩,
  ⟨some 24, .bin .eql 47 (.t 23) (.c (Value.int IntKind.u32 1)) 47, some (9, true), [23]⟩,
  ⟨some 25, .pick (.t 14) (.t 24) (.c (Value.bool false)), none, [14, 24]⟩,
  ⟨some 4, .assign (.t 25), none, [25]⟩] none [4])
 .ret))
def a_limbs_Bit : AFunc := ⟨26, [.tmp 4], b_limbs_Bit⟩

def j0_fixed_rounded : IR :=
 (.seq (.reg 5 [⟨some 34, .move (.t 5), none, []⟩,
  ⟨some 4, .assign (.t 34), none, []⟩] none [4, 5, 9, 12, 13, 33, 34])
 .ret)
def k0_fixed_rounded : IR := .tail [5, 9, 12, 13] j0_fixed_rounded
def b_fixed_rounded : IR :=
 (.seq (.reg 0 [⟨some 4, .assign (.nilS 1), none, [4]⟩] none [0, 1])
 (.seq (.reg 1 [⟨some 10, .move (.t 0), none, []⟩,
  ⟨some 11, .move (.t 1), none, []⟩,
  ⟨some 12, .call n_limbs_DivMod [(.t 10), (.t 11)] [32, 32], none, [0, 10, 11]⟩,
  ⟨some 9, .move (.t 12), none, []⟩,
  ⟨some 13, .extr (.t 9) 0, none, []⟩,
  ⟨some 14, .extr (.t 9) 1, none, []⟩,
  ⟨some 15, .extr (.t 9) 2, none, []⟩,
  ⟨some 5, .assign (.t 13), none, []⟩,
  ⟨some 6, .assign (.t 14), none, []⟩,
  ⟨some 7, .assign (.t 15), none, [7, 15]⟩] none [1, 5, 6, 9, 12, 13, 14])
 (.seq (.reg 2 [⟨some 16, .move (.t 6), none, []⟩,
  ⟨some 17, .move (.t 6), none, []⟩,
  ⟨some 18, .call n_limbs_Add [(.t 16), (.t 17)] [32, 32], none, [6, 14, 16, 17]⟩,
  ⟨some 19, .move (.t 1), none, []⟩,
  ⟨some 20, .call n_limbs_Cmp [(.t 18), (.t 19)] [32, 32], none, [1, 18, 19]⟩,
  ⟨some 8, .assign (.t 20), none, [20]⟩] none [5, 8, 9, 12, 13])
 (.seq (.seq (.reg 3 [⟨some 21, .move (.t 8), none, []⟩,
  ⟨some 22, .bin .gtr 3 (.t 21) (.c (Value.int IntKind.i64 0)) 3, none, [21]⟩,
  ⟨some 23, .move (.t 22), none, [22]⟩,
  ⟨some 24, .move (.t 8), some (2, false), [8]⟩,
  ⟨some 25, .bin .eql 3 (.t 24) (.c (Value.int IntKind.i64 0)) 3, some (2, false), [24]⟩,
  ⟨some 26, .move (.t 25), some (2, false), [25]⟩,
  ⟨some 27, .move (.t 5), some (5, true), []⟩,
  ⟨some 28, .call n_limbs_Bit [(.t 27), (.c (Value.int IntKind.i64 0))] [32, 3], some (5, true), [27]⟩,
  ⟨some 29, .pick (.t 26) (.t 28) (.c (Value.bool false)), some (2, false), [26, 28]⟩,
  ⟨some 30, .pick (.t 23) (.c (Value.bool true)) (.t 29), none, [23, 29]⟩] none [5, 9, 12, 13, 30])
 (.cond [5, 9, 12, 13] (.t 30) (.seq (.reg 4 [⟨some 31, .move (.t 5), none, []⟩,
  ⟨some 32, .call n_limbs_From [(.c (Value.int IntKind.u64 1))] [49], none, []⟩,
  ⟨some 33, .call n_limbs_Add [(.t 31), (.t 32)] [32, 32], none, [31, 32]⟩,
  ⟨some 4, .assign (.t 33), none, []⟩] none [4, 5, 9, 12, 13, 33, 34])
 .ret) .skip))
 k0_fixed_rounded))))
def a_fixed_rounded : AFunc := ⟨35, [.tmp 4], b_fixed_rounded⟩

def j0_fixed_Rounded : IR :=
 (.seq (.reg 21 [⟨some 91, .move (.t 18), none, [18]⟩,
  ⟨some 2, .assign (.t 91), none, [91]⟩,
  ⟨some 3, .assign (.c (Value.int IntKind.i64 0)), none, []⟩,
  ⟨some 4, .assign (.c (Value.int IntKind.i64 0)), none, []⟩] none [2, 3, 4])
 .ret)
def k0_fixed_Rounded : IR := .tail [18] j0_fixed_Rounded
def j1_fixed_Rounded : IR :=
 (.seq (.reg 18 [⟨some 83, .move (.t 0), none, [0]⟩,
  ⟨some 84, .call n_strings_HasPrefix [(.t 83), (.c (Value.string { data := #[45] }))] [9, 9], none, [83]⟩,
  ⟨some 85, .move (.t 9), none, []⟩,
  ⟨some 86, .call n_fixed_signed [(.t 84), (.t 85)] [4, 32], none, [9, 33, 35, 36, 58, 81, 84, 85]⟩,
  ⟨some 82, .move (.t 86), none, [86]⟩,
  ⟨some 87, .extr (.t 82) 0, none, []⟩,
  ⟨some 88, .extr (.t 82) 1, none, [82]⟩,
  ⟨some 18, .assign (.t 87), none, [87]⟩,
  ⟨some 19, .assign (.t 88), none, [88]⟩] none [18, 19])
 (.seq (.seq (.reg 19 [⟨some 89, .move (.t 19), none, [19]⟩,
  ⟨some 90, .un .not 4 (.t 89), none, [89]⟩] none [18, 90])
 (.cond [18] (.t 90) (.seq (.reg 20 [⟨some 2, .assign (.c (Value.int IntKind.i64 0)), none, []⟩,
  ⟨some 3, .assign (.c (Value.int IntKind.i64 41)), none, []⟩,
  ⟨some 4, .assign (.c (Value.int IntKind.i64 0)), none, []⟩] none [2, 3, 4])
 .ret) .skip))
 k0_fixed_Rounded))
def k1_fixed_Rounded : IR := .tail [0, 9, 33, 35, 36, 58, 81] j1_fixed_Rounded
def j2_fixed_Rounded : IR :=
 (.seq (.reg 6 [⟨some 34, .move (.t 5), none, [5]⟩,
  ⟨some 35, .call n_limbs_Read [(.t 34)] [9], none, [34]⟩,
  ⟨some 33, .move (.t 35), none, []⟩,
  ⟨some 36, .extr (.t 33) 0, none, []⟩,
  ⟨some 37, .extr (.t 33) 1, none, []⟩,
  ⟨some 38, .extr (.t 33) 2, none, []⟩,
  ⟨some 9, .assign (.t 36), none, []⟩,
  ⟨some 10, .assign (.t 37), none, [10, 37]⟩,
  ⟨some 11, .assign (.t 38), none, [11, 38]⟩] none [0, 6, 7, 9, 33, 35, 36, 58, 81])
 (.seq (.reg 7 [⟨some 39, .move (.t 7), none, [7]⟩,
  ⟨some 40, .call n_fixed_clamped [(.t 39)] [9], none, [39]⟩,
  ⟨some 41, .move (.t 6), none, [6]⟩,
  ⟨some 42, .bin .sub 3 (.t 40) (.t 41) 3, none, [40, 41]⟩,
  ⟨some 43, .bin .add 3 (.t 42) (.c (Value.int IntKind.i64 6)) 3, none, [42]⟩,
  ⟨some 12, .assign (.t 43), none, [43]⟩] none [0, 9, 12, 33, 35, 36, 58, 81])
 (.seq (.seq (.reg 8 [⟨some 44, .move (.t 9), none, []⟩,
  ⟨some 45, .call n_limbs_Print [(.t 44)] [32], none, [44]⟩,
  ⟨some 46, .len 9 true (.t 45), none, [45]⟩,
  ⟨some 47, .move (.t 12), none, []⟩,
  ⟨some 48, .bin .add 3 (.t 46) (.t 47) 3, none, [46, 47]⟩,
  ⟨some 13, .assign (.t 48), none, [48]⟩] none [0, 9, 12, 13, 33, 35, 36, 58, 81])
 (.block 0 (.seq (.reg 11 [⟨some 60, .move (.t 9), none, []⟩,
  ⟨some 61, .call n_limbs_Len [(.t 60)] [32], none, [60]⟩,
  ⟨some 62, .bin .eql 3 (.t 61) (.c (Value.int IntKind.i64 0)) 3, none, [61]⟩,
  ⟨some 63, .move (.t 62), none, [62]⟩,
  ⟨some 64, .move (.t 13), some (3, false), []⟩,
  ⟨some 65, .bin .lss 3 (.t 64) (.c (Value.int IntKind.i64 (-10))) 3, some (3, false), [64]⟩,
  ⟨some 66, .pick (.t 63) (.c (Value.bool true)) (.t 65), none, [63, 65]⟩,
  ⟨some 59, .assign (.t 66), none, [66]⟩] none [0, 9, 12, 13, 33, 35, 36, 58, 59, 81])
 (.cond [0, 9, 12, 13, 33, 35, 36, 58, 81] (.t 59) (.seq (.reg 12 [⟨some 2, .assign (.c (Value.int IntKind.i64 0)), none, []⟩,
  ⟨some 3, .assign (.c (Value.int IntKind.i64 0)), none, []⟩,
  ⟨some 4, .assign (.c (Value.int IntKind.i64 0)), none, []⟩] none [2, 3, 4])
 .ret) (.seq (.reg 13 [⟨some 68, .move (.t 13), none, [13]⟩,
  ⟨some 69, .bin .gtr 3 (.t 68) (.c (Value.int IntKind.i64 100)) 3, none, [68]⟩,
  ⟨some 67, .assign (.t 69), none, [69]⟩] none [0, 9, 12, 33, 35, 36, 58, 67, 81])
 (.cond [0, 9, 12, 33, 35, 36, 58, 81] (.t 67) (.seq (.reg 14 [⟨some 2, .assign (.c (Value.int IntKind.i64 0)), none, []⟩,
  ⟨some 3, .assign (.c (Value.int IntKind.i64 41)), none, []⟩,
  ⟨some 4, .assign (.c (Value.int IntKind.i64 0)), none, []⟩] none [2, 3, 4])
 .ret) (.seq (.reg 15 [⟨some 71, .move (.t 12), none, []⟩,
  ⟨some 72, .bin .geq 3 (.t 71) (.c (Value.int IntKind.i64 0)) 3, none, [71]⟩,
  ⟨some 70, .assign (.t 72), none, [72]⟩] none [0, 9, 12, 33, 35, 36, 58, 70, 81])
 (.cond [0, 9, 12, 33, 35, 36, 58, 81] (.t 70) (.seq (.reg 16 [⟨some 74, .lit 32 1 [(.c (Value.int IntKind.u32 10))], none, []⟩,
  ⟨some 75, .move (.t 12), none, [12]⟩,
  ⟨some 76, .call n_limbs_Pow [(.t 74), (.t 75)] [32, 3], none, [74, 75]⟩,
  ⟨some 73, .move (.t 76), none, []⟩,
  ⟨some 77, .extr (.t 73) 0, none, []⟩,
  ⟨some 78, .extr (.t 73) 1, none, []⟩,
  ⟨some 14, .assign (.t 77), none, []⟩,
  ⟨some 15, .assign (.t 78), none, [15, 78]⟩] none [0, 9, 14, 33, 35, 36, 58, 73, 76, 77, 81])
 (.reg 17 [⟨some 79, .move (.t 9), none, []⟩,
  ⟨some 80, .move (.t 14), none, []⟩,
  ⟨some 81, .call n_limbs_Mul [(.t 79), (.t 80)] [32, 32], none, [14, 73, 76, 77, 79, 80]⟩,
  ⟨some 9, .assign (.t 81), none, []⟩] none [0, 9, 33, 35, 36, 58, 81])) (.seq (.reg 9 [⟨some 50, .lit 32 1 [(.c (Value.int IntKind.u32 10))], none, []⟩,
  ⟨some 51, .move (.t 12), none, [12]⟩,
  ⟨some 52, .un .neg 3 (.t 51), none, [51]⟩,
  ⟨some 53, .call n_limbs_Pow [(.t 50), (.t 52)] [32, 3], none, [50, 52]⟩,
  ⟨some 49, .move (.t 53), none, []⟩,
  ⟨some 54, .extr (.t 49) 0, none, []⟩,
  ⟨some 55, .extr (.t 49) 1, none, []⟩,
  ⟨some 16, .assign (.t 54), none, []⟩,
  ⟨some 17, .assign (.t 55), none, [17, 55]⟩] none [0, 9, 16, 33, 35, 36, 49, 53, 54, 58, 81])
 (.reg 10 [⟨some 56, .move (.t 9), none, []⟩,
  ⟨some 57, .move (.t 16), none, []⟩,
  ⟨some 58, .call n_fixed_rounded [(.t 56), (.t 57)] [32, 32], none, [16, 49, 53, 54, 56, 57]⟩,
  ⟨some 9, .assign (.t 58), none, []⟩] none [0, 9, 33, 35, 36, 58, 81]))))))))))
 k1_fixed_Rounded)))
def k2_fixed_Rounded : IR := .tail [0, 5, 6, 7] j2_fixed_Rounded
def j3_fixed_Rounded : IR :=
 (.seq (.reg 3 [⟨some 24, .move (.t 0), none, []⟩,
  ⟨some 25, .call n_fixed_decimal [(.t 24)] [9], none, [24]⟩,
  ⟨some 23, .move (.t 25), none, [25]⟩,
  ⟨some 26, .extr (.t 23) 0, none, []⟩,
  ⟨some 27, .extr (.t 23) 1, none, []⟩,
  ⟨some 28, .extr (.t 23) 2, none, []⟩,
  ⟨some 29, .extr (.t 23) 3, none, [23]⟩,
  ⟨some 5, .assign (.t 26), none, [26]⟩,
  ⟨some 6, .assign (.t 27), none, [27]⟩,
  ⟨some 7, .assign (.t 28), none, [28]⟩,
  ⟨some 8, .assign (.t 29), none, [29]⟩] none [0, 5, 6, 7, 8])
 (.seq (.seq (.reg 4 [⟨some 30, .move (.t 8), none, []⟩,
  ⟨some 31, .bin .geq 3 (.t 30) (.c (Value.int IntKind.i64 0)) 3, none, [30]⟩] none [0, 5, 6, 7, 8, 31])
 (.cond [0, 5, 6, 7, 8] (.t 31) (.seq (.reg 5 [⟨some 32, .move (.t 8), none, [8]⟩,
  ⟨some 2, .assign (.c (Value.int IntKind.i64 0)), none, []⟩,
  ⟨some 3, .assign (.c (Value.int IntKind.i64 40)), none, []⟩,
  ⟨some 4, .assign (.t 32), none, [32]⟩] none [2, 3, 4])
 .ret) .skip))
 k2_fixed_Rounded))
def k3_fixed_Rounded : IR := .tail [0] j3_fixed_Rounded
def b_fixed_Rounded : IR :=
 (.seq (.reg 0 [⟨some 2, .assign (.c (Value.int IntKind.i64 0)), none, [2]⟩,
  ⟨some 3, .assign (.c (Value.int IntKind.i64 0)), none, [3]⟩,
  ⟨some 4, .assign (.c (Value.int IntKind.i64 0)), none, [4]⟩] none [0])
 (.seq (.seq (.reg 1 [⟨some 20, .move (.t 0), none, []⟩,
  ⟨some 21, .len 9 true (.t 20), none, [20]⟩,
  ⟨some 22, .bin .gtr 3 (.t 21) (.c (Value.int IntKind.i64 4096)) 3, none, [21]⟩] none [0, 22])
 (.cond [0] (.t 22) (.seq (.reg 2 [⟨some 2, .assign (.c (Value.int IntKind.i64 0)), none, []⟩,
  ⟨some 3, .assign (.c (Value.int IntKind.i64 4)), none, []⟩,
  ⟨some 4, .assign (.c (Value.int IntKind.i64 0)), none, []⟩] none [2, 3, 4])
 .ret) .skip))
 k3_fixed_Rounded))
def a_fixed_Rounded : AFunc := ⟨92, [.tmp 2, .tmp 3, .tmp 4], b_fixed_Rounded⟩

def j0_fixed_amount : IR :=
 (.seq (.reg 3 [⟨some 8, .move (.t 0), none, [0]⟩,
  ⟨some 9, .conv 2 49 (.int .u64) (.t 8), none, [8]⟩,
  ⟨some 2, .assign (.t 9), none, [9]⟩] none [2])
 .ret)
def k0_fixed_amount : IR := .tail [0] j0_fixed_amount
def b_fixed_amount : IR :=
 (.seq (.reg 0 [⟨some 2, .assign (.c (Value.int IntKind.u64 0)), none, [2]⟩] none [0])
 (.seq (.seq (.reg 1 [⟨some 3, .move (.t 0), none, []⟩,
  ⟨some 4, .bin .lss 2 (.t 3) (.c (Value.int IntKind.i64 0)) 2, none, [3]⟩] none [0, 4])
 (.cond [0] (.t 4) (.seq (.reg 2 [⟨some 5, .move (.t 0), none, [0]⟩,
  ⟨some 6, .conv 2 49 (.int .u64) (.t 5), none, [5]⟩,
  ⟨some 7, .un .neg 49 (.t 6), none, [6]⟩,
  ⟨some 2, .assign (.t 7), none, [7]⟩] none [2])
 .ret) .skip))
 k0_fixed_amount))
def a_fixed_amount : AFunc := ⟨10, [.tmp 2], b_fixed_amount⟩

def b_strconv_FormatUint : IR :=
 (.seq (.reg 0 [⟨some 4, .assign (.c (Value.string { data := #[] })), none, [4]⟩] none [0, 1])
 (.seq (.reg 1 [⟨some 5, .move (.t 0), none, [0]⟩,
  ⟨some 6, .move (.t 1), none, [1]⟩,
  ⟨some 7, .call n_strconv_FormatUint_69 [(.t 5), (.t 6)] [49, 3], none, [5, 6]⟩,
  ⟨some 4, .assign (.t 7), none, [7]⟩] none [4])
 .ret))
def a_strconv_FormatUint : AFunc := ⟨8, [.tmp 4], b_strconv_FormatUint⟩

def j0_strings_trimRightByte : IR :=
 (.block 1 (.reg 2 [⟨some 17, .move (.t 0), none, []⟩,
  ⟨some 18, .move (.t 0), none, []⟩,
  ⟨some 19, .len 9 true (.t 18), none, [18]⟩,
  ⟨some 20, .bin .sub 3 (.t 19) (.c (Value.int IntKind.i64 1)) 3, none, [19]⟩,
  ⟨some 21, .slice 9 .str (.t 17) none (some (.t 20)) none, none, [17, 20]⟩,
  ⟨some 0, .assign (.t 21), none, [21]⟩] none [0, 1]))
def k0_strings_trimRightByte : IR := .tail [0, 1] j0_strings_trimRightByte
def w0_strings_trimRightByte : IR :=
 (.seq (.seq (.reg 1 [⟨some 5, .move (.t 0), none, []⟩,
  ⟨some 6, .len 9 true (.t 5), none, [5]⟩,
  ⟨some 7, .bin .gtr 3 (.t 6) (.c (Value.int IntKind.i64 0)) 3, none, [6]⟩,
  ⟨some 8, .move (.t 7), none, [7]⟩,
  ⟨some 9, .move (.t 0), some (3, true), []⟩,
  ⟨some 10, .move (.t 0), some (3, true), []⟩,
  ⟨some 11, .len 9 true (.t 10), some (3, true), [10]⟩,
  ⟨some 12, .bin .sub 3 (.t 11) (.c (Value.int IntKind.i64 1)) 3, some (3, true), [11]⟩,
  ⟨some 13, .index 9 .str none (.t 9) (.t 12), some (3, true), [9, 12]⟩,
  ⟨some 14, .move (.t 1), some (3, true), []⟩,
  ⟨some 15, .bin .eql 5 (.t 13) (.t 14) 5, some (3, true), [13, 14]⟩,
  ⟨some 16, .pick (.t 8) (.t 15) (.c (Value.bool false)), none, [8, 15]⟩] none [0, 1, 16])
 (.cond [0, 1] (.t 16) .skip (.exit 0)))
 k0_strings_trimRightByte)
def l0_strings_trimRightByte : IR := .loop [0, 1] w0_strings_trimRightByte
def j1_strings_trimRightByte : IR :=
 (.seq (.reg 3 [⟨some 22, .move (.t 0), none, [0]⟩,
  ⟨some 4, .assign (.t 22), none, [22]⟩] none [4])
 .ret)
def k1_strings_trimRightByte : IR := .tail [0] j1_strings_trimRightByte
def b_strings_trimRightByte : IR :=
 (.seq (.reg 0 [⟨some 4, .assign (.c (Value.string { data := #[] })), none, [4]⟩] none [0, 1])
 (.seq (.block 0 l0_strings_trimRightByte)
 k1_strings_trimRightByte))
def a_strings_trimRightByte : AFunc := ⟨23, [.tmp 4], b_strings_trimRightByte⟩

def j0_strings_TrimRight : IR :=
 (.seq (.reg 8 [⟨some 34, .move (.t 0), none, [0]⟩,
  ⟨some 35, .move (.t 1), none, [1]⟩,
  ⟨some 36, .call n_strings_trimRightUnicode [(.t 34), (.t 35)] [9, 9], none, [34, 35]⟩,
  ⟨some 4, .assign (.t 36), none, [36]⟩] none [4])
 .ret)
def k0_strings_TrimRight : IR := .tail [0, 1] j0_strings_TrimRight
def j1_strings_TrimRight : IR :=
 (.seq (.seq (.reg 5 [⟨some 27, .move (.t 1), none, []⟩,
  ⟨some 28, .call n_strings_makeASCIISet [(.t 27)] [9], none, [27]⟩,
  ⟨some 26, .move (.t 28), none, [28]⟩,
  ⟨some 29, .extr (.t 26) 0, none, []⟩,
  ⟨some 30, .extr (.t 26) 1, none, [26]⟩,
  ⟨some 5, .alloc 103 [.v (.bool false), .v (.bool false), .v (.bool false), .v (.bool false), .v (.bool false), .v (.bool false), .v (.bool false), .v (.bool false), .v (.bool false), .v (.bool false), .v (.bool false), .v (.bool false), .v (.bool false), .v (.bool false), .v (.bool false), .v (.bool false), .v (.bool false), .v (.bool false), .v (.bool false), .v (.bool false), .v (.bool false), .v (.bool false), .v (.bool false), .v (.bool false), .v (.bool false), .v (.bool false), .v (.bool false), .v (.bool false), .v (.bool false), .v (.bool false), .v (.bool false), .v (.bool false), .v (.bool false), .v (.bool false), .v (.bool false), .v (.bool false), .v (.bool false), .v (.bool false), .v (.bool false), .v (.bool false), .v (.bool false), .v (.bool false), .v (.bool false), .v (.bool false), .v (.bool false), .v (.bool false), .v (.bool false), .v (.bool false), .v (.bool false), .v (.bool false), .v (.bool false), .v (.bool false), .v (.bool false), .v (.bool false), .v (.bool false), .v (.bool false), .v (.bool false), .v (.bool false), .v (.bool false), .v (.bool false), .v (.bool false), .v (.bool false), .v (.bool false), .v (.bool false), .v (.bool false), .v (.bool false), .v (.bool false), .v (.bool false), .v (.bool false), .v (.bool false), .v (.bool false), .v (.bool false), .v (.bool false), .v (.bool false), .v (.bool false), .v (.bool false), .v (.bool false), .v (.bool false), .v (.bool false), .v (.bool false), .v (.bool false), .v (.bool false), .v (.bool false), .v (.bool false), .v (.bool false), .v (.bool false), .v (.bool false), .v (.bool false), .v (.bool false), .v (.bool false), .v (.bool false), .v (.bool false), .v (.bool false), .v (.bool false), .v (.bool false), .v (.bool false), .v (.bool false), .v (.bool false), .v (.bool false), .v (.bool false), .v (.bool false), .v (.bool false), .v (.bool false), .v (.bool false), .v (.bool false), .v (.bool false), .v (.bool false), .v (.bool false), .v (.bool false), .v (.bool false), .v (.bool false), .v (.bool false), .v (.bool false), .v (.bool false), .v (.bool false), .v (.bool false), .v (.bool false), .v (.bool false), .v (.bool false), .v (.bool false), .v (.bool false), .v (.bool false), .v (.bool false), .v (.bool false), .v (.bool false), .v (.bool false), .v (.bool false), .v (.bool false), .v (.bool false), .v (.bool false), .v (.bool false), .v (.bool false), .v (.bool false), .v (.bool false), .v (.bool false), .v (.bool false), .v (.bool false), .v (.bool false), .v (.bool false), .v (.bool false), .v (.bool false), .v (.bool false), .v (.bool false), .v (.bool false), .v (.bool false), .v (.bool false), .v (.bool false), .v (.bool false), .v (.bool false), .v (.bool false), .v (.bool false), .v (.bool false), .v (.bool false), .v (.bool false), .v (.bool false), .v (.bool false), .v (.bool false), .v (.bool false), .v (.bool false), .v (.bool false), .v (.bool false), .v (.bool false), .v (.bool false), .v (.bool false), .v (.bool false), .v (.bool false), .v (.bool false), .v (.bool false), .v (.bool false), .v (.bool false), .v (.bool false), .v (.bool false), .v (.bool false), .v (.bool false), .v (.bool false), .v (.bool false), .v (.bool false), .v (.bool false), .v (.bool false), .v (.bool false), .v (.bool false), .v (.bool false), .v (.bool false), .v (.bool false), .v (.bool false), .v (.bool false), .v (.bool false), .v (.bool false), .v (.bool false), .v (.bool false), .v (.bool false), .v (.bool false), .v (.bool false), .v (.bool false), .v (.bool false), .v (.bool false), .v (.bool false), .v (.bool false), .v (.bool false), .v (.bool false), .v (.bool false), .v (.bool false), .v (.bool false), .v (.bool false), .v (.bool false), .v (.bool false), .v (.bool false), .v (.bool false), .v (.bool false), .v (.bool false), .v (.bool false), .v (.bool false), .v (.bool false), .v (.bool false), .v (.bool false), .v (.bool false), .v (.bool false), .v (.bool false), .v (.bool false), .v (.bool false), .v (.bool false), .v (.bool false), .v (.bool false), .v (.bool false), .v (.bool false), .v (.bool false), .v (.bool false), .v (.bool false), .v (.bool false), .v (.bool false), .v (.bool false), .v (.bool false), .v (.bool false), .v (.bool false), .v (.bool false), .v (.bool false), .v (.bool false), .v (.bool false), .v (.bool false), .v (.bool false), .v (.bool false), .v (.bool false), .v (.bool false), .v (.bool false), .v (.bool false), .v (.bool false), .v (.bool false), .v (.bool false), .v (.bool false), .v (.bool false), .v (.bool false), .v (.bool false), .v (.bool false), .v (.bool false), .v (.bool false), .v (.bool false)], none, []⟩,
  ⟨none, .store 103 (some 256) (.t 5) (.t 29), none, [29]⟩,
  ⟨some 6, .assign (.t 30), none, [30]⟩] none [0, 1, 5, 6])
 (.seq (.reg 6 [⟨some 31, .move (.t 6), none, [6]⟩] none [0, 1, 5, 31])
 (.cond [0, 1, 5] (.t 31) (.seq (.reg 7 [⟨some 32, .move (.t 0), none, [0]⟩,
  ⟨some 33, .call n_strings_trimRightASCII [(.t 32), (.t 5)] [9, 107], none, [5, 32]⟩,
  ⟨some 4, .assign (.t 33), none, [33]⟩] none [4])
 .ret) .skip)))
 k0_strings_TrimRight)
def k1_strings_TrimRight : IR := .tail [0, 1] j1_strings_TrimRight
def j2_strings_TrimRight : IR :=
 (.seq (.seq (.reg 3 [⟨some 14, .move (.t 1), none, []⟩,
  ⟨some 15, .len 9 true (.t 14), none, [14]⟩,
  ⟨some 16, .bin .eql 3 (.t 15) (.c (Value.int IntKind.i64 1)) 3, none, [15]⟩,
  ⟨some 17, .move (.t 16), none, [16]⟩,
  ⟨some 18, .move (.t 1), some (3, true), []⟩,
  ⟨some 19, .index 9 .str none (.t 18) (.c (Value.int IntKind.i64 0)), some (3, true), [18]⟩,
  ⟨some 20, .bin .lss 5 (.t 19) (.c (Value.int IntKind.u8 128)) 5, some (3, true), [19]⟩,
  ⟨some 21, .pick (.t 17) (.t 20) (.c (Value.bool false)), none, [17, 20]⟩] none [0, 1, 21])
 (.cond [0, 1] (.t 21) (.seq (.reg 4 [⟨some 22, .move (.t 0), none, [0]⟩,
  ⟨some 23, .move (.t 1), none, [1]⟩,
  ⟨some 24, .index 9 .str none (.t 23) (.c (Value.int IntKind.i64 0)), none, [23]⟩,
  ⟨some 25, .call n_strings_trimRightByte [(.t 22), (.t 24)] [9, 5], none, [22, 24]⟩,
  ⟨some 4, .assign (.t 25), none, [25]⟩] none [4])
 .ret) .skip))
 k1_strings_TrimRight)
def k2_strings_TrimRight : IR := .tail [0, 1] j2_strings_TrimRight
def b_strings_TrimRight : IR :=
 (.seq (.reg 0 [⟨some 4, .assign (.c (Value.string { data := #[] })), none, [4]⟩] none [0, 1])
 (.seq (.seq (.reg 1 [⟨some 7, .move (.t 0), none, []⟩,
  ⟨some 8, .bin .eql 9 (.t 7) (.c (Value.string { data := #[] })) 9, none, [7]⟩,
  ⟨some 9, .move (.t 8), none, [8]⟩,
  ⟨some 10, .move (.t 1), some (2, false), []⟩,
  ⟨some 11, .bin .eql 9 (.t 10) (.c (Value.string { data := #[] })) 9, some (2, false), [10]⟩,
  ⟨some 12, .pick (.t 9) (.c (Value.bool true)) (.t 11), none, [9, 11]⟩] none [0, 1, 12])
 (.cond [0, 1] (.t 12) (.seq (.reg 2 [⟨some 13, .move (.t 0), none, [0]⟩,
  ⟨some 4, .assign (.t 13), none, [13]⟩] none [4])
 .ret) .skip))
 k2_strings_TrimRight))
def a_strings_TrimRight : AFunc := ⟨37, [.tmp 4], b_strings_TrimRight⟩

def j0_fixed_Print : IR :=
 (.seq (.reg 9 [⟨some 32, .move (.t 4), none, [4]⟩,
  ⟨some 2, .assign (.t 32), none, [32]⟩] none [2])
 .ret)
def k0_fixed_Print : IR := .tail [4] j0_fixed_Print
def j1_fixed_Print : IR :=
 (.seq (.seq (.reg 7 [⟨some 28, .move (.t 0), none, [0]⟩,
  ⟨some 29, .bin .lss 2 (.t 28) (.c (Value.int IntKind.i64 0)) 2, none, [28]⟩] none [4, 29])
 (.cond [4] (.t 29) (.seq (.reg 8 [⟨some 30, .move (.t 4), none, [4]⟩,
  ⟨some 31, .bin .add 9 (.c (Value.string { data := #[45] })) (.t 30) 9, none, [30]⟩,
  ⟨some 2, .assign (.t 31), none, [31]⟩] none [2])
 .ret) .skip))
 k0_fixed_Print)
def k1_fixed_Print : IR := .tail [0, 4] j1_fixed_Print
def b_fixed_Print : IR :=
 (.seq (.reg 0 [⟨some 2, .assign (.c (Value.string { data := #[] })), none, [2]⟩] none [0])
 (.seq (.reg 1 [⟨some 7, .move (.t 0), none, []⟩,
  ⟨some 8, .call n_fixed_amount [(.t 7)] [2], none, [7]⟩,
  ⟨some 3, .assign (.t 8), none, [8]⟩] none [0, 3])
 (.seq (.reg 2 [⟨some 9, .move (.t 3), none, []⟩,
  ⟨some 10, .bin .quo 49 (.t 9) (.c (Value.int IntKind.u64 1000000)) 49, none, [9]⟩,
  ⟨some 11, .call n_strconv_FormatUint [(.t 10), (.c (Value.int IntKind.i64 10))] [49, 3], none, [10]⟩,
  ⟨some 4, .assign (.t 11), none, [11]⟩] none [0, 3, 4])
 (.seq (.seq (.reg 3 [⟨some 12, .move (.t 3), none, [3]⟩,
  ⟨some 13, .bin .rem 49 (.t 12) (.c (Value.int IntKind.u64 1000000)) 49, none, [12]⟩,
  ⟨some 5, .assign (.t 13), none, [13]⟩] none [0, 4, 5])
 (.seq (.reg 4 [⟨some 14, .move (.t 5), none, []⟩,
  ⟨some 15, .bin .gtr 49 (.t 14) (.c (Value.int IntKind.u64 0)) 49, none, [14]⟩] none [0, 4, 5, 15])
 (.cond [0, 4, 5] (.t 15) (.seq (.reg 5 [⟨some 16, .move (.t 5), none, [5]⟩,
  ⟨some 17, .call n_strconv_FormatUint [(.t 16), (.c (Value.int IntKind.i64 10))] [49, 3], none, [16]⟩,
  ⟨some 6, .assign (.t 17), none, [17]⟩] none [0, 4, 6])
 (.reg 6 [⟨some 18, .move (.t 4), none, []⟩,
  ⟨some 19, .move (.t 6), none, []⟩,
  ⟨some 20, .len 9 true (.t 19), none, [19]⟩,
  ⟨some 21, .bin .sub 3 (.c (Value.int IntKind.i64 6)) (.t 20) 3, none, [20]⟩,
  ⟨some 22, .call n_strings_Repeat [(.c (Value.string { data := #[48] })), (.t 21)] [9, 3], none, [21]⟩,
  ⟨some 23, .move (.t 6), none, [6]⟩,
  ⟨some 24, .bin .add 9 (.t 22) (.t 23) 9, none, [22, 23]⟩,
  ⟨some 25, .call n_strings_TrimRight [(.t 24), (.c (Value.string { data := #[48] }))] [9, 9], none, [24]⟩,
  ⟨some 26, .bin .add 9 (.c (Value.string { data := #[46] })) (.t 25) 9, none, [25]⟩,
  ⟨some 27, .bin .add 9 (.t 18) (.t 26) 9, none, [18, 26]⟩,
  ⟨some 4, .assign (.t 27), none, [27]⟩] none [0, 4])) .skip)))
 k1_fixed_Print))))
def a_fixed_Print : AFunc := ⟨33, [.tmp 2], b_fixed_Print⟩

def j0_fixed_Scale : IR :=
 (.seq (.reg 8 [⟨some 41, .move (.t 10), none, [10]⟩,
  ⟨some 6, .assign (.t 41), none, [41]⟩,
  ⟨some 7, .assign (.c (Value.int IntKind.i64 0)), none, []⟩] none [6, 7])
 .ret)
def k0_fixed_Scale : IR := .tail [10] j0_fixed_Scale
def j1_fixed_Scale : IR :=
 (.seq (.reg 3 [⟨some 14, .move (.t 0), none, []⟩,
  ⟨some 15, .call n_fixed_amount [(.t 14)] [2], none, [14]⟩,
  ⟨some 16, .call n_limbs_From [(.t 15)] [49], none, [15]⟩,
  ⟨some 17, .move (.t 1), none, []⟩,
  ⟨some 18, .call n_fixed_amount [(.t 17)] [2], none, [17]⟩,
  ⟨some 19, .call n_limbs_From [(.t 18)] [49], none, [18]⟩,
  ⟨some 20, .call n_limbs_Mul [(.t 16), (.t 19)] [32, 32], none, [16, 19]⟩,
  ⟨some 21, .move (.t 2), none, []⟩,
  ⟨some 22, .call n_fixed_amount [(.t 21)] [2], none, [21]⟩,
  ⟨some 23, .call n_limbs_From [(.t 22)] [49], none, [22]⟩,
  ⟨some 24, .call n_fixed_rounded [(.t 20), (.t 23)] [32, 32], none, [20, 23]⟩,
  ⟨some 8, .assign (.t 24), none, []⟩] none [0, 1, 2, 8, 24])
 (.seq (.reg 4 [⟨some 25, .move (.t 0), none, [0]⟩,
  ⟨some 26, .bin .lss 2 (.t 25) (.c (Value.int IntKind.i64 0)) 2, none, [25]⟩,
  ⟨some 27, .move (.t 1), none, [1]⟩,
  ⟨some 28, .bin .lss 2 (.t 27) (.c (Value.int IntKind.i64 0)) 2, none, [27]⟩,
  ⟨some 29, .eqs true 4 (.one .bool) (.t 26) (.t 28) 4, none, [26, 28]⟩,
  ⟨some 30, .move (.t 2), none, [2]⟩,
  ⟨some 31, .bin .lss 2 (.t 30) (.c (Value.int IntKind.i64 0)) 2, none, [30]⟩,
  ⟨some 32, .eqs true 4 (.one .bool) (.t 29) (.t 31) 4, none, [29, 31]⟩,
  ⟨some 9, .assign (.t 32), none, [32]⟩] none [8, 9, 24])
 (.seq (.reg 5 [⟨some 34, .move (.t 9), none, [9]⟩,
  ⟨some 35, .move (.t 8), none, []⟩,
  ⟨some 36, .call n_fixed_signed [(.t 34), (.t 35)] [4, 32], none, [8, 24, 34, 35]⟩,
  ⟨some 33, .move (.t 36), none, [36]⟩,
  ⟨some 37, .extr (.t 33) 0, none, []⟩,
  ⟨some 38, .extr (.t 33) 1, none, [33]⟩,
  ⟨some 10, .assign (.t 37), none, [37]⟩,
  ⟨some 11, .assign (.t 38), none, [38]⟩] none [10, 11])
 (.seq (.seq (.reg 6 [⟨some 39, .move (.t 11), none, [11]⟩,
  ⟨some 40, .un .not 4 (.t 39), none, [39]⟩] none [10, 40])
 (.cond [10] (.t 40) (.seq (.reg 7 [⟨some 6, .assign (.c (Value.int IntKind.i64 0)), none, []⟩,
  ⟨some 7, .assign (.c (Value.int IntKind.i64 41)), none, []⟩] none [6, 7])
 .ret) .skip))
 k0_fixed_Scale))))
def k1_fixed_Scale : IR := .tail [0, 1, 2] j1_fixed_Scale
def b_fixed_Scale : IR :=
 (.seq (.reg 0 [⟨some 6, .assign (.c (Value.int IntKind.i64 0)), none, [6]⟩,
  ⟨some 7, .assign (.c (Value.int IntKind.i64 0)), none, [7]⟩] none [0, 1, 2])
 (.seq (.seq (.reg 1 [⟨some 12, .move (.t 2), none, []⟩,
  ⟨some 13, .bin .eql 2 (.t 12) (.c (Value.int IntKind.i64 0)) 2, none, [12]⟩] none [0, 1, 2, 13])
 (.cond [0, 1, 2] (.t 13) (.seq (.reg 2 [⟨some 6, .assign (.c (Value.int IntKind.i64 0)), none, []⟩,
  ⟨some 7, .assign (.c (Value.int IntKind.i64 2)), none, []⟩] none [6, 7])
 .ret) .skip))
 k1_fixed_Scale))
def a_fixed_Scale : AFunc := ⟨42, [.tmp 6, .tmp 7], b_fixed_Scale⟩

def j0_limbs_Gcd : IR :=
 (.block 1 (.seq (.reg 3 [⟨some 16, .move (.t 0), none, []⟩,
  ⟨some 17, .move (.t 1), none, []⟩,
  ⟨some 18, .call n_limbs_DivMod [(.t 16), (.t 17)] [32, 32], none, [0, 9, 16, 17, 22]⟩,
  ⟨some 15, .move (.t 18), none, []⟩,
  ⟨some 19, .extr (.t 15) 0, none, []⟩,
  ⟨some 20, .extr (.t 15) 1, none, []⟩,
  ⟨some 21, .extr (.t 15) 2, none, []⟩,
  ⟨some 5, .assign (.t 19), none, [5, 19]⟩,
  ⟨some 6, .assign (.t 20), none, []⟩,
  ⟨some 7, .assign (.t 21), none, [7, 21]⟩] none [1, 6, 11, 15, 18, 20, 23])
 (.reg 4 [⟨some 22, .move (.t 1), none, []⟩,
  ⟨some 23, .move (.t 6), none, []⟩,
  ⟨some 0, .assign (.t 22), none, []⟩,
  ⟨some 1, .assign (.t 23), none, []⟩] none [0, 1, 6, 9, 11, 15, 18, 20, 22, 23])))
def k0_limbs_Gcd : IR := .tail [0, 1, 6, 9, 11, 15, 18, 20, 22, 23] j0_limbs_Gcd
def w0_limbs_Gcd : IR :=
 (.seq (.seq (.reg 2 [⟨some 12, .move (.t 1), none, []⟩,
  ⟨some 13, .len 32 false (.t 12), none, [12]⟩,
  ⟨some 14, .bin .gtr 3 (.t 13) (.c (Value.int IntKind.i64 0)) 3, none, [13]⟩] none [0, 1, 6, 9, 11, 14, 15, 18, 20, 22, 23])
 (.cond [0, 1, 6, 9, 11, 15, 18, 20, 22, 23] (.t 14) .skip (.exit 0)))
 k0_limbs_Gcd)
def l0_limbs_Gcd : IR := .loop [0, 1, 6, 9, 11, 15, 18, 20, 22, 23] w0_limbs_Gcd
def j1_limbs_Gcd : IR :=
 (.seq (.reg 5 [⟨some 24, .move (.t 0), none, []⟩,
  ⟨some 4, .assign (.t 24), none, []⟩] none [0, 1, 4, 6, 9, 11, 15, 18, 20, 22, 23, 24])
 .ret)
def k1_limbs_Gcd : IR := .tail [0, 1, 6, 9, 11, 15, 18, 20, 22, 23] j1_limbs_Gcd
def b_limbs_Gcd : IR :=
 (.seq (.reg 0 [⟨some 4, .assign (.nilS 1), none, [4]⟩] none [0, 1, 6, 9, 11, 15, 18, 20, 22, 23])
 (.seq (.reg 1 [⟨some 8, .move (.t 0), none, []⟩,
  ⟨some 9, .call n_limbs_Norm [(.t 8)] [32], none, [8]⟩,
  ⟨some 10, .move (.t 1), none, []⟩,
  ⟨some 11, .call n_limbs_Norm [(.t 10)] [32], none, [10]⟩,
  ⟨some 0, .assign (.t 9), none, []⟩,
  ⟨some 1, .assign (.t 11), none, []⟩] none [0, 1, 6, 9, 11, 15, 18, 20, 22, 23])
 (.seq (.block 0 l0_limbs_Gcd)
 k1_limbs_Gcd)))
def a_limbs_Gcd : AFunc := ⟨25, [.tmp 4], b_limbs_Gcd⟩

def j0_limbs_right : IR :=
 (.seq (.reg 3 [⟨some 20, .move (.t 1), none, []⟩,
  ⟨some 21, .move (.t 2), none, []⟩,
  ⟨some 22, .call n_limbs_Gcd [(.t 20), (.t 21)] [32, 32], none, [20, 21]⟩,
  ⟨some 7, .assign (.t 22), none, []⟩] none [0, 1, 2, 6, 7, 22])
 (.seq (.reg 4 [⟨some 24, .move (.t 1), none, []⟩,
  ⟨some 25, .move (.t 7), none, []⟩,
  ⟨some 26, .call n_limbs_DivMod [(.t 24), (.t 25)] [32, 32], none, [1, 24, 25]⟩,
  ⟨some 23, .move (.t 26), none, []⟩,
  ⟨some 27, .extr (.t 23) 0, none, []⟩,
  ⟨some 28, .extr (.t 23) 1, none, []⟩,
  ⟨some 29, .extr (.t 23) 2, none, []⟩,
  ⟨some 8, .assign (.t 27), none, []⟩,
  ⟨some 9, .assign (.t 28), none, [9, 28]⟩,
  ⟨some 10, .assign (.t 29), none, [10, 29]⟩] none [0, 2, 6, 7, 8, 22, 23, 26, 27])
 (.seq (.reg 5 [⟨some 31, .move (.t 2), none, []⟩,
  ⟨some 32, .move (.t 7), none, []⟩,
  ⟨some 33, .call n_limbs_DivMod [(.t 31), (.t 32)] [32, 32], none, [2, 7, 22, 31, 32]⟩,
  ⟨some 30, .move (.t 33), none, []⟩,
  ⟨some 34, .extr (.t 30) 0, none, []⟩,
  ⟨some 35, .extr (.t 30) 1, none, []⟩,
  ⟨some 36, .extr (.t 30) 2, none, []⟩,
  ⟨some 11, .assign (.t 34), none, []⟩,
  ⟨some 12, .assign (.t 35), none, [12, 35]⟩,
  ⟨some 13, .assign (.t 36), none, [13, 36]⟩] none [0, 6, 8, 11, 23, 26, 27, 30, 33, 34])
 (.seq (.reg 6 [⟨some 37, .move (.t 0), none, [0]⟩,
  ⟨some 38, .move (.t 8), none, []⟩,
  ⟨some 39, .move (.t 11), none, []⟩,
  ⟨some 40, .build 111 [(0, 1), (1, 1), (2, 1)] [.v (.bool false), .nil 1, .nil 1] [(0, (.t 37)), (1, (.t 38)), (2, (.t 39))], none, []⟩,
  ⟨none, .store 111 (some 3) (.t 6) (.t 40), none, [8, 11, 23, 26, 27, 30, 33, 34, 37, 38, 39, 40]⟩] none [6])
 .ret))))
def k0_limbs_right : IR := .tail [0, 1, 2, 6] j0_limbs_right
def b_limbs_right : IR :=
 (.seq (.reg 0 [⟨some 6, .alloc 111 [.v (.bool false), .nil 1, .nil 1], none, []⟩] none [0, 1, 2, 6])
 (.seq (.seq (.reg 1 [⟨some 14, .move (.t 1), none, []⟩,
  ⟨some 15, .call n_limbs_trim [(.t 14)] [32], none, [14]⟩,
  ⟨some 16, .len 32 false (.t 15), none, [15]⟩,
  ⟨some 17, .bin .eql 3 (.t 16) (.c (Value.int IntKind.i64 0)) 3, none, [16]⟩] none [0, 1, 2, 6, 17])
 (.cond [0, 1, 2, 6] (.t 17) (.seq (.reg 2 [⟨some 18, .lit 32 1 [(.c (Value.int IntKind.u32 1))], none, []⟩,
  ⟨some 19, .build 111 [(0, 1), (1, 1), (2, 1)] [.v (.bool false), .nil 1, .nil 1] [(2, (.t 18))], none, []⟩,
  ⟨none, .store 111 (some 3) (.t 6) (.t 19), none, [18, 19]⟩] none [6])
 .ret) .skip))
 k0_limbs_right))
def a_limbs_right : AFunc := ⟨41, [.cell 6 111 (some 3)], b_limbs_right⟩

def j0_limbs_Over : IR :=
 (.seq (.reg 3 [⟨some 13, .move (.t 0), none, [0]⟩,
  ⟨some 14, .move (.t 1), none, []⟩,
  ⟨some 15, .move (.t 2), none, []⟩,
  ⟨some 16, .call n_limbs_right [(.t 13), (.t 14), (.t 15)] [4, 32, 32], none, [1, 2, 13, 14, 15]⟩,
  ⟨none, .store 111 (some 3) (.t 6) (.t 16), none, [16]⟩,
  ⟨some 7, .assign (.c (Value.int IntKind.i64 0)), none, []⟩] none [6, 7])
 .ret)
def k0_limbs_Over : IR := .tail [0, 1, 2, 6] j0_limbs_Over
def b_limbs_Over : IR :=
 (.seq (.reg 0 [⟨some 6, .alloc 111 [.v (.bool false), .nil 1, .nil 1], none, []⟩,
  ⟨some 7, .assign (.c (Value.int IntKind.i64 0)), none, [7]⟩] none [0, 1, 2, 6])
 (.seq (.seq (.reg 1 [⟨some 8, .move (.t 2), none, []⟩,
  ⟨some 9, .call n_limbs_trim [(.t 8)] [32], none, [8]⟩,
  ⟨some 10, .len 32 false (.t 9), none, [9]⟩,
  ⟨some 11, .bin .eql 3 (.t 10) (.c (Value.int IntKind.i64 0)) 3, none, [10]⟩] none [0, 1, 2, 6, 11])
 (.cond [0, 1, 2, 6] (.t 11) (.seq (.reg 2 [⟨some 12, .build 111 [(0, 1), (1, 1), (2, 1)] [.v (.bool false), .nil 1, .nil 1] [], none, []⟩,
  ⟨none, .store 111 (some 3) (.t 6) (.t 12), none, [12]⟩,
  ⟨some 7, .assign (.c (Value.int IntKind.i64 11)), none, []⟩] none [6, 7])
 .ret) .skip))
 k0_limbs_Over))
def a_limbs_Over : AFunc := ⟨17, [.cell 6 111 (some 3), .tmp 7], b_limbs_Over⟩

def j0_math_Inf : IR :=
 (.seq (.reg 5 [⟨some 6, .move (.t 3), none, [3]⟩,
  ⟨some 7, .ext n_math_Float64frombits .fromBits [(.t 6)] [49], none, [6]⟩,
  ⟨some 2, .assign (.t 7), none, [7]⟩] none [2])
 .ret)
def k0_math_Inf : IR := .tail [3] j0_math_Inf
def b_math_Inf : IR :=
 (.seq (.reg 0 [⟨some 2, .assign (.c (Value.float FloatKind.f64 0)), none, [2]⟩] none [0])
 (.seq (.reg 1 [⟨some 3, .assign (.c (Value.int IntKind.u64 0)), none, [3]⟩] none [0])
 (.seq (.seq (.reg 2 [⟨some 4, .move (.t 0), none, [0]⟩,
  ⟨some 5, .bin .geq 3 (.t 4) (.c (Value.int IntKind.i64 0)) 3, none, [4]⟩] none [5])
 (.cond [] (.t 5) (.reg 3 [⟨some 3, .assign (.c (Value.int IntKind.u64 9218868437227405312)), none, []⟩] none [3]) (.reg 4 [⟨some 3, .assign (.c (Value.int IntKind.u64 18442240474082181120)), none, []⟩] none [3])))
 k0_math_Inf)))
def a_math_Inf : AFunc := ⟨8, [.tmp 2], b_math_Inf⟩

def b_math_Copysign : IR :=
 (.seq (.reg 0 [⟨some 4, .assign (.c (Value.float FloatKind.f64 0)), none, [4]⟩] none [0, 1])
 (.seq (.reg 1 [⟨some 5, .move (.t 0), none, [0]⟩,
  ⟨some 6, .ext n_math_Float64bits .toBits [(.t 5)] [67], none, [5]⟩,
  ⟨some 7, .bin .andNot 49 (.t 6) (.c (Value.int IntKind.u64 9223372036854775808)) 49, none, [6]⟩,
  ⟨some 8, .move (.t 1), none, [1]⟩,
  ⟨some 9, .ext n_math_Float64bits .toBits [(.t 8)] [67], none, [8]⟩,
  ⟨some 10, .bin .and 49 (.t 9) (.c (Value.int IntKind.u64 9223372036854775808)) 49, none, [9]⟩,
  ⟨some 11, .bin .or 49 (.t 7) (.t 10) 49, none, [7, 10]⟩,
  ⟨some 12, .ext n_math_Float64frombits .fromBits [(.t 11)] [49], none, [11]⟩,
  ⟨some 4, .assign (.t 12), none, [12]⟩] none [4])
 .ret))
def a_math_Copysign : AFunc := ⟨13, [.tmp 4], b_math_Copysign⟩

def j0_limbs_Up : IR :=
 (.seq (.reg 3 [⟨some 12, .move (.t 0), none, []⟩,
  ⟨some 13, .move (.t 1), none, [1]⟩,
  ⟨some 14, .call n_limbs_up [(.t 12), (.t 13)] [32, 3], none, [0, 12, 13]⟩,
  ⟨some 4, .assign (.t 14), none, []⟩,
  ⟨some 5, .assign (.c (Value.int IntKind.i64 0)), none, []⟩] none [4, 5, 14])
 .ret)
def k0_limbs_Up : IR := .tail [0, 1] j0_limbs_Up
def b_limbs_Up : IR :=
 (.seq (.reg 0 [⟨some 4, .assign (.nilS 1), none, [4]⟩,
  ⟨some 5, .assign (.c (Value.int IntKind.i64 0)), none, [5]⟩] none [0, 1])
 (.seq (.seq (.reg 1 [⟨some 6, .move (.t 1), none, []⟩,
  ⟨some 7, .bin .lss 3 (.t 6) (.c (Value.int IntKind.i64 0)) 3, none, [6]⟩,
  ⟨some 8, .move (.t 7), none, [7]⟩,
  ⟨some 9, .move (.t 1), some (2, false), []⟩,
  ⟨some 10, .bin .gtr 3 (.t 9) (.c (Value.int IntKind.i64 1048576)) 3, some (2, false), [9]⟩,
  ⟨some 11, .pick (.t 8) (.c (Value.bool true)) (.t 10), none, [8, 10]⟩] none [0, 1, 11])
 (.cond [0, 1] (.t 11) (.seq (.reg 2 [⟨some 4, .assign (.nilS 1), none, []⟩,
  ⟨some 5, .assign (.c (Value.int IntKind.i64 2)), none, []⟩] none [4, 5, 14])
 .ret) .skip))
 k0_limbs_Up))
def a_limbs_Up : AFunc := ⟨15, [.tmp 4, .tmp 5], b_limbs_Up⟩

def j0_floats_format_nearest : IR :=
 (.seq (.reg 19 [⟨some 103, .move (.t 15), none, [15]⟩,
  ⟨some 104, .move (.t 9), none, []⟩,
  ⟨some 105, .move (.t 9), none, [9]⟩,
  ⟨some 106, .faddr 149 (.t 3) 2 2, none, []⟩,
  ⟨some 107, .load 3 none (.t 106), none, []⟩,
  ⟨some 108, .bin .leq 3 (.t 105) (.t 107) 3, none, [105, 107]⟩,
  ⟨some 6, .assign (.t 103), none, [103]⟩,
  ⟨some 7, .assign (.t 104), none, [3, 104, 106]⟩,
  ⟨some 8, .assign (.t 108), none, [108]⟩] (some (.cons ⟨0, []⟩ (.cons ⟨1, []⟩ (.cons ⟨2, []⟩ (.cons ⟨3, []⟩ (.cons ⟨4, []⟩ (.cons ⟨5, []⟩ (.cons ⟨6, [4]⟩ (.cons ⟨7, [4]⟩ (.cons ⟨8, []⟩ .nil)))))))))) [6, 7, 8])
 .ret)
def k0_floats_format_nearest : IR := .tail [3, 9, 15] j0_floats_format_nearest
def j1_floats_format_nearest : IR :=
 (.seq (.seq (.reg 17 [⟨some 93, .move (.t 15), none, []⟩,
  ⟨some 94, .faddr 149 (.t 3) 0 0, none, []⟩,
  ⟨some 95, .load 3 none (.t 94), none, [94]⟩,
  ⟨some 96, .conv 3 72 (.int .u64) (.t 95), none, [95]⟩,
  ⟨some 97, .bin .shl 49 (.c (Value.int IntKind.u64 1)) (.t 96) 72, none, [96]⟩,
  ⟨some 98, .bin .eql 49 (.t 93) (.t 97) 49, none, [93, 97]⟩] none [3, 9, 15, 98])
 (.cond [3, 9, 15] (.t 98) (.reg 18 [⟨some 99, .move (.t 15), none, []⟩,
  ⟨some 100, .bin .shr 49 (.t 99) (.c (Value.int IntKind.u64 1)) 72, none, [99]⟩,
  ⟨some 101, .move (.t 9), none, []⟩,
  ⟨some 102, .bin .add 3 (.t 101) (.c (Value.int IntKind.i64 1)) 3, none, [101]⟩,
  ⟨some 15, .assign (.t 100), none, [100]⟩,
  ⟨some 9, .assign (.t 102), none, [102]⟩] none [3, 9, 15]) .skip))
 k0_floats_format_nearest)
def k1_floats_format_nearest : IR := .tail [3, 9, 15] j1_floats_format_nearest
def j2_floats_format_nearest : IR :=
 (.seq (.reg 13 [⟨some 71, .move (.t 12), none, []⟩,
  ⟨some 72, .call n_limbs_Small [(.t 71)] [32], none, [12, 60, 71]⟩,
  ⟨some 70, .move (.t 72), none, [72]⟩,
  ⟨some 73, .extr (.t 70) 0, none, []⟩,
  ⟨some 74, .extr (.t 70) 1, none, [70]⟩,
  ⟨some 15, .assign (.t 73), none, [73]⟩,
  ⟨some 16, .assign (.t 74), none, [16, 74]⟩] none [2, 3, 9, 11, 13, 15, 40, 50, 53, 54, 56, 59, 61])
 (.seq (.reg 14 [⟨some 75, .move (.t 13), none, []⟩,
  ⟨some 76, .move (.t 13), none, []⟩,
  ⟨some 77, .call n_limbs_Add [(.t 75), (.t 76)] [32, 32], none, [13, 56, 59, 61, 75, 76]⟩,
  ⟨some 78, .move (.t 11), none, []⟩,
  ⟨some 79, .call n_limbs_Cmp [(.t 77), (.t 78)] [32, 32], none, [2, 11, 40, 50, 53, 54, 77, 78]⟩,
  ⟨some 17, .assign (.t 79), none, [79]⟩] none [3, 9, 15, 17])
 (.seq (.seq (.reg 15 [⟨some 80, .move (.t 17), none, []⟩,
  ⟨some 81, .bin .gtr 3 (.t 80) (.c (Value.int IntKind.i64 0)) 3, none, [80]⟩,
  ⟨some 82, .move (.t 81), none, [81]⟩,
  ⟨some 83, .move (.t 17), some (2, false), [17]⟩,
  ⟨some 84, .bin .eql 3 (.t 83) (.c (Value.int IntKind.i64 0)) 3, some (2, false), [83]⟩,
  ⟨some 85, .move (.t 84), some (2, false), [84]⟩,
  ⟨some 86, .move (.t 15), some (5, true), []⟩,
  ⟨some 87, .bin .and 49 (.t 86) (.c (Value.int IntKind.u64 1)) 49, some (5, true), [86]⟩,
  ⟨some 88, .bin .eql 49 (.t 87) (.c (Value.int IntKind.u64 1)) 49, some (5, true), [87]⟩,
  ⟨some 89, .pick (.t 85) (.t 88) (.c (Value.bool false)), some (2, false), [85, 88]⟩,
  ⟨some 90, .pick (.t 82) (.c (Value.bool true)) (.t 89), none, [82, 89]⟩] none [3, 9, 15, 90])
 (.cond [3, 9, 15] (.t 90) (.reg 16 [⟨some 91, .move (.t 15), none, []⟩,
  ⟨some 92, .bin .add 49 (.t 91) (.c (Value.int IntKind.u64 1)) 49, none, [91]⟩,
  ⟨some 15, .assign (.t 92), none, [92]⟩] none [3, 9, 15]) .skip))
 k1_floats_format_nearest)))
def k2_floats_format_nearest : IR := .tail [2, 3, 9, 11, 12, 13, 40, 50, 53, 54, 56, 59, 60, 61] j2_floats_format_nearest
def j3_floats_format_nearest : IR :=
 (.seq (.reg 10 [⟨some 57, .move (.t 10), none, []⟩,
  ⟨some 58, .move (.t 11), none, []⟩,
  ⟨some 59, .call n_limbs_DivMod [(.t 57), (.t 58)] [32, 32], none, [10, 39, 43, 47, 48, 57, 58]⟩,
  ⟨some 56, .move (.t 59), none, []⟩,
  ⟨some 60, .extr (.t 56) 0, none, []⟩,
  ⟨some 61, .extr (.t 56) 1, none, []⟩,
  ⟨some 62, .extr (.t 56) 2, none, []⟩,
  ⟨some 12, .assign (.t 60), none, []⟩,
  ⟨some 13, .assign (.t 61), none, []⟩,
  ⟨some 14, .assign (.t 62), none, [14, 62]⟩] none [1, 2, 3, 9, 11, 12, 13, 40, 50, 53, 54, 56, 59, 60, 61])
 (.seq (.seq (.reg 11 [⟨some 63, .move (.t 12), none, []⟩,
  ⟨some 64, .call n_limbs_Len [(.t 63)] [32], none, [63, 65]⟩,
  ⟨some 65, .faddr 149 (.t 3) 0 0, none, []⟩,
  ⟨some 66, .load 3 none (.t 65), none, []⟩,
  ⟨some 67, .bin .gtr 3 (.t 64) (.t 66) 3, none, [64, 66]⟩] (some (.cons ⟨0, []⟩ (.cons ⟨2, []⟩ (.cons ⟨3, []⟩ (.cons ⟨1, [3]⟩ (.cons ⟨4, []⟩ .nil)))))) [1, 2, 3, 9, 11, 12, 13, 40, 50, 53, 54, 56, 59, 60, 61, 67])
 (.cond [1, 2, 3, 9, 11, 12, 13, 40, 50, 53, 54, 56, 59, 60, 61] (.t 67) (.seq (.reg 12 [⟨some 68, .move (.t 9), none, []⟩,
  ⟨some 69, .bin .add 3 (.t 68) (.c (Value.int IntKind.i64 1)) 3, none, [68]⟩,
  ⟨some 9, .assign (.t 69), none, [69]⟩] none [1, 2, 3, 9])
 (.exit 1)) .skip))
 k2_floats_format_nearest))
def k3_floats_format_nearest : IR := .tail [1, 2, 3, 9, 10, 11, 39, 40, 43, 47, 48, 50, 53, 54] j3_floats_format_nearest
def w0_floats_format_nearest : IR :=
 (.block 1 (.seq (.reg 6 [⟨some 39, .move (.t 1), none, []⟩,
  ⟨some 40, .move (.t 2), none, []⟩,
  ⟨some 10, .assign (.t 39), none, []⟩,
  ⟨some 11, .assign (.t 40), none, []⟩] none [1, 2, 3, 9, 10, 11, 39, 40, 43, 47, 48, 50, 53, 54])
 (.seq (.seq (.reg 7 [⟨some 41, .move (.t 9), none, []⟩,
  ⟨some 42, .bin .lss 3 (.t 41) (.c (Value.int IntKind.i64 0)) 3, none, [41]⟩] none [1, 2, 3, 9, 10, 11, 39, 40, 42, 43, 47, 48, 50, 53, 54])
 (.cond [1, 2, 3, 9, 10, 11, 39, 40, 43, 47, 48, 50, 53, 54] (.t 42) (.reg 8 [⟨some 44, .move (.t 1), none, []⟩,
  ⟨some 45, .move (.t 9), none, []⟩,
  ⟨some 46, .un .neg 3 (.t 45), none, [45]⟩,
  ⟨some 47, .call n_limbs_Up [(.t 44), (.t 46)] [32, 3], none, [44, 46]⟩,
  ⟨some 43, .move (.t 47), none, []⟩,
  ⟨some 48, .extr (.t 43) 0, none, []⟩,
  ⟨some 49, .extr (.t 43) 1, none, [49]⟩,
  ⟨some 10, .assign (.t 48), none, []⟩] none [1, 2, 3, 9, 10, 11, 39, 40, 43, 47, 48, 50, 53, 54]) (.reg 9 [⟨some 51, .move (.t 2), none, []⟩,
  ⟨some 52, .move (.t 9), none, []⟩,
  ⟨some 53, .call n_limbs_Up [(.t 51), (.t 52)] [32, 3], none, [51, 52]⟩,
  ⟨some 50, .move (.t 53), none, []⟩,
  ⟨some 54, .extr (.t 50) 0, none, []⟩,
  ⟨some 55, .extr (.t 50) 1, none, [55]⟩,
  ⟨some 11, .assign (.t 54), none, []⟩] none [1, 2, 3, 9, 10, 11, 39, 40, 43, 47, 48, 50, 53, 54])))
 k3_floats_format_nearest)))
def l0_floats_format_nearest : IR := .loop [1, 2, 3, 9] w0_floats_format_nearest
def j4_floats_format_nearest : IR :=
 (.block 0 l0_floats_format_nearest)
def k4_floats_format_nearest : IR := .tail [1, 2, 3, 9] j4_floats_format_nearest
def j5_floats_format_nearest : IR :=
 (.seq (.reg 3 [⟨some 23, .move (.t 1), none, []⟩,
  ⟨some 24, .call n_limbs_Len [(.t 23)] [32], none, [23]⟩,
  ⟨some 25, .move (.t 2), none, []⟩,
  ⟨some 26, .call n_limbs_Len [(.t 25)] [32], none, [25, 28, 31]⟩,
  ⟨some 27, .bin .sub 3 (.t 24) (.t 26) 3, none, [24, 26]⟩,
  ⟨some 28, .faddr 149 (.t 3) 0 0, none, []⟩,
  ⟨some 29, .load 3 none (.t 28), none, []⟩,
  ⟨some 30, .bin .sub 3 (.t 27) (.t 29) 3, none, [27, 29]⟩,
  ⟨some 31, .faddr 149 (.t 3) 1 1, none, []⟩,
  ⟨some 32, .load 3 none (.t 31), none, []⟩,
  ⟨some 33, .minmax true [3, 3] (.t 30) (.t 32), none, [30, 32]⟩,
  ⟨some 9, .assign (.t 33), none, [33]⟩] (some (.cons ⟨0, []⟩ (.cons ⟨2, []⟩ (.cons ⟨5, []⟩ (.cons ⟨8, []⟩ (.cons ⟨6, []⟩ (.cons ⟨9, []⟩ (.cons ⟨1, [6, 9]⟩ (.cons ⟨3, [6, 9]⟩ (.cons ⟨4, []⟩ (.cons ⟨7, []⟩ (.cons ⟨10, []⟩ (.cons ⟨11, []⟩ .nil))))))))))))) [1, 2, 3, 9])
 (.seq (.seq (.reg 4 [⟨some 34, .move (.t 9), none, []⟩,
  ⟨some 35, .faddr 149 (.t 3) 2 2, none, []⟩,
  ⟨some 36, .load 3 none (.t 35), none, [35]⟩,
  ⟨some 37, .bin .add 3 (.t 36) (.c (Value.int IntKind.i64 2)) 3, none, [36]⟩,
  ⟨some 38, .bin .gtr 3 (.t 34) (.t 37) 3, none, [34, 37]⟩] none [1, 2, 3, 9, 38])
 (.cond [1, 2, 3, 9] (.t 38) (.seq (.reg 5 [⟨some 6, .assign (.c (Value.int IntKind.u64 0)), none, []⟩,
  ⟨some 7, .assign (.c (Value.int IntKind.i64 0)), none, []⟩,
  ⟨some 8, .assign (.c (Value.bool false)), none, []⟩] none [6, 7, 8])
 .ret) .skip))
 k4_floats_format_nearest))
def k5_floats_format_nearest : IR := .tail [1, 2, 3] j5_floats_format_nearest
def b_floats_format_nearest : IR :=
 (.seq (.reg 0 [⟨some 3, .box 149 (.t 0), none, [0]⟩,
  ⟨some 6, .assign (.c (Value.int IntKind.u64 0)), none, [6]⟩,
  ⟨some 7, .assign (.c (Value.int IntKind.i64 0)), none, [7]⟩,
  ⟨some 8, .assign (.c (Value.bool false)), none, [8]⟩] none [1, 2, 3])
 (.seq (.seq (.reg 1 [⟨some 18, .move (.t 1), none, []⟩,
  ⟨some 19, .call n_limbs_Len [(.t 18)] [32], none, [18]⟩,
  ⟨some 20, .bin .eql 3 (.t 19) (.c (Value.int IntKind.i64 0)) 3, none, [19]⟩] none [1, 2, 3, 20])
 (.cond [1, 2, 3] (.t 20) (.seq (.reg 2 [⟨some 21, .faddr 149 (.t 3) 1 1, none, []⟩,
  ⟨some 22, .load 3 none (.t 21), none, []⟩,
  ⟨some 6, .assign (.c (Value.int IntKind.u64 0)), none, [3, 21]⟩,
  ⟨some 7, .assign (.t 22), none, [22]⟩,
  ⟨some 8, .assign (.c (Value.bool true)), none, []⟩] (some (.cons ⟨0, []⟩ (.cons ⟨1, []⟩ (.cons ⟨2, [1]⟩ (.cons ⟨3, []⟩ (.cons ⟨4, []⟩ .nil)))))) [6, 7, 8])
 .ret) .skip))
 k5_floats_format_nearest))
def a_floats_format_nearest : AFunc := ⟨109, [.tmp 6, .tmp 7, .tmp 8], b_floats_format_nearest⟩

def j0_floats_number : IR :=
 (.seq (.reg 9 [⟨some 38, .move (.t 10), none, [10]⟩,
  ⟨some 39, .ext n_math_Float64frombits .fromBits [(.t 38)] [49], none, [38]⟩,
  ⟨some 6, .assign (.t 39), none, [39]⟩] none [6])
 .ret)
def k0_floats_number : IR := .tail [10] j0_floats_number
def j1_floats_number : IR :=
 (.seq (.seq (.reg 7 [⟨some 35, .move (.t 0), none, [0]⟩] none [10, 35])
 (.cond [10] (.t 35) (.reg 8 [⟨some 36, .move (.t 10), none, []⟩,
  ⟨some 37, .bin .or 49 (.t 36) (.c (Value.int IntKind.u64 9223372036854775808)) 49, none, [36]⟩,
  ⟨some 10, .assign (.t 37), none, [37]⟩] none [10]) .skip))
 k0_floats_number)
def k1_floats_number : IR := .tail [0, 10] j1_floats_number
def b_floats_number : IR :=
 (.seq (.reg 0 [⟨some 6, .assign (.c (Value.float FloatKind.f64 0)), none, [6]⟩] none [0, 1, 2])
 (.seq (.reg 1 [⟨some 12, .load 149 (some 3) (.g 2 glob2), none, []⟩,
  ⟨some 13, .move (.t 1), none, []⟩,
  ⟨some 14, .move (.t 2), none, []⟩,
  ⟨some 15, .call n_floats_format_nearest [(.t 12), (.t 13), (.t 14)] [149, 32, 32], none, [1, 2, 12, 13, 14]⟩,
  ⟨some 11, .move (.t 15), none, [15]⟩,
  ⟨some 16, .extr (.t 11) 0, none, []⟩,
  ⟨some 17, .extr (.t 11) 1, none, []⟩,
  ⟨some 18, .extr (.t 11) 2, none, [11]⟩,
  ⟨some 7, .assign (.t 16), none, [16]⟩,
  ⟨some 8, .assign (.t 17), none, [17]⟩,
  ⟨some 9, .assign (.t 18), none, [18]⟩] none [0, 7, 8, 9])
 (.seq (.reg 2 [⟨some 10, .assign (.c (Value.int IntKind.u64 9218868437227405312)), none, []⟩] none [0, 7, 8, 9, 10])
 (.seq (.block 0 (.seq (.reg 3 [⟨some 20, .move (.t 9), none, []⟩,
  ⟨some 21, .move (.t 20), none, [20]⟩,
  ⟨some 22, .move (.t 7), some (1, true), []⟩,
  ⟨some 23, .bin .lss 49 (.t 22) (.c (Value.int IntKind.u64 4503599627370496)) 49, some (1, true), [22]⟩,
  ⟨some 24, .pick (.t 21) (.t 23) (.c (Value.bool false)), none, [21, 23]⟩,
  ⟨some 19, .assign (.t 24), none, [24]⟩] none [0, 7, 8, 9, 10, 19])
 (.cond [0, 7, 8, 9, 10] (.t 19) (.reg 4 [⟨some 25, .move (.t 7), none, [7]⟩,
  ⟨some 10, .assign (.t 25), none, [25]⟩] none [0, 10]) (.seq (.reg 5 [⟨some 27, .move (.t 9), none, [9]⟩,
  ⟨some 26, .assign (.t 27), none, [27]⟩] none [0, 7, 8, 10, 26])
 (.cond [0, 7, 8, 10] (.t 26) (.reg 6 [⟨some 28, .move (.t 8), none, [8]⟩,
  ⟨some 29, .bin .add 3 (.t 28) (.c (Value.int IntKind.i64 1075)) 3, none, [28]⟩,
  ⟨some 30, .conv 3 49 (.int .u64) (.t 29), none, [29]⟩,
  ⟨some 31, .bin .shl 49 (.t 30) (.c (Value.int IntKind.u64 52)) 72, none, [30]⟩,
  ⟨some 32, .move (.t 7), none, [7]⟩,
  ⟨some 33, .bin .sub 49 (.t 32) (.c (Value.int IntKind.u64 4503599627370496)) 49, none, [32]⟩,
  ⟨some 34, .bin .add 49 (.t 31) (.t 33) 49, none, [31, 33]⟩,
  ⟨some 10, .assign (.t 34), none, [34]⟩] none [0, 10]) .skip)))))
 k1_floats_number))))
def a_floats_number : AFunc := ⟨40, [.tmp 6], b_floats_number⟩

def j0_floats_Nearest : IR :=
 (.seq (.reg 15 [⟨some 55, .faddr 111 (.t 4) 0 0, none, []⟩,
  ⟨some 56, .load 4 none (.t 55), none, [55]⟩,
  ⟨some 57, .faddr 111 (.t 4) 1 1, none, []⟩,
  ⟨some 58, .load 32 none (.t 57), none, []⟩,
  ⟨some 59, .faddr 111 (.t 4) 2 2, none, []⟩,
  ⟨some 60, .load 32 none (.t 59), none, []⟩,
  ⟨some 61, .call n_floats_number [(.t 56), (.t 58), (.t 60)] [4, 32, 32], none, [4, 56, 57, 58, 59, 60]⟩,
  ⟨some 2, .assign (.t 61), none, [61]⟩,
  ⟨some 3, .assign (.c (Value.int IntKind.i64 0)), none, []⟩] none [2, 3])
 .ret)
def k0_floats_Nearest : IR := .tail [4] j0_floats_Nearest
def j1_floats_Nearest : IR :=
 (.seq (.reg 4 [⟨some 20, .faddr 111 (.t 4) 1 1, none, []⟩,
  ⟨some 21, .load 32 none (.t 20), none, []⟩,
  ⟨some 22, .call n_limbs_Len [(.t 21)] [32], none, [20, 21]⟩,
  ⟨some 23, .faddr 111 (.t 4) 2 2, none, []⟩,
  ⟨some 24, .load 32 none (.t 23), none, []⟩,
  ⟨some 25, .call n_limbs_Len [(.t 24)] [32], none, [23, 24]⟩,
  ⟨some 26, .bin .sub 3 (.t 22) (.t 25) 3, none, [22, 25]⟩,
  ⟨some 6, .assign (.t 26), none, [26]⟩] (some (.cons ⟨0, []⟩ (.cons ⟨3, []⟩ (.cons ⟨1, []⟩ (.cons ⟨4, []⟩ (.cons ⟨2, [4]⟩ (.cons ⟨5, []⟩ (.cons ⟨6, []⟩ (.cons ⟨7, []⟩ .nil))))))))) [4, 6])
 (.seq (.block 0 (.seq (.reg 5 [⟨some 28, .faddr 111 (.t 4) 1 1, none, []⟩,
  ⟨some 29, .load 32 none (.t 28), none, []⟩,
  ⟨some 30, .call n_limbs_Len [(.t 29)] [32], none, [28, 29]⟩,
  ⟨some 31, .bin .eql 3 (.t 30) (.c (Value.int IntKind.i64 0)) 3, none, [30]⟩,
  ⟨some 27, .assign (.t 31), none, [31]⟩] none [4, 6, 27])
 (.cond [4, 6] (.t 27) (.seq (.reg 6 [⟨some 2, .assign (.c (Value.float FloatKind.f64 0)), none, []⟩,
  ⟨some 3, .assign (.c (Value.int IntKind.i64 0)), none, []⟩] none [2, 3])
 .ret) (.seq (.reg 7 [⟨some 33, .move (.t 6), none, []⟩,
  ⟨some 34, .bin .gtr 3 (.t 33) (.c (Value.int IntKind.i64 2000)) 3, none, [33]⟩,
  ⟨some 35, .move (.t 34), none, [34]⟩,
  ⟨some 36, .faddr 111 (.t 4) 0 0, some (2, true), []⟩,
  ⟨some 37, .load 4 none (.t 36), some (2, true), [36]⟩,
  ⟨some 38, .pick (.t 35) (.t 37) (.c (Value.bool false)), none, [35, 37]⟩,
  ⟨some 32, .assign (.t 38), none, [38]⟩] none [4, 6, 32])
 (.cond [4, 6] (.t 32) (.seq (.reg 8 [⟨some 39, .call n_math_Inf [(.c (Value.int IntKind.i64 (-1)))] [3], none, []⟩,
  ⟨some 2, .assign (.t 39), none, [39]⟩,
  ⟨some 3, .assign (.c (Value.int IntKind.i64 0)), none, []⟩] none [2, 3])
 .ret) (.seq (.reg 9 [⟨some 41, .move (.t 6), none, []⟩,
  ⟨some 42, .bin .gtr 3 (.t 41) (.c (Value.int IntKind.i64 2000)) 3, none, [41]⟩,
  ⟨some 40, .assign (.t 42), none, [42]⟩] none [4, 6, 40])
 (.cond [4, 6] (.t 40) (.seq (.reg 10 [⟨some 43, .call n_math_Inf [(.c (Value.int IntKind.i64 1))] [3], none, []⟩,
  ⟨some 2, .assign (.t 43), none, [43]⟩,
  ⟨some 3, .assign (.c (Value.int IntKind.i64 0)), none, []⟩] none [2, 3])
 .ret) (.seq (.reg 11 [⟨some 45, .move (.t 6), none, []⟩,
  ⟨some 46, .bin .lss 3 (.t 45) (.c (Value.int IntKind.i64 (-2000))) 3, none, [45]⟩,
  ⟨some 47, .move (.t 46), none, [46]⟩,
  ⟨some 48, .faddr 111 (.t 4) 0 0, some (2, true), []⟩,
  ⟨some 49, .load 4 none (.t 48), some (2, true), [48]⟩,
  ⟨some 50, .pick (.t 47) (.t 49) (.c (Value.bool false)), none, [47, 49]⟩,
  ⟨some 44, .assign (.t 50), none, [50]⟩] none [4, 6, 44])
 (.cond [4, 6] (.t 44) (.seq (.reg 12 [⟨some 51, .call n_math_Copysign [(.c (Value.float FloatKind.f64 0)), (.c (Value.float FloatKind.f64 13830554455654793216))] [67, 67], none, []⟩,
  ⟨some 2, .assign (.t 51), none, [51]⟩,
  ⟨some 3, .assign (.c (Value.int IntKind.i64 0)), none, []⟩] none [2, 3])
 .ret) (.seq (.reg 13 [⟨some 53, .move (.t 6), none, [6]⟩,
  ⟨some 54, .bin .lss 3 (.t 53) (.c (Value.int IntKind.i64 (-2000))) 3, none, [53]⟩,
  ⟨some 52, .assign (.t 54), none, [54]⟩] none [4, 52])
 (.cond [4] (.t 52) (.seq (.reg 14 [⟨some 2, .assign (.c (Value.float FloatKind.f64 0)), none, []⟩,
  ⟨some 3, .assign (.c (Value.int IntKind.i64 0)), none, []⟩] none [2, 3])
 .ret) .skip)))))))))))
 k0_floats_Nearest))
def k1_floats_Nearest : IR := .tail [4] j1_floats_Nearest
def b_floats_Nearest : IR :=
 (.seq (.reg 0 [⟨some 1, .box 111 (.t 0), none, [0]⟩,
  ⟨some 2, .assign (.c (Value.float FloatKind.f64 0)), none, [2]⟩,
  ⟨some 3, .assign (.c (Value.int IntKind.i64 0)), none, [3]⟩] none [1])
 (.seq (.reg 1 [⟨some 8, .faddr 111 (.t 1) 0 0, none, []⟩,
  ⟨some 9, .load 4 none (.t 8), none, [8]⟩,
  ⟨some 10, .faddr 111 (.t 1) 1 1, none, []⟩,
  ⟨some 11, .load 32 none (.t 10), none, []⟩,
  ⟨some 12, .faddr 111 (.t 1) 2 2, none, []⟩,
  ⟨some 13, .load 32 none (.t 12), none, []⟩,
  ⟨some 14, .call n_limbs_Over [(.t 9), (.t 11), (.t 13)] [4, 32, 32], none, [1, 9, 10, 11, 12, 13]⟩,
  ⟨some 7, .move (.t 14), none, []⟩,
  ⟨some 15, .extr (.t 7) 0, none, []⟩,
  ⟨some 16, .extr (.t 7) 1, none, []⟩,
  ⟨some 4, .alloc 111 [.v (.bool false), .nil 1, .nil 1], none, []⟩,
  ⟨none, .store 111 (some 3) (.t 4) (.t 15), none, [7, 14, 15]⟩,
  ⟨some 5, .assign (.t 16), none, [16]⟩] none [4, 5])
 (.seq (.seq (.reg 2 [⟨some 17, .move (.t 5), none, []⟩,
  ⟨some 18, .bin .neq 22 (.t 17) (.c (Value.int IntKind.i64 0)) 22, none, [17]⟩] none [4, 5, 18])
 (.cond [4, 5] (.t 18) (.seq (.reg 3 [⟨some 19, .move (.t 5), none, [5]⟩,
  ⟨some 2, .assign (.c (Value.float FloatKind.f64 0)), none, []⟩,
  ⟨some 3, .assign (.t 19), none, [19]⟩] none [2, 3])
 .ret) .skip))
 k1_floats_Nearest)))
def a_floats_Nearest : AFunc := ⟨62, [.tmp 2, .tmp 3], b_floats_Nearest⟩

def b_fixed_Ratio : IR :=
 (.seq (.reg 0 [⟨some 2, .alloc 111 [.v (.bool false), .nil 1, .nil 1], none, []⟩] none [0, 2])
 (.seq (.reg 1 [⟨some 6, .move (.t 0), none, []⟩,
  ⟨some 7, .bin .lss 2 (.t 6) (.c (Value.int IntKind.i64 0)) 2, none, [6]⟩,
  ⟨some 8, .move (.t 0), none, [0]⟩,
  ⟨some 9, .call n_fixed_amount [(.t 8)] [2], none, [8]⟩,
  ⟨some 10, .call n_limbs_From [(.t 9)] [49], none, [9]⟩,
  ⟨some 11, .call n_limbs_From [(.c (Value.int IntKind.u64 1000000))] [49], none, []⟩,
  ⟨some 12, .call n_limbs_Over [(.t 7), (.t 10), (.t 11)] [4, 32, 32], none, [7, 10, 11]⟩,
  ⟨some 5, .move (.t 12), none, []⟩,
  ⟨some 13, .extr (.t 5) 0, none, []⟩,
  ⟨some 14, .extr (.t 5) 1, none, []⟩,
  ⟨some 3, .alloc 111 [.v (.bool false), .nil 1, .nil 1], none, []⟩,
  ⟨none, .store 111 (some 3) (.t 3) (.t 13), none, [5, 12, 13]⟩,
  ⟨some 4, .assign (.t 14), none, [4, 14]⟩] none [2, 3])
 (.seq (.reg 2 [⟨some 15, .load 111 (some 3) (.t 3), none, []⟩,
  ⟨none, .store 111 (some 3) (.t 2) (.t 15), none, [3, 15]⟩] none [2])
 .ret)))
def a_fixed_Ratio : AFunc := ⟨16, [.cell 2 111 (some 3)], b_fixed_Ratio⟩

def b_fixed_Float : IR :=
 (.seq (.reg 0 [⟨some 2, .assign (.c (Value.float FloatKind.f64 0)), none, [2]⟩] none [0])
 (.seq (.reg 1 [⟨some 6, .move (.t 0), none, [0]⟩,
  ⟨some 7, .call n_fixed_Ratio [(.t 6)] [2], none, [6]⟩,
  ⟨some 8, .call n_floats_Nearest [(.t 7)] [111], none, [7]⟩,
  ⟨some 5, .move (.t 8), none, [8]⟩,
  ⟨some 9, .extr (.t 5) 0, none, []⟩,
  ⟨some 10, .extr (.t 5) 1, none, [5]⟩,
  ⟨some 3, .assign (.t 9), none, [9]⟩,
  ⟨some 4, .assign (.t 10), none, [4, 10]⟩] none [3])
 (.seq (.reg 2 [⟨some 11, .move (.t 3), none, [3]⟩,
  ⟨some 2, .assign (.t 11), none, [11]⟩] none [2])
 .ret)))
def a_fixed_Float : AFunc := ⟨12, [.tmp 2], b_fixed_Float⟩

def b_thicketlaw04_begins : IR :=
 (.seq (.reg 0 [⟨some 0, .assign (.c (Value.bool false)), none, [0]⟩] none [])
 (.seq (.reg 1 [⟨some 7, .call n_fixed_Read [(.c (Value.string { data := #[48, 46, 53] }))] [9], none, []⟩,
  ⟨some 6, .move (.t 7), none, [7]⟩,
  ⟨some 8, .extr (.t 6) 0, none, []⟩,
  ⟨some 9, .extr (.t 6) 1, none, []⟩,
  ⟨some 10, .extr (.t 6) 2, none, [6]⟩,
  ⟨some 1, .assign (.t 8), none, [8]⟩,
  ⟨some 2, .assign (.t 9), none, [9]⟩,
  ⟨some 3, .assign (.t 10), none, [3, 10]⟩] none [1, 2])
 (.seq (.reg 2 [⟨some 12, .move (.t 1), none, []⟩,
  ⟨some 13, .call n_fixed_Scale [(.t 12), (.c (Value.int IntKind.i64 1)), (.c (Value.int IntKind.i64 3))] [2, 2, 2], none, [12]⟩,
  ⟨some 11, .move (.t 13), none, [13]⟩,
  ⟨some 14, .extr (.t 11) 0, none, []⟩,
  ⟨some 15, .extr (.t 11) 1, none, [11]⟩,
  ⟨some 4, .assign (.t 14), none, [14]⟩,
  ⟨some 5, .assign (.t 15), none, [15]⟩] none [1, 2, 4, 5])
 (.seq (.reg 3 [⟨some 16, .move (.t 1), none, []⟩,
  ⟨some 17, .bin .eql 2 (.t 16) (.c (Value.int IntKind.i64 500000)) 2, none, [16]⟩,
  ⟨some 18, .move (.t 17), none, [17]⟩,
  ⟨some 19, .move (.t 2), some (2, true), [2]⟩,
  ⟨some 20, .bin .eql 22 (.t 19) (.c (Value.int IntKind.i64 0)) 22, some (2, true), [19]⟩,
  ⟨some 21, .pick (.t 18) (.t 20) (.c (Value.bool false)), none, [18, 20]⟩,
  ⟨some 22, .move (.t 21), none, [21]⟩,
  ⟨some 23, .move (.t 1), some (6, true), []⟩,
  ⟨some 24, .call n_fixed_Print [(.t 23)] [2], some (6, true), [23]⟩,
  ⟨some 25, .bin .eql 9 (.t 24) (.c (Value.string { data := #[48, 46, 53] })) 9, some (6, true), [24]⟩,
  ⟨some 26, .pick (.t 22) (.t 25) (.c (Value.bool false)), none, [22, 25]⟩,
  ⟨some 27, .move (.t 26), none, [26]⟩,
  ⟨some 28, .move (.t 4), some (11, true), [4]⟩,
  ⟨some 29, .bin .eql 2 (.t 28) (.c (Value.int IntKind.i64 166667)) 2, some (11, true), [28]⟩,
  ⟨some 30, .pick (.t 27) (.t 29) (.c (Value.bool false)), none, [27, 29]⟩,
  ⟨some 31, .move (.t 30), none, [30]⟩,
  ⟨some 32, .move (.t 5), some (15, true), [5]⟩,
  ⟨some 33, .bin .eql 22 (.t 32) (.c (Value.int IntKind.i64 0)) 22, some (15, true), [32]⟩,
  ⟨some 34, .pick (.t 31) (.t 33) (.c (Value.bool false)), none, [31, 33]⟩,
  ⟨some 35, .move (.t 34), none, [34]⟩,
  ⟨some 36, .move (.t 1), some (19, true), [1]⟩,
  ⟨some 37, .call n_fixed_Float [(.t 36)] [2], some (19, true), [36]⟩,
  ⟨some 38, .bin .eql 67 (.t 37) (.c (Value.float FloatKind.f64 4602678819172646912)) 67, some (19, true), [37]⟩,
  ⟨some 39, .pick (.t 35) (.t 38) (.c (Value.bool false)), none, [35, 38]⟩,
  ⟨some 0, .assign (.t 39), none, [39]⟩] none [0])
 .ret))))
def a_thicketlaw04_begins : AFunc := ⟨40, [.tmp 0], b_thicketlaw04_begins⟩

def j0_thicketlaw04_FixedBack : IR :=
 (.seq (.reg 12 [⟨some 60, .move (.t 8), none, []⟩,
  ⟨some 61, .call n_fixed_Print [(.t 60)] [2], none, [60]⟩,
  ⟨some 13, .assign (.t 61), none, [61]⟩] none [1, 8, 13])
 (.seq (.reg 13 [⟨some 63, .move (.t 13), none, []⟩,
  ⟨some 64, .call n_fixed_Read [(.t 63)] [9], none, [63]⟩,
  ⟨some 62, .move (.t 64), none, [64]⟩,
  ⟨some 65, .extr (.t 62) 0, none, []⟩,
  ⟨some 66, .extr (.t 62) 1, none, []⟩,
  ⟨some 67, .extr (.t 62) 2, none, [62]⟩,
  ⟨some 14, .assign (.t 65), none, [65]⟩,
  ⟨some 15, .assign (.t 66), none, [66]⟩,
  ⟨some 16, .assign (.t 67), none, [16, 67]⟩] none [1, 8, 13, 14, 15])
 (.seq (.reg 14 [⟨some 68, .move (.t 15), none, [15]⟩,
  ⟨some 69, .bin .eql 22 (.t 68) (.c (Value.int IntKind.i64 0)) 22, none, [68]⟩,
  ⟨some 70, .move (.t 69), none, [69]⟩,
  ⟨some 71, .move (.t 8), some (2, true), []⟩,
  ⟨some 72, .move (.t 14), some (2, true), [14]⟩,
  ⟨some 73, .bin .eql 2 (.t 71) (.t 72) 2, some (2, true), [71, 72]⟩,
  ⟨some 74, .pick (.t 70) (.t 73) (.c (Value.bool false)), none, [70, 73]⟩,
  ⟨some 75, .move (.t 74), none, [74]⟩,
  ⟨some 76, .move (.t 13), some (7, true), [13]⟩,
  ⟨some 77, .len 9 true (.t 76), some (7, true), [76]⟩,
  ⟨some 78, .move (.t 1), some (7, true), [1]⟩,
  ⟨some 79, .len 9 true (.t 78), some (7, true), [78]⟩,
  ⟨some 80, .bin .leq 3 (.t 77) (.t 79) 3, some (7, true), [77, 79]⟩,
  ⟨some 81, .move (.t 80), some (7, true), [80]⟩,
  ⟨some 82, .move (.t 8), some (13, false), [8]⟩,
  ⟨some 83, .bin .eql 2 (.t 82) (.c (Value.int IntKind.i64 0)) 2, some (13, false), [82]⟩,
  ⟨some 84, .pick (.t 81) (.c (Value.bool true)) (.t 83), some (7, true), [81, 83]⟩,
  ⟨some 85, .pick (.t 75) (.t 84) (.c (Value.bool false)), none, [75, 84]⟩,
  ⟨some 4, .assign (.t 85), none, [85]⟩] none [4])
 .ret)))
def k0_thicketlaw04_FixedBack : IR := .tail [1, 8] j0_thicketlaw04_FixedBack
def j1_thicketlaw04_FixedBack : IR :=
 (.seq (.reg 9 [⟨some 48, .move (.t 1), none, []⟩,
  ⟨some 49, .call n_fixed_Rounded [(.t 48)] [9], none, [48]⟩,
  ⟨some 47, .move (.t 49), none, [49]⟩,
  ⟨some 50, .extr (.t 47) 0, none, []⟩,
  ⟨some 51, .extr (.t 47) 1, none, []⟩,
  ⟨some 52, .extr (.t 47) 2, none, [47]⟩,
  ⟨some 10, .assign (.t 50), none, [50]⟩,
  ⟨some 11, .assign (.t 51), none, [51]⟩,
  ⟨some 12, .assign (.t 52), none, [12, 52]⟩] none [1, 8, 10, 11])
 (.seq (.seq (.reg 10 [⟨some 53, .move (.t 10), none, [10]⟩,
  ⟨some 54, .move (.t 8), none, []⟩,
  ⟨some 55, .bin .neq 2 (.t 53) (.t 54) 2, none, [53, 54]⟩,
  ⟨some 56, .move (.t 55), none, [55]⟩,
  ⟨some 57, .move (.t 11), some (3, false), [11]⟩,
  ⟨some 58, .bin .neq 22 (.t 57) (.c (Value.int IntKind.i64 0)) 22, some (3, false), [57]⟩,
  ⟨some 59, .pick (.t 56) (.c (Value.bool true)) (.t 58), none, [56, 58]⟩] none [1, 8, 59])
 (.cond [1, 8] (.t 59) (.seq (.reg 11 [⟨some 4, .assign (.c (Value.bool false)), none, []⟩] none [4])
 .ret) .skip))
 k0_thicketlaw04_FixedBack))
def k1_thicketlaw04_FixedBack : IR := .tail [1, 8] j1_thicketlaw04_FixedBack
def j2_thicketlaw04_FixedBack : IR :=
 (.seq (.reg 6 [⟨some 38, .move (.t 1), none, []⟩,
  ⟨some 39, .call n_fixed_Read [(.t 38)] [9], none, [38]⟩,
  ⟨some 37, .move (.t 39), none, [39]⟩,
  ⟨some 40, .extr (.t 37) 0, none, []⟩,
  ⟨some 41, .extr (.t 37) 1, none, []⟩,
  ⟨some 42, .extr (.t 37) 2, none, [37]⟩,
  ⟨some 8, .assign (.t 40), none, [40]⟩,
  ⟨some 6, .assign (.t 41), none, [41]⟩,
  ⟨some 9, .assign (.t 42), none, [9, 42]⟩] none [1, 6, 8])
 (.seq (.seq (.reg 7 [⟨some 43, .move (.t 6), none, [6]⟩,
  ⟨some 44, .bin .neq 22 (.t 43) (.c (Value.int IntKind.i64 0)) 22, none, [43]⟩] none [1, 8, 44])
 (.cond [1, 8] (.t 44) (.seq (.reg 8 [⟨some 45, .move (.t 8), none, [8]⟩,
  ⟨some 46, .bin .eql 2 (.t 45) (.c (Value.int IntKind.i64 0)) 2, none, [45]⟩,
  ⟨some 4, .assign (.t 46), none, [46]⟩] none [4])
 .ret) .skip))
 k1_thicketlaw04_FixedBack))
def k2_thicketlaw04_FixedBack : IR := .tail [1] j2_thicketlaw04_FixedBack
def j3_thicketlaw04_FixedBack : IR :=
 (.seq (.reg 3 [⟨some 20, .move (.t 0), none, []⟩,
  ⟨some 21, .call n_fixed_Print [(.t 20)] [2], none, [20]⟩,
  ⟨some 22, .call n_fixed_Read [(.t 21)] [9], none, [21]⟩,
  ⟨some 19, .move (.t 22), none, [22]⟩,
  ⟨some 23, .extr (.t 19) 0, none, []⟩,
  ⟨some 24, .extr (.t 19) 1, none, []⟩,
  ⟨some 25, .extr (.t 19) 2, none, [19]⟩,
  ⟨some 5, .assign (.t 23), none, [23]⟩,
  ⟨some 6, .assign (.t 24), none, [24]⟩,
  ⟨some 7, .assign (.t 25), none, [25]⟩] none [0, 1, 5, 6, 7])
 (.seq (.seq (.reg 4 [⟨some 26, .move (.t 5), none, [5]⟩,
  ⟨some 27, .move (.t 0), none, [0]⟩,
  ⟨some 28, .bin .neq 2 (.t 26) (.t 27) 2, none, [26, 27]⟩,
  ⟨some 29, .move (.t 28), none, [28]⟩,
  ⟨some 30, .move (.t 6), some (3, false), [6]⟩,
  ⟨some 31, .bin .neq 22 (.t 30) (.c (Value.int IntKind.i64 0)) 22, some (3, false), [30]⟩,
  ⟨some 32, .pick (.t 29) (.c (Value.bool true)) (.t 31), none, [29, 31]⟩,
  ⟨some 33, .move (.t 32), none, [32]⟩,
  ⟨some 34, .move (.t 7), some (7, false), [7]⟩,
  ⟨some 35, .bin .neq 3 (.t 34) (.c (Value.int IntKind.i64 0)) 3, some (7, false), [34]⟩,
  ⟨some 36, .pick (.t 33) (.c (Value.bool true)) (.t 35), none, [33, 35]⟩] none [1, 36])
 (.cond [1] (.t 36) (.seq (.reg 5 [⟨some 4, .assign (.c (Value.bool false)), none, []⟩] none [4])
 .ret) .skip))
 k2_thicketlaw04_FixedBack))
def k3_thicketlaw04_FixedBack : IR := .tail [0, 1] j3_thicketlaw04_FixedBack
def b_thicketlaw04_FixedBack : IR :=
 (.seq (.reg 0 [⟨some 4, .assign (.c (Value.bool false)), none, [4]⟩] none [0, 1])
 (.seq (.seq (.reg 1 [⟨some 17, .call n_thicketlaw04_begins [] [], none, []⟩,
  ⟨some 18, .un .not 4 (.t 17), none, [17]⟩] none [0, 1, 18])
 (.cond [0, 1] (.t 18) (.seq (.reg 2 [⟨some 4, .assign (.c (Value.bool false)), none, []⟩] none [4])
 .ret) .skip))
 k3_thicketlaw04_FixedBack))
def a_thicketlaw04_FixedBack : AFunc := ⟨86, [.tmp 4], b_thicketlaw04_FixedBack⟩

def fnTab : List (FuncId × AFunc) := [(n_stringslite_HasPrefix, a_stringslite_HasPrefix), (n_strings_HasPrefix, a_strings_HasPrefix), (n_fixed_digit, a_fixed_digit), (n_fixed_digits, a_fixed_digits), (n_limbs_low, a_limbs_low), (n_limbs_high, a_limbs_high), (n_limbs_grow, a_limbs_grow), (n_limbs_trim, a_limbs_trim), (n_limbs_Read, a_limbs_Read), (n_limbs_Small, a_limbs_Small), (n_fixed_signed, a_fixed_signed), (n_fixed_Read, a_fixed_Read), (n_stringslite_TrimPrefix, a_stringslite_TrimPrefix), (n_strings_TrimPrefix, a_strings_TrimPrefix), (n_fixed_decimal, a_fixed_decimal), (n_fixed_clamped, a_fixed_clamped), (n_limbs_Norm, a_limbs_Norm), (n_strings_trimLeftByte, a_strings_trimLeftByte), (n_strings_TrimLeft, a_strings_TrimLeft), (n_limbs_Print, a_limbs_Print), (n_bits_Len32, a_bits_Len32), (n_limbs_Len, a_limbs_Len), (n_limbs_Mul, a_limbs_Mul), (n_limbs_Pow, a_limbs_Pow), (n_limbs_Cmp, a_limbs_Cmp), (n_limbs_From, a_limbs_From), (n_bits_LeadingZeros32, a_bits_LeadingZeros32), (n_limbs_up, a_limbs_up), (n_bits_Sub32, a_bits_Sub32), (n_bits_Add32, a_bits_Add32), (n_limbs_long, a_limbs_long), (n_limbs_down, a_limbs_down), (n_limbs_DivMod, a_limbs_DivMod), (n_limbs_Add, a_limbs_Add), (n_limbs_Bit, a_limbs_Bit), (n_fixed_rounded, a_fixed_rounded), (n_fixed_Rounded, a_fixed_Rounded), (n_fixed_amount, a_fixed_amount), (n_strconv_FormatUint, a_strconv_FormatUint), (n_strings_trimRightByte, a_strings_trimRightByte), (n_strings_TrimRight, a_strings_TrimRight), (n_fixed_Print, a_fixed_Print), (n_fixed_Scale, a_fixed_Scale), (n_limbs_Gcd, a_limbs_Gcd), (n_limbs_right, a_limbs_right), (n_limbs_Over, a_limbs_Over), (n_math_Inf, a_math_Inf), (n_math_Copysign, a_math_Copysign), (n_limbs_Up, a_limbs_Up), (n_floats_format_nearest, a_floats_format_nearest), (n_floats_number, a_floats_number), (n_floats_Nearest, a_floats_Nearest), (n_fixed_Ratio, a_fixed_Ratio), (n_fixed_Float, a_fixed_Float), (n_thicketlaw04_begins, a_thicketlaw04_begins), (n_thicketlaw04_FixedBack, a_thicketlaw04_FixedBack)]
def modeTab : List (FuncId × List Bool) := [(n_limbs_grow, [true, false, false]), (n_limbs_trim, [true]), (n_limbs_long, [true, false]), (n_strings_Repeat, [false, false]), (n_strings_Builder_WriteString, [true, false]), (n_strings_Builder_String, [true]), (n_strconv_FormatUint_69, [false, false])]
def G (n : Nat) : List PV := match n with | 0 => glob0 | 2 => glob2 | _ => []
def extT : Oracle := fun f xs => if f = n_strings_Repeat then xRepeat xs else if f = n_strings_Builder_WriteString then xWriteString 78 5 xs else if f = n_strings_Builder_String then xString 78 5 xs else if f = n_strconv_FormatUint_69 then xFormatUint xs else none
def T : Tab := { fns := fun f => fnTab.lookup f, ext := extT, modes := fun f => (modeTab.lookup f).getD [], glob := G }
theorem fn_stringslite_HasPrefix : T.fns n_stringslite_HasPrefix = some a_stringslite_HasPrefix := rfl
theorem run_stringslite_HasPrefix (xs : List PV) : Cinf T n_stringslite_HasPrefix xs = Run T a_stringslite_HasPrefix xs := Cinf_eq rfl fn_stringslite_HasPrefix
@[simp] theorem md_stringslite_HasPrefix : T.modes n_stringslite_HasPrefix = [] := rfl
@[simp] theorem call_stringslite_HasPrefix (C : Oracle) (e : Env) (xs : List PV) : call T C e n_stringslite_HasPrefix xs = callK1 C n_stringslite_HasPrefix xs (moves e [] [] xs) := call_modes md_stringslite_HasPrefix
theorem fn_strings_HasPrefix : T.fns n_strings_HasPrefix = some a_strings_HasPrefix := rfl
theorem run_strings_HasPrefix (xs : List PV) : Cinf T n_strings_HasPrefix xs = Run T a_strings_HasPrefix xs := Cinf_eq rfl fn_strings_HasPrefix
@[simp] theorem md_strings_HasPrefix : T.modes n_strings_HasPrefix = [] := rfl
@[simp] theorem call_strings_HasPrefix (C : Oracle) (e : Env) (xs : List PV) : call T C e n_strings_HasPrefix xs = callK1 C n_strings_HasPrefix xs (moves e [] [] xs) := call_modes md_strings_HasPrefix
theorem fn_fixed_digit : T.fns n_fixed_digit = some a_fixed_digit := rfl
theorem run_fixed_digit (xs : List PV) : Cinf T n_fixed_digit xs = Run T a_fixed_digit xs := Cinf_eq rfl fn_fixed_digit
@[simp] theorem md_fixed_digit : T.modes n_fixed_digit = [] := rfl
@[simp] theorem call_fixed_digit (C : Oracle) (e : Env) (xs : List PV) : call T C e n_fixed_digit xs = callK1 C n_fixed_digit xs (moves e [] [] xs) := call_modes md_fixed_digit
theorem fn_fixed_digits : T.fns n_fixed_digits = some a_fixed_digits := rfl
@[simp] theorem tl0_fixed_digits (e : Env) : Exec T k0_fixed_digits e = Exec T j0_fixed_digits (e.keep [0, 1, 6]) := Exec_tail _ _ _
@[simp] theorem tl1_fixed_digits (e : Env) : Exec T k1_fixed_digits e = Exec T j1_fixed_digits (e.keep [1, 6]) := Exec_tail _ _ _
theorem ex0_fixed_digits (e : Env) : Exec T l0_fixed_digits e = andThen (Exec T w0_fixed_digits (e.keep [0, 1, 6])) (Exec T l0_fixed_digits) := Exec_loop _ _ _
theorem run_fixed_digits (xs : List PV) : Cinf T n_fixed_digits xs = Run T a_fixed_digits xs := Cinf_eq rfl fn_fixed_digits
@[simp] theorem md_fixed_digits : T.modes n_fixed_digits = [] := rfl
@[simp] theorem call_fixed_digits (C : Oracle) (e : Env) (xs : List PV) : call T C e n_fixed_digits xs = callK1 C n_fixed_digits xs (moves e [] [] xs) := call_modes md_fixed_digits
theorem fn_limbs_low : T.fns n_limbs_low = some a_limbs_low := rfl
theorem run_limbs_low (xs : List PV) : Cinf T n_limbs_low xs = Run T a_limbs_low xs := Cinf_eq rfl fn_limbs_low
@[simp] theorem md_limbs_low : T.modes n_limbs_low = [] := rfl
@[simp] theorem call_limbs_low (C : Oracle) (e : Env) (xs : List PV) : call T C e n_limbs_low xs = callK1 C n_limbs_low xs (moves e [] [] xs) := call_modes md_limbs_low
theorem fn_limbs_high : T.fns n_limbs_high = some a_limbs_high := rfl
theorem run_limbs_high (xs : List PV) : Cinf T n_limbs_high xs = Run T a_limbs_high xs := Cinf_eq rfl fn_limbs_high
@[simp] theorem md_limbs_high : T.modes n_limbs_high = [] := rfl
@[simp] theorem call_limbs_high (C : Oracle) (e : Env) (xs : List PV) : call T C e n_limbs_high xs = callK1 C n_limbs_high xs (moves e [] [] xs) := call_modes md_limbs_high
theorem fn_limbs_grow : T.fns n_limbs_grow = some a_limbs_grow := rfl
@[simp] theorem tl0_limbs_grow (e : Env) : Exec T k0_limbs_grow e = Exec T j0_limbs_grow (e.keep [0, 1, 7, 12, 13, 40, 100000]) := Exec_tail _ _ _
@[simp] theorem tl1_limbs_grow (e : Env) : Exec T k1_limbs_grow e = Exec T j1_limbs_grow (e.keep [0, 1, 7, 12, 13, 40, 100000]) := Exec_tail _ _ _
@[simp] theorem tl2_limbs_grow (e : Env) : Exec T k2_limbs_grow e = Exec T j2_limbs_grow (e.keep [0, 40, 100000]) := Exec_tail _ _ _
@[simp] theorem tl3_limbs_grow (e : Env) : Exec T k3_limbs_grow e = Exec T j3_limbs_grow (e.keep [0, 7, 40, 100000]) := Exec_tail _ _ _
theorem ex0_limbs_grow (e : Env) : Exec T l0_limbs_grow e = andThen (Exec T w0_limbs_grow (e.keep [0, 1, 7, 12, 13, 40, 100000])) (Exec T l0_limbs_grow) := Exec_loop _ _ _
theorem run_limbs_grow (xs : List PV) : Cinf T n_limbs_grow xs = Run T a_limbs_grow xs := Cinf_eq rfl fn_limbs_grow
@[simp] theorem md_limbs_grow : T.modes n_limbs_grow = [true, false, false] := rfl
@[simp] theorem call_limbs_grow (C : Oracle) (e : Env) (xs : List PV) : call T C e n_limbs_grow xs = callK1 C n_limbs_grow xs (moves e [] [true, false, false] xs) := call_modes md_limbs_grow
theorem fn_limbs_trim : T.fns n_limbs_trim = some a_limbs_trim := rfl
@[simp] theorem tl0_limbs_trim (e : Env) : Exec T k0_limbs_trim e = Exec T j0_limbs_trim (e.keep [0, 3, 100000]) := Exec_tail _ _ _
@[simp] theorem tl1_limbs_trim (e : Env) : Exec T k1_limbs_trim e = Exec T j1_limbs_trim (e.keep [0, 3, 100000]) := Exec_tail _ _ _
theorem ex0_limbs_trim (e : Env) : Exec T l0_limbs_trim e = andThen (Exec T w0_limbs_trim (e.keep [0, 3, 100000])) (Exec T l0_limbs_trim) := Exec_loop _ _ _
theorem run_limbs_trim (xs : List PV) : Cinf T n_limbs_trim xs = Run T a_limbs_trim xs := Cinf_eq rfl fn_limbs_trim
@[simp] theorem md_limbs_trim : T.modes n_limbs_trim = [true] := rfl
@[simp] theorem call_limbs_trim (C : Oracle) (e : Env) (xs : List PV) : call T C e n_limbs_trim xs = callK1 C n_limbs_trim xs (moves e [] [true] xs) := call_modes md_limbs_trim
theorem fn_limbs_Read : T.fns n_limbs_Read = some a_limbs_Read := rfl
@[simp] theorem tl0_limbs_Read (e : Env) : Exec T k0_limbs_Read e = Exec T j0_limbs_Read (e.keep [0, 12, 13]) := Exec_tail _ _ _
@[simp] theorem tl1_limbs_Read (e : Env) : Exec T k1_limbs_Read e = Exec T j1_limbs_Read (e.keep [0, 12, 13]) := Exec_tail _ _ _
@[simp] theorem tl2_limbs_Read (e : Env) : Exec T k2_limbs_Read e = Exec T j2_limbs_Read (e.keep [0, 6, 7, 8, 9, 36, 37, 54]) := Exec_tail _ _ _
@[simp] theorem tl3_limbs_Read (e : Env) : Exec T k3_limbs_Read e = Exec T j3_limbs_Read (e.keep [0, 6, 7, 8, 9, 36, 37, 54]) := Exec_tail _ _ _
@[simp] theorem tl4_limbs_Read (e : Env) : Exec T k4_limbs_Read e = Exec T j4_limbs_Read (e.keep [0, 6, 7, 8, 9, 54]) := Exec_tail _ _ _
@[simp] theorem tl5_limbs_Read (e : Env) : Exec T k5_limbs_Read e = Exec T j5_limbs_Read (e.keep [0, 6, 54]) := Exec_tail _ _ _
@[simp] theorem tl6_limbs_Read (e : Env) : Exec T k6_limbs_Read e = Exec T j6_limbs_Read (e.keep [6, 54]) := Exec_tail _ _ _
@[simp] theorem tl7_limbs_Read (e : Env) : Exec T k7_limbs_Read e = Exec T j7_limbs_Read (e.keep [0]) := Exec_tail _ _ _
@[simp] theorem tl8_limbs_Read (e : Env) : Exec T k8_limbs_Read e = Exec T j8_limbs_Read (e.keep [0]) := Exec_tail _ _ _
theorem ex0_limbs_Read (e : Env) : Exec T l0_limbs_Read e = andThen (Exec T w0_limbs_Read (e.keep [0, 12, 13])) (Exec T l0_limbs_Read) := Exec_loop _ _ _
theorem ex2_limbs_Read (e : Env) : Exec T l2_limbs_Read e = andThen (Exec T w2_limbs_Read (e.keep [0, 6, 7, 8, 9, 36, 37, 54])) (Exec T l2_limbs_Read) := Exec_loop _ _ _
theorem ex1_limbs_Read (e : Env) : Exec T l1_limbs_Read e = andThen (Exec T w1_limbs_Read (e.keep [0, 6, 54])) (Exec T l1_limbs_Read) := Exec_loop _ _ _
theorem run_limbs_Read (xs : List PV) : Cinf T n_limbs_Read xs = Run T a_limbs_Read xs := Cinf_eq rfl fn_limbs_Read
@[simp] theorem md_limbs_Read : T.modes n_limbs_Read = [] := rfl
@[simp] theorem call_limbs_Read (C : Oracle) (e : Env) (xs : List PV) : call T C e n_limbs_Read xs = callK1 C n_limbs_Read xs (moves e [] [] xs) := call_modes md_limbs_Read
theorem fn_limbs_Small : T.fns n_limbs_Small = some a_limbs_Small := rfl
@[simp] theorem tl0_limbs_Small (e : Env) : Exec T k0_limbs_Small e = Exec T j0_limbs_Small (e.keep [0, 4, 7, 12, 13]) := Exec_tail _ _ _
@[simp] theorem tl1_limbs_Small (e : Env) : Exec T k1_limbs_Small e = Exec T j1_limbs_Small (e.keep [0, 4, 7, 12, 13]) := Exec_tail _ _ _
@[simp] theorem tl2_limbs_Small (e : Env) : Exec T k2_limbs_Small e = Exec T j2_limbs_Small (e.keep [4]) := Exec_tail _ _ _
@[simp] theorem tl3_limbs_Small (e : Env) : Exec T k3_limbs_Small e = Exec T j3_limbs_Small (e.keep [0, 4, 7]) := Exec_tail _ _ _
theorem ex0_limbs_Small (e : Env) : Exec T l0_limbs_Small e = andThen (Exec T w0_limbs_Small (e.keep [0, 4, 7, 12, 13])) (Exec T l0_limbs_Small) := Exec_loop _ _ _
theorem run_limbs_Small (xs : List PV) : Cinf T n_limbs_Small xs = Run T a_limbs_Small xs := Cinf_eq rfl fn_limbs_Small
@[simp] theorem md_limbs_Small : T.modes n_limbs_Small = [] := rfl
@[simp] theorem call_limbs_Small (C : Oracle) (e : Env) (xs : List PV) : call T C e n_limbs_Small xs = callK1 C n_limbs_Small xs (moves e [] [] xs) := call_modes md_limbs_Small
theorem fn_fixed_signed : T.fns n_fixed_signed = some a_fixed_signed := rfl
@[simp] theorem tl0_fixed_signed (e : Env) : Exec T k0_fixed_signed e = Exec T j0_fixed_signed (e.keep [6]) := Exec_tail _ _ _
theorem run_fixed_signed (xs : List PV) : Cinf T n_fixed_signed xs = Run T a_fixed_signed xs := Cinf_eq rfl fn_fixed_signed
@[simp] theorem md_fixed_signed : T.modes n_fixed_signed = [] := rfl
@[simp] theorem call_fixed_signed (C : Oracle) (e : Env) (xs : List PV) : call T C e n_fixed_signed xs = callK1 C n_fixed_signed xs (moves e [] [] xs) := call_modes md_fixed_signed
theorem fn_fixed_Read : T.fns n_fixed_Read = some a_fixed_Read := rfl
@[simp] theorem tl0_fixed_Read (e : Env) : Exec T k0_fixed_Read e = Exec T j0_fixed_Read (e.keep [0, 5, 7, 9, 11]) := Exec_tail _ _ _
@[simp] theorem tl1_fixed_Read (e : Env) : Exec T k1_fixed_Read e = Exec T j1_fixed_Read (e.keep [0, 5, 7, 9, 11]) := Exec_tail _ _ _
@[simp] theorem tl2_fixed_Read (e : Env) : Exec T k2_fixed_Read e = Exec T j2_fixed_Read (e.keep [16]) := Exec_tail _ _ _
@[simp] theorem tl3_fixed_Read (e : Env) : Exec T k3_fixed_Read e = Exec T j3_fixed_Read (e.keep [5, 9, 10]) := Exec_tail _ _ _
@[simp] theorem tl4_fixed_Read (e : Env) : Exec T k4_fixed_Read e = Exec T j4_fixed_Read (e.keep [0, 5, 7, 9, 10]) := Exec_tail _ _ _
@[simp] theorem tl5_fixed_Read (e : Env) : Exec T k5_fixed_Read e = Exec T j5_fixed_Read (e.keep [0, 5, 6, 7]) := Exec_tail _ _ _
@[simp] theorem tl6_fixed_Read (e : Env) : Exec T k6_fixed_Read e = Exec T j6_fixed_Read (e.keep [0, 5, 6]) := Exec_tail _ _ _
@[simp] theorem tl7_fixed_Read (e : Env) : Exec T k7_fixed_Read e = Exec T j7_fixed_Read (e.keep [0]) := Exec_tail _ _ _
theorem run_fixed_Read (xs : List PV) : Cinf T n_fixed_Read xs = Run T a_fixed_Read xs := Cinf_eq rfl fn_fixed_Read
@[simp] theorem md_fixed_Read : T.modes n_fixed_Read = [] := rfl
@[simp] theorem call_fixed_Read (C : Oracle) (e : Env) (xs : List PV) : call T C e n_fixed_Read xs = callK1 C n_fixed_Read xs (moves e [] [] xs) := call_modes md_fixed_Read
theorem fn_stringslite_TrimPrefix : T.fns n_stringslite_TrimPrefix = some a_stringslite_TrimPrefix := rfl
@[simp] theorem tl0_stringslite_TrimPrefix (e : Env) : Exec T k0_stringslite_TrimPrefix e = Exec T j0_stringslite_TrimPrefix (e.keep [0]) := Exec_tail _ _ _
theorem run_stringslite_TrimPrefix (xs : List PV) : Cinf T n_stringslite_TrimPrefix xs = Run T a_stringslite_TrimPrefix xs := Cinf_eq rfl fn_stringslite_TrimPrefix
@[simp] theorem md_stringslite_TrimPrefix : T.modes n_stringslite_TrimPrefix = [] := rfl
@[simp] theorem call_stringslite_TrimPrefix (C : Oracle) (e : Env) (xs : List PV) : call T C e n_stringslite_TrimPrefix xs = callK1 C n_stringslite_TrimPrefix xs (moves e [] [] xs) := call_modes md_stringslite_TrimPrefix
theorem fn_strings_TrimPrefix : T.fns n_strings_TrimPrefix = some a_strings_TrimPrefix := rfl
theorem run_strings_TrimPrefix (xs : List PV) : Cinf T n_strings_TrimPrefix xs = Run T a_strings_TrimPrefix xs := Cinf_eq rfl fn_strings_TrimPrefix
@[simp] theorem md_strings_TrimPrefix : T.modes n_strings_TrimPrefix = [] := rfl
@[simp] theorem call_strings_TrimPrefix (C : Oracle) (e : Env) (xs : List PV) : call T C e n_strings_TrimPrefix xs = callK1 C n_strings_TrimPrefix xs (moves e [] [] xs) := call_modes md_strings_TrimPrefix
theorem fn_fixed_decimal : T.fns n_fixed_decimal = some a_fixed_decimal := rfl
@[simp] theorem tl0_fixed_decimal (e : Env) : Exec T k0_fixed_decimal e = Exec T j0_fixed_decimal (e.keep [0, 2, 4, 7, 9]) := Exec_tail _ _ _
@[simp] theorem tl1_fixed_decimal (e : Env) : Exec T k1_fixed_decimal e = Exec T j1_fixed_decimal (e.keep [0, 2, 3, 11, 12]) := Exec_tail _ _ _
@[simp] theorem tl2_fixed_decimal (e : Env) : Exec T k2_fixed_decimal e = Exec T j2_fixed_decimal (e.keep [0, 2, 3, 7, 11]) := Exec_tail _ _ _
@[simp] theorem tl3_fixed_decimal (e : Env) : Exec T k3_fixed_decimal e = Exec T j3_fixed_decimal (e.keep [2, 3, 4]) := Exec_tail _ _ _
@[simp] theorem tl4_fixed_decimal (e : Env) : Exec T k4_fixed_decimal e = Exec T j4_fixed_decimal (e.keep [0, 2, 3, 4, 7]) := Exec_tail _ _ _
@[simp] theorem tl5_fixed_decimal (e : Env) : Exec T k5_fixed_decimal e = Exec T j5_fixed_decimal (e.keep [0, 2, 3, 4, 7]) := Exec_tail _ _ _
@[simp] theorem tl6_fixed_decimal (e : Env) : Exec T k6_fixed_decimal e = Exec T j6_fixed_decimal (e.keep [0, 3, 4, 6, 7]) := Exec_tail _ _ _
@[simp] theorem tl7_fixed_decimal (e : Env) : Exec T k7_fixed_decimal e = Exec T j7_fixed_decimal (e.keep [0, 3, 4, 6]) := Exec_tail _ _ _
theorem run_fixed_decimal (xs : List PV) : Cinf T n_fixed_decimal xs = Run T a_fixed_decimal xs := Cinf_eq rfl fn_fixed_decimal
@[simp] theorem md_fixed_decimal : T.modes n_fixed_decimal = [] := rfl
@[simp] theorem call_fixed_decimal (C : Oracle) (e : Env) (xs : List PV) : call T C e n_fixed_decimal xs = callK1 C n_fixed_decimal xs (moves e [] [] xs) := call_modes md_fixed_decimal
theorem fn_fixed_clamped : T.fns n_fixed_clamped = some a_fixed_clamped := rfl
@[simp] theorem tl0_fixed_clamped (e : Env) : Exec T k0_fixed_clamped e = Exec T j0_fixed_clamped (e.keep [0, 3, 6, 7]) := Exec_tail _ _ _
@[simp] theorem tl1_fixed_clamped (e : Env) : Exec T k1_fixed_clamped e = Exec T j1_fixed_clamped (e.keep [0, 3, 6, 7]) := Exec_tail _ _ _
@[simp] theorem tl2_fixed_clamped (e : Env) : Exec T k2_fixed_clamped e = Exec T j2_fixed_clamped (e.keep [3]) := Exec_tail _ _ _
@[simp] theorem tl3_fixed_clamped (e : Env) : Exec T k3_fixed_clamped e = Exec T j3_fixed_clamped (e.keep [0, 3]) := Exec_tail _ _ _
theorem ex0_fixed_clamped (e : Env) : Exec T l0_fixed_clamped e = andThen (Exec T w0_fixed_clamped (e.keep [0, 3, 6, 7])) (Exec T l0_fixed_clamped) := Exec_loop _ _ _
theorem run_fixed_clamped (xs : List PV) : Cinf T n_fixed_clamped xs = Run T a_fixed_clamped xs := Cinf_eq rfl fn_fixed_clamped
@[simp] theorem md_fixed_clamped : T.modes n_fixed_clamped = [] := rfl
@[simp] theorem call_fixed_clamped (C : Oracle) (e : Env) (xs : List PV) : call T C e n_fixed_clamped xs = callK1 C n_fixed_clamped xs (moves e [] [] xs) := call_modes md_fixed_clamped
theorem fn_limbs_Norm : T.fns n_limbs_Norm = some a_limbs_Norm := rfl
theorem run_limbs_Norm (xs : List PV) : Cinf T n_limbs_Norm xs = Run T a_limbs_Norm xs := Cinf_eq rfl fn_limbs_Norm
@[simp] theorem md_limbs_Norm : T.modes n_limbs_Norm = [] := rfl
@[simp] theorem call_limbs_Norm (C : Oracle) (e : Env) (xs : List PV) : call T C e n_limbs_Norm xs = callK1 C n_limbs_Norm xs (moves e [] [] xs) := call_modes md_limbs_Norm
theorem fn_strings_trimLeftByte : T.fns n_strings_trimLeftByte = some a_strings_trimLeftByte := rfl
@[simp] theorem tl0_strings_trimLeftByte (e : Env) : Exec T k0_strings_trimLeftByte e = Exec T j0_strings_trimLeftByte (e.keep [0, 1]) := Exec_tail _ _ _
@[simp] theorem tl1_strings_trimLeftByte (e : Env) : Exec T k1_strings_trimLeftByte e = Exec T j1_strings_trimLeftByte (e.keep [0]) := Exec_tail _ _ _
theorem ex0_strings_trimLeftByte (e : Env) : Exec T l0_strings_trimLeftByte e = andThen (Exec T w0_strings_trimLeftByte (e.keep [0, 1])) (Exec T l0_strings_trimLeftByte) := Exec_loop _ _ _
theorem run_strings_trimLeftByte (xs : List PV) : Cinf T n_strings_trimLeftByte xs = Run T a_strings_trimLeftByte xs := Cinf_eq rfl fn_strings_trimLeftByte
@[simp] theorem md_strings_trimLeftByte : T.modes n_strings_trimLeftByte = [] := rfl
@[simp] theorem call_strings_trimLeftByte (C : Oracle) (e : Env) (xs : List PV) : call T C e n_strings_trimLeftByte xs = callK1 C n_strings_trimLeftByte xs (moves e [] [] xs) := call_modes md_strings_trimLeftByte
theorem fn_strings_TrimLeft : T.fns n_strings_TrimLeft = some a_strings_TrimLeft := rfl
@[simp] theorem tl0_strings_TrimLeft (e : Env) : Exec T k0_strings_TrimLeft e = Exec T j0_strings_TrimLeft (e.keep [0, 1]) := Exec_tail _ _ _
@[simp] theorem tl1_strings_TrimLeft (e : Env) : Exec T k1_strings_TrimLeft e = Exec T j1_strings_TrimLeft (e.keep [0, 1]) := Exec_tail _ _ _
@[simp] theorem tl2_strings_TrimLeft (e : Env) : Exec T k2_strings_TrimLeft e = Exec T j2_strings_TrimLeft (e.keep [0, 1]) := Exec_tail _ _ _
theorem run_strings_TrimLeft (xs : List PV) : Cinf T n_strings_TrimLeft xs = Run T a_strings_TrimLeft xs := Cinf_eq rfl fn_strings_TrimLeft
@[simp] theorem md_strings_TrimLeft : T.modes n_strings_TrimLeft = [] := rfl
@[simp] theorem call_strings_TrimLeft (C : Oracle) (e : Env) (xs : List PV) : call T C e n_strings_TrimLeft xs = callK1 C n_strings_TrimLeft xs (moves e [] [] xs) := call_modes md_strings_TrimLeft
theorem fn_limbs_Print : T.fns n_limbs_Print = some a_limbs_Print := rfl
@[simp] theorem tl0_limbs_Print (e : Env) : Exec T k0_limbs_Print e = Exec T j0_limbs_Print (e.keep [0, 3, 4, 5, 10, 41, 57]) := Exec_tail _ _ _
@[simp] theorem tl1_limbs_Print (e : Env) : Exec T k1_limbs_Print e = Exec T j1_limbs_Print (e.keep [0, 3, 4, 5, 10, 41, 57]) := Exec_tail _ _ _
@[simp] theorem tl2_limbs_Print (e : Env) : Exec T k2_limbs_Print e = Exec T j2_limbs_Print (e.keep [0, 3, 4, 6, 10, 41, 42, 57]) := Exec_tail _ _ _
@[simp] theorem tl3_limbs_Print (e : Env) : Exec T k3_limbs_Print e = Exec T j3_limbs_Print (e.keep [0, 3, 4, 6, 10, 41, 42, 57]) := Exec_tail _ _ _
@[simp] theorem tl4_limbs_Print (e : Env) : Exec T k4_limbs_Print e = Exec T j4_limbs_Print (e.keep [0, 3, 6, 10, 41, 57]) := Exec_tail _ _ _
@[simp] theorem tl5_limbs_Print (e : Env) : Exec T k5_limbs_Print e = Exec T j5_limbs_Print (e.keep [0, 3, 4, 10, 41, 57]) := Exec_tail _ _ _
@[simp] theorem tl6_limbs_Print (e : Env) : Exec T k6_limbs_Print e = Exec T j6_limbs_Print (e.keep [0, 3, 10, 41, 57]) := Exec_tail _ _ _
@[simp] theorem tl7_limbs_Print (e : Env) : Exec T k7_limbs_Print e = Exec T j7_limbs_Print (e.keep [3, 7, 8, 57]) := Exec_tail _ _ _
@[simp] theorem tl8_limbs_Print (e : Env) : Exec T k8_limbs_Print e = Exec T j8_limbs_Print (e.keep [3, 7, 8, 57]) := Exec_tail _ _ _
@[simp] theorem tl9_limbs_Print (e : Env) : Exec T k9_limbs_Print e = Exec T j9_limbs_Print (e.keep [7]) := Exec_tail _ _ _
@[simp] theorem tl10_limbs_Print (e : Env) : Exec T k10_limbs_Print e = Exec T j10_limbs_Print (e.keep [3, 57]) := Exec_tail _ _ _
@[simp] theorem tl11_limbs_Print (e : Env) : Exec T k11_limbs_Print e = Exec T j11_limbs_Print (e.keep [0, 10, 41]) := Exec_tail _ _ _
theorem ex1_limbs_Print (e : Env) : Exec T l1_limbs_Print e = andThen (Exec T w1_limbs_Print (e.keep [0, 3, 4, 5, 10, 41, 57])) (Exec T l1_limbs_Print) := Exec_loop _ _ _
theorem ex2_limbs_Print (e : Env) : Exec T l2_limbs_Print e = andThen (Exec T w2_limbs_Print (e.keep [0, 3, 4, 6, 10, 41, 42, 57])) (Exec T l2_limbs_Print) := Exec_loop _ _ _
theorem ex0_limbs_Print (e : Env) : Exec T l0_limbs_Print e = andThen (Exec T w0_limbs_Print (e.keep [0, 3, 10, 41, 57])) (Exec T l0_limbs_Print) := Exec_loop _ _ _
theorem ex3_limbs_Print (e : Env) : Exec T l3_limbs_Print e = andThen (Exec T w3_limbs_Print (e.keep [3, 7, 8, 57])) (Exec T l3_limbs_Print) := Exec_loop _ _ _
theorem run_limbs_Print (xs : List PV) : Cinf T n_limbs_Print xs = Run T a_limbs_Print xs := Cinf_eq rfl fn_limbs_Print
@[simp] theorem md_limbs_Print : T.modes n_limbs_Print = [] := rfl
@[simp] theorem call_limbs_Print (C : Oracle) (e : Env) (xs : List PV) : call T C e n_limbs_Print xs = callK1 C n_limbs_Print xs (moves e [] [] xs) := call_modes md_limbs_Print
theorem fn_bits_Len32 : T.fns n_bits_Len32 = some a_bits_Len32 := rfl
@[simp] theorem tl0_bits_Len32 (e : Env) : Exec T k0_bits_Len32 e = Exec T j0_bits_Len32 (e.keep [0, 2]) := Exec_tail _ _ _
@[simp] theorem tl1_bits_Len32 (e : Env) : Exec T k1_bits_Len32 e = Exec T j1_bits_Len32 (e.keep [0, 2]) := Exec_tail _ _ _
theorem run_bits_Len32 (xs : List PV) : Cinf T n_bits_Len32 xs = Run T a_bits_Len32 xs := Cinf_eq rfl fn_bits_Len32
@[simp] theorem md_bits_Len32 : T.modes n_bits_Len32 = [] := rfl
@[simp] theorem call_bits_Len32 (C : Oracle) (e : Env) (xs : List PV) : call T C e n_bits_Len32 xs = callK1 C n_bits_Len32 xs (moves e [] [] xs) := call_modes md_bits_Len32
theorem fn_limbs_Len : T.fns n_limbs_Len = some a_limbs_Len := rfl
@[simp] theorem tl0_limbs_Len (e : Env) : Exec T k0_limbs_Len e = Exec T j0_limbs_Len (e.keep [0, 4]) := Exec_tail _ _ _
theorem run_limbs_Len (xs : List PV) : Cinf T n_limbs_Len xs = Run T a_limbs_Len xs := Cinf_eq rfl fn_limbs_Len
@[simp] theorem md_limbs_Len : T.modes n_limbs_Len = [] := rfl
@[simp] theorem call_limbs_Len (C : Oracle) (e : Env) (xs : List PV) : call T C e n_limbs_Len xs = callK1 C n_limbs_Len xs (moves e [] [] xs) := call_modes md_limbs_Len
theorem fn_limbs_Mul : T.fns n_limbs_Mul = some a_limbs_Mul := rfl
@[simp] theorem tl0_limbs_Mul (e : Env) : Exec T k0_limbs_Mul e = Exec T j0_limbs_Mul (e.keep [0, 1, 5, 6, 7, 10, 12, 18, 20, 21, 25, 26]) := Exec_tail _ _ _
@[simp] theorem tl1_limbs_Mul (e : Env) : Exec T k1_limbs_Mul e = Exec T j1_limbs_Mul (e.keep [0, 1, 5, 6, 7, 10, 12, 18, 20, 21, 25, 26]) := Exec_tail _ _ _
@[simp] theorem tl2_limbs_Mul (e : Env) : Exec T k2_limbs_Mul e = Exec T j2_limbs_Mul (e.keep [0, 1, 5, 6, 7, 10, 12, 18, 20, 21]) := Exec_tail _ _ _
@[simp] theorem tl3_limbs_Mul (e : Env) : Exec T k3_limbs_Mul e = Exec T j3_limbs_Mul (e.keep [0, 1, 5, 10, 12, 18, 20, 21]) := Exec_tail _ _ _
@[simp] theorem tl4_limbs_Mul (e : Env) : Exec T k4_limbs_Mul e = Exec T j4_limbs_Mul (e.keep [0, 1, 5, 10, 12, 18, 20, 21]) := Exec_tail _ _ _
@[simp] theorem tl5_limbs_Mul (e : Env) : Exec T k5_limbs_Mul e = Exec T j5_limbs_Mul (e.keep [5, 18]) := Exec_tail _ _ _
theorem ex1_limbs_Mul (e : Env) : Exec T l1_limbs_Mul e = andThen (Exec T w1_limbs_Mul (e.keep [0, 1, 5, 6, 7, 10, 12, 18, 20, 21, 25, 26])) (Exec T l1_limbs_Mul) := Exec_loop _ _ _
theorem ex0_limbs_Mul (e : Env) : Exec T l0_limbs_Mul e = andThen (Exec T w0_limbs_Mul (e.keep [0, 1, 5, 10, 12, 18, 20, 21])) (Exec T l0_limbs_Mul) := Exec_loop _ _ _
theorem run_limbs_Mul (xs : List PV) : Cinf T n_limbs_Mul xs = Run T a_limbs_Mul xs := Cinf_eq rfl fn_limbs_Mul
@[simp] theorem md_limbs_Mul : T.modes n_limbs_Mul = [] := rfl
@[simp] theorem call_limbs_Mul (C : Oracle) (e : Env) (xs : List PV) : call T C e n_limbs_Mul xs = callK1 C n_limbs_Mul xs (moves e [] [] xs) := call_modes md_limbs_Mul
theorem fn_limbs_Pow : T.fns n_limbs_Pow = some a_limbs_Pow := rfl
@[simp] theorem tl0_limbs_Pow (e : Env) : Exec T k0_limbs_Pow e = Exec T j0_limbs_Pow (e.keep [0, 1, 6, 7, 19, 26, 34]) := Exec_tail _ _ _
@[simp] theorem tl1_limbs_Pow (e : Env) : Exec T k1_limbs_Pow e = Exec T j1_limbs_Pow (e.keep [0, 1, 6, 7, 19, 26, 34]) := Exec_tail _ _ _
@[simp] theorem tl2_limbs_Pow (e : Env) : Exec T k2_limbs_Pow e = Exec T j2_limbs_Pow (e.keep [6, 19, 26, 34]) := Exec_tail _ _ _
@[simp] theorem tl3_limbs_Pow (e : Env) : Exec T k3_limbs_Pow e = Exec T j3_limbs_Pow (e.keep [0, 1]) := Exec_tail _ _ _
@[simp] theorem tl4_limbs_Pow (e : Env) : Exec T k4_limbs_Pow e = Exec T j4_limbs_Pow (e.keep [0, 1]) := Exec_tail _ _ _
theorem ex0_limbs_Pow (e : Env) : Exec T l0_limbs_Pow e = andThen (Exec T w0_limbs_Pow (e.keep [0, 1, 6, 7, 19, 26, 34])) (Exec T l0_limbs_Pow) := Exec_loop _ _ _
theorem run_limbs_Pow (xs : List PV) : Cinf T n_limbs_Pow xs = Run T a_limbs_Pow xs := Cinf_eq rfl fn_limbs_Pow
@[simp] theorem md_limbs_Pow : T.modes n_limbs_Pow = [] := rfl
@[simp] theorem call_limbs_Pow (C : Oracle) (e : Env) (xs : List PV) : call T C e n_limbs_Pow xs = callK1 C n_limbs_Pow xs (moves e [] [] xs) := call_modes md_limbs_Pow
theorem fn_limbs_Cmp : T.fns n_limbs_Cmp = some a_limbs_Cmp := rfl
@[simp] theorem tl0_limbs_Cmp (e : Env) : Exec T k0_limbs_Cmp e = Exec T j0_limbs_Cmp (e.keep []) := Exec_tail _ _ _
@[simp] theorem tl1_limbs_Cmp (e : Env) : Exec T k1_limbs_Cmp e = Exec T j1_limbs_Cmp (e.keep [0, 1, 5, 7, 9]) := Exec_tail _ _ _
@[simp] theorem tl2_limbs_Cmp (e : Env) : Exec T k2_limbs_Cmp e = Exec T j2_limbs_Cmp (e.keep [0, 1, 5, 7, 9]) := Exec_tail _ _ _
@[simp] theorem tl3_limbs_Cmp (e : Env) : Exec T k3_limbs_Cmp e = Exec T j3_limbs_Cmp (e.keep []) := Exec_tail _ _ _
@[simp] theorem tl4_limbs_Cmp (e : Env) : Exec T k4_limbs_Cmp e = Exec T j4_limbs_Cmp (e.keep [0, 1, 7, 9]) := Exec_tail _ _ _
theorem ex0_limbs_Cmp (e : Env) : Exec T l0_limbs_Cmp e = andThen (Exec T w0_limbs_Cmp (e.keep [0, 1, 5, 7, 9])) (Exec T l0_limbs_Cmp) := Exec_loop _ _ _
theorem run_limbs_Cmp (xs : List PV) : Cinf T n_limbs_Cmp xs = Run T a_limbs_Cmp xs := Cinf_eq rfl fn_limbs_Cmp
@[simp] theorem md_limbs_Cmp : T.modes n_limbs_Cmp = [] := rfl
@[simp] theorem call_limbs_Cmp (C : Oracle) (e : Env) (xs : List PV) : call T C e n_limbs_Cmp xs = callK1 C n_limbs_Cmp xs (moves e [] [] xs) := call_modes md_limbs_Cmp
theorem fn_limbs_From : T.fns n_limbs_From = some a_limbs_From := rfl
theorem run_limbs_From (xs : List PV) : Cinf T n_limbs_From xs = Run T a_limbs_From xs := Cinf_eq rfl fn_limbs_From
@[simp] theorem md_limbs_From : T.modes n_limbs_From = [] := rfl
@[simp] theorem call_limbs_From (C : Oracle) (e : Env) (xs : List PV) : call T C e n_limbs_From xs = callK1 C n_limbs_From xs (moves e [] [] xs) := call_modes md_limbs_From
theorem fn_bits_LeadingZeros32 : T.fns n_bits_LeadingZeros32 = some a_bits_LeadingZeros32 := rfl
theorem run_bits_LeadingZeros32 (xs : List PV) : Cinf T n_bits_LeadingZeros32 xs = Run T a_bits_LeadingZeros32 xs := Cinf_eq rfl fn_bits_LeadingZeros32
@[simp] theorem md_bits_LeadingZeros32 : T.modes n_bits_LeadingZeros32 = [] := rfl
@[simp] theorem call_bits_LeadingZeros32 (C : Oracle) (e : Env) (xs : List PV) : call T C e n_bits_LeadingZeros32 xs = callK1 C n_bits_LeadingZeros32 xs (moves e [] [] xs) := call_modes md_bits_LeadingZeros32
theorem fn_limbs_up : T.fns n_limbs_up = some a_limbs_up := rfl
@[simp] theorem tl0_limbs_up (e : Env) : Exec T k0_limbs_up e = Exec T j0_limbs_up (e.keep [0, 1, 5, 6, 10, 22, 23, 24, 25, 40]) := Exec_tail _ _ _
@[simp] theorem tl1_limbs_up (e : Env) : Exec T k1_limbs_up e = Exec T j1_limbs_up (e.keep [0, 1, 5, 6, 10, 22, 23, 24, 25, 40]) := Exec_tail _ _ _
@[simp] theorem tl2_limbs_up (e : Env) : Exec T k2_limbs_up e = Exec T j2_limbs_up (e.keep [5, 6, 22, 40]) := Exec_tail _ _ _
@[simp] theorem tl3_limbs_up (e : Env) : Exec T k3_limbs_up e = Exec T j3_limbs_up (e.keep [0, 1, 10]) := Exec_tail _ _ _
theorem ex0_limbs_up (e : Env) : Exec T l0_limbs_up e = andThen (Exec T w0_limbs_up (e.keep [0, 1, 5, 6, 10, 22, 23, 24, 25, 40])) (Exec T l0_limbs_up) := Exec_loop _ _ _
theorem run_limbs_up (xs : List PV) : Cinf T n_limbs_up xs = Run T a_limbs_up xs := Cinf_eq rfl fn_limbs_up
@[simp] theorem md_limbs_up : T.modes n_limbs_up = [] := rfl
@[simp] theorem call_limbs_up (C : Oracle) (e : Env) (xs : List PV) : call T C e n_limbs_up xs = callK1 C n_limbs_up xs (moves e [] [] xs) := call_modes md_limbs_up
theorem fn_bits_Sub32 : T.fns n_bits_Sub32 = some a_bits_Sub32 := rfl
theorem run_bits_Sub32 (xs : List PV) : Cinf T n_bits_Sub32 xs = Run T a_bits_Sub32 xs := Cinf_eq rfl fn_bits_Sub32
@[simp] theorem md_bits_Sub32 : T.modes n_bits_Sub32 = [] := rfl
@[simp] theorem call_bits_Sub32 (C : Oracle) (e : Env) (xs : List PV) : call T C e n_bits_Sub32 xs = callK1 C n_bits_Sub32 xs (moves e [] [] xs) := call_modes md_bits_Sub32
theorem fn_bits_Add32 : T.fns n_bits_Add32 = some a_bits_Add32 := rfl
theorem run_bits_Add32 (xs : List PV) : Cinf T n_bits_Add32 xs = Run T a_bits_Add32 xs := Cinf_eq rfl fn_bits_Add32
@[simp] theorem md_bits_Add32 : T.modes n_bits_Add32 = [] := rfl
@[simp] theorem call_bits_Add32 (C : Oracle) (e : Env) (xs : List PV) : call T C e n_bits_Add32 xs = callK1 C n_bits_Add32 xs (moves e [] [] xs) := call_modes md_bits_Add32
theorem fn_limbs_long : T.fns n_limbs_long = some a_limbs_long := rfl
@[simp] theorem tl0_limbs_long (e : Env) : Exec T k0_limbs_long e = Exec T j0_limbs_long (e.keep [0, 1, 5, 6, 7, 8, 9, 11, 12, 24, 71, 100000]) := Exec_tail _ _ _
@[simp] theorem tl1_limbs_long (e : Env) : Exec T k1_limbs_long e = Exec T j1_limbs_long (e.keep [0, 1, 5, 6, 7, 8, 9, 11, 12, 24, 100000]) := Exec_tail _ _ _
@[simp] theorem tl2_limbs_long (e : Env) : Exec T k2_limbs_long e = Exec T j2_limbs_long (e.keep [0, 1, 5, 6, 7, 8, 9, 11, 13, 14, 24, 94, 95, 100000]) := Exec_tail _ _ _
@[simp] theorem tl3_limbs_long (e : Env) : Exec T k3_limbs_long e = Exec T j3_limbs_long (e.keep [0, 1, 5, 6, 7, 8, 9, 11, 13, 14, 24, 94, 95, 100000]) := Exec_tail _ _ _
@[simp] theorem tl4_limbs_long (e : Env) : Exec T k4_limbs_long e = Exec T j4_limbs_long (e.keep [0, 1, 5, 6, 7, 8, 9, 16, 24, 159, 160, 100000]) := Exec_tail _ _ _
@[simp] theorem tl5_limbs_long (e : Env) : Exec T k5_limbs_long e = Exec T j5_limbs_long (e.keep [0, 1, 5, 6, 7, 8, 9, 16, 24, 159, 160, 100000]) := Exec_tail _ _ _
@[simp] theorem tl6_limbs_long (e : Env) : Exec T k6_limbs_long e = Exec T j6_limbs_long (e.keep [0, 1, 5, 6, 7, 8, 9, 16, 24, 100000]) := Exec_tail _ _ _
@[simp] theorem tl7_limbs_long (e : Env) : Exec T k7_limbs_long e = Exec T j7_limbs_long (e.keep [0, 1, 5, 6, 7, 8, 9, 24, 100000]) := Exec_tail _ _ _
@[simp] theorem tl8_limbs_long (e : Env) : Exec T k8_limbs_long e = Exec T j8_limbs_long (e.keep [0, 1, 5, 6, 7, 8, 9, 11, 13, 14, 24, 100000]) := Exec_tail _ _ _
@[simp] theorem tl9_limbs_long (e : Env) : Exec T k9_limbs_long e = Exec T j9_limbs_long (e.keep [0, 1, 5, 6, 7, 8, 9, 11, 24, 100000]) := Exec_tail _ _ _
@[simp] theorem tl10_limbs_long (e : Env) : Exec T k10_limbs_long e = Exec T j10_limbs_long (e.keep [0, 1, 5, 6, 7, 8, 9, 24, 100000]) := Exec_tail _ _ _
@[simp] theorem tl11_limbs_long (e : Env) : Exec T k11_limbs_long e = Exec T j11_limbs_long (e.keep [0, 1, 5, 6, 7, 8, 9, 24, 100000]) := Exec_tail _ _ _
@[simp] theorem tl12_limbs_long (e : Env) : Exec T k12_limbs_long e = Exec T j12_limbs_long (e.keep [6, 24, 100000]) := Exec_tail _ _ _
theorem ex1_limbs_long (e : Env) : Exec T l1_limbs_long e = andThen (Exec T w1_limbs_long (e.keep [0, 1, 5, 6, 7, 8, 9, 11, 12, 24, 100000])) (Exec T l1_limbs_long) := Exec_loop _ _ _
theorem ex2_limbs_long (e : Env) : Exec T l2_limbs_long e = andThen (Exec T w2_limbs_long (e.keep [0, 1, 5, 6, 7, 8, 9, 11, 13, 14, 24, 94, 95, 100000])) (Exec T l2_limbs_long) := Exec_loop _ _ _
theorem ex3_limbs_long (e : Env) : Exec T l3_limbs_long e = andThen (Exec T w3_limbs_long (e.keep [0, 1, 5, 6, 7, 8, 9, 16, 24, 159, 160, 100000])) (Exec T l3_limbs_long) := Exec_loop _ _ _
theorem ex0_limbs_long (e : Env) : Exec T l0_limbs_long e = andThen (Exec T w0_limbs_long (e.keep [0, 1, 5, 6, 7, 8, 9, 24, 100000])) (Exec T l0_limbs_long) := Exec_loop _ _ _
theorem run_limbs_long (xs : List PV) : Cinf T n_limbs_long xs = Run T a_limbs_long xs := Cinf_eq rfl fn_limbs_long
@[simp] theorem md_limbs_long : T.modes n_limbs_long = [true, false] := rfl
@[simp] theorem call_limbs_long (C : Oracle) (e : Env) (xs : List PV) : call T C e n_limbs_long xs = callK1 C n_limbs_long xs (moves e [] [true, false] xs) := call_modes md_limbs_long
theorem fn_limbs_down : T.fns n_limbs_down = some a_limbs_down := rfl
@[simp] theorem tl0_limbs_down (e : Env) : Exec T k0_limbs_down e = Exec T j0_limbs_down (e.keep [0, 1, 5, 6, 7, 9, 15, 17, 18, 21, 23, 24]) := Exec_tail _ _ _
@[simp] theorem tl1_limbs_down (e : Env) : Exec T k1_limbs_down e = Exec T j1_limbs_down (e.keep [0, 1, 5, 9, 15, 17, 18, 21, 23, 24]) := Exec_tail _ _ _
@[simp] theorem tl2_limbs_down (e : Env) : Exec T k2_limbs_down e = Exec T j2_limbs_down (e.keep [0, 1, 5, 9, 15, 17, 18, 21, 23, 24]) := Exec_tail _ _ _
@[simp] theorem tl3_limbs_down (e : Env) : Exec T k3_limbs_down e = Exec T j3_limbs_down (e.keep [5, 21]) := Exec_tail _ _ _
@[simp] theorem tl4_limbs_down (e : Env) : Exec T k4_limbs_down e = Exec T j4_limbs_down (e.keep [0, 1, 9, 15, 17, 18]) := Exec_tail _ _ _
theorem ex0_limbs_down (e : Env) : Exec T l0_limbs_down e = andThen (Exec T w0_limbs_down (e.keep [0, 1, 5, 9, 15, 17, 18, 21, 23, 24])) (Exec T l0_limbs_down) := Exec_loop _ _ _
theorem run_limbs_down (xs : List PV) : Cinf T n_limbs_down xs = Run T a_limbs_down xs := Cinf_eq rfl fn_limbs_down
@[simp] theorem md_limbs_down : T.modes n_limbs_down = [] := rfl
@[simp] theorem call_limbs_down (C : Oracle) (e : Env) (xs : List PV) : call T C e n_limbs_down xs = callK1 C n_limbs_down xs (moves e [] [] xs) := call_modes md_limbs_down
theorem fn_limbs_DivMod : T.fns n_limbs_DivMod = some a_limbs_DivMod := rfl
@[simp] theorem tl0_limbs_DivMod (e : Env) : Exec T k0_limbs_DivMod e = Exec T j0_limbs_DivMod (e.keep [0, 1, 7, 8, 9, 15, 17, 32]) := Exec_tail _ _ _
@[simp] theorem tl1_limbs_DivMod (e : Env) : Exec T k1_limbs_DivMod e = Exec T j1_limbs_DivMod (e.keep [0, 1, 7, 8, 9, 15, 17, 32]) := Exec_tail _ _ _
@[simp] theorem tl2_limbs_DivMod (e : Env) : Exec T k2_limbs_DivMod e = Exec T j2_limbs_DivMod (e.keep [7, 8, 32]) := Exec_tail _ _ _
@[simp] theorem tl3_limbs_DivMod (e : Env) : Exec T k3_limbs_DivMod e = Exec T j3_limbs_DivMod (e.keep [0, 10, 11, 12, 15, 77, 80, 88]) := Exec_tail _ _ _
@[simp] theorem tl4_limbs_DivMod (e : Env) : Exec T k4_limbs_DivMod e = Exec T j4_limbs_DivMod (e.keep [10, 11, 12, 77, 80, 88]) := Exec_tail _ _ _
@[simp] theorem tl5_limbs_DivMod (e : Env) : Exec T k5_limbs_DivMod e = Exec T j5_limbs_DivMod (e.keep [0, 1, 15, 17]) := Exec_tail _ _ _
@[simp] theorem tl6_limbs_DivMod (e : Env) : Exec T k6_limbs_DivMod e = Exec T j6_limbs_DivMod (e.keep [0, 1, 15, 17]) := Exec_tail _ _ _
@[simp] theorem tl7_limbs_DivMod (e : Env) : Exec T k7_limbs_DivMod e = Exec T j7_limbs_DivMod (e.keep [0, 1, 15, 17]) := Exec_tail _ _ _
theorem ex0_limbs_DivMod (e : Env) : Exec T l0_limbs_DivMod e = andThen (Exec T w0_limbs_DivMod (e.keep [0, 1, 7, 8, 9, 15, 17, 32])) (Exec T l0_limbs_DivMod) := Exec_loop _ _ _
theorem ex1_limbs_DivMod (e : Env) : Exec T l1_limbs_DivMod e = andThen (Exec T w1_limbs_DivMod (e.keep [0, 10, 11, 12, 15, 77, 80, 88])) (Exec T l1_limbs_DivMod) := Exec_loop _ _ _
theorem run_limbs_DivMod (xs : List PV) : Cinf T n_limbs_DivMod xs = Run T a_limbs_DivMod xs := Cinf_eq rfl fn_limbs_DivMod
@[simp] theorem md_limbs_DivMod : T.modes n_limbs_DivMod = [] := rfl
@[simp] theorem call_limbs_DivMod (C : Oracle) (e : Env) (xs : List PV) : call T C e n_limbs_DivMod xs = callK1 C n_limbs_DivMod xs (moves e [] [] xs) := call_modes md_limbs_DivMod
theorem fn_limbs_Add : T.fns n_limbs_Add = some a_limbs_Add := rfl
@[simp] theorem tl0_limbs_Add (e : Env) : Exec T k0_limbs_Add e = Exec T j0_limbs_Add (e.keep [0, 1, 5, 6, 13, 14, 18, 20, 21, 46]) := Exec_tail _ _ _
@[simp] theorem tl1_limbs_Add (e : Env) : Exec T k1_limbs_Add e = Exec T j1_limbs_Add (e.keep [0, 1, 5, 6, 13, 14, 18, 20, 21, 46]) := Exec_tail _ _ _
@[simp] theorem tl2_limbs_Add (e : Env) : Exec T k2_limbs_Add e = Exec T j2_limbs_Add (e.keep [0, 1, 5, 6, 13, 14, 18, 20, 21, 46]) := Exec_tail _ _ _
@[simp] theorem tl3_limbs_Add (e : Env) : Exec T k3_limbs_Add e = Exec T j3_limbs_Add (e.keep [5, 6, 18, 46]) := Exec_tail _ _ _
@[simp] theorem tl4_limbs_Add (e : Env) : Exec T k4_limbs_Add e = Exec T j4_limbs_Add (e.keep [0, 1, 13, 14]) := Exec_tail _ _ _
theorem ex0_limbs_Add (e : Env) : Exec T l0_limbs_Add e = andThen (Exec T w0_limbs_Add (e.keep [0, 1, 5, 6, 13, 14, 18, 20, 21, 46])) (Exec T l0_limbs_Add) := Exec_loop _ _ _
theorem run_limbs_Add (xs : List PV) : Cinf T n_limbs_Add xs = Run T a_limbs_Add xs := Cinf_eq rfl fn_limbs_Add
@[simp] theorem md_limbs_Add : T.modes n_limbs_Add = [] := rfl
@[simp] theorem call_limbs_Add (C : Oracle) (e : Env) (xs : List PV) : call T C e n_limbs_Add xs = callK1 C n_limbs_Add xs (moves e [] [] xs) := call_modes md_limbs_Add
theorem fn_limbs_Bit : T.fns n_limbs_Bit = some a_limbs_Bit := rfl
theorem run_limbs_Bit (xs : List PV) : Cinf T n_limbs_Bit xs = Run T a_limbs_Bit xs := Cinf_eq rfl fn_limbs_Bit
@[simp] theorem md_limbs_Bit : T.modes n_limbs_Bit = [] := rfl
@[simp] theorem call_limbs_Bit (C : Oracle) (e : Env) (xs : List PV) : call T C e n_limbs_Bit xs = callK1 C n_limbs_Bit xs (moves e [] [] xs) := call_modes md_limbs_Bit
theorem fn_fixed_rounded : T.fns n_fixed_rounded = some a_fixed_rounded := rfl
@[simp] theorem tl0_fixed_rounded (e : Env) : Exec T k0_fixed_rounded e = Exec T j0_fixed_rounded (e.keep [5, 9, 12, 13]) := Exec_tail _ _ _
theorem run_fixed_rounded (xs : List PV) : Cinf T n_fixed_rounded xs = Run T a_fixed_rounded xs := Cinf_eq rfl fn_fixed_rounded
@[simp] theorem md_fixed_rounded : T.modes n_fixed_rounded = [] := rfl
@[simp] theorem call_fixed_rounded (C : Oracle) (e : Env) (xs : List PV) : call T C e n_fixed_rounded xs = callK1 C n_fixed_rounded xs (moves e [] [] xs) := call_modes md_fixed_rounded
theorem fn_fixed_Rounded : T.fns n_fixed_Rounded = some a_fixed_Rounded := rfl
@[simp] theorem tl0_fixed_Rounded (e : Env) : Exec T k0_fixed_Rounded e = Exec T j0_fixed_Rounded (e.keep [18]) := Exec_tail _ _ _
@[simp] theorem tl1_fixed_Rounded (e : Env) : Exec T k1_fixed_Rounded e = Exec T j1_fixed_Rounded (e.keep [0, 9, 33, 35, 36, 58, 81]) := Exec_tail _ _ _
@[simp] theorem tl2_fixed_Rounded (e : Env) : Exec T k2_fixed_Rounded e = Exec T j2_fixed_Rounded (e.keep [0, 5, 6, 7]) := Exec_tail _ _ _
@[simp] theorem tl3_fixed_Rounded (e : Env) : Exec T k3_fixed_Rounded e = Exec T j3_fixed_Rounded (e.keep [0]) := Exec_tail _ _ _
theorem run_fixed_Rounded (xs : List PV) : Cinf T n_fixed_Rounded xs = Run T a_fixed_Rounded xs := Cinf_eq rfl fn_fixed_Rounded
@[simp] theorem md_fixed_Rounded : T.modes n_fixed_Rounded = [] := rfl
@[simp] theorem call_fixed_Rounded (C : Oracle) (e : Env) (xs : List PV) : call T C e n_fixed_Rounded xs = callK1 C n_fixed_Rounded xs (moves e [] [] xs) := call_modes md_fixed_Rounded
theorem fn_fixed_amount : T.fns n_fixed_amount = some a_fixed_amount := rfl
@[simp] theorem tl0_fixed_amount (e : Env) : Exec T k0_fixed_amount e = Exec T j0_fixed_amount (e.keep [0]) := Exec_tail _ _ _
theorem run_fixed_amount (xs : List PV) : Cinf T n_fixed_amount xs = Run T a_fixed_amount xs := Cinf_eq rfl fn_fixed_amount
@[simp] theorem md_fixed_amount : T.modes n_fixed_amount = [] := rfl
@[simp] theorem call_fixed_amount (C : Oracle) (e : Env) (xs : List PV) : call T C e n_fixed_amount xs = callK1 C n_fixed_amount xs (moves e [] [] xs) := call_modes md_fixed_amount
theorem fn_strconv_FormatUint : T.fns n_strconv_FormatUint = some a_strconv_FormatUint := rfl
theorem run_strconv_FormatUint (xs : List PV) : Cinf T n_strconv_FormatUint xs = Run T a_strconv_FormatUint xs := Cinf_eq rfl fn_strconv_FormatUint
@[simp] theorem md_strconv_FormatUint : T.modes n_strconv_FormatUint = [] := rfl
@[simp] theorem call_strconv_FormatUint (C : Oracle) (e : Env) (xs : List PV) : call T C e n_strconv_FormatUint xs = callK1 C n_strconv_FormatUint xs (moves e [] [] xs) := call_modes md_strconv_FormatUint
theorem fn_strings_trimRightByte : T.fns n_strings_trimRightByte = some a_strings_trimRightByte := rfl
@[simp] theorem tl0_strings_trimRightByte (e : Env) : Exec T k0_strings_trimRightByte e = Exec T j0_strings_trimRightByte (e.keep [0, 1]) := Exec_tail _ _ _
@[simp] theorem tl1_strings_trimRightByte (e : Env) : Exec T k1_strings_trimRightByte e = Exec T j1_strings_trimRightByte (e.keep [0]) := Exec_tail _ _ _
theorem ex0_strings_trimRightByte (e : Env) : Exec T l0_strings_trimRightByte e = andThen (Exec T w0_strings_trimRightByte (e.keep [0, 1])) (Exec T l0_strings_trimRightByte) := Exec_loop _ _ _
theorem run_strings_trimRightByte (xs : List PV) : Cinf T n_strings_trimRightByte xs = Run T a_strings_trimRightByte xs := Cinf_eq rfl fn_strings_trimRightByte
@[simp] theorem md_strings_trimRightByte : T.modes n_strings_trimRightByte = [] := rfl
@[simp] theorem call_strings_trimRightByte (C : Oracle) (e : Env) (xs : List PV) : call T C e n_strings_trimRightByte xs = callK1 C n_strings_trimRightByte xs (moves e [] [] xs) := call_modes md_strings_trimRightByte
theorem fn_strings_TrimRight : T.fns n_strings_TrimRight = some a_strings_TrimRight := rfl
@[simp] theorem tl0_strings_TrimRight (e : Env) : Exec T k0_strings_TrimRight e = Exec T j0_strings_TrimRight (e.keep [0, 1]) := Exec_tail _ _ _
@[simp] theorem tl1_strings_TrimRight (e : Env) : Exec T k1_strings_TrimRight e = Exec T j1_strings_TrimRight (e.keep [0, 1]) := Exec_tail _ _ _
@[simp] theorem tl2_strings_TrimRight (e : Env) : Exec T k2_strings_TrimRight e = Exec T j2_strings_TrimRight (e.keep [0, 1]) := Exec_tail _ _ _
theorem run_strings_TrimRight (xs : List PV) : Cinf T n_strings_TrimRight xs = Run T a_strings_TrimRight xs := Cinf_eq rfl fn_strings_TrimRight
@[simp] theorem md_strings_TrimRight : T.modes n_strings_TrimRight = [] := rfl
@[simp] theorem call_strings_TrimRight (C : Oracle) (e : Env) (xs : List PV) : call T C e n_strings_TrimRight xs = callK1 C n_strings_TrimRight xs (moves e [] [] xs) := call_modes md_strings_TrimRight
theorem fn_fixed_Print : T.fns n_fixed_Print = some a_fixed_Print := rfl
@[simp] theorem tl0_fixed_Print (e : Env) : Exec T k0_fixed_Print e = Exec T j0_fixed_Print (e.keep [4]) := Exec_tail _ _ _
@[simp] theorem tl1_fixed_Print (e : Env) : Exec T k1_fixed_Print e = Exec T j1_fixed_Print (e.keep [0, 4]) := Exec_tail _ _ _
theorem run_fixed_Print (xs : List PV) : Cinf T n_fixed_Print xs = Run T a_fixed_Print xs := Cinf_eq rfl fn_fixed_Print
@[simp] theorem md_fixed_Print : T.modes n_fixed_Print = [] := rfl
@[simp] theorem call_fixed_Print (C : Oracle) (e : Env) (xs : List PV) : call T C e n_fixed_Print xs = callK1 C n_fixed_Print xs (moves e [] [] xs) := call_modes md_fixed_Print
theorem fn_fixed_Scale : T.fns n_fixed_Scale = some a_fixed_Scale := rfl
@[simp] theorem tl0_fixed_Scale (e : Env) : Exec T k0_fixed_Scale e = Exec T j0_fixed_Scale (e.keep [10]) := Exec_tail _ _ _
@[simp] theorem tl1_fixed_Scale (e : Env) : Exec T k1_fixed_Scale e = Exec T j1_fixed_Scale (e.keep [0, 1, 2]) := Exec_tail _ _ _
theorem run_fixed_Scale (xs : List PV) : Cinf T n_fixed_Scale xs = Run T a_fixed_Scale xs := Cinf_eq rfl fn_fixed_Scale
@[simp] theorem md_fixed_Scale : T.modes n_fixed_Scale = [] := rfl
@[simp] theorem call_fixed_Scale (C : Oracle) (e : Env) (xs : List PV) : call T C e n_fixed_Scale xs = callK1 C n_fixed_Scale xs (moves e [] [] xs) := call_modes md_fixed_Scale
theorem fn_limbs_Gcd : T.fns n_limbs_Gcd = some a_limbs_Gcd := rfl
@[simp] theorem tl0_limbs_Gcd (e : Env) : Exec T k0_limbs_Gcd e = Exec T j0_limbs_Gcd (e.keep [0, 1, 6, 9, 11, 15, 18, 20, 22, 23]) := Exec_tail _ _ _
@[simp] theorem tl1_limbs_Gcd (e : Env) : Exec T k1_limbs_Gcd e = Exec T j1_limbs_Gcd (e.keep [0, 1, 6, 9, 11, 15, 18, 20, 22, 23]) := Exec_tail _ _ _
theorem ex0_limbs_Gcd (e : Env) : Exec T l0_limbs_Gcd e = andThen (Exec T w0_limbs_Gcd (e.keep [0, 1, 6, 9, 11, 15, 18, 20, 22, 23])) (Exec T l0_limbs_Gcd) := Exec_loop _ _ _
theorem run_limbs_Gcd (xs : List PV) : Cinf T n_limbs_Gcd xs = Run T a_limbs_Gcd xs := Cinf_eq rfl fn_limbs_Gcd
@[simp] theorem md_limbs_Gcd : T.modes n_limbs_Gcd = [] := rfl
@[simp] theorem call_limbs_Gcd (C : Oracle) (e : Env) (xs : List PV) : call T C e n_limbs_Gcd xs = callK1 C n_limbs_Gcd xs (moves e [] [] xs) := call_modes md_limbs_Gcd
theorem fn_limbs_right : T.fns n_limbs_right = some a_limbs_right := rfl
@[simp] theorem tl0_limbs_right (e : Env) : Exec T k0_limbs_right e = Exec T j0_limbs_right (e.keep [0, 1, 2, 6]) := Exec_tail _ _ _
theorem run_limbs_right (xs : List PV) : Cinf T n_limbs_right xs = Run T a_limbs_right xs := Cinf_eq rfl fn_limbs_right
@[simp] theorem md_limbs_right : T.modes n_limbs_right = [] := rfl
@[simp] theorem call_limbs_right (C : Oracle) (e : Env) (xs : List PV) : call T C e n_limbs_right xs = callK1 C n_limbs_right xs (moves e [] [] xs) := call_modes md_limbs_right
theorem fn_limbs_Over : T.fns n_limbs_Over = some a_limbs_Over := rfl
@[simp] theorem tl0_limbs_Over (e : Env) : Exec T k0_limbs_Over e = Exec T j0_limbs_Over (e.keep [0, 1, 2, 6]) := Exec_tail _ _ _
theorem run_limbs_Over (xs : List PV) : Cinf T n_limbs_Over xs = Run T a_limbs_Over xs := Cinf_eq rfl fn_limbs_Over
@[simp] theorem md_limbs_Over : T.modes n_limbs_Over = [] := rfl
@[simp] theorem call_limbs_Over (C : Oracle) (e : Env) (xs : List PV) : call T C e n_limbs_Over xs = callK1 C n_limbs_Over xs (moves e [] [] xs) := call_modes md_limbs_Over
theorem fn_math_Inf : T.fns n_math_Inf = some a_math_Inf := rfl
@[simp] theorem tl0_math_Inf (e : Env) : Exec T k0_math_Inf e = Exec T j0_math_Inf (e.keep [3]) := Exec_tail _ _ _
theorem run_math_Inf (xs : List PV) : Cinf T n_math_Inf xs = Run T a_math_Inf xs := Cinf_eq rfl fn_math_Inf
@[simp] theorem md_math_Inf : T.modes n_math_Inf = [] := rfl
@[simp] theorem call_math_Inf (C : Oracle) (e : Env) (xs : List PV) : call T C e n_math_Inf xs = callK1 C n_math_Inf xs (moves e [] [] xs) := call_modes md_math_Inf
theorem fn_math_Copysign : T.fns n_math_Copysign = some a_math_Copysign := rfl
theorem run_math_Copysign (xs : List PV) : Cinf T n_math_Copysign xs = Run T a_math_Copysign xs := Cinf_eq rfl fn_math_Copysign
@[simp] theorem md_math_Copysign : T.modes n_math_Copysign = [] := rfl
@[simp] theorem call_math_Copysign (C : Oracle) (e : Env) (xs : List PV) : call T C e n_math_Copysign xs = callK1 C n_math_Copysign xs (moves e [] [] xs) := call_modes md_math_Copysign
theorem fn_limbs_Up : T.fns n_limbs_Up = some a_limbs_Up := rfl
@[simp] theorem tl0_limbs_Up (e : Env) : Exec T k0_limbs_Up e = Exec T j0_limbs_Up (e.keep [0, 1]) := Exec_tail _ _ _
theorem run_limbs_Up (xs : List PV) : Cinf T n_limbs_Up xs = Run T a_limbs_Up xs := Cinf_eq rfl fn_limbs_Up
@[simp] theorem md_limbs_Up : T.modes n_limbs_Up = [] := rfl
@[simp] theorem call_limbs_Up (C : Oracle) (e : Env) (xs : List PV) : call T C e n_limbs_Up xs = callK1 C n_limbs_Up xs (moves e [] [] xs) := call_modes md_limbs_Up
theorem fn_floats_format_nearest : T.fns n_floats_format_nearest = some a_floats_format_nearest := rfl
@[simp] theorem tl0_floats_format_nearest (e : Env) : Exec T k0_floats_format_nearest e = Exec T j0_floats_format_nearest (e.keep [3, 9, 15]) := Exec_tail _ _ _
@[simp] theorem tl1_floats_format_nearest (e : Env) : Exec T k1_floats_format_nearest e = Exec T j1_floats_format_nearest (e.keep [3, 9, 15]) := Exec_tail _ _ _
@[simp] theorem tl2_floats_format_nearest (e : Env) : Exec T k2_floats_format_nearest e = Exec T j2_floats_format_nearest (e.keep [2, 3, 9, 11, 12, 13, 40, 50, 53, 54, 56, 59, 60, 61]) := Exec_tail _ _ _
@[simp] theorem tl3_floats_format_nearest (e : Env) : Exec T k3_floats_format_nearest e = Exec T j3_floats_format_nearest (e.keep [1, 2, 3, 9, 10, 11, 39, 40, 43, 47, 48, 50, 53, 54]) := Exec_tail _ _ _
@[simp] theorem tl4_floats_format_nearest (e : Env) : Exec T k4_floats_format_nearest e = Exec T j4_floats_format_nearest (e.keep [1, 2, 3, 9]) := Exec_tail _ _ _
@[simp] theorem tl5_floats_format_nearest (e : Env) : Exec T k5_floats_format_nearest e = Exec T j5_floats_format_nearest (e.keep [1, 2, 3]) := Exec_tail _ _ _
theorem ex0_floats_format_nearest (e : Env) : Exec T l0_floats_format_nearest e = andThen (Exec T w0_floats_format_nearest (e.keep [1, 2, 3, 9])) (Exec T l0_floats_format_nearest) := Exec_loop _ _ _
theorem run_floats_format_nearest (xs : List PV) : Cinf T n_floats_format_nearest xs = Run T a_floats_format_nearest xs := Cinf_eq rfl fn_floats_format_nearest
@[simp] theorem md_floats_format_nearest : T.modes n_floats_format_nearest = [] := rfl
@[simp] theorem call_floats_format_nearest (C : Oracle) (e : Env) (xs : List PV) : call T C e n_floats_format_nearest xs = callK1 C n_floats_format_nearest xs (moves e [] [] xs) := call_modes md_floats_format_nearest
theorem fn_floats_number : T.fns n_floats_number = some a_floats_number := rfl
@[simp] theorem tl0_floats_number (e : Env) : Exec T k0_floats_number e = Exec T j0_floats_number (e.keep [10]) := Exec_tail _ _ _
@[simp] theorem tl1_floats_number (e : Env) : Exec T k1_floats_number e = Exec T j1_floats_number (e.keep [0, 10]) := Exec_tail _ _ _
theorem run_floats_number (xs : List PV) : Cinf T n_floats_number xs = Run T a_floats_number xs := Cinf_eq rfl fn_floats_number
@[simp] theorem md_floats_number : T.modes n_floats_number = [] := rfl
@[simp] theorem call_floats_number (C : Oracle) (e : Env) (xs : List PV) : call T C e n_floats_number xs = callK1 C n_floats_number xs (moves e [] [] xs) := call_modes md_floats_number
theorem fn_floats_Nearest : T.fns n_floats_Nearest = some a_floats_Nearest := rfl
@[simp] theorem tl0_floats_Nearest (e : Env) : Exec T k0_floats_Nearest e = Exec T j0_floats_Nearest (e.keep [4]) := Exec_tail _ _ _
@[simp] theorem tl1_floats_Nearest (e : Env) : Exec T k1_floats_Nearest e = Exec T j1_floats_Nearest (e.keep [4]) := Exec_tail _ _ _
theorem run_floats_Nearest (xs : List PV) : Cinf T n_floats_Nearest xs = Run T a_floats_Nearest xs := Cinf_eq rfl fn_floats_Nearest
@[simp] theorem md_floats_Nearest : T.modes n_floats_Nearest = [] := rfl
@[simp] theorem call_floats_Nearest (C : Oracle) (e : Env) (xs : List PV) : call T C e n_floats_Nearest xs = callK1 C n_floats_Nearest xs (moves e [] [] xs) := call_modes md_floats_Nearest
theorem fn_fixed_Ratio : T.fns n_fixed_Ratio = some a_fixed_Ratio := rfl
theorem run_fixed_Ratio (xs : List PV) : Cinf T n_fixed_Ratio xs = Run T a_fixed_Ratio xs := Cinf_eq rfl fn_fixed_Ratio
@[simp] theorem md_fixed_Ratio : T.modes n_fixed_Ratio = [] := rfl
@[simp] theorem call_fixed_Ratio (C : Oracle) (e : Env) (xs : List PV) : call T C e n_fixed_Ratio xs = callK1 C n_fixed_Ratio xs (moves e [] [] xs) := call_modes md_fixed_Ratio
theorem fn_fixed_Float : T.fns n_fixed_Float = some a_fixed_Float := rfl
theorem run_fixed_Float (xs : List PV) : Cinf T n_fixed_Float xs = Run T a_fixed_Float xs := Cinf_eq rfl fn_fixed_Float
@[simp] theorem md_fixed_Float : T.modes n_fixed_Float = [] := rfl
@[simp] theorem call_fixed_Float (C : Oracle) (e : Env) (xs : List PV) : call T C e n_fixed_Float xs = callK1 C n_fixed_Float xs (moves e [] [] xs) := call_modes md_fixed_Float
theorem fn_thicketlaw04_begins : T.fns n_thicketlaw04_begins = some a_thicketlaw04_begins := rfl
theorem run_thicketlaw04_begins (xs : List PV) : Cinf T n_thicketlaw04_begins xs = Run T a_thicketlaw04_begins xs := Cinf_eq rfl fn_thicketlaw04_begins
@[simp] theorem md_thicketlaw04_begins : T.modes n_thicketlaw04_begins = [] := rfl
@[simp] theorem call_thicketlaw04_begins (C : Oracle) (e : Env) (xs : List PV) : call T C e n_thicketlaw04_begins xs = callK1 C n_thicketlaw04_begins xs (moves e [] [] xs) := call_modes md_thicketlaw04_begins
theorem fn_thicketlaw04_FixedBack : T.fns n_thicketlaw04_FixedBack = some a_thicketlaw04_FixedBack := rfl
@[simp] theorem tl0_thicketlaw04_FixedBack (e : Env) : Exec T k0_thicketlaw04_FixedBack e = Exec T j0_thicketlaw04_FixedBack (e.keep [1, 8]) := Exec_tail _ _ _
@[simp] theorem tl1_thicketlaw04_FixedBack (e : Env) : Exec T k1_thicketlaw04_FixedBack e = Exec T j1_thicketlaw04_FixedBack (e.keep [1, 8]) := Exec_tail _ _ _
@[simp] theorem tl2_thicketlaw04_FixedBack (e : Env) : Exec T k2_thicketlaw04_FixedBack e = Exec T j2_thicketlaw04_FixedBack (e.keep [1]) := Exec_tail _ _ _
@[simp] theorem tl3_thicketlaw04_FixedBack (e : Env) : Exec T k3_thicketlaw04_FixedBack e = Exec T j3_thicketlaw04_FixedBack (e.keep [0, 1]) := Exec_tail _ _ _
theorem run_thicketlaw04_FixedBack (xs : List PV) : Cinf T n_thicketlaw04_FixedBack xs = Run T a_thicketlaw04_FixedBack xs := Cinf_eq rfl fn_thicketlaw04_FixedBack
@[simp] theorem md_thicketlaw04_FixedBack : T.modes n_thicketlaw04_FixedBack = [] := rfl
@[simp] theorem call_thicketlaw04_FixedBack (C : Oracle) (e : Env) (xs : List PV) : call T C e n_thicketlaw04_FixedBack xs = callK1 C n_thicketlaw04_FixedBack xs (moves e [] [] xs) := call_modes md_thicketlaw04_FixedBack
theorem x_strings_Repeat (xs : List PV) {r : PV × List PV} (h : xRepeat xs = some r) : Cinf T n_strings_Repeat xs = some r := Cinf_iff.2 ⟨1, by show (match xRepeat xs with | some r => some r | none => _) = some r; rw [h]⟩
@[simp] theorem md_strings_Repeat : T.modes n_strings_Repeat = [false, false] := rfl
@[simp] theorem call_strings_Repeat (C : Oracle) (e : Env) (xs : List PV) : call T C e n_strings_Repeat xs = callK1 C n_strings_Repeat xs (moves e [] [false, false] xs) := call_modes md_strings_Repeat
theorem x_strings_Builder_WriteString (xs : List PV) {r : PV × List PV} (h : xWriteString 78 5 xs = some r) : Cinf T n_strings_Builder_WriteString xs = some r := Cinf_iff.2 ⟨1, by show (match xWriteString 78 5 xs with | some r => some r | none => _) = some r; rw [h]⟩
@[simp] theorem md_strings_Builder_WriteString : T.modes n_strings_Builder_WriteString = [true, false] := rfl
@[simp] theorem call_strings_Builder_WriteString (C : Oracle) (e : Env) (xs : List PV) : call T C e n_strings_Builder_WriteString xs = callK1 C n_strings_Builder_WriteString xs (moves e [] [true, false] xs) := call_modes md_strings_Builder_WriteString
theorem x_strings_Builder_String (xs : List PV) {r : PV × List PV} (h : xString 78 5 xs = some r) : Cinf T n_strings_Builder_String xs = some r := Cinf_iff.2 ⟨1, by show (match xString 78 5 xs with | some r => some r | none => _) = some r; rw [h]⟩
@[simp] theorem md_strings_Builder_String : T.modes n_strings_Builder_String = [true] := rfl
@[simp] theorem call_strings_Builder_String (C : Oracle) (e : Env) (xs : List PV) : call T C e n_strings_Builder_String xs = callK1 C n_strings_Builder_String xs (moves e [] [true] xs) := call_modes md_strings_Builder_String
theorem x_strconv_FormatUint_69 (xs : List PV) {r : PV × List PV} (h : xFormatUint xs = some r) : Cinf T n_strconv_FormatUint_69 xs = some r := Cinf_iff.2 ⟨1, by show (match xFormatUint xs with | some r => some r | none => _) = some r; rw [h]⟩
@[simp] theorem md_strconv_FormatUint_69 : T.modes n_strconv_FormatUint_69 = [false, false] := rfl
@[simp] theorem call_strconv_FormatUint_69 (C : Oracle) (e : Env) (xs : List PV) : call T C e n_strconv_FormatUint_69 xs = callK1 C n_strconv_FormatUint_69 xs (moves e [] [false, false] xs) := call_modes md_strconv_FormatUint_69
end Go.AM.F
