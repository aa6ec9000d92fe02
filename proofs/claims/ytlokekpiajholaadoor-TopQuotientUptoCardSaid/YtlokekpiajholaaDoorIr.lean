/- The functions of the program in the abstract machine's form, printed by a program of the session's own (ir.py); Lean checks them against the program. No conditions. -/
import Derived.Test.YtlokekpiajholaaDoorAmBld
namespace Go.AM.F
open Go Go.AM
set_option maxRecDepth 100000

abbrev n_thickettop_TopQuotient : FuncId := 3
abbrev n_floats_Read : FuncId := 4
abbrev n_limbs_Print : FuncId := 5
abbrev n_limbs_From : FuncId := 6
abbrev n_limbs_Read : FuncId := 7
abbrev n_thickettop_number : FuncId := 8
abbrev n_limbs_Pow : FuncId := 9
abbrev n_limbs_Mul : FuncId := 10
abbrev n_floats_Nearest : FuncId := 11
abbrev n_math_Float64bits : FuncId := 12
abbrev n_floats_taken : FuncId := 13
abbrev n_math_NaN : FuncId := 14
abbrev n_math_Inf : FuncId := 15
abbrev n_floats_text_quotient : FuncId := 16
abbrev n_math_Copysign : FuncId := 17
abbrev n_floats_number : FuncId := 18
abbrev n_limbs_Norm : FuncId := 19
abbrev n_limbs_trim : FuncId := 20
abbrev n_strings_Builder_WriteString : FuncId := 21
abbrev n_strings_TrimLeft : FuncId := 22
abbrev n_strings_Builder_String : FuncId := 23
abbrev n_limbs_low : FuncId := 24
abbrev n_limbs_high : FuncId := 25
abbrev n_limbs_grow : FuncId := 26
abbrev n_limbs_Len : FuncId := 27
abbrev n_limbs_Over : FuncId := 28
abbrev n_floats_cut : FuncId := 29
abbrev n_math_Float64frombits : FuncId := 30
abbrev n_limbs_Up : FuncId := 31
abbrev n_limbs_Add : FuncId := 32
abbrev n_floats_value : FuncId := 33
abbrev n_floats_power : FuncId := 34
abbrev n_floats_format_nearest : FuncId := 35
abbrev n_strings_trimLeftByte : FuncId := 37
abbrev n_strings_makeASCIISet : FuncId := 38
abbrev n_strings_trimLeftASCII : FuncId := 39
abbrev n_strings_trimLeftUnicode : FuncId := 40
abbrev n_bits_Len32 : FuncId := 41
abbrev n_limbs_right : FuncId := 42
abbrev n_floats_scanner_takes : FuncId := 43
abbrev n_floats_scanner_byte : FuncId := 44
abbrev n_floats_scanner_word : FuncId := 45
abbrev n_floats_scanner_figures : FuncId := 46
abbrev n_limbs_up : FuncId := 47
abbrev n_limbs_DivMod : FuncId := 48
abbrev n_limbs_Small : FuncId := 49
abbrev n_limbs_Cmp : FuncId := 50
abbrev n_limbs_Gcd : FuncId := 55
abbrev n_floats_scanner_run : FuncId := 56
abbrev n_bits_LeadingZeros32 : FuncId := 57
abbrev n_limbs_long : FuncId := 58
abbrev n_limbs_down : FuncId := 59
abbrev n_floats_digit : FuncId := 62
abbrev n_bits_Sub32 : FuncId := 63
abbrev n_bits_Add32 : FuncId := 64
def glob1 : List PV := ([53, -1074, 971] : List Int).map fun z => .v (.int .i64 z)
def j0_floats_scanner_takes : IR :=
 (.block 1 (.seq (.reg 3 [⟨some 11, .extr (.t 9) 2, none, [9]⟩,
  ⟨some 6, .assign (.t 11), none, [11]⟩] none [0, 6, 8, 100000])
 (.seq (.reg 4 [⟨some 12, .move (.t 0), none, []⟩,
  ⟨some 13, .nilck (.t 12), none, []⟩,
  ⟨some 14, .faddr 93 (.t 13) 1 1, none, []⟩,
  ⟨some 15, .load 3 none (.t 14), none, [12, 13, 14]⟩,
  ⟨some 16, .move (.t 0), none, []⟩,
  ⟨some 17, .nilck (.t 16), none, []⟩,
  ⟨some 18, .faddr 93 (.t 17) 0 0, none, []⟩,
  ⟨some 19, .load 9 none (.t 18), none, [16, 17, 18]⟩,
  ⟨some 20, .len 9 true (.t 19), none, [19]⟩,
  ⟨some 21, .bin .lss 3 (.t 15) (.t 20) 3, none, [15, 20]⟩,
  ⟨some 22, .move (.t 21), none, [21]⟩,
  ⟨some 23, .move (.t 0), some (10, true), []⟩,
  ⟨some 24, .nilck (.t 23), some (10, true), []⟩,
  ⟨some 25, .faddr 93 (.t 24) 0 0, some (10, true), []⟩,
  ⟨some 26, .load 9 none (.t 25), some (10, true), [23, 24, 25]⟩,
  ⟨some 27, .move (.t 0), some (10, true), []⟩,
  ⟨some 28, .nilck (.t 27), some (10, true), []⟩,
  ⟨some 29, .faddr 93 (.t 28) 1 1, some (10, true), []⟩,
  ⟨some 30, .load 3 none (.t 29), some (10, true), [27, 28, 29]⟩,
  ⟨some 31, .index 9 .str none (.t 26) (.t 30), some (10, true), [26, 30]⟩,
  ⟨some 32, .conv 5 21 (.int .i32) (.t 31), some (10, true), [31]⟩,
  ⟨some 33, .move (.t 6), some (10, true), [6]⟩,
  ⟨some 34, .bin .eql 21 (.t 32) (.t 33) 21, some (10, true), [32, 33]⟩,
  ⟨some 35, .pick (.t 22) (.t 34) (.c (Value.bool false)), none, [22, 34]⟩] (some (.cons ⟨0, []⟩ (.cons ⟨1, []⟩ (.cons ⟨2, []⟩ (.cons ⟨4, []⟩ (.cons ⟨5, []⟩ (.cons ⟨6, []⟩ (.cons ⟨3, []⟩ (.cons ⟨7, []⟩ (.cons ⟨8, []⟩ (.cons ⟨9, []⟩ (.cons ⟨10, []⟩ (.cons ⟨11, []⟩ (.cons ⟨12, []⟩ (.cons ⟨13, []⟩ (.cons ⟨15, []⟩ (.cons ⟨16, []⟩ (.cons ⟨17, []⟩ (.cons ⟨21, []⟩ (.cons ⟨14, []⟩ (.cons ⟨18, []⟩ (.cons ⟨19, []⟩ (.cons ⟨20, []⟩ (.cons ⟨22, []⟩ (.cons ⟨23, []⟩ .nil))))))))))))))))))))))))) [0, 8, 35, 100000])
 (.cond [0, 8, 100000] (.t 35) (.seq (.reg 5 [⟨some 36, .move (.t 0), none, []⟩,
  ⟨some 37, .nilck (.t 36), none, []⟩,
  ⟨some 38, .faddr 93 (.t 37) 1 1, none, []⟩,
  ⟨some 39, .load 3 none (.t 38), none, [37, 38]⟩,
  ⟨some 40, .bin .add 3 (.t 39) (.c (Value.int IntKind.i64 1)) 3, none, [39]⟩,
  ⟨some 41, .nilck (.t 36), none, []⟩,
  ⟨some 42, .faddr 93 (.t 41) 1 1, none, []⟩,
  ⟨none, .store 3 none (.t 42) (.t 40), none, [0, 36, 40, 41, 42]⟩] none [100000])
 (.seq (.reg 6 [⟨some 4, .assign (.c (Value.bool true)), none, []⟩] none [4, 100000])
 .ret)) .skip))))
def k0_floats_scanner_takes : IR := .tail [0, 8, 9, 100000] j0_floats_scanner_takes
def w0_floats_scanner_takes : IR :=
 (.seq (.reg 2 [⟨some 9, .next (.t 8), none, []⟩,
  ⟨some 10, .extr (.t 9) 0, none, []⟩] none [0, 8, 9, 10, 100000])
 (.seq (.cond [0, 8, 9, 100000] (.t 10) .skip (.exit 0))
 k0_floats_scanner_takes))
def l0_floats_scanner_takes : IR := .loop [0, 8, 100000] w0_floats_scanner_takes
def j1_floats_scanner_takes : IR :=
 (.seq (.reg 7 [⟨some 4, .assign (.c (Value.bool false)), none, []⟩] none [4, 100000])
 .ret)
def k1_floats_scanner_takes : IR := .tail [100000] j1_floats_scanner_takes
def b_floats_scanner_takes : IR :=
 (.seq (.reg 0 [⟨some 4, .assign (.c (Value.bool false)), none, [4]⟩] none [0, 1, 100000])
 (.seq (.seq (.reg 1 [⟨some 7, .move (.t 1), none, [1]⟩,
  ⟨some 8, .range 9 (.t 7), none, [7]⟩] none [0, 8, 100000])
 (.block 0 l0_floats_scanner_takes))
 k1_floats_scanner_takes))
def a_floats_scanner_takes : AFunc := ⟨43, [.tmp 4], b_floats_scanner_takes⟩

def j0_floats_scanner_byte : IR :=
 (.seq (.reg 3 [⟨some 2, .assign (.c (Value.int IntKind.u8 0)), none, []⟩] none [2, 100000])
 .ret)
def k0_floats_scanner_byte : IR := .tail [100000] j0_floats_scanner_byte
def b_floats_scanner_byte : IR :=
 (.seq (.reg 0 [⟨some 2, .assign (.c (Value.int IntKind.u8 0)), none, [2]⟩] none [0, 100000])
 (.seq (.seq (.reg 1 [⟨some 3, .move (.t 0), none, []⟩,
  ⟨some 4, .nilck (.t 3), none, []⟩,
  ⟨some 5, .faddr 93 (.t 4) 1 1, none, []⟩,
  ⟨some 6, .load 3 none (.t 5), none, [3, 4, 5]⟩,
  ⟨some 7, .move (.t 0), none, []⟩,
  ⟨some 8, .nilck (.t 7), none, []⟩,
  ⟨some 9, .faddr 93 (.t 8) 0 0, none, []⟩,
  ⟨some 10, .load 9 none (.t 9), none, [7, 8, 9]⟩,
  ⟨some 11, .len 9 true (.t 10), none, [10]⟩,
  ⟨some 12, .bin .lss 3 (.t 6) (.t 11) 3, none, [6, 11]⟩] (some (.cons ⟨0, []⟩ (.cons ⟨1, []⟩ (.cons ⟨2, []⟩ (.cons ⟨4, []⟩ (.cons ⟨5, []⟩ (.cons ⟨6, []⟩ (.cons ⟨3, []⟩ (.cons ⟨7, []⟩ (.cons ⟨8, []⟩ (.cons ⟨9, []⟩ .nil))))))))))) [0, 12, 100000])
 (.cond [0, 100000] (.t 12) (.seq (.reg 2 [⟨some 13, .move (.t 0), none, []⟩,
  ⟨some 14, .nilck (.t 13), none, []⟩,
  ⟨some 15, .faddr 93 (.t 14) 0 0, none, []⟩,
  ⟨some 16, .load 9 none (.t 15), none, [13, 14, 15]⟩,
  ⟨some 17, .move (.t 0), none, []⟩,
  ⟨some 18, .nilck (.t 17), none, []⟩,
  ⟨some 19, .faddr 93 (.t 18) 1 1, none, []⟩,
  ⟨some 20, .load 3 none (.t 19), none, [0, 17, 18, 19]⟩,
  ⟨some 21, .index 9 .str none (.t 16) (.t 20), none, [16, 20]⟩,
  ⟨some 2, .assign (.t 21), none, [21]⟩] (some (.cons ⟨0, []⟩ (.cons ⟨1, []⟩ (.cons ⟨2, []⟩ (.cons ⟨4, []⟩ (.cons ⟨5, []⟩ (.cons ⟨6, []⟩ (.cons ⟨3, []⟩ (.cons ⟨7, []⟩ (.cons ⟨8, []⟩ (.cons ⟨9, []⟩ .nil))))))))))) [2, 100000])
 .ret) .skip))
 k0_floats_scanner_byte))
def a_floats_scanner_byte : AFunc := ⟨22, [.tmp 2], b_floats_scanner_byte⟩

def j0_floats_scanner_word : IR :=
 (.reg 6 [⟨some 19, .bin .add 3 (.t 8) (.c (Value.int IntKind.i64 1)) 3, none, []⟩,
  ⟨some 8, .move (.t 19), none, [19]⟩] none [0, 1, 7, 8, 100000])
def k0_floats_scanner_word : IR := .tail [0, 1, 7, 8, 100000] j0_floats_scanner_word
def j1_floats_scanner_word : IR :=
 (.seq (.block 1 (.seq (.reg 3 [⟨some 10, .move (.t 8), none, []⟩,
  ⟨some 5, .assign (.t 10), none, [10]⟩] none [0, 1, 5, 7, 8, 100000])
 (.seq (.reg 4 [⟨some 11, .move (.t 0), none, []⟩,
  ⟨some 12, .move (.t 1), none, []⟩,
  ⟨some 13, .move (.t 5), none, []⟩,
  ⟨some 14, .move (.t 5), none, [5]⟩,
  ⟨some 15, .bin .add 3 (.t 14) (.c (Value.int IntKind.i64 1)) 3, none, [14]⟩,
  ⟨some 16, .slice 9 .str (.t 12) (some (.t 13)) (some (.t 15)) none, none, [12, 13, 15]⟩,
  ⟨some 17, .call n_floats_scanner_takes [(.t 11), (.t 16)] [91, 9], none, [11, 16]⟩,
  ⟨some 18, .un .not 4 (.t 17), none, [17]⟩] none [0, 1, 7, 8, 18, 100000])
 (.cond [0, 1, 7, 8, 100000] (.t 18) (.seq (.reg 5 [⟨some 4, .assign (.c (Value.bool false)), none, []⟩] none [4, 100000])
 .ret) .skip))))
 k0_floats_scanner_word)
def k1_floats_scanner_word : IR := .tail [0, 1, 7, 8, 100000] j1_floats_scanner_word
def w0_floats_scanner_word : IR :=
 (.seq (.reg 2 [⟨some 9, .bin .lss 3 (.t 8) (.t 7) 3, none, []⟩] none [0, 1, 7, 8, 9, 100000])
 (.seq (.cond [0, 1, 7, 8, 100000] (.t 9) .skip (.exit 0))
 k1_floats_scanner_word))
def l0_floats_scanner_word : IR := .loop [0, 1, 7, 8, 100000] w0_floats_scanner_word
def j2_floats_scanner_word : IR :=
 (.seq (.reg 7 [⟨some 4, .assign (.c (Value.bool true)), none, []⟩] none [4, 100000])
 .ret)
def k2_floats_scanner_word : IR := .tail [100000] j2_floats_scanner_word
def b_floats_scanner_word : IR :=
 (.seq (.reg 0 [⟨some 4, .assign (.c (Value.bool false)), none, [4]⟩] none [0, 1, 100000])
 (.seq (.seq (.reg 1 [⟨some 6, .move (.t 1), none, []⟩,
  ⟨some 7, .len 9 true (.t 6), none, [6]⟩,
  ⟨some 8, .move (.c (Value.int IntKind.i64 0)), none, []⟩] none [0, 1, 7, 8, 100000])
 (.block 0 l0_floats_scanner_word))
 k2_floats_scanner_word))
def a_floats_scanner_word : AFunc := ⟨20, [.tmp 4], b_floats_scanner_word⟩

def b_floats_digit : IR :=
 (.seq (.reg 0 [⟨some 4, .assign (.c (Value.bool false)), none, [4]⟩] none [0, 1])
 (.seq (.reg 1 [⟨some 5, .move (.t 0), none, []⟩,
  ⟨some 6, .bin .geq 5 (.t 5) (.c (Value.int IntKind.u8 48)) 5, none, [5]⟩,
  ⟨some 7, .move (.t 6), none, [6]⟩,
  ⟨some 8, .move (.t 0), some (2, true), []⟩,
  ⟨some 9, .bin .leq 5 (.t 8) (.c (Value.int IntKind.u8 57)) 5, some (2, true), [8]⟩,
  ⟨some 10, .pick (.t 7) (.t 9) (.c (Value.bool false)), none, [7, 9]⟩,
  ⟨some 11, .move (.t 10), none, [10]⟩,
  ⟨some 12, .move (.t 1), some (6, false), [1]⟩,
  ⟨some 13, .move (.t 12), some (6, false), [12]⟩,
  ⟨some 14, .move (.t 0), some (8, true), []⟩,
  ⟨some 15, .bin .geq 5 (.t 14) (.c (Value.int IntKind.u8 97)) 5, some (8, true), [14]⟩,
  ⟨some 16, .move (.t 15), some (8, true), [15]⟩,
  ⟨some 17, .move (.t 0), some (11, true), []⟩,
  ⟨some 18, .bin .leq 5 (.t 17) (.c (Value.int IntKind.u8 102)) 5, some (11, true), [17]⟩,
  ⟨some 19, .pick (.t 16) (.t 18) (.c (Value.bool false)), some (8, true), [16, 18]⟩,
  ⟨some 20, .move (.t 19), some (8, true), [19]⟩,
  ⟨some 21, .move (.t 0), some (15, false), []⟩,
  ⟨some 22, .bin .geq 5 (.t 21) (.c (Value.int IntKind.u8 65)) 5, some (15, false), [21]⟩,
  ⟨some 23, .move (.t 22), some (15, false), [22]⟩,
  ⟨some 24, .move (.t 0), some (18, true), [0]⟩,
  ⟨some 25, .bin .leq 5 (.t 24) (.c (Value.int IntKind.u8 70)) 5, some (18, true), [24]⟩,
  ⟨some 26, .pick (.t 23) (.t 25) (.c (Value.bool false)), some (15, false), [23, 25]⟩,
  ⟨some 27, .pick (.t 20) (.c (Value.bool true)) (.t 26), some (8, true), [20, 26]⟩,
  ⟨some 28, .pick (.t 13) (.t 27) (.c (Value.bool false)), some (6, false), [13, 27]⟩,
  ⟨some 29, .pick (.t 11) (.c (Value.bool true)) (.t 28), none, [11, 28]⟩,
  ⟨some 4, .assign (.t 29), none, [29]⟩] none [4])
 .ret))
def a_floats_digit : AFunc := ⟨30, [.tmp 4], b_floats_digit⟩

def j0_floats_scanner_run : IR :=
 (.block 1 (.reg 3 [⟨some 34, .move (.t 0), none, []⟩,
  ⟨some 35, .nilck (.t 34), none, []⟩,
  ⟨some 36, .faddr 93 (.t 35) 1 1, none, []⟩,
  ⟨some 37, .load 3 none (.t 36), none, [35, 36]⟩,
  ⟨some 38, .bin .add 3 (.t 37) (.c (Value.int IntKind.i64 1)) 3, none, [37]⟩,
  ⟨some 39, .nilck (.t 34), none, []⟩,
  ⟨some 40, .faddr 93 (.t 39) 1 1, none, []⟩,
  ⟨none, .store 3 none (.t 40) (.t 38), none, [34, 38, 39, 40]⟩] none [0, 1, 6, 100000]))
def k0_floats_scanner_run : IR := .tail [0, 1, 6, 100000] j0_floats_scanner_run
def w0_floats_scanner_run : IR :=
 (.seq (.seq (.reg 2 [⟨some 11, .move (.t 0), none, []⟩,
  ⟨some 12, .nilck (.t 11), none, []⟩,
  ⟨some 13, .faddr 93 (.t 12) 1 1, none, []⟩,
  ⟨some 14, .load 3 none (.t 13), none, [11, 12, 13]⟩,
  ⟨some 15, .move (.t 0), none, []⟩,
  ⟨some 16, .nilck (.t 15), none, []⟩,
  ⟨some 17, .faddr 93 (.t 16) 0 0, none, []⟩,
  ⟨some 18, .load 9 none (.t 17), none, [15, 16, 17]⟩,
  ⟨some 19, .len 9 true (.t 18), none, [18]⟩,
  ⟨some 20, .bin .lss 3 (.t 14) (.t 19) 3, none, [14, 19]⟩,
  ⟨some 21, .move (.t 20), none, [20]⟩,
  ⟨some 22, .move (.t 0), some (10, true), []⟩,
  ⟨some 23, .nilck (.t 22), some (10, true), []⟩,
  ⟨some 24, .faddr 93 (.t 23) 0 0, some (10, true), []⟩,
  ⟨some 25, .load 9 none (.t 24), some (10, true), [22, 23, 24]⟩,
  ⟨some 26, .move (.t 0), some (10, true), []⟩,
  ⟨some 27, .nilck (.t 26), some (10, true), []⟩,
  ⟨some 28, .faddr 93 (.t 27) 1 1, some (10, true), []⟩,
  ⟨some 29, .load 3 none (.t 28), some (10, true), [26, 27, 28]⟩,
  ⟨some 30, .index 9 .str none (.t 25) (.t 29), some (10, true), [25, 29]⟩,
  ⟨some 31, .move (.t 1), some (10, true), []⟩,
  ⟨some 32, .call n_floats_digit [(.t 30), (.t 31)] [5, 4], some (10, true), [30, 31]⟩,
  ⟨some 33, .pick (.t 21) (.t 32) (.c (Value.bool false)), none, [21, 32]⟩] (some (.cons ⟨0, []⟩ (.cons ⟨1, []⟩ (.cons ⟨2, []⟩ (.cons ⟨4, []⟩ (.cons ⟨5, []⟩ (.cons ⟨6, []⟩ (.cons ⟨3, []⟩ (.cons ⟨7, []⟩ (.cons ⟨8, []⟩ (.cons ⟨9, []⟩ (.cons ⟨10, []⟩ (.cons ⟨11, []⟩ (.cons ⟨12, []⟩ (.cons ⟨13, []⟩ (.cons ⟨15, []⟩ (.cons ⟨16, []⟩ (.cons ⟨17, []⟩ (.cons ⟨20, []⟩ (.cons ⟨14, []⟩ (.cons ⟨18, []⟩ (.cons ⟨19, []⟩ (.cons ⟨21, []⟩ (.cons ⟨22, []⟩ .nil)))))))))))))))))))))))) [0, 1, 6, 33, 100000])
 (.cond [0, 1, 6, 100000] (.t 33) .skip (.exit 0)))
 k0_floats_scanner_run)
def l0_floats_scanner_run : IR := .loop [0, 1, 6, 100000] w0_floats_scanner_run
def j1_floats_scanner_run : IR :=
 (.seq (.reg 4 [⟨some 41, .move (.t 0), none, []⟩,
  ⟨some 42, .nilck (.t 41), none, []⟩,
  ⟨some 43, .faddr 93 (.t 42) 0 0, none, []⟩,
  ⟨some 44, .load 9 none (.t 43), none, [41, 42, 43]⟩,
  ⟨some 45, .move (.t 6), none, []⟩,
  ⟨some 46, .move (.t 0), none, []⟩,
  ⟨some 47, .nilck (.t 46), none, []⟩,
  ⟨some 48, .faddr 93 (.t 47) 1 1, none, []⟩,
  ⟨some 49, .load 3 none (.t 48), none, [46, 47, 48]⟩,
  ⟨some 50, .slice 9 .str (.t 44) (some (.t 45)) (some (.t 49)) none, none, [44, 45, 49]⟩,
  ⟨some 51, .move (.t 0), none, []⟩,
  ⟨some 52, .nilck (.t 51), none, []⟩,
  ⟨some 53, .faddr 93 (.t 52) 1 1, none, []⟩,
  ⟨some 54, .load 3 none (.t 53), none, []⟩,
  ⟨some 55, .move (.t 6), none, [6]⟩,
  ⟨some 56, .bin .gtr 3 (.t 54) (.t 55) 3, none, [54, 55]⟩,
  ⟨some 4, .assign (.t 50), none, [0, 50, 51, 52, 53]⟩,
  ⟨some 5, .assign (.t 56), none, [56]⟩] (some (.cons ⟨0, []⟩ (.cons ⟨1, []⟩ (.cons ⟨2, []⟩ (.cons ⟨4, []⟩ (.cons ⟨5, []⟩ (.cons ⟨6, []⟩ (.cons ⟨7, []⟩ (.cons ⟨10, []⟩ (.cons ⟨11, []⟩ (.cons ⟨12, []⟩ (.cons ⟨14, []⟩ (.cons ⟨3, []⟩ (.cons ⟨8, []⟩ (.cons ⟨9, []⟩ (.cons ⟨13, []⟩ (.cons ⟨15, []⟩ (.cons ⟨16, [13]⟩ (.cons ⟨17, []⟩ .nil))))))))))))))))))) [4, 5, 100000])
 .ret)
def k1_floats_scanner_run : IR := .tail [0, 6, 100000] j1_floats_scanner_run
def b_floats_scanner_run : IR :=
 (.seq (.reg 0 [⟨some 4, .assign (.c (Value.string { data := #[] })), none, [4]⟩,
  ⟨some 5, .assign (.c (Value.bool false)), none, [5]⟩] none [0, 1, 100000])
 (.seq (.reg 1 [⟨some 7, .move (.t 0), none, []⟩,
  ⟨some 8, .nilck (.t 7), none, []⟩,
  ⟨some 9, .faddr 93 (.t 8) 1 1, none, []⟩,
  ⟨some 10, .load 3 none (.t 9), none, [7, 8, 9]⟩,
  ⟨some 6, .assign (.t 10), none, [10]⟩] none [0, 1, 6, 100000])
 (.seq (.block 0 l0_floats_scanner_run)
 k1_floats_scanner_run)))
def a_floats_scanner_run : AFunc := ⟨57, [.tmp 4, .tmp 5], b_floats_scanner_run⟩

def j0_floats_scanner_figures : IR :=
 (.seq (.reg 12 [⟨some 86, .move (.t 1), none, []⟩,
  ⟨some 87, .nilck (.t 86), none, []⟩,
  ⟨some 88, .faddr 44 (.t 87) 3 3, none, []⟩,
  ⟨some 89, .load 9 none (.t 88), none, [87, 88]⟩,
  ⟨some 90, .move (.t 7), none, []⟩,
  ⟨some 91, .bin .add 9 (.t 89) (.t 90) 9, none, [89, 90]⟩,
  ⟨some 92, .nilck (.t 86), none, []⟩,
  ⟨some 93, .faddr 44 (.t 92) 3 3, none, []⟩,
  ⟨none, .store 9 none (.t 93) (.t 91), none, [86, 91, 92, 93]⟩] none [0, 1, 7, 100000, 100001])
 (.reg 13 [⟨some 94, .move (.t 1), none, []⟩,
  ⟨some 95, .move (.t 7), none, [7]⟩,
  ⟨some 96, .len 9 true (.t 95), none, [95]⟩,
  ⟨some 97, .nilck (.t 94), none, []⟩,
  ⟨some 98, .faddr 44 (.t 97) 5 5, none, []⟩,
  ⟨none, .store 3 none (.t 98) (.t 96), none, [94, 96, 97, 98]⟩] none [0, 1, 100000, 100001]))
def k0_floats_scanner_figures : IR := .tail [0, 1, 7, 100000, 100001] j0_floats_scanner_figures
def j1_floats_scanner_figures : IR :=
 (.seq (.reg 20 [⟨some 4, .assign (.c (Value.int IntKind.i64 (-1))), none, []⟩] none [4, 100000, 100001])
 .ret)
def k1_floats_scanner_figures : IR := .tail [100000, 100001] j1_floats_scanner_figures
def j2_floats_scanner_figures : IR :=
 (.seq (.reg 28 [⟨some 130, .move (.t 1), none, []⟩,
  ⟨some 131, .move (.t 10), none, [10]⟩,
  ⟨some 132, .move (.t 5), none, [5]⟩,
  ⟨some 133, .bin .add 9 (.t 131) (.t 132) 9, none, [131, 132]⟩,
  ⟨some 134, .nilck (.t 130), none, []⟩,
  ⟨some 135, .faddr 44 (.t 134) 6 6, none, []⟩,
  ⟨none, .store 9 none (.t 135) (.t 133), none, [1, 130, 133, 134, 135]⟩] none [100000, 100001])
 (.seq (.reg 29 [⟨some 4, .assign (.c (Value.int IntKind.i64 (-1))), none, []⟩] none [4, 100000, 100001])
 .ret))
def k2_floats_scanner_figures : IR := .tail [1, 5, 10, 100000, 100001] j2_floats_scanner_figures
def j3_floats_scanner_figures : IR :=
 (.seq (.reg 25 [⟨some 120, .move (.t 0), none, []⟩,
  ⟨some 121, .call n_floats_scanner_run [(.t 120), (.c (Value.bool false))] [91, 4], none, [120]⟩,
  ⟨some 119, .move (.t 121), none, [121]⟩,
  ⟨some 122, .extr (.t 119) 0, none, []⟩,
  ⟨some 123, .extr (.t 119) 1, none, [119]⟩,
  ⟨some 5, .assign (.t 122), none, [122]⟩,
  ⟨some 6, .assign (.t 123), none, [123]⟩] none [0, 1, 5, 6, 10, 100000, 100001])
 (.seq (.seq (.reg 26 [⟨some 124, .move (.t 6), none, [6]⟩,
  ⟨some 125, .un .not 4 (.t 124), none, [124]⟩] none [0, 1, 5, 10, 125, 100000, 100001])
 (.cond [0, 1, 5, 10, 100000, 100001] (.t 125) (.seq (.reg 27 [⟨some 126, .move (.t 0), none, []⟩,
  ⟨some 127, .nilck (.t 126), none, []⟩,
  ⟨some 128, .faddr 93 (.t 127) 1 1, none, []⟩,
  ⟨some 129, .load 3 none (.t 128), none, [0, 126, 127, 128]⟩,
  ⟨some 4, .assign (.t 129), none, [129]⟩] none [4, 100000, 100001])
 .ret) .skip))
 k2_floats_scanner_figures))
def k3_floats_scanner_figures : IR := .tail [0, 1, 10, 100000, 100001] j3_floats_scanner_figures
def j4_floats_scanner_figures : IR :=
 (.seq (.reg 21 [⟨some 10, .assign (.c (Value.string { data := #[] })), none, []⟩] none [0, 1, 10, 100000, 100001])
 (.seq (.seq (.reg 22 [⟨some 115, .move (.t 0), none, []⟩,
  ⟨some 116, .call n_floats_scanner_takes [(.t 115), (.c (Value.string { data := #[45] }))] [91, 9], none, [115]⟩] none [0, 1, 10, 116, 100000, 100001])
 (.cond [0, 1, 10, 100000, 100001] (.t 116) (.reg 23 [⟨some 10, .assign (.c (Value.string { data := #[45] })), none, []⟩] none [0, 1, 10, 100000, 100001]) (.reg 24 [⟨some 117, .move (.t 0), none, []⟩,
  ⟨some 118, .call n_floats_scanner_takes [(.t 117), (.c (Value.string { data := #[43] }))] [91, 9], none, [117, 118]⟩] none [0, 1, 10, 100000, 100001])))
 k3_floats_scanner_figures))
def k4_floats_scanner_figures : IR := .tail [0, 1, 100000, 100001] j4_floats_scanner_figures
def j5_floats_scanner_figures : IR :=
 (.seq (.seq (.reg 17 [⟨some 103, .move (.t 0), none, []⟩,
  ⟨some 104, .move (.t 9), none, [9]⟩,
  ⟨some 105, .call n_floats_scanner_takes [(.t 103), (.t 104)] [91, 9], none, [103, 104]⟩,
  ⟨some 106, .un .not 4 (.t 105), none, [105]⟩] none [0, 1, 106, 100000, 100001])
 (.cond [0, 1, 100000, 100001] (.t 106) (.seq (.seq (.reg 18 [⟨some 107, .move (.t 1), none, []⟩,
  ⟨some 108, .nilck (.t 107), none, []⟩,
  ⟨some 109, .faddr 44 (.t 108) 4 4, none, []⟩,
  ⟨some 110, .load 4 none (.t 109), none, [1, 107, 108, 109]⟩] none [0, 110, 100000, 100001])
 (.cond [0, 100000, 100001] (.t 110) (.seq (.reg 19 [⟨some 111, .move (.t 0), none, []⟩,
  ⟨some 112, .nilck (.t 111), none, []⟩,
  ⟨some 113, .faddr 93 (.t 112) 1 1, none, []⟩,
  ⟨some 114, .load 3 none (.t 113), none, [0, 111, 112, 113]⟩,
  ⟨some 4, .assign (.t 114), none, [114]⟩] none [4, 100000, 100001])
 .ret) .skip))
 k1_floats_scanner_figures) .skip))
 k4_floats_scanner_figures)
def k5_floats_scanner_figures : IR := .tail [0, 1, 9, 100000, 100001] j5_floats_scanner_figures
def j6_floats_scanner_figures : IR :=
 (.seq (.reg 14 [⟨some 9, .assign (.c (Value.string { data := #[101, 69] })), none, []⟩] none [0, 1, 9, 100000, 100001])
 (.seq (.seq (.reg 15 [⟨some 99, .move (.t 1), none, []⟩,
  ⟨some 100, .nilck (.t 99), none, []⟩,
  ⟨some 101, .faddr 44 (.t 100) 4 4, none, []⟩,
  ⟨some 102, .load 4 none (.t 101), none, [99, 100, 101]⟩] none [0, 1, 9, 102, 100000, 100001])
 (.cond [0, 1, 9, 100000, 100001] (.t 102) (.reg 16 [⟨some 9, .assign (.c (Value.string { data := #[112] })), none, []⟩] none [0, 1, 9, 100000, 100001]) .skip))
 k5_floats_scanner_figures))
def k6_floats_scanner_figures : IR := .tail [0, 1, 100000, 100001] j6_floats_scanner_figures
def j7_floats_scanner_figures : IR :=
 (.seq (.reg 7 [⟨some 65, .move (.t 1), none, []⟩,
  ⟨some 66, .move (.t 5), none, [5]⟩,
  ⟨some 67, .nilck (.t 65), none, []⟩,
  ⟨some 68, .faddr 44 (.t 67) 3 3, none, []⟩,
  ⟨none, .store 9 none (.t 68) (.t 66), none, [65, 66, 67, 68]⟩] none [0, 1, 100000, 100001])
 (.seq (.seq (.reg 8 [⟨some 69, .move (.t 0), none, []⟩,
  ⟨some 70, .call n_floats_scanner_takes [(.t 69), (.c (Value.string { data := #[46] }))] [91, 9], none, [69]⟩] none [0, 1, 70, 100000, 100001])
 (.cond [0, 1, 100000, 100001] (.t 70) (.seq (.reg 9 [⟨some 72, .move (.t 0), none, []⟩,
  ⟨some 73, .move (.t 1), none, []⟩,
  ⟨some 74, .nilck (.t 73), none, []⟩,
  ⟨some 75, .faddr 44 (.t 74) 4 4, none, []⟩,
  ⟨some 76, .load 4 none (.t 75), none, [73, 74, 75]⟩,
  ⟨some 77, .call n_floats_scanner_run [(.t 72), (.t 76)] [91, 4], none, [72, 76]⟩,
  ⟨some 71, .move (.t 77), none, [77]⟩,
  ⟨some 78, .extr (.t 71) 0, none, []⟩,
  ⟨some 79, .extr (.t 71) 1, none, [71]⟩,
  ⟨some 7, .assign (.t 78), none, [78]⟩,
  ⟨some 8, .assign (.t 79), none, [79]⟩] none [0, 1, 7, 8, 100000, 100001])
 (.seq (.seq (.reg 10 [⟨some 80, .move (.t 8), none, [8]⟩,
  ⟨some 81, .un .not 4 (.t 80), none, [80]⟩] none [0, 1, 7, 81, 100000, 100001])
 (.cond [0, 1, 7, 100000, 100001] (.t 81) (.seq (.reg 11 [⟨some 82, .move (.t 0), none, []⟩,
  ⟨some 83, .nilck (.t 82), none, []⟩,
  ⟨some 84, .faddr 93 (.t 83) 1 1, none, []⟩,
  ⟨some 85, .load 3 none (.t 84), none, [0, 82, 83, 84]⟩,
  ⟨some 4, .assign (.t 85), none, [85]⟩] none [4, 100000, 100001])
 .ret) .skip))
 k0_floats_scanner_figures)) .skip))
 k6_floats_scanner_figures))
def k7_floats_scanner_figures : IR := .tail [0, 1, 5, 100000, 100001] j7_floats_scanner_figures
def j8_floats_scanner_figures : IR :=
 (.seq (.reg 4 [⟨some 51, .move (.t 0), none, []⟩,
  ⟨some 52, .move (.t 1), none, []⟩,
  ⟨some 53, .nilck (.t 52), none, []⟩,
  ⟨some 54, .faddr 44 (.t 53) 4 4, none, []⟩,
  ⟨some 55, .load 4 none (.t 54), none, [52, 53, 54]⟩,
  ⟨some 56, .call n_floats_scanner_run [(.t 51), (.t 55)] [91, 4], none, [51, 55]⟩,
  ⟨some 50, .move (.t 56), none, [56]⟩,
  ⟨some 57, .extr (.t 50) 0, none, []⟩,
  ⟨some 58, .extr (.t 50) 1, none, [50]⟩,
  ⟨some 5, .assign (.t 57), none, [57]⟩,
  ⟨some 6, .assign (.t 58), none, [58]⟩] none [0, 1, 5, 6, 100000, 100001])
 (.seq (.seq (.reg 5 [⟨some 59, .move (.t 6), none, [6]⟩,
  ⟨some 60, .un .not 4 (.t 59), none, [59]⟩] none [0, 1, 5, 60, 100000, 100001])
 (.cond [0, 1, 5, 100000, 100001] (.t 60) (.seq (.reg 6 [⟨some 61, .move (.t 0), none, []⟩,
  ⟨some 62, .nilck (.t 61), none, []⟩,
  ⟨some 63, .faddr 93 (.t 62) 1 1, none, []⟩,
  ⟨some 64, .load 3 none (.t 63), none, [0, 61, 62, 63]⟩,
  ⟨some 4, .assign (.t 64), none, [64]⟩] none [4, 100000, 100001])
 .ret) .skip))
 k7_floats_scanner_figures))
def k8_floats_scanner_figures : IR := .tail [0, 1, 100000, 100001] j8_floats_scanner_figures
def b_floats_scanner_figures : IR :=
 (.seq (.reg 0 [⟨some 4, .assign (.c (Value.int IntKind.i64 0)), none, [4]⟩] none [0, 1, 100000, 100001])
 (.seq (.seq (.reg 1 [⟨some 11, .move (.t 0), none, []⟩,
  ⟨some 12, .call n_floats_scanner_byte [(.t 11)] [91], none, [11]⟩,
  ⟨some 13, .bin .eql 5 (.t 12) (.c (Value.int IntKind.u8 48)) 5, none, [12]⟩,
  ⟨some 14, .move (.t 13), none, [13]⟩,
  ⟨some 15, .move (.t 0), some (3, true), []⟩,
  ⟨some 16, .nilck (.t 15), some (3, true), []⟩,
  ⟨some 17, .faddr 93 (.t 16) 1 1, some (3, true), []⟩,
  ⟨some 18, .load 3 none (.t 17), some (3, true), [15, 16, 17]⟩,
  ⟨some 19, .bin .add 3 (.t 18) (.c (Value.int IntKind.i64 1)) 3, some (3, true), [18]⟩,
  ⟨some 20, .move (.t 0), some (3, true), []⟩,
  ⟨some 21, .nilck (.t 20), some (3, true), []⟩,
  ⟨some 22, .faddr 93 (.t 21) 0 0, some (3, true), []⟩,
  ⟨some 23, .load 9 none (.t 22), some (3, true), [20, 21, 22]⟩,
  ⟨some 24, .len 9 true (.t 23), some (3, true), [23]⟩,
  ⟨some 25, .bin .lss 3 (.t 19) (.t 24) 3, some (3, true), [19, 24]⟩,
  ⟨some 26, .pick (.t 14) (.t 25) (.c (Value.bool false)), none, [14, 25]⟩,
  ⟨some 27, .move (.t 26), none, [26]⟩,
  ⟨some 28, .move (.t 0), some (16, true), []⟩,
  ⟨some 29, .nilck (.t 28), some (16, true), []⟩,
  ⟨some 30, .faddr 93 (.t 29) 0 0, some (16, true), []⟩,
  ⟨some 31, .load 9 none (.t 30), some (16, true), [28, 29, 30]⟩,
  ⟨some 32, .move (.t 0), some (16, true), []⟩,
  ⟨some 33, .nilck (.t 32), some (16, true), []⟩,
  ⟨some 34, .faddr 93 (.t 33) 1 1, some (16, true), []⟩,
  ⟨some 35, .load 3 none (.t 34), some (16, true), [32, 33, 34]⟩,
  ⟨some 36, .bin .add 3 (.t 35) (.c (Value.int IntKind.i64 1)) 3, some (16, true), [35]⟩,
  ⟨some 37, .index 9 .str none (.t 31) (.t 36), some (16, true), [31, 36]⟩,
  ⟨some 38, .bin .eql 5 (.t 37) (.c (Value.int IntKind.u8 120)) 5, some (16, true), [37]⟩,
  ⟨some 39, .pick (.t 27) (.t 38) (.c (Value.bool false)), none, [27, 38]⟩] (some (.cons ⟨0, []⟩ (.cons ⟨1, []⟩ (.cons ⟨2, []⟩ (.cons ⟨3, []⟩ (.cons ⟨4, []⟩ (.cons ⟨5, []⟩ (.cons ⟨6, []⟩ (.cons ⟨9, []⟩ (.cons ⟨10, []⟩ (.cons ⟨11, []⟩ (.cons ⟨7, []⟩ (.cons ⟨8, []⟩ (.cons ⟨12, []⟩ (.cons ⟨13, []⟩ (.cons ⟨14, []⟩ (.cons ⟨15, []⟩ (.cons ⟨16, []⟩ (.cons ⟨17, []⟩ (.cons ⟨18, []⟩ (.cons ⟨19, []⟩ (.cons ⟨21, []⟩ (.cons ⟨22, []⟩ (.cons ⟨23, []⟩ (.cons ⟨20, []⟩ (.cons ⟨24, []⟩ (.cons ⟨25, []⟩ (.cons ⟨26, []⟩ (.cons ⟨27, []⟩ (.cons ⟨28, []⟩ .nil)))))))))))))))))))))))))))))) [0, 1, 39, 100000, 100001])
 (.cond [0, 1, 100000, 100001] (.t 39) (.seq (.reg 2 [⟨some 40, .move (.t 1), none, []⟩,
  ⟨some 41, .nilck (.t 40), none, []⟩,
  ⟨some 42, .faddr 44 (.t 41) 4 4, none, []⟩,
  ⟨none, .store 4 none (.t 42) (.c (Value.bool true)), none, [40, 41, 42]⟩] none [0, 1, 100000, 100001])
 (.reg 3 [⟨some 43, .move (.t 0), none, []⟩,
  ⟨some 44, .nilck (.t 43), none, []⟩,
  ⟨some 45, .faddr 93 (.t 44) 1 1, none, []⟩,
  ⟨some 46, .load 3 none (.t 45), none, [44, 45]⟩,
  ⟨some 47, .bin .add 3 (.t 46) (.c (Value.int IntKind.i64 2)) 3, none, [46]⟩,
  ⟨some 48, .nilck (.t 43), none, []⟩,
  ⟨some 49, .faddr 93 (.t 48) 1 1, none, []⟩,
  ⟨none, .store 3 none (.t 49) (.t 47), none, [43, 47, 48, 49]⟩] none [0, 1, 100000, 100001])) .skip))
 k8_floats_scanner_figures))
def a_floats_scanner_figures : AFunc := ⟨136, [.tmp 4], b_floats_scanner_figures⟩

def j0_floats_cut : IR :=
 (.seq (.reg 17 [⟨some 62, .load 44 (some 7) (.t 5), none, [5]⟩,
  ⟨none, .store 44 (some 7) (.t 2) (.t 62), none, [62]⟩,
  ⟨some 3, .assign (.c (Value.int IntKind.i64 (-1))), none, []⟩] none [2, 3])
 .ret)
def k0_floats_cut : IR := .tail [2, 5] j0_floats_cut
def j1_floats_cut : IR :=
 (.seq (.seq (.reg 15 [⟨some 50, .move (.t 4), none, []⟩,
  ⟨some 51, .nilck (.t 50), none, []⟩,
  ⟨some 52, .faddr 93 (.t 51) 1 1, none, []⟩,
  ⟨some 53, .load 3 none (.t 52), none, [50, 51, 52]⟩,
  ⟨some 54, .move (.t 0), none, [0]⟩,
  ⟨some 55, .len 9 true (.t 54), none, [54]⟩,
  ⟨some 56, .bin .lss 3 (.t 53) (.t 55) 3, none, [53, 55]⟩] none [2, 4, 5, 9, 56])
 (.cond [2, 4, 5, 9] (.t 56) (.seq (.reg 16 [⟨some 57, .load 44 (some 7) (.t 5), none, [5]⟩,
  ⟨some 58, .move (.t 4), none, []⟩,
  ⟨some 59, .nilck (.t 58), none, []⟩,
  ⟨some 60, .faddr 93 (.t 59) 1 1, none, []⟩,
  ⟨some 61, .load 3 none (.t 60), none, []⟩,
  ⟨none, .store 44 (some 7) (.t 2) (.t 57), none, [4, 9, 57, 58, 59, 60]⟩,
  ⟨some 3, .assign (.t 61), none, [61]⟩] (some (.cons ⟨1, []⟩ (.cons ⟨2, []⟩ (.cons ⟨3, []⟩ (.cons ⟨0, []⟩ (.cons ⟨4, []⟩ (.cons ⟨5, [4]⟩ (.cons ⟨6, []⟩ .nil)))))))) [2, 3])
 .ret) .skip))
 k0_floats_cut)
def k1_floats_cut : IR := .tail [0, 2, 4, 5, 9] j1_floats_cut
def b_floats_cut : IR :=
 (.seq (.reg 0 [⟨some 2, .alloc 44 [.v (.bool false), .v (.bool false), .v (.bool false), .v (.string ⟨#[]⟩), .v (.bool false), .v (.int .i64 0), .v (.string ⟨#[]⟩)], none, []⟩,
  ⟨some 3, .assign (.c (Value.int IntKind.i64 0)), none, [3]⟩] none [0, 2])
 (.seq (.reg 1 [⟨some 7, .move (.t 0), none, []⟩,
  ⟨some 8, .build 93 [(0, 1), (1, 1)] [.v (.string ⟨#[]⟩), .v (.int .i64 0)] [(0, (.t 7))], none, [7]⟩,
  ⟨some 9, .box 93 (.t 8), none, [8]⟩,
  ⟨some 4, .assign (.t 9), none, []⟩] none [0, 2, 4, 9])
 (.seq (.reg 2 [⟨some 5, .alloc 44 [.v (.bool false), .v (.bool false), .v (.bool false), .v (.string ⟨#[]⟩), .v (.bool false), .v (.int .i64 0), .v (.string ⟨#[]⟩)], none, []⟩] none [0, 2, 4, 5, 9])
 (.seq (.reg 3 [⟨some 10, .move (.t 4), none, []⟩,
  ⟨some 11, .call n_floats_scanner_takes [(.t 10), (.c (Value.string { data := #[45] }))] [91, 9], none, [10]⟩,
  ⟨some 12, .faddr 44 (.t 5) 0 0, none, []⟩,
  ⟨none, .store 4 none (.t 12) (.t 11), none, [11, 12]⟩] none [0, 2, 4, 5, 9])
 (.seq (.block 0 (.seq (.reg 7 [⟨some 20, .faddr 44 (.t 5) 0 0, none, []⟩,
  ⟨some 21, .load 4 none (.t 20), none, [20]⟩,
  ⟨some 22, .un .not 4 (.t 21), none, [21]⟩,
  ⟨some 23, .move (.t 22), none, [22]⟩,
  ⟨some 24, .move (.t 4), some (3, true), []⟩,
  ⟨some 25, .call n_floats_scanner_byte [(.t 24)] [91], some (3, true), [24]⟩,
  ⟨some 26, .bin .eql 5 (.t 25) (.c (Value.int IntKind.u8 110)) 5, some (3, true), [25]⟩,
  ⟨some 27, .pick (.t 23) (.t 26) (.c (Value.bool false)), none, [23, 26]⟩,
  ⟨some 19, .assign (.t 27), none, [27]⟩] none [0, 2, 4, 5, 9, 19])
 (.cond [0, 2, 4, 5, 9] (.t 19) (.seq (.reg 8 [⟨some 28, .faddr 44 (.t 5) 1 1, none, []⟩,
  ⟨none, .store 4 none (.t 28) (.c (Value.bool true)), none, [28]⟩] none [0, 2, 4, 5, 9])
 (.seq (.reg 9 [⟨some 29, .move (.t 4), none, []⟩,
  ⟨some 30, .call n_floats_scanner_word [(.t 29), (.c (Value.string { data := #[110, 97, 110] }))] [91, 9], none, [29]⟩,
  ⟨some 31, .un .not 4 (.t 30), none, [30]⟩] none [0, 2, 4, 5, 9, 31])
 (.cond [0, 2, 4, 5, 9] (.t 31) (.seq (.reg 10 [⟨some 32, .load 44 (some 7) (.t 5), none, [5]⟩,
  ⟨some 33, .move (.t 4), none, []⟩,
  ⟨some 34, .nilck (.t 33), none, []⟩,
  ⟨some 35, .faddr 93 (.t 34) 1 1, none, []⟩,
  ⟨some 36, .load 3 none (.t 35), none, []⟩,
  ⟨none, .store 44 (some 7) (.t 2) (.t 32), none, [4, 9, 32, 33, 34, 35]⟩,
  ⟨some 3, .assign (.t 36), none, [36]⟩] (some (.cons ⟨1, []⟩ (.cons ⟨2, []⟩ (.cons ⟨3, []⟩ (.cons ⟨0, []⟩ (.cons ⟨4, []⟩ (.cons ⟨5, [4]⟩ (.cons ⟨6, []⟩ .nil)))))))) [2, 3])
 .ret) .skip))) (.seq (.reg 11 [⟨some 38, .move (.t 4), none, []⟩,
  ⟨some 39, .call n_floats_scanner_byte [(.t 38)] [91], none, [38]⟩,
  ⟨some 40, .bin .eql 5 (.t 39) (.c (Value.int IntKind.u8 105)) 5, none, [39]⟩,
  ⟨some 37, .assign (.t 40), none, [40]⟩] none [0, 2, 4, 5, 9, 37])
 (.cond [0, 2, 4, 5, 9] (.t 37) (.seq (.reg 12 [⟨some 41, .faddr 44 (.t 5) 2 2, none, []⟩,
  ⟨none, .store 4 none (.t 41) (.c (Value.bool true)), none, [41]⟩] none [0, 2, 4, 5, 9])
 (.seq (.reg 13 [⟨some 42, .move (.t 4), none, []⟩,
  ⟨some 43, .call n_floats_scanner_word [(.t 42), (.c (Value.string { data := #[105, 110, 102] }))] [91, 9], none, [42]⟩,
  ⟨some 44, .un .not 4 (.t 43), none, [43]⟩] none [0, 2, 4, 5, 9, 44])
 (.cond [0, 2, 4, 5, 9] (.t 44) (.seq (.reg 14 [⟨some 45, .load 44 (some 7) (.t 5), none, [5]⟩,
  ⟨some 46, .move (.t 4), none, []⟩,
  ⟨some 47, .nilck (.t 46), none, []⟩,
  ⟨some 48, .faddr 93 (.t 47) 1 1, none, []⟩,
  ⟨some 49, .load 3 none (.t 48), none, []⟩,
  ⟨none, .store 44 (some 7) (.t 2) (.t 45), none, [4, 9, 45, 46, 47, 48]⟩,
  ⟨some 3, .assign (.t 49), none, [49]⟩] (some (.cons ⟨1, []⟩ (.cons ⟨2, []⟩ (.cons ⟨3, []⟩ (.cons ⟨0, []⟩ (.cons ⟨4, []⟩ (.cons ⟨5, [4]⟩ (.cons ⟨6, []⟩ .nil)))))))) [2, 3])
 .ret) .skip))) (.seq (.reg 4 [⟨some 13, .move (.t 4), none, []⟩,
  ⟨some 14, .call n_floats_scanner_figures [(.t 13), (.t 5)] [91, 97], none, [13]⟩,
  ⟨some 6, .assign (.t 14), none, [14]⟩] none [0, 2, 4, 5, 6, 9])
 (.seq (.reg 5 [⟨some 15, .move (.t 6), none, []⟩,
  ⟨some 16, .bin .geq 3 (.t 15) (.c (Value.int IntKind.i64 0)) 3, none, [15]⟩] none [0, 2, 4, 5, 6, 9, 16])
 (.cond [0, 2, 4, 5, 6, 9] (.t 16) (.seq (.reg 6 [⟨some 17, .load 44 (some 7) (.t 5), none, [5]⟩,
  ⟨some 18, .move (.t 6), none, [6]⟩,
  ⟨none, .store 44 (some 7) (.t 2) (.t 17), none, [17]⟩,
  ⟨some 3, .assign (.t 18), none, [18]⟩] none [2, 3])
 .ret) .skip))))))))
 k1_floats_cut)))))
def a_floats_cut : AFunc := ⟨63, [.cell 2 44 (some 7), .tmp 3], b_floats_cut⟩

def j0_floats_taken : IR :=
 (.seq (.reg 6 [⟨some 20, .load 44 (some 7) (.t 5), none, [5]⟩,
  ⟨none, .store 44 (some 7) (.t 2) (.t 20), none, [20]⟩,
  ⟨some 3, .assign (.c (Value.int IntKind.i64 0)), none, []⟩,
  ⟨some 4, .assign (.c (Value.int IntKind.i64 0)), none, []⟩] none [2, 3, 4])
 .ret)
def k0_floats_taken : IR := .tail [2, 5] j0_floats_taken
def j1_floats_taken : IR :=
 (.seq (.reg 3 [⟨some 12, .move (.t 0), none, [0]⟩,
  ⟨some 13, .call n_floats_cut [(.t 12)] [9], none, [12]⟩,
  ⟨some 11, .move (.t 13), none, [13]⟩,
  ⟨some 14, .extr (.t 11) 0, none, []⟩,
  ⟨some 15, .extr (.t 11) 1, none, [11]⟩,
  ⟨some 5, .alloc 44 [.v (.bool false), .v (.bool false), .v (.bool false), .v (.string ⟨#[]⟩), .v (.bool false), .v (.int .i64 0), .v (.string ⟨#[]⟩)], none, []⟩,
  ⟨none, .store 44 (some 7) (.t 5) (.t 14), none, [14]⟩,
  ⟨some 6, .assign (.t 15), none, [15]⟩] none [2, 5, 6])
 (.seq (.seq (.reg 4 [⟨some 16, .move (.t 6), none, []⟩,
  ⟨some 17, .bin .geq 3 (.t 16) (.c (Value.int IntKind.i64 0)) 3, none, [16]⟩] none [2, 5, 6, 17])
 (.cond [2, 5, 6] (.t 17) (.seq (.reg 5 [⟨some 18, .build 44 [(0, 1), (1, 1), (2, 1), (3, 1), (4, 1), (5, 1), (6, 1)] [.v (.bool false), .v (.bool false), .v (.bool false), .v (.string ⟨#[]⟩), .v (.bool false), .v (.int .i64 0), .v (.string ⟨#[]⟩)] [], none, []⟩,
  ⟨some 19, .move (.t 6), none, [6]⟩,
  ⟨none, .store 44 (some 7) (.t 2) (.t 18), none, [18]⟩,
  ⟨some 3, .assign (.c (Value.int IntKind.i64 20)), none, []⟩,
  ⟨some 4, .assign (.t 19), none, [19]⟩] none [2, 3, 4])
 .ret) .skip))
 k0_floats_taken))
def k1_floats_taken : IR := .tail [0, 2] j1_floats_taken
def b_floats_taken : IR :=
 (.seq (.reg 0 [⟨some 2, .alloc 44 [.v (.bool false), .v (.bool false), .v (.bool false), .v (.string ⟨#[]⟩), .v (.bool false), .v (.int .i64 0), .v (.string ⟨#[]⟩)], none, []⟩,
  ⟨some 3, .assign (.c (Value.int IntKind.i64 0)), none, [3]⟩,
  ⟨some 4, .assign (.c (Value.int IntKind.i64 0)), none, [4]⟩] none [0, 2])
 (.seq (.seq (.reg 1 [⟨some 7, .move (.t 0), none, []⟩,
  ⟨some 8, .len 9 true (.t 7), none, [7]⟩,
  ⟨some 9, .bin .gtr 3 (.t 8) (.c (Value.int IntKind.i64 4096)) 3, none, [8]⟩] none [0, 2, 9])
 (.cond [0, 2] (.t 9) (.seq (.reg 2 [⟨some 10, .build 44 [(0, 1), (1, 1), (2, 1), (3, 1), (4, 1), (5, 1), (6, 1)] [.v (.bool false), .v (.bool false), .v (.bool false), .v (.string ⟨#[]⟩), .v (.bool false), .v (.int .i64 0), .v (.string ⟨#[]⟩)] [], none, []⟩,
  ⟨none, .store 44 (some 7) (.t 2) (.t 10), none, [10]⟩,
  ⟨some 3, .assign (.c (Value.int IntKind.i64 4)), none, []⟩,
  ⟨some 4, .assign (.c (Value.int IntKind.i64 0)), none, []⟩] none [2, 3, 4])
 .ret) .skip))
 k1_floats_taken))
def a_floats_taken : AFunc := ⟨21, [.cell 2 44 (some 7), .tmp 3, .tmp 4], b_floats_taken⟩

def b_math_NaN : IR :=
 (.seq (.reg 0 [⟨some 0, .assign (.c (Value.float FloatKind.f64 0)), none, [0]⟩] none [])
 (.seq (.reg 1 [⟨some 1, .ext n_math_Float64frombits .fromBits [(.c (Value.int IntKind.u64 9221120237041090561))] [29], none, []⟩,
  ⟨some 0, .assign (.t 1), none, [1]⟩] none [0])
 .ret))
def a_math_NaN : AFunc := ⟨2, [.tmp 0], b_math_NaN⟩

def j0_math_Inf : IR :=
 (.seq (.reg 5 [⟨some 6, .move (.t 3), none, [3]⟩,
  ⟨some 7, .ext n_math_Float64frombits .fromBits [(.t 6)] [29], none, [6]⟩,
  ⟨some 2, .assign (.t 7), none, [7]⟩] none [2])
 .ret)
def k0_math_Inf : IR := .tail [3] j0_math_Inf
def b_math_Inf : IR :=
 (.seq (.reg 0 [⟨some 2, .assign (.c (Value.float FloatKind.f64 0)), none, [2]⟩] none [0])
 (.seq (.reg 1 [⟨some 3, .assign (.c (Value.int IntKind.u64 0)), none, [3]⟩] none [0])
 (.seq (.seq (.reg 2 [⟨some 4, .move (.t 0), none, [0]⟩,
  ⟨some 5, .bin .geq 3 (.t 4) (.c (Value.int IntKind.i64 0)) 3, none, [4]⟩] none [5])
 (.cond [] (.t 5) (.reg 3 [⟨some 3, .assign (.c (Value.int IntKind.u64 9218868437227405312)), none, []⟩] none [3]) (.reg 4 [⟨some 3, .assign (.c (Value.int IntKind.u64 18442240474082181120)), none, []⟩] none [3])))
 k0_math_Inf)))
def a_math_Inf : AFunc := ⟨8, [.tmp 2], b_math_Inf⟩

def j0_limbs_trim : IR :=
 (.block 1 (.reg 3 [⟨some 16, .move (.t 3), none, []⟩,
  ⟨some 17, .bin .sub 3 (.t 16) (.c (Value.int IntKind.i64 1)) 3, none, [16]⟩,
  ⟨some 3, .assign (.t 17), none, [17]⟩] none [0, 3, 100000]))
def k0_limbs_trim : IR := .tail [0, 3, 100000] j0_limbs_trim
def w0_limbs_trim : IR :=
 (.seq (.seq (.reg 2 [⟨some 6, .move (.t 3), none, []⟩,
  ⟨some 7, .bin .gtr 3 (.t 6) (.c (Value.int IntKind.i64 0)) 3, none, [6]⟩,
  ⟨some 8, .move (.t 7), none, [7]⟩,
  ⟨some 9, .move (.t 0), some (2, true), []⟩,
  ⟨some 10, .move (.t 3), some (2, true), []⟩,
  ⟨some 11, .bin .sub 3 (.t 10) (.c (Value.int IntKind.i64 1)) 3, some (2, true), [10]⟩,
  ⟨some 12, .iaddr 27 (.sl 1) (.t 9) (.t 11), some (2, true), []⟩,
  ⟨some 13, .load 35 none (.t 12), some (2, true), [9, 11, 12]⟩,
  ⟨some 14, .bin .eql 35 (.t 13) (.c (Value.int IntKind.u32 0)) 35, some (2, true), [13]⟩,
  ⟨some 15, .pick (.t 8) (.t 14) (.c (Value.bool false)), none, [8, 14]⟩] none [0, 3, 15, 100000])
 (.cond [0, 3, 100000] (.t 15) .skip (.exit 0)))
 k0_limbs_trim)
def l0_limbs_trim : IR := .loop [0, 3, 100000] w0_limbs_trim
def j1_limbs_trim : IR :=
 (.seq (.reg 4 [⟨some 18, .move (.t 0), none, []⟩,
  ⟨some 19, .move (.t 3), none, []⟩,
  ⟨some 20, .move (.t 3), none, [3]⟩,
  ⟨some 21, .slice 27 (.sl 1) (.t 18) none (some (.t 19)) (some (.t 20)), none, []⟩,
  ⟨some 2, .assign (.t 21), none, []⟩] none [0, 2, 18, 19, 20, 21, 100000])
 .ret)
def k1_limbs_trim : IR := .tail [0, 3, 100000] j1_limbs_trim
def b_limbs_trim : IR :=
 (.seq (.reg 0 [⟨some 2, .assign (.nilS 1), none, [2]⟩] none [0, 100000])
 (.seq (.reg 1 [⟨some 4, .move (.t 0), none, []⟩,
  ⟨some 5, .len 27 false (.t 4), none, [4]⟩,
  ⟨some 3, .assign (.t 5), none, [5]⟩] none [0, 3, 100000])
 (.seq (.block 0 l0_limbs_trim)
 k1_limbs_trim)))
def a_limbs_trim : AFunc := ⟨22, [.tmp 2], b_limbs_trim⟩

def b_limbs_Norm : IR :=
 (.seq (.reg 0 [⟨some 2, .assign (.nilS 1), none, [2]⟩] none [0])
 (.seq (.reg 1 [⟨some 3, .move (.t 0), none, []⟩,
  ⟨some 4, .call n_limbs_trim [(.t 3)] [27], none, [0, 3]⟩,
  ⟨some 5, .append 27 27 false 1 4 (.nilS 1) (.t 4), none, [4]⟩,
  ⟨some 2, .assign (.t 5), none, []⟩] none [2, 5])
 .ret))
def a_limbs_Norm : AFunc := ⟨6, [.tmp 2], b_limbs_Norm⟩

def j0_strings_trimLeftByte : IR :=
 (.block 1 (.reg 2 [⟨some 14, .move (.t 0), none, []⟩,
  ⟨some 15, .slice 9 .str (.t 14) (some (.c (Value.int IntKind.i64 1))) none none, none, [14]⟩,
  ⟨some 0, .assign (.t 15), none, [15]⟩] none [0, 1]))
def k0_strings_trimLeftByte : IR := .tail [0, 1] j0_strings_trimLeftByte
def w0_strings_trimLeftByte : IR :=
 (.seq (.seq (.reg 1 [⟨some 5, .move (.t 0), none, []⟩,
  ⟨some 6, .len 9 true (.t 5), none, [5]⟩,
  ⟨some 7, .bin .gtr 3 (.t 6) (.c (Value.int IntKind.i64 0)) 3, none, [6]⟩,
  ⟨some 8, .move (.t 7), none, [7]⟩,
  ⟨some 9, .move (.t 0), some (3, true), []⟩,
  ⟨some 10, .index 9 .str none (.t 9) (.c (Value.int IntKind.i64 0)), some (3, true), [9]⟩,
  ⟨some 11, .move (.t 1), some (3, true), []⟩,
  ⟨some 12, .bin .eql 5 (.t 10) (.t 11) 5, some (3, true), [10, 11]⟩,
  ⟨some 13, .pick (.t 8) (.t 12) (.c (Value.bool false)), none, [8, 12]⟩] none [0, 1, 13])
 (.cond [0, 1] (.t 13) .skip (.exit 0)))
 k0_strings_trimLeftByte)
def l0_strings_trimLeftByte : IR := .loop [0, 1] w0_strings_trimLeftByte
def j1_strings_trimLeftByte : IR :=
 (.seq (.reg 3 [⟨some 16, .move (.t 0), none, [0]⟩,
  ⟨some 4, .assign (.t 16), none, [16]⟩] none [4])
 .ret)
def k1_strings_trimLeftByte : IR := .tail [0] j1_strings_trimLeftByte
def b_strings_trimLeftByte : IR :=
 (.seq (.reg 0 [⟨some 4, .assign (.c (Value.string { data := #[] })), none, [4]⟩] none [0, 1])
 (.seq (.block 0 l0_strings_trimLeftByte)
 k1_strings_trimLeftByte))
def a_strings_trimLeftByte : AFunc := ⟨17, [.tmp 4], b_strings_trimLeftByte⟩

def j0_strings_TrimLeft : IR :=
 (.seq (.reg 8 [⟨some 34, .move (.t 0), none, [0]⟩,
  ⟨some 35, .move (.t 1), none, [1]⟩,
  ⟨some 36, .call n_strings_trimLeftUnicode [(.t 34), (.t 35)] [9, 9], none, [34, 35]⟩,
  ⟨some 4, .assign (.t 36), none, [36]⟩] none [4])
 .ret)
def k0_strings_TrimLeft : IR := .tail [0, 1] j0_strings_TrimLeft
def j1_strings_TrimLeft : IR :=
 (.seq (.seq (.reg 5 [⟨some 27, .move (.t 1), none, []⟩,
  ⟨some 28, .call n_strings_makeASCIISet [(.t 27)] [9], none, [27]⟩,
  ⟨some 26, .move (.t 28), none, [28]⟩,
  ⟨some 29, .extr (.t 26) 0, none, []⟩,
  ⟨some 30, .extr (.t 26) 1, none, [26]⟩,
  ⟨some 5, .alloc 83 [.v (.bool false), .v (.bool false), .v (.bool false), .v (.bool false), .v (.bool false), .v (.bool false), .v (.bool false), .v (.bool false), .v (.bool false), .v (.bool false), .v (.bool false), .v (.bool false), .v (.bool false), .v (.bool false), .v (.bool false), .v (.bool false), .v (.bool false), .v (.bool false), .v (.bool false), .v (.bool false), .v (.bool false), .v (.bool false), .v (.bool false), .v (.bool false), .v (.bool false), .v (.bool false), .v (.bool false), .v (.bool false), .v (.bool false), .v (.bool false), .v (.bool false), .v (.bool false), .v (.bool false), .v (.bool false), .v (.bool false), .v (.bool false), .v (.bool false), .v (.bool false), .v (.bool false), .v (.bool false), .v (.bool false), .v (.bool false), .v (.bool false), .v (.bool false), .v (.bool false), .v (.bool false), .v (.bool false), .v (.bool false), .v (.bool false), .v (.bool false), .v (.bool false), .v (.bool false), .v (.bool false), .v (.bool false), .v (.bool false), .v (.bool false), .v (.bool false), .v (.bool false), .v (.bool false), .v (.bool false), .v (.bool false), .v (.bool false), .v (.bool false), .v (.bool false), .v (.bool false), .v (.bool false), .v (.bool false), .v (.bool false), .v (.bool false), .v (.bool false), .v (.bool false), .v (.bool false), .v (.bool false), .v (.bool false), .v (.bool false), .v (.bool false), .v (.bool false), .v (.bool false), .v (.bool false), .v (.bool false), .v (.bool false), .v (.bool false), .v (.bool false), .v (.bool false), .v (.bool false), .v (.bool false), .v (.bool false), .v (.bool false), .v (.bool false), .v (.bool false), .v (.bool false), .v (.bool false), .v (.bool false), .v (.bool false), .v (.bool false), .v (.bool false), .v (.bool false), .v (.bool false), .v (.bool false), .v (.bool false), .v (.bool false), .v (.bool false), .v (.bool false), .v (.bool false), .v (.bool false), .v (.bool false), .v (.bool false), .v (.bool false), .v (.bool false), .v (.bool false), .v (.bool false), .v (.bool false), .v (.bool false), .v (.bool false), .v (.bool false), .v (.bool false), .v (.bool false), .v (.bool false), .v (.bool false), .v (.bool false), .v (.bool false), .v (.bool false), .v (.bool false), .v (.bool false), .v (.bool false), .v (.bool false), .v (.bool false), .v (.bool false), .v (.bool false), .v (.bool false), .v (.bool false), .v (.bool false), .v (.bool false), .v (.bool false), .v (.bool false), .v (.bool false), .v (.bool false), .v (.bool false), .v (.bool false), .v (.bool false), .v (.bool false), .v (.bool false), .v (.bool false), .v (.bool false), .v (.bool false), .v (.bool false), .v (.bool false), .v (.bool false), .v (.bool false), .v (.bool false), .v (.bool false), .v (.bool false), .v (.bool false), .v (.bool false), .v (.bool false), .v (.bool false), .v (.bool false), .v (.bool false), .v (.bool false), .v (.bool false), .v (.bool false), .v (.bool false), .v (.bool false), .v (.bool false), .v (.bool false), .v (.bool false), .v (.bool false), .v (.bool false), .v (.bool false), .v (.bool false), .v (.bool false), .v (.bool false), .v (.bool false), .v (.bool false), .v (.bool false), .v (.bool false), .v (.bool false), .v (.bool false), .v (.bool false), .v (.bool false), .v (.bool false), .v (.bool false), .v (.bool false), .v (.bool false), .v (.bool false), .v (.bool false), .v (.bool false), .v (.bool false), .v (.bool false), .v (.bool false), .v (.bool false), .v (.bool false), .v (.bool false), .v (.bool false), .v (.bool false), .v (.bool false), .v (.bool false), .v (.bool false), .v (.bool false), .v (.bool false), .v (.bool false), .v (.bool false), .v (.bool false), .v (.bool false), .v (.bool false), .v (.bool false), .v (.bool false), .v (.bool false), .v (.bool false), .v (.bool false), .v (.bool false), .v (.bool false), .v (.bool false), .v (.bool false), .v (.bool false), .v (.bool false), .v (.bool false), .v (.bool false), .v (.bool false), .v (.bool false), .v (.bool false), .v (.bool false), .v (.bool false), .v (.bool false), .v (.bool false), .v (.bool false), .v (.bool false), .v (.bool false), .v (.bool false), .v (.bool false), .v (.bool false), .v (.bool false), .v (.bool false), .v (.bool false), .v (.bool false), .v (.bool false), .v (.bool false), .v (.bool false), .v (.bool false), .v (.bool false), .v (.bool false), .v (.bool false), .v (.bool false), .v (.bool false), .v (.bool false), .v (.bool false), .v (.bool false), .v (.bool false), .v (.bool false), .v (.bool false), .v (.bool false), .v (.bool false), .v (.bool false), .v (.bool false), .v (.bool false), .v (.bool false)], none, []⟩,
  ⟨none, .store 83 (some 256) (.t 5) (.t 29), none, [29]⟩,
  ⟨some 6, .assign (.t 30), none, [30]⟩] none [0, 1, 5, 6])
 (.seq (.reg 6 [⟨some 31, .move (.t 6), none, [6]⟩] none [0, 1, 5, 31])
 (.cond [0, 1, 5] (.t 31) (.seq (.reg 7 [⟨some 32, .move (.t 0), none, [0]⟩,
  ⟨some 33, .call n_strings_trimLeftASCII [(.t 32), (.t 5)] [9, 87], none, [5, 32]⟩,
  ⟨some 4, .assign (.t 33), none, [33]⟩] none [4])
 .ret) .skip)))
 k0_strings_TrimLeft)
def k1_strings_TrimLeft : IR := .tail [0, 1] j1_strings_TrimLeft
def j2_strings_TrimLeft : IR :=
 (.seq (.seq (.reg 3 [⟨some 14, .move (.t 1), none, []⟩,
  ⟨some 15, .len 9 true (.t 14), none, [14]⟩,
  ⟨some 16, .bin .eql 3 (.t 15) (.c (Value.int IntKind.i64 1)) 3, none, [15]⟩,
  ⟨some 17, .move (.t 16), none, [16]⟩,
  ⟨some 18, .move (.t 1), some (3, true), []⟩,
  ⟨some 19, .index 9 .str none (.t 18) (.c (Value.int IntKind.i64 0)), some (3, true), [18]⟩,
  ⟨some 20, .bin .lss 5 (.t 19) (.c (Value.int IntKind.u8 128)) 5, some (3, true), [19]⟩,
  ⟨some 21, .pick (.t 17) (.t 20) (.c (Value.bool false)), none, [17, 20]⟩] none [0, 1, 21])
 (.cond [0, 1] (.t 21) (.seq (.reg 4 [⟨some 22, .move (.t 0), none, [0]⟩,
  ⟨some 23, .move (.t 1), none, [1]⟩,
  ⟨some 24, .index 9 .str none (.t 23) (.c (Value.int IntKind.i64 0)), none, [23]⟩,
  ⟨some 25, .call n_strings_trimLeftByte [(.t 22), (.t 24)] [9, 5], none, [22, 24]⟩,
  ⟨some 4, .assign (.t 25), none, [25]⟩] none [4])
 .ret) .skip))
 k1_strings_TrimLeft)
def k2_strings_TrimLeft : IR := .tail [0, 1] j2_strings_TrimLeft
def b_strings_TrimLeft : IR :=
 (.seq (.reg 0 [⟨some 4, .assign (.c (Value.string { data := #[] })), none, [4]⟩] none [0, 1])
 (.seq (.seq (.reg 1 [⟨some 7, .move (.t 0), none, []⟩,
  ⟨some 8, .bin .eql 9 (.t 7) (.c (Value.string { data := #[] })) 9, none, [7]⟩,
  ⟨some 9, .move (.t 8), none, [8]⟩,
  ⟨some 10, .move (.t 1), some (2, false), []⟩,
  ⟨some 11, .bin .eql 9 (.t 10) (.c (Value.string { data := #[] })) 9, some (2, false), [10]⟩,
  ⟨some 12, .pick (.t 9) (.c (Value.bool true)) (.t 11), none, [9, 11]⟩] none [0, 1, 12])
 (.cond [0, 1] (.t 12) (.seq (.reg 2 [⟨some 13, .move (.t 0), none, [0]⟩,
  ⟨some 4, .assign (.t 13), none, [13]⟩] none [4])
 .ret) .skip))
 k2_strings_TrimLeft))
def a_strings_TrimLeft : AFunc := ⟨37, [.tmp 4], b_strings_TrimLeft⟩

def j0_limbs_Print : IR :=
 (.reg 9 [⟨some 22, .move (.t 5), none, []⟩,
  ⟨some 23, .bin .sub 3 (.t 22) (.c (Value.int IntKind.i64 1)) 3, none, [22]⟩,
  ⟨some 5, .assign (.t 23), none, [23]⟩] none [0, 3, 4, 5, 10, 41, 57])
def k0_limbs_Print : IR := .tail [0, 3, 4, 5, 10, 41, 57] j0_limbs_Print
def j1_limbs_Print : IR :=
 (.seq (.block 3 (.seq (.reg 10 [⟨some 24, .move (.t 4), none, []⟩,
  ⟨some 25, .bin .shl 29 (.t 24) (.c (Value.int IntKind.u64 32)) 55, none, [24]⟩,
  ⟨some 26, .move (.t 0), none, []⟩,
  ⟨some 27, .move (.t 5), none, []⟩,
  ⟨some 28, .iaddr 27 (.sl 1) (.t 26) (.t 27), none, []⟩,
  ⟨some 29, .load 35 none (.t 28), none, [26, 27, 28]⟩,
  ⟨some 30, .conv 35 29 (.int .u64) (.t 29), none, [29]⟩,
  ⟨some 31, .bin .or 29 (.t 25) (.t 30) 29, none, [25, 30]⟩,
  ⟨some 4, .assign (.t 31), none, [31]⟩] none [0, 3, 4, 5, 10, 41, 57])
 (.seq (.reg 11 [⟨some 32, .move (.t 0), none, []⟩,
  ⟨some 33, .move (.t 5), none, []⟩,
  ⟨some 34, .move (.t 4), none, []⟩,
  ⟨some 35, .bin .quo 29 (.t 34) (.c (Value.int IntKind.u64 1000000000)) 29, none, [34]⟩,
  ⟨some 36, .conv 29 35 (.int .u32) (.t 35), none, [35]⟩,
  ⟨some 37, .iaddr 27 (.sl 1) (.t 32) (.t 33), none, []⟩,
  ⟨none, .store 35 none (.t 37) (.t 36), none, [32, 33, 36, 37]⟩] none [0, 3, 4, 5, 10, 41, 57])
 (.reg 12 [⟨some 38, .move (.t 4), none, []⟩,
  ⟨some 39, .bin .rem 29 (.t 38) (.c (Value.int IntKind.u64 1000000000)) 29, none, [38]⟩,
  ⟨some 4, .assign (.t 39), none, [39]⟩] none [0, 3, 4, 5, 10, 41, 57]))))
 k0_limbs_Print)
def k1_limbs_Print : IR := .tail [0, 3, 4, 5, 10, 41, 57] j1_limbs_Print
def w1_limbs_Print : IR :=
 (.seq (.seq (.reg 8 [⟨some 20, .move (.t 5), none, []⟩,
  ⟨some 21, .bin .geq 3 (.t 20) (.c (Value.int IntKind.i64 0)) 3, none, [20]⟩] none [0, 3, 4, 5, 10, 21, 41, 57])
 (.cond [0, 3, 4, 5, 10, 41, 57] (.t 21) .skip (.exit 2)))
 k1_limbs_Print)
def l1_limbs_Print : IR := .loop [0, 3, 4, 5, 10, 41, 57] w1_limbs_Print
def j2_limbs_Print : IR :=
 (.reg 19 [⟨some 53, .bin .add 3 (.t 42) (.c (Value.int IntKind.i64 1)) 3, none, []⟩,
  ⟨some 42, .move (.t 53), none, [53]⟩] none [0, 3, 4, 6, 10, 41, 42, 57])
def k2_limbs_Print : IR := .tail [0, 3, 4, 6, 10, 41, 42, 57] j2_limbs_Print
def j3_limbs_Print : IR :=
 (.seq (.block 5 (.seq (.reg 17 [⟨some 44, .move (.t 4), none, []⟩,
  ⟨some 45, .bin .rem 29 (.t 44) (.c (Value.int IntKind.u64 10)) 29, none, [44]⟩,
  ⟨some 46, .bin .add 29 (.c (Value.int IntKind.u64 48)) (.t 45) 29, none, [45]⟩,
  ⟨some 47, .conv 29 21 (.int .i32) (.t 46), none, [46]⟩,
  ⟨some 48, .conv 21 9 .rune (.t 47), none, [47]⟩,
  ⟨some 49, .move (.t 6), none, []⟩,
  ⟨some 50, .bin .add 9 (.t 48) (.t 49) 9, none, [48, 49]⟩,
  ⟨some 6, .assign (.t 50), none, [50]⟩] none [0, 3, 4, 6, 10, 41, 42, 57])
 (.reg 18 [⟨some 51, .move (.t 4), none, []⟩,
  ⟨some 52, .bin .quo 29 (.t 51) (.c (Value.int IntKind.u64 10)) 29, none, [51]⟩,
  ⟨some 4, .assign (.t 52), none, [52]⟩] none [0, 3, 4, 6, 10, 41, 42, 57])))
 k2_limbs_Print)
def k3_limbs_Print : IR := .tail [0, 3, 4, 6, 10, 41, 42, 57] j3_limbs_Print
def w2_limbs_Print : IR :=
 (.seq (.reg 16 [⟨some 43, .bin .lss 3 (.t 42) (.c (Value.int IntKind.i64 9)) 3, none, []⟩] none [0, 3, 4, 6, 10, 41, 42, 43, 57])
 (.seq (.cond [0, 3, 4, 6, 10, 41, 42, 57] (.t 43) .skip (.exit 4))
 k3_limbs_Print))
def l2_limbs_Print : IR := .loop [0, 3, 4, 6, 10, 41, 42, 57] w2_limbs_Print
def j4_limbs_Print : IR :=
 (.reg 20 [⟨some 54, .move (.t 3), none, []⟩,
  ⟨some 55, .move (.t 6), none, [6]⟩,
  ⟨some 56, .lit 54 1 [(.t 55)], none, [55]⟩,
  ⟨some 57, .append 54 54 false 1 16 (.t 54) (.t 56), none, [54, 56]⟩,
  ⟨some 3, .assign (.t 57), none, []⟩] none [0, 3, 10, 41, 57])
def k4_limbs_Print : IR := .tail [0, 3, 6, 10, 41, 57] j4_limbs_Print
def j5_limbs_Print : IR :=
 (.seq (.reg 13 [⟨some 40, .move (.t 0), none, []⟩,
  ⟨some 41, .call n_limbs_trim [(.t 40)] [27], none, [40]⟩,
  ⟨some 0, .assign (.t 41), none, []⟩] none [0, 3, 4, 10, 41, 57])
 (.seq (.reg 14 [⟨some 6, .assign (.c (Value.string { data := #[] })), none, []⟩] none [0, 3, 4, 6, 10, 41, 57])
 (.seq (.seq (.reg 15 [⟨some 42, .move (.c (Value.int IntKind.i64 0)), none, []⟩] none [0, 3, 4, 6, 10, 41, 42, 57])
 (.block 4 l2_limbs_Print))
 k4_limbs_Print)))
def k5_limbs_Print : IR := .tail [0, 3, 4, 10, 41, 57] j5_limbs_Print
def j6_limbs_Print : IR :=
 (.block 1 (.seq (.reg 6 [⟨some 4, .assign (.c (Value.int IntKind.u64 0)), none, []⟩] none [0, 3, 4, 10, 41, 57])
 (.seq (.seq (.reg 7 [⟨some 17, .move (.t 0), none, []⟩,
  ⟨some 18, .len 27 false (.t 17), none, [17]⟩,
  ⟨some 19, .bin .sub 3 (.t 18) (.c (Value.int IntKind.i64 1)) 3, none, [18]⟩,
  ⟨some 5, .assign (.t 19), none, [19]⟩] none [0, 3, 4, 5, 10, 41, 57])
 (.block 2 l1_limbs_Print))
 k5_limbs_Print)))
def k6_limbs_Print : IR := .tail [0, 3, 10, 41, 57] j6_limbs_Print
def w0_limbs_Print : IR :=
 (.seq (.seq (.reg 5 [⟨some 14, .move (.t 0), none, []⟩,
  ⟨some 15, .len 27 false (.t 14), none, [14]⟩,
  ⟨some 16, .bin .gtr 3 (.t 15) (.c (Value.int IntKind.i64 0)) 3, none, [15]⟩] none [0, 3, 10, 16, 41, 57])
 (.cond [0, 3, 10, 41, 57] (.t 16) .skip (.exit 0)))
 k6_limbs_Print)
def l0_limbs_Print : IR := .loop [0, 3, 10, 41, 57] w0_limbs_Print
def j7_limbs_Print : IR :=
 (.reg 24 [⟨some 63, .move (.t 8), none, []⟩,
  ⟨some 64, .bin .sub 3 (.t 63) (.c (Value.int IntKind.i64 1)) 3, none, [63]⟩,
  ⟨some 8, .assign (.t 64), none, [64]⟩] none [3, 7, 8, 57])
def k7_limbs_Print : IR := .tail [3, 7, 8, 57] j7_limbs_Print
def j8_limbs_Print : IR :=
 (.seq (.block 7 (.reg 25 [⟨some 65, .move (.t 3), none, []⟩,
  ⟨some 66, .move (.t 8), none, []⟩,
  ⟨some 67, .iaddr 54 (.sl 1) (.t 65) (.t 66), none, []⟩,
  ⟨some 68, .load 9 none (.t 67), none, [65, 66, 67]⟩,
  ⟨some 69, .call n_strings_Builder_WriteString [(.t 7), (.t 68)] [59, 9], none, [68, 69]⟩] none [3, 7, 8, 57]))
 k7_limbs_Print)
def k8_limbs_Print : IR := .tail [3, 7, 8, 57] j8_limbs_Print
def w3_limbs_Print : IR :=
 (.seq (.seq (.reg 23 [⟨some 61, .move (.t 8), none, []⟩,
  ⟨some 62, .bin .geq 3 (.t 61) (.c (Value.int IntKind.i64 0)) 3, none, [61]⟩] none [3, 7, 8, 57, 62])
 (.cond [3, 7, 8, 57] (.t 62) .skip (.exit 6)))
 k8_limbs_Print)
def l3_limbs_Print : IR := .loop [3, 7, 8, 57] w3_limbs_Print
def j9_limbs_Print : IR :=
 (.seq (.reg 26 [⟨some 70, .call n_strings_Builder_String [(.t 7)] [59], none, [7]⟩,
  ⟨some 71, .call n_strings_TrimLeft [(.t 70), (.c (Value.string { data := #[48] }))] [9, 9], none, [70]⟩,
  ⟨some 2, .assign (.t 71), none, [71]⟩] none [2])
 .ret)
def k9_limbs_Print : IR := .tail [7] j9_limbs_Print
def j10_limbs_Print : IR :=
 (.seq (.reg 21 [⟨some 7, .allocB 59 5, none, []⟩] none [3, 7, 57])
 (.seq (.seq (.reg 22 [⟨some 58, .move (.t 3), none, []⟩,
  ⟨some 59, .len 54 false (.t 58), none, [58]⟩,
  ⟨some 60, .bin .sub 3 (.t 59) (.c (Value.int IntKind.i64 1)) 3, none, [59]⟩,
  ⟨some 8, .assign (.t 60), none, [60]⟩] none [3, 7, 8, 57])
 (.block 6 l3_limbs_Print))
 k9_limbs_Print))
def k10_limbs_Print : IR := .tail [3, 57] j10_limbs_Print
def j11_limbs_Print : IR :=
 (.seq (.reg 4 [⟨some 3, .assign (.nilS 1), none, []⟩] none [0, 3, 10, 41, 57])
 (.seq (.block 0 l0_limbs_Print)
 k10_limbs_Print))
def k11_limbs_Print : IR := .tail [0, 10, 41] j11_limbs_Print
def b_limbs_Print : IR :=
 (.seq (.reg 0 [⟨some 2, .assign (.c (Value.string { data := #[] })), none, [2]⟩] none [0, 10, 41])
 (.seq (.reg 1 [⟨some 9, .move (.t 0), none, []⟩,
  ⟨some 10, .call n_limbs_Norm [(.t 9)] [27], none, [9]⟩,
  ⟨some 0, .assign (.t 10), none, []⟩] none [0, 10, 41])
 (.seq (.seq (.reg 2 [⟨some 11, .move (.t 0), none, []⟩,
  ⟨some 12, .len 27 false (.t 11), none, [11]⟩,
  ⟨some 13, .bin .eql 3 (.t 12) (.c (Value.int IntKind.i64 0)) 3, none, [12]⟩] none [0, 10, 13, 41])
 (.cond [0, 10, 41] (.t 13) (.seq (.reg 3 [⟨some 2, .assign (.c (Value.string { data := #[48] })), none, []⟩] none [2])
 .ret) .skip))
 k11_limbs_Print)))
def a_limbs_Print : AFunc := ⟨72, [.tmp 2], b_limbs_Print⟩

def b_limbs_low : IR :=
 (.seq (.reg 0 [⟨some 2, .assign (.c (Value.int IntKind.u32 0)), none, [2]⟩] none [0])
 (.seq (.reg 1 [⟨some 3, .move (.t 0), none, [0]⟩,
  ⟨some 4, .bin .and 29 (.t 3) (.c (Value.int IntKind.u64 4294967295)) 29, none, [3]⟩,
  ⟨some 5, .conv 29 35 (.int .u32) (.t 4), none, [4]⟩,
  ⟨some 2, .assign (.t 5), none, [5]⟩] none [2])
 .ret))
def a_limbs_low : AFunc := ⟨6, [.tmp 2], b_limbs_low⟩

def b_limbs_high : IR :=
 (.seq (.reg 0 [⟨some 2, .assign (.c (Value.int IntKind.u64 0)), none, [2]⟩] none [0])
 (.seq (.reg 1 [⟨some 3, .move (.t 0), none, [0]⟩,
  ⟨some 4, .bin .shr 29 (.t 3) (.c (Value.int IntKind.u64 32)) 55, none, [3]⟩,
  ⟨some 2, .assign (.t 4), none, [4]⟩] none [2])
 .ret))
def a_limbs_high : AFunc := ⟨5, [.tmp 2], b_limbs_high⟩

def b_limbs_From : IR :=
 (.seq (.reg 0 [⟨some 2, .assign (.nilS 1), none, [2]⟩] none [0])
 (.seq (.reg 1 [⟨some 3, .move (.t 0), none, []⟩,
  ⟨some 4, .call n_limbs_low [(.t 3)] [29], none, [3]⟩,
  ⟨some 5, .move (.t 0), none, [0]⟩,
  ⟨some 6, .call n_limbs_high [(.t 5)] [29], none, [5]⟩,
  ⟨some 7, .conv 29 35 (.int .u32) (.t 6), none, [6]⟩,
  ⟨some 8, .lit 27 1 [(.t 4), (.t 7)], none, [4, 7]⟩,
  ⟨some 9, .call n_limbs_trim [(.t 8)] [27], none, [8]⟩,
  ⟨some 2, .assign (.t 9), none, []⟩] none [2, 9])
 .ret))
def a_limbs_From : AFunc := ⟨10, [.tmp 2], b_limbs_From⟩

def j0_limbs_grow : IR :=
 (.reg 8 [⟨some 33, .bin .add 3 (.t 13) (.c (Value.int IntKind.i64 1)) 3, none, []⟩,
  ⟨some 13, .move (.t 33), none, [33]⟩] none [0, 1, 7, 12, 13, 40, 100000])
def k0_limbs_grow : IR := .tail [0, 1, 7, 12, 13, 40, 100000] j0_limbs_grow
def j1_limbs_grow : IR :=
 (.seq (.block 1 (.seq (.reg 4 [⟨some 15, .move (.t 13), none, []⟩,
  ⟨some 8, .assign (.t 15), none, [15]⟩] none [0, 1, 7, 8, 12, 13, 40, 100000])
 (.seq (.reg 5 [⟨some 16, .move (.t 7), none, []⟩,
  ⟨some 17, .move (.t 0), none, []⟩,
  ⟨some 18, .move (.t 8), none, []⟩,
  ⟨some 19, .iaddr 27 (.sl 1) (.t 17) (.t 18), none, []⟩,
  ⟨some 20, .load 35 none (.t 19), none, [17, 18, 19]⟩,
  ⟨some 21, .conv 35 29 (.int .u64) (.t 20), none, [20]⟩,
  ⟨some 22, .move (.t 1), none, []⟩,
  ⟨some 23, .conv 35 29 (.int .u64) (.t 22), none, [22]⟩,
  ⟨some 24, .bin .mul 29 (.t 21) (.t 23) 29, none, [21, 23]⟩,
  ⟨some 25, .bin .add 29 (.t 16) (.t 24) 29, none, [16, 24]⟩,
  ⟨some 7, .assign (.t 25), none, [25]⟩] none [0, 1, 7, 8, 12, 13, 40, 100000])
 (.seq (.reg 6 [⟨some 26, .move (.t 0), none, []⟩,
  ⟨some 27, .move (.t 8), none, [8]⟩,
  ⟨some 28, .move (.t 7), none, []⟩,
  ⟨some 29, .call n_limbs_low [(.t 28)] [29], none, [28]⟩,
  ⟨some 30, .iaddr 27 (.sl 1) (.t 26) (.t 27), none, []⟩,
  ⟨none, .store 35 none (.t 30) (.t 29), none, [26, 27, 29, 30]⟩] none [0, 1, 7, 12, 13, 40, 100000])
 (.reg 7 [⟨some 31, .move (.t 7), none, []⟩,
  ⟨some 32, .call n_limbs_high [(.t 31)] [29], none, [31]⟩,
  ⟨some 7, .assign (.t 32), none, [32]⟩] none [0, 1, 7, 12, 13, 40, 100000])))))
 k0_limbs_grow)
def k1_limbs_grow : IR := .tail [0, 1, 7, 12, 13, 40, 100000] j1_limbs_grow
def w0_limbs_grow : IR :=
 (.seq (.reg 3 [⟨some 14, .bin .lss 3 (.t 13) (.t 12) 3, none, []⟩] none [0, 1, 7, 12, 13, 14, 40, 100000])
 (.seq (.cond [0, 1, 7, 12, 13, 40, 100000] (.t 14) .skip (.exit 0))
 k1_limbs_grow))
def l0_limbs_grow : IR := .loop [0, 1, 7, 12, 13, 40, 100000] w0_limbs_grow
def j2_limbs_grow : IR :=
 (.seq (.reg 11 [⟨some 41, .move (.t 0), none, []⟩,
  ⟨some 6, .assign (.t 41), none, []⟩] none [0, 6, 40, 41, 100000])
 .ret)
def k2_limbs_grow : IR := .tail [0, 40, 100000] j2_limbs_grow
def j3_limbs_grow : IR :=
 (.seq (.seq (.reg 9 [⟨some 34, .move (.t 7), none, []⟩,
  ⟨some 35, .bin .gtr 29 (.t 34) (.c (Value.int IntKind.u64 0)) 29, none, [34]⟩] none [0, 7, 35, 40, 100000])
 (.cond [0, 7, 40, 100000] (.t 35) (.reg 10 [⟨some 36, .move (.t 0), none, []⟩,
  ⟨some 37, .move (.t 7), none, [7]⟩,
  ⟨some 38, .conv 29 35 (.int .u32) (.t 37), none, [37]⟩,
  ⟨some 39, .lit 27 1 [(.t 38)], none, [38]⟩,
  ⟨some 40, .append 27 27 false 1 4 (.t 36) (.t 39), none, [36, 39]⟩,
  ⟨some 0, .assign (.t 40), none, []⟩] none [0, 40, 100000]) .skip))
 k2_limbs_grow)
def k3_limbs_grow : IR := .tail [0, 7, 40, 100000] j3_limbs_grow
def b_limbs_grow : IR :=
 (.seq (.reg 0 [⟨some 6, .assign (.nilS 1), none, [6]⟩] none [0, 1, 2, 40, 100000])
 (.seq (.reg 1 [⟨some 9, .move (.t 2), none, [2]⟩,
  ⟨some 10, .conv 35 29 (.int .u64) (.t 9), none, [9]⟩,
  ⟨some 7, .assign (.t 10), none, [10]⟩] none [0, 1, 7, 40, 100000])
 (.seq (.seq (.reg 2 [⟨some 11, .move (.t 0), none, []⟩,
  ⟨some 12, .len 27 false (.t 11), none, [11]⟩,
  ⟨some 13, .move (.c (Value.int IntKind.i64 0)), none, []⟩] none [0, 1, 7, 12, 13, 40, 100000])
 (.block 0 l0_limbs_grow))
 k3_limbs_grow)))
def a_limbs_grow : AFunc := ⟨42, [.tmp 6], b_limbs_grow⟩

def j0_limbs_Read : IR :=
 (.reg 6 [⟨some 27, .bin .add 3 (.t 13) (.c (Value.int IntKind.i64 1)) 3, none, []⟩,
  ⟨some 13, .move (.t 27), none, [27]⟩] none [0, 12, 13])
def k0_limbs_Read : IR := .tail [0, 12, 13] j0_limbs_Read
def j1_limbs_Read : IR :=
 (.seq (.block 1 (.seq (.reg 3 [⟨some 15, .move (.t 13), none, []⟩,
  ⟨some 5, .assign (.t 15), none, [15]⟩] none [0, 5, 12, 13])
 (.seq (.reg 4 [⟨some 16, .move (.t 0), none, []⟩,
  ⟨some 17, .move (.t 5), none, []⟩,
  ⟨some 18, .index 9 .str none (.t 16) (.t 17), none, [16, 17]⟩,
  ⟨some 19, .bin .lss 5 (.t 18) (.c (Value.int IntKind.u8 48)) 5, none, [18]⟩,
  ⟨some 20, .move (.t 19), none, [19]⟩,
  ⟨some 21, .move (.t 0), some (4, false), []⟩,
  ⟨some 22, .move (.t 5), some (4, false), []⟩,
  ⟨some 23, .index 9 .str none (.t 21) (.t 22), some (4, false), [21, 22]⟩,
  ⟨some 24, .bin .gtr 5 (.t 23) (.c (Value.int IntKind.u8 57)) 5, some (4, false), [23]⟩,
  ⟨some 25, .pick (.t 20) (.c (Value.bool true)) (.t 24), none, [20, 24]⟩] none [0, 5, 12, 13, 25])
 (.cond [0, 5, 12, 13] (.t 25) (.seq (.reg 5 [⟨some 26, .move (.t 5), none, [5]⟩,
  ⟨some 2, .assign (.nilS 1), none, []⟩,
  ⟨some 3, .assign (.c (Value.int IntKind.i64 10)), none, []⟩,
  ⟨some 4, .assign (.t 26), none, [26]⟩] none [2, 3, 4, 59])
 .ret) .skip))))
 k0_limbs_Read)
def k1_limbs_Read : IR := .tail [0, 12, 13] j1_limbs_Read
def w0_limbs_Read : IR :=
 (.seq (.reg 2 [⟨some 14, .bin .lss 3 (.t 13) (.t 12) 3, none, []⟩] none [0, 12, 13, 14])
 (.seq (.cond [0, 12, 13] (.t 14) .skip (.exit 0))
 k1_limbs_Read))
def l0_limbs_Read : IR := .loop [0, 12, 13] w0_limbs_Read
def j2_limbs_Read : IR :=
 (.reg 18 [⟨some 50, .bin .add 3 (.t 37) (.c (Value.int IntKind.i64 1)) 3, none, []⟩,
  ⟨some 37, .move (.t 50), none, [50]⟩] none [0, 6, 7, 8, 9, 36, 37, 54])
def k2_limbs_Read : IR := .tail [0, 6, 7, 8, 9, 36, 37, 54] j2_limbs_Read
def j3_limbs_Read : IR :=
 (.seq (.block 5 (.seq (.reg 15 [⟨some 39, .move (.t 37), none, []⟩,
  ⟨some 10, .assign (.t 39), none, [39]⟩] none [0, 6, 7, 8, 9, 10, 36, 37, 54])
 (.seq (.reg 16 [⟨some 40, .move (.t 8), none, []⟩,
  ⟨some 41, .bin .mul 35 (.t 40) (.c (Value.int IntKind.u32 10)) 35, none, [40]⟩,
  ⟨some 8, .assign (.t 41), none, [41]⟩] none [0, 6, 7, 8, 9, 10, 36, 37, 54])
 (.reg 17 [⟨some 42, .move (.t 9), none, []⟩,
  ⟨some 43, .bin .mul 35 (.c (Value.int IntKind.u32 10)) (.t 42) 35, none, [42]⟩,
  ⟨some 44, .move (.t 0), none, []⟩,
  ⟨some 45, .move (.t 10), none, [10]⟩,
  ⟨some 46, .index 9 .str none (.t 44) (.t 45), none, [44, 45]⟩,
  ⟨some 47, .bin .sub 5 (.t 46) (.c (Value.int IntKind.u8 48)) 5, none, [46]⟩,
  ⟨some 48, .conv 5 35 (.int .u32) (.t 47), none, [47]⟩,
  ⟨some 49, .bin .add 35 (.t 43) (.t 48) 35, none, [43, 48]⟩,
  ⟨some 9, .assign (.t 49), none, [49]⟩] none [0, 6, 7, 8, 9, 36, 37, 54]))))
 k2_limbs_Read)
def k3_limbs_Read : IR := .tail [0, 6, 7, 8, 9, 36, 37, 54] j3_limbs_Read
def w2_limbs_Read : IR :=
 (.seq (.reg 14 [⟨some 38, .bin .lss 3 (.t 37) (.t 36) 3, none, []⟩] none [0, 6, 7, 8, 9, 36, 37, 38, 54])
 (.seq (.cond [0, 6, 7, 8, 9, 36, 37, 54] (.t 38) .skip (.exit 4))
 k3_limbs_Read))
def l2_limbs_Read : IR := .loop [0, 6, 7, 8, 9, 36, 37, 54] w2_limbs_Read
def j4_limbs_Read : IR :=
 (.seq (.reg 19 [⟨some 51, .move (.t 6), none, []⟩,
  ⟨some 52, .move (.t 8), none, [8]⟩,
  ⟨some 53, .move (.t 9), none, [9]⟩,
  ⟨some 54, .call n_limbs_grow [(.t 51), (.t 52), (.t 53)] [27, 35, 35], none, [51, 52, 53]⟩,
  ⟨some 6, .assign (.t 54), none, []⟩] none [0, 6, 7, 54])
 (.reg 20 [⟨some 55, .move (.t 0), none, []⟩,
  ⟨some 56, .move (.t 7), none, [7]⟩,
  ⟨some 57, .slice 9 .str (.t 55) (some (.t 56)) none none, none, [55, 56]⟩,
  ⟨some 0, .assign (.t 57), none, [57]⟩] none [0, 6, 54]))
def k4_limbs_Read : IR := .tail [0, 6, 7, 8, 9, 54] j4_limbs_Read
def j5_limbs_Read : IR :=
 (.block 3 (.seq (.reg 11 [⟨some 33, .move (.t 0), none, []⟩,
  ⟨some 34, .len 9 true (.t 33), none, [33]⟩,
  ⟨some 35, .minmax false [3, 3] (.c (Value.int IntKind.i64 9)) (.t 34), none, [34]⟩,
  ⟨some 7, .assign (.t 35), none, [35]⟩] none [0, 6, 7, 54])
 (.seq (.reg 12 [⟨some 8, .assign (.c (Value.int IntKind.u32 1)), none, []⟩,
  ⟨some 9, .assign (.c (Value.int IntKind.u32 0)), none, []⟩] none [0, 6, 7, 8, 9, 54])
 (.seq (.seq (.reg 13 [⟨some 36, .move (.t 7), none, []⟩,
  ⟨some 37, .move (.c (Value.int IntKind.i64 0)), none, []⟩] none [0, 6, 7, 8, 9, 36, 37, 54])
 (.block 4 l2_limbs_Read))
 k4_limbs_Read))))
def k5_limbs_Read : IR := .tail [0, 6, 54] j5_limbs_Read
def w1_limbs_Read : IR :=
 (.seq (.seq (.reg 10 [⟨some 30, .move (.t 0), none, []⟩,
  ⟨some 31, .len 9 true (.t 30), none, [30]⟩,
  ⟨some 32, .bin .gtr 3 (.t 31) (.c (Value.int IntKind.i64 0)) 3, none, [31]⟩] none [0, 6, 32, 54])
 (.cond [0, 6, 54] (.t 32) .skip (.exit 2)))
 k5_limbs_Read)
def l1_limbs_Read : IR := .loop [0, 6, 54] w1_limbs_Read
def j6_limbs_Read : IR :=
 (.seq (.reg 21 [⟨some 58, .move (.t 6), none, []⟩,
  ⟨some 59, .call n_limbs_trim [(.t 58)] [27], none, [6, 54, 58]⟩,
  ⟨some 2, .assign (.t 59), none, []⟩,
  ⟨some 3, .assign (.c (Value.int IntKind.i64 0)), none, []⟩,
  ⟨some 4, .assign (.c (Value.int IntKind.i64 0)), none, []⟩] none [2, 3, 4, 59])
 .ret)
def k6_limbs_Read : IR := .tail [6, 54] j6_limbs_Read
def j7_limbs_Read : IR :=
 (.seq (.reg 9 [⟨some 6, .assign (.nilS 1), none, []⟩] none [0, 6, 54])
 (.seq (.block 2 l1_limbs_Read)
 k6_limbs_Read))
def k7_limbs_Read : IR := .tail [0] j7_limbs_Read
def j8_limbs_Read : IR :=
 (.seq (.seq (.reg 7 [⟨some 28, .move (.t 0), none, []⟩,
  ⟨some 29, .bin .eql 9 (.t 28) (.c (Value.string { data := #[] })) 9, none, [28]⟩] none [0, 29])
 (.cond [0] (.t 29) (.seq (.reg 8 [⟨some 2, .assign (.nilS 1), none, []⟩,
  ⟨some 3, .assign (.c (Value.int IntKind.i64 10)), none, []⟩,
  ⟨some 4, .assign (.c (Value.int IntKind.i64 0)), none, []⟩] none [2, 3, 4, 59])
 .ret) .skip))
 k7_limbs_Read)
def k8_limbs_Read : IR := .tail [0] j8_limbs_Read
def b_limbs_Read : IR :=
 (.seq (.reg 0 [⟨some 2, .assign (.nilS 1), none, [2]⟩,
  ⟨some 3, .assign (.c (Value.int IntKind.i64 0)), none, [3]⟩,
  ⟨some 4, .assign (.c (Value.int IntKind.i64 0)), none, [4]⟩] none [0])
 (.seq (.seq (.reg 1 [⟨some 11, .move (.t 0), none, []⟩,
  ⟨some 12, .len 9 true (.t 11), none, [11]⟩,
  ⟨some 13, .move (.c (Value.int IntKind.i64 0)), none, []⟩] none [0, 12, 13])
 (.block 0 l0_limbs_Read))
 k8_limbs_Read))
def a_limbs_Read : AFunc := ⟨60, [.tmp 2, .tmp 3, .tmp 4], b_limbs_Read⟩

def j0_limbs_Mul : IR :=
 (.reg 13 [⟨some 59, .bin .add 3 (.t 26) (.c (Value.int IntKind.i64 1)) 3, none, []⟩,
  ⟨some 26, .move (.t 59), none, [59]⟩] none [0, 1, 5, 6, 7, 10, 12, 18, 20, 21, 25, 26])
def k0_limbs_Mul : IR := .tail [0, 1, 5, 6, 7, 10, 12, 18, 20, 21, 25, 26] j0_limbs_Mul
def j1_limbs_Mul : IR :=
 (.seq (.block 3 (.seq (.reg 9 [⟨some 28, .move (.t 26), none, []⟩,
  ⟨some 8, .assign (.t 28), none, [28]⟩] none [0, 1, 5, 6, 7, 8, 10, 12, 18, 20, 21, 25, 26])
 (.seq (.reg 10 [⟨some 29, .move (.t 7), none, []⟩,
  ⟨some 30, .move (.t 0), none, []⟩,
  ⟨some 31, .move (.t 6), none, []⟩,
  ⟨some 32, .iaddr 27 (.sl 1) (.t 30) (.t 31), none, []⟩,
  ⟨some 33, .load 35 none (.t 32), none, [30, 31, 32]⟩,
  ⟨some 34, .conv 35 29 (.int .u64) (.t 33), none, [33]⟩,
  ⟨some 35, .move (.t 1), none, []⟩,
  ⟨some 36, .move (.t 8), none, []⟩,
  ⟨some 37, .iaddr 27 (.sl 1) (.t 35) (.t 36), none, []⟩,
  ⟨some 38, .load 35 none (.t 37), none, [35, 36, 37]⟩,
  ⟨some 39, .conv 35 29 (.int .u64) (.t 38), none, [38]⟩,
  ⟨some 40, .bin .mul 29 (.t 34) (.t 39) 29, none, [34, 39]⟩,
  ⟨some 41, .move (.t 5), none, []⟩,
  ⟨some 42, .move (.t 6), none, []⟩,
  ⟨some 43, .move (.t 8), none, []⟩,
  ⟨some 44, .bin .add 3 (.t 42) (.t 43) 3, none, [42, 43]⟩,
  ⟨some 45, .iaddr 27 (.sl 1) (.t 41) (.t 44), none, []⟩,
  ⟨some 46, .load 35 none (.t 45), none, [41, 44, 45]⟩,
  ⟨some 47, .conv 35 29 (.int .u64) (.t 46), none, [46]⟩,
  ⟨some 48, .bin .add 29 (.t 40) (.t 47) 29, none, [40, 47]⟩,
  ⟨some 49, .bin .add 29 (.t 29) (.t 48) 29, none, [29, 48]⟩,
  ⟨some 7, .assign (.t 49), none, [49]⟩] (some (.cons ⟨0, []⟩ (.cons ⟨1, []⟩ (.cons ⟨2, []⟩ (.cons ⟨3, []⟩ (.cons ⟨6, []⟩ (.cons ⟨7, []⟩ (.cons ⟨8, []⟩ (.cons ⟨12, []⟩ (.cons ⟨13, []⟩ (.cons ⟨14, []⟩ (.cons ⟨15, []⟩ (.cons ⟨16, []⟩ (.cons ⟨4, []⟩ (.cons ⟨5, []⟩ (.cons ⟨9, []⟩ (.cons ⟨10, []⟩ (.cons ⟨11, []⟩ (.cons ⟨17, []⟩ (.cons ⟨18, []⟩ (.cons ⟨19, []⟩ (.cons ⟨20, []⟩ (.cons ⟨21, []⟩ .nil))))))))))))))))))))))) [0, 1, 5, 6, 7, 8, 10, 12, 18, 20, 21, 25, 26])
 (.seq (.reg 11 [⟨some 50, .move (.t 5), none, []⟩,
  ⟨some 51, .move (.t 6), none, []⟩,
  ⟨some 52, .move (.t 8), none, [8]⟩,
  ⟨some 53, .bin .add 3 (.t 51) (.t 52) 3, none, [51, 52]⟩,
  ⟨some 54, .move (.t 7), none, []⟩,
  ⟨some 55, .call n_limbs_low [(.t 54)] [29], none, [54]⟩,
  ⟨some 56, .iaddr 27 (.sl 1) (.t 50) (.t 53), none, []⟩,
  ⟨none, .store 35 none (.t 56) (.t 55), none, [50, 53, 55, 56]⟩] none [0, 1, 5, 6, 7, 10, 12, 18, 20, 21, 25, 26])
 (.reg 12 [⟨some 57, .move (.t 7), none, []⟩,
  ⟨some 58, .call n_limbs_high [(.t 57)] [29], none, [57]⟩,
  ⟨some 7, .assign (.t 58), none, [58]⟩] none [0, 1, 5, 6, 7, 10, 12, 18, 20, 21, 25, 26])))))
 k0_limbs_Mul)
def k1_limbs_Mul : IR := .tail [0, 1, 5, 6, 7, 10, 12, 18, 20, 21, 25, 26] j1_limbs_Mul
def w1_limbs_Mul : IR :=
 (.seq (.reg 8 [⟨some 27, .bin .lss 3 (.t 26) (.t 25) 3, none, []⟩] none [0, 1, 5, 6, 7, 10, 12, 18, 20, 21, 25, 26, 27])
 (.seq (.cond [0, 1, 5, 6, 7, 10, 12, 18, 20, 21, 25, 26] (.t 27) .skip (.exit 2))
 k1_limbs_Mul))
def l1_limbs_Mul : IR := .loop [0, 1, 5, 6, 7, 10, 12, 18, 20, 21, 25, 26] w1_limbs_Mul
def j2_limbs_Mul : IR :=
 (.reg 14 [⟨some 60, .move (.t 5), none, []⟩,
  ⟨some 61, .move (.t 6), none, [6]⟩,
  ⟨some 62, .move (.t 1), none, []⟩,
  ⟨some 63, .len 27 false (.t 62), none, [62]⟩,
  ⟨some 64, .bin .add 3 (.t 61) (.t 63) 3, none, [61, 63]⟩,
  ⟨some 65, .move (.t 7), none, [7]⟩,
  ⟨some 66, .conv 29 35 (.int .u32) (.t 65), none, [65]⟩,
  ⟨some 67, .iaddr 27 (.sl 1) (.t 60) (.t 64), none, []⟩,
  ⟨none, .store 35 none (.t 67) (.t 66), none, [60, 64, 66, 67]⟩] none [0, 1, 5, 10, 12, 18, 20, 21])
def k2_limbs_Mul : IR := .tail [0, 1, 5, 6, 7, 10, 12, 18, 20, 21] j2_limbs_Mul
def j3_limbs_Mul : IR :=
 (.reg 15 [⟨some 68, .bin .add 3 (.t 21) (.c (Value.int IntKind.i64 1)) 3, none, []⟩,
  ⟨some 21, .move (.t 68), none, [68]⟩] none [0, 1, 5, 10, 12, 18, 20, 21])
def k3_limbs_Mul : IR := .tail [0, 1, 5, 10, 12, 18, 20, 21] j3_limbs_Mul
def j4_limbs_Mul : IR :=
 (.seq (.block 1 (.seq (.reg 5 [⟨some 23, .move (.t 21), none, []⟩,
  ⟨some 6, .assign (.t 23), none, [23]⟩] none [0, 1, 5, 6, 10, 12, 18, 20, 21])
 (.seq (.reg 6 [⟨some 7, .assign (.c (Value.int IntKind.u64 0)), none, []⟩] none [0, 1, 5, 6, 7, 10, 12, 18, 20, 21])
 (.seq (.seq (.reg 7 [⟨some 24, .move (.t 1), none, []⟩,
  ⟨some 25, .len 27 false (.t 24), none, [24]⟩,
  ⟨some 26, .move (.c (Value.int IntKind.i64 0)), none, []⟩] none [0, 1, 5, 6, 7, 10, 12, 18, 20, 21, 25, 26])
 (.block 2 l1_limbs_Mul))
 k2_limbs_Mul))))
 k3_limbs_Mul)
def k4_limbs_Mul : IR := .tail [0, 1, 5, 10, 12, 18, 20, 21] j4_limbs_Mul
def w0_limbs_Mul : IR :=
 (.seq (.reg 4 [⟨some 22, .bin .lss 3 (.t 21) (.t 20) 3, none, []⟩] none [0, 1, 5, 10, 12, 18, 20, 21, 22])
 (.seq (.cond [0, 1, 5, 10, 12, 18, 20, 21] (.t 22) .skip (.exit 0))
 k4_limbs_Mul))
def l0_limbs_Mul : IR := .loop [0, 1, 5, 10, 12, 18, 20, 21] w0_limbs_Mul
def j5_limbs_Mul : IR :=
 (.seq (.reg 16 [⟨some 69, .move (.t 5), none, []⟩,
  ⟨some 70, .call n_limbs_trim [(.t 69)] [27], none, [5, 18, 69]⟩,
  ⟨some 4, .assign (.t 70), none, []⟩] none [4, 70])
 .ret)
def k5_limbs_Mul : IR := .tail [5, 18] j5_limbs_Mul
def b_limbs_Mul : IR :=
 (.seq (.reg 0 [⟨some 4, .assign (.nilS 1), none, [4]⟩] none [0, 1, 10, 12])
 (.seq (.reg 1 [⟨some 9, .move (.t 0), none, []⟩,
  ⟨some 10, .call n_limbs_trim [(.t 9)] [27], none, [9]⟩,
  ⟨some 11, .move (.t 1), none, []⟩,
  ⟨some 12, .call n_limbs_trim [(.t 11)] [27], none, [11]⟩,
  ⟨some 0, .assign (.t 10), none, []⟩,
  ⟨some 1, .assign (.t 12), none, []⟩] none [0, 1, 10, 12])
 (.seq (.reg 2 [⟨some 13, .move (.t 0), none, []⟩,
  ⟨some 14, .len 27 false (.t 13), none, [13]⟩,
  ⟨some 15, .move (.t 1), none, []⟩,
  ⟨some 16, .len 27 false (.t 15), none, [15]⟩,
  ⟨some 17, .bin .add 3 (.t 14) (.t 16) 3, none, [14, 16]⟩,
  ⟨some 18, .mk 27 1 4 (.v (.int .u32 0)) (.t 17) (.t 17), none, [17]⟩,
  ⟨some 5, .assign (.t 18), none, []⟩] none [0, 1, 5, 10, 12, 18])
 (.seq (.seq (.reg 3 [⟨some 19, .move (.t 0), none, []⟩,
  ⟨some 20, .len 27 false (.t 19), none, [19]⟩,
  ⟨some 21, .move (.c (Value.int IntKind.i64 0)), none, []⟩] none [0, 1, 5, 10, 12, 18, 20, 21])
 (.block 0 l0_limbs_Mul))
 k5_limbs_Mul))))
def a_limbs_Mul : AFunc := ⟨71, [.tmp 4], b_limbs_Mul⟩

def j0_bits_Len32 : IR :=
 (.seq (.reg 7 [⟨some 13, .move (.t 2), none, []⟩,
  ⟨some 14, .move (.t 0), none, [0]⟩,
  ⟨some 15, .conv 35 5 (.int .u8) (.t 14), none, [14]⟩,
  ⟨some 16, .index 9 .str none (.c (Value.string { data := #[0, 1, 2, 2, 3, 3, 3, 3, 4, 4, 4, 4, 4, 4, 4, 4, 5, 5, 5, 5, 5, 5, 5, 5, 5, 5, 5, 5, 5, 5, 5, 5, 6, 6, 6, 6, 6, 6, 6, 6, 6, 6, 6, 6, 6, 6, 6, 6, 6, 6, 6, 6, 6, 6, 6, 6, 6, 6, 6, 6, 6, 6, 6, 6, 7, 7, 7, 7, 7, 7, 7, 7, 7, 7, 7, 7, 7, 7, 7, 7, 7, 7, 7, 7, 7, 7, 7, 7, 7, 7, 7, 7, 7, 7, 7, 7, 7, 7, 7, 7, 7, 7, 7, 7, 7, 7, 7, 7, 7, 7, 7, 7, 7, 7, 7, 7, 7, 7, 7, 7, 7, 7, 7, 7, 7, 7, 7, 7, 8, 8, 8, 8, 8, 8, 8, 8, 8, 8, 8, 8, 8, 8, 8, 8, 8, 8, 8, 8, 8, 8, 8, 8, 8, 8, 8, 8, 8, 8, 8, 8, 8, 8, 8, 8, 8, 8, 8, 8, 8, 8, 8, 8, 8, 8, 8, 8, 8, 8, 8, 8, 8, 8, 8, 8, 8, 8, 8, 8, 8, 8, 8, 8, 8, 8, 8, 8, 8, 8, 8, 8, 8, 8, 8, 8, 8, 8, 8, 8, 8, 8, 8, 8, 8, 8, 8, 8, 8, 8, 8, 8, 8, 8, 8, 8, 8, 8, 8, 8, 8, 8, 8, 8, 8, 8, 8, 8, 8, 8, 8, 8, 8, 8, 8, 8, 8, 8, 8, 8, 8, 8, 8, 8, 8, 8, 8, 8] })) (.t 15), none, [15]⟩,
  ⟨some 17, .conv 5 3 (.int .i64) (.t 16), none, [16]⟩,
  ⟨some 18, .bin .add 3 (.t 13) (.t 17) 3, none, [13, 17]⟩,
  ⟨some 2, .assign (.t 18), none, [18]⟩] none [2])
 .ret)
def k0_bits_Len32 : IR := .tail [0, 2] j0_bits_Len32
def j1_bits_Len32 : IR :=
 (.seq (.seq (.reg 4 [⟨some 7, .move (.t 0), none, []⟩,
  ⟨some 8, .bin .geq 35 (.t 7) (.c (Value.int IntKind.u32 256)) 35, none, [7]⟩] none [0, 2, 8])
 (.cond [0, 2] (.t 8) (.seq (.reg 5 [⟨some 9, .move (.t 0), none, []⟩,
  ⟨some 10, .bin .shr 35 (.t 9) (.c (Value.int IntKind.u64 8)) 55, none, [9]⟩,
  ⟨some 0, .assign (.t 10), none, [10]⟩] none [0, 2])
 (.reg 6 [⟨some 11, .move (.t 2), none, []⟩,
  ⟨some 12, .bin .add 3 (.t 11) (.c (Value.int IntKind.i64 8)) 3, none, [11]⟩,
  ⟨some 2, .assign (.t 12), none, [12]⟩] none [0, 2])) .skip))
 k0_bits_Len32)
def k1_bits_Len32 : IR := .tail [0, 2] j1_bits_Len32
def b_bits_Len32 : IR :=
 (.seq (.reg 0 [⟨some 2, .assign (.c (Value.int IntKind.i64 0)), none, []⟩] none [0, 2])
 (.seq (.seq (.reg 1 [⟨some 3, .move (.t 0), none, []⟩,
  ⟨some 4, .bin .geq 35 (.t 3) (.c (Value.int IntKind.u32 65536)) 35, none, [3]⟩] none [0, 2, 4])
 (.cond [0, 2] (.t 4) (.seq (.reg 2 [⟨some 5, .move (.t 0), none, []⟩,
  ⟨some 6, .bin .shr 35 (.t 5) (.c (Value.int IntKind.u64 16)) 55, none, [5]⟩,
  ⟨some 0, .assign (.t 6), none, [6]⟩] none [0])
 (.reg 3 [⟨some 2, .assign (.c (Value.int IntKind.i64 16)), none, []⟩] none [0, 2])) .skip))
 k1_bits_Len32))
def a_bits_Len32 : AFunc := ⟨19, [.tmp 2], b_bits_Len32⟩

def j0_limbs_Len : IR :=
 (.seq (.reg 4 [⟨some 8, .move (.t 0), none, []⟩,
  ⟨some 9, .len 27 false (.t 8), none, [8]⟩,
  ⟨some 10, .bin .sub 3 (.t 9) (.c (Value.int IntKind.i64 1)) 3, none, [9]⟩,
  ⟨some 11, .bin .mul 3 (.c (Value.int IntKind.i64 32)) (.t 10) 3, none, [10]⟩,
  ⟨some 12, .move (.t 0), none, []⟩,
  ⟨some 13, .move (.t 0), none, []⟩,
  ⟨some 14, .len 27 false (.t 13), none, [13]⟩,
  ⟨some 15, .bin .sub 3 (.t 14) (.c (Value.int IntKind.i64 1)) 3, none, [14]⟩,
  ⟨some 16, .iaddr 27 (.sl 1) (.t 12) (.t 15), none, []⟩,
  ⟨some 17, .load 35 none (.t 16), none, [0, 4, 12, 15, 16]⟩,
  ⟨some 18, .call n_bits_Len32 [(.t 17)] [35], none, [17]⟩,
  ⟨some 19, .bin .add 3 (.t 11) (.t 18) 3, none, [11, 18]⟩,
  ⟨some 2, .assign (.t 19), none, [19]⟩] none [2])
 .ret)
def k0_limbs_Len : IR := .tail [0, 4] j0_limbs_Len
def b_limbs_Len : IR :=
 (.seq (.reg 0 [⟨some 2, .assign (.c (Value.int IntKind.i64 0)), none, [2]⟩] none [0, 4])
 (.seq (.reg 1 [⟨some 3, .move (.t 0), none, []⟩,
  ⟨some 4, .call n_limbs_trim [(.t 3)] [27], none, [3]⟩,
  ⟨some 0, .assign (.t 4), none, []⟩] none [0, 4])
 (.seq (.seq (.reg 2 [⟨some 5, .move (.t 0), none, []⟩,
  ⟨some 6, .len 27 false (.t 5), none, [5]⟩,
  ⟨some 7, .bin .eql 3 (.t 6) (.c (Value.int IntKind.i64 0)) 3, none, [6]⟩] none [0, 4, 7])
 (.cond [0, 4] (.t 7) (.seq (.reg 3 [⟨some 2, .assign (.c (Value.int IntKind.i64 0)), none, []⟩] none [2])
 .ret) .skip))
 k0_limbs_Len)))
def a_limbs_Len : AFunc := ⟨20, [.tmp 2], b_limbs_Len⟩

def j0_limbs_Pow : IR :=
 (.reg 8 [⟨some 22, .move (.t 7), none, []⟩,
  ⟨some 23, .bin .sub 3 (.t 22) (.c (Value.int IntKind.i64 1)) 3, none, [22]⟩,
  ⟨some 7, .assign (.t 23), none, [23]⟩] none [0, 1, 6, 7, 19, 26, 34])
def k0_limbs_Pow : IR := .tail [0, 1, 6, 7, 19, 26, 34] j0_limbs_Pow
def j1_limbs_Pow : IR :=
 (.seq (.block 1 (.seq (.reg 9 [⟨some 24, .move (.t 6), none, []⟩,
  ⟨some 25, .move (.t 6), none, []⟩,
  ⟨some 26, .call n_limbs_Mul [(.t 24), (.t 25)] [27, 27], none, [24, 25]⟩,
  ⟨some 6, .assign (.t 26), none, []⟩] none [0, 1, 6, 7, 19, 26, 34])
 (.seq (.reg 10 [⟨some 27, .move (.t 1), none, []⟩,
  ⟨some 28, .move (.t 7), none, []⟩,
  ⟨some 29, .bin .shr 3 (.t 27) (.t 28) 3, none, [27, 28]⟩,
  ⟨some 30, .bin .and 3 (.t 29) (.c (Value.int IntKind.i64 1)) 3, none, [29]⟩,
  ⟨some 31, .bin .eql 3 (.t 30) (.c (Value.int IntKind.i64 1)) 3, none, [30]⟩] none [0, 1, 6, 7, 19, 26, 31, 34])
 (.cond [0, 1, 6, 7, 19, 26, 34] (.t 31) (.reg 11 [⟨some 32, .move (.t 6), none, []⟩,
  ⟨some 33, .move (.t 0), none, []⟩,
  ⟨some 34, .call n_limbs_Mul [(.t 32), (.t 33)] [27, 27], none, [32, 33]⟩,
  ⟨some 6, .assign (.t 34), none, []⟩] none [0, 1, 6, 7, 19, 26, 34]) .skip))))
 k0_limbs_Pow)
def k1_limbs_Pow : IR := .tail [0, 1, 6, 7, 19, 26, 34] j1_limbs_Pow
def w0_limbs_Pow : IR :=
 (.seq (.seq (.reg 7 [⟨some 20, .move (.t 7), none, []⟩,
  ⟨some 21, .bin .geq 3 (.t 20) (.c (Value.int IntKind.i64 0)) 3, none, [20]⟩] none [0, 1, 6, 7, 19, 21, 26, 34])
 (.cond [0, 1, 6, 7, 19, 26, 34] (.t 21) .skip (.exit 0)))
 k1_limbs_Pow)
def l0_limbs_Pow : IR := .loop [0, 1, 6, 7, 19, 26, 34] w0_limbs_Pow
def j2_limbs_Pow : IR :=
 (.seq (.reg 12 [⟨some 35, .move (.t 6), none, []⟩,
  ⟨some 4, .assign (.t 35), none, []⟩,
  ⟨some 5, .assign (.c (Value.int IntKind.i64 0)), none, []⟩] none [4, 5, 6, 19, 26, 34, 35])
 .ret)
def k2_limbs_Pow : IR := .tail [6, 19, 26, 34] j2_limbs_Pow
def j3_limbs_Pow : IR :=
 (.seq (.reg 5 [⟨some 19, .lit 27 1 [(.c (Value.int IntKind.u32 1))], none, []⟩,
  ⟨some 6, .assign (.t 19), none, []⟩] none [0, 1, 6, 19, 26, 34])
 (.seq (.seq (.reg 6 [⟨some 7, .assign (.c (Value.int IntKind.i64 16)), none, []⟩] none [0, 1, 6, 7, 19, 26, 34])
 (.block 0 l0_limbs_Pow))
 k2_limbs_Pow))
def k3_limbs_Pow : IR := .tail [0, 1] j3_limbs_Pow
def j4_limbs_Pow : IR :=
 (.seq (.seq (.reg 3 [⟨some 14, .move (.t 0), none, []⟩,
  ⟨some 15, .call n_limbs_Len [(.t 14)] [27], none, [14]⟩,
  ⟨some 16, .move (.t 1), none, []⟩,
  ⟨some 17, .bin .mul 3 (.t 15) (.t 16) 3, none, [15, 16]⟩,
  ⟨some 18, .bin .gtr 3 (.t 17) (.c (Value.int IntKind.i64 65536)) 3, none, [17]⟩] none [0, 1, 18])
 (.cond [0, 1] (.t 18) (.seq (.reg 4 [⟨some 4, .assign (.nilS 1), none, []⟩,
  ⟨some 5, .assign (.c (Value.int IntKind.i64 3)), none, []⟩] none [4, 5, 6, 19, 26, 34, 35])
 .ret) .skip))
 k3_limbs_Pow)
def k4_limbs_Pow : IR := .tail [0, 1] j4_limbs_Pow
def b_limbs_Pow : IR :=
 (.seq (.reg 0 [⟨some 4, .assign (.nilS 1), none, [4]⟩,
  ⟨some 5, .assign (.c (Value.int IntKind.i64 0)), none, [5]⟩] none [0, 1])
 (.seq (.seq (.reg 1 [⟨some 8, .move (.t 1), none, []⟩,
  ⟨some 9, .bin .lss 3 (.t 8) (.c (Value.int IntKind.i64 0)) 3, none, [8]⟩,
  ⟨some 10, .move (.t 9), none, [9]⟩,
  ⟨some 11, .move (.t 1), some (2, false), []⟩,
  ⟨some 12, .bin .gtr 3 (.t 11) (.c (Value.int IntKind.i64 65536)) 3, some (2, false), [11]⟩,
  ⟨some 13, .pick (.t 10) (.c (Value.bool true)) (.t 12), none, [10, 12]⟩] none [0, 1, 13])
 (.cond [0, 1] (.t 13) (.seq (.reg 2 [⟨some 4, .assign (.nilS 1), none, []⟩,
  ⟨some 5, .assign (.c (Value.int IntKind.i64 2)), none, []⟩] none [4, 5, 6, 19, 26, 34, 35])
 .ret) .skip))
 k4_limbs_Pow))
def a_limbs_Pow : AFunc := ⟨36, [.tmp 4, .tmp 5], b_limbs_Pow⟩

def j0_limbs_up : IR :=
 (.reg 12 [⟨some 43, .bin .add 3 (.t 25) (.c (Value.int IntKind.i64 1)) 3, none, []⟩,
  ⟨some 25, .move (.t 43), none, [43]⟩] none [0, 1, 5, 6, 10, 22, 23, 24, 25, 40])
def k0_limbs_up : IR := .tail [0, 1, 5, 6, 10, 22, 23, 24, 25, 40] j0_limbs_up
def j1_limbs_up : IR :=
 (.seq (.block 1 (.seq (.reg 8 [⟨some 27, .iaddr 27 (.sl 1) (.t 23) (.t 25), none, []⟩,
  ⟨some 28, .load 35 none (.t 27), none, [27]⟩,
  ⟨some 8, .assign (.t 28), none, [28]⟩] none [0, 1, 5, 6, 8, 10, 22, 23, 24, 25, 40])
 (.seq (.reg 9 [⟨some 29, .move (.t 6), none, []⟩,
  ⟨some 30, .move (.t 8), none, [8]⟩,
  ⟨some 31, .conv 35 29 (.int .u64) (.t 30), none, [30]⟩,
  ⟨some 32, .move (.t 1), none, []⟩,
  ⟨some 33, .bin .rem 3 (.t 32) (.c (Value.int IntKind.i64 32)) 3, none, [32]⟩,
  ⟨some 34, .bin .shl 29 (.t 31) (.t 33) 3, none, [31, 33]⟩,
  ⟨some 35, .bin .or 29 (.t 29) (.t 34) 29, none, [29, 34]⟩,
  ⟨some 6, .assign (.t 35), none, [35]⟩] none [0, 1, 5, 6, 10, 22, 23, 24, 25, 40])
 (.seq (.reg 10 [⟨some 36, .move (.t 5), none, []⟩,
  ⟨some 37, .move (.t 6), none, []⟩,
  ⟨some 38, .call n_limbs_low [(.t 37)] [29], none, [37]⟩,
  ⟨some 39, .lit 27 1 [(.t 38)], none, [38]⟩,
  ⟨some 40, .append 27 27 false 1 4 (.t 36) (.t 39), none, [36, 39]⟩,
  ⟨some 5, .assign (.t 40), none, []⟩] none [0, 1, 5, 6, 10, 22, 23, 24, 25, 40])
 (.reg 11 [⟨some 41, .move (.t 6), none, []⟩,
  ⟨some 42, .call n_limbs_high [(.t 41)] [29], none, [41]⟩,
  ⟨some 6, .assign (.t 42), none, [42]⟩] none [0, 1, 5, 6, 10, 22, 23, 24, 25, 40])))))
 k0_limbs_up)
def k1_limbs_up : IR := .tail [0, 1, 5, 6, 10, 22, 23, 24, 25, 40] j1_limbs_up
def w0_limbs_up : IR :=
 (.seq (.reg 7 [⟨some 26, .bin .lss 3 (.t 25) (.t 24) 3, none, []⟩] none [0, 1, 5, 6, 10, 22, 23, 24, 25, 26, 40])
 (.seq (.cond [0, 1, 5, 6, 10, 22, 23, 24, 25, 40] (.t 26) .skip (.exit 0))
 k1_limbs_up))
def l0_limbs_up : IR := .loop [0, 1, 5, 6, 10, 22, 23, 24, 25, 40] w0_limbs_up
def j2_limbs_up : IR :=
 (.seq (.reg 13 [⟨some 44, .move (.t 5), none, []⟩,
  ⟨some 45, .move (.t 6), none, [6]⟩,
  ⟨some 46, .conv 29 35 (.int .u32) (.t 45), none, [45]⟩,
  ⟨some 47, .lit 27 1 [(.t 46)], none, [46]⟩,
  ⟨some 48, .append 27 27 false 1 4 (.t 44) (.t 47), none, [5, 22, 40, 44, 47]⟩,
  ⟨some 49, .call n_limbs_trim [(.t 48)] [27], none, [48]⟩,
  ⟨some 4, .assign (.t 49), none, []⟩] none [4, 49])
 .ret)
def k2_limbs_up : IR := .tail [5, 6, 22, 40] j2_limbs_up
def j3_limbs_up : IR :=
 (.seq (.reg 4 [⟨some 14, .move (.t 1), none, []⟩,
  ⟨some 15, .bin .quo 3 (.t 14) (.c (Value.int IntKind.i64 32)) 3, none, [14]⟩,
  ⟨some 16, .move (.t 1), none, []⟩,
  ⟨some 17, .bin .quo 3 (.t 16) (.c (Value.int IntKind.i64 32)) 3, none, [16]⟩,
  ⟨some 18, .move (.t 0), none, []⟩,
  ⟨some 19, .len 27 false (.t 18), none, [18]⟩,
  ⟨some 20, .bin .add 3 (.t 17) (.t 19) 3, none, [17, 19]⟩,
  ⟨some 21, .bin .add 3 (.t 20) (.c (Value.int IntKind.i64 1)) 3, none, [20]⟩,
  ⟨some 22, .mk 27 1 4 (.v (.int .u32 0)) (.t 15) (.t 21), none, [15, 21]⟩,
  ⟨some 5, .assign (.t 22), none, []⟩] none [0, 1, 5, 10, 22, 40])
 (.seq (.reg 5 [⟨some 6, .assign (.c (Value.int IntKind.u64 0)), none, []⟩] none [0, 1, 5, 6, 10, 22, 40])
 (.seq (.seq (.reg 6 [⟨some 23, .move (.t 0), none, []⟩,
  ⟨some 24, .len 27 false (.t 23), none, []⟩,
  ⟨some 25, .move (.c (Value.int IntKind.i64 0)), none, []⟩] none [0, 1, 5, 6, 10, 22, 23, 24, 25, 40])
 (.block 0 l0_limbs_up))
 k2_limbs_up)))
def k3_limbs_up : IR := .tail [0, 1, 10] j3_limbs_up
def b_limbs_up : IR :=
 (.seq (.reg 0 [⟨some 4, .assign (.nilS 1), none, [4]⟩] none [0, 1, 10])
 (.seq (.reg 1 [⟨some 9, .move (.t 0), none, []⟩,
  ⟨some 10, .call n_limbs_trim [(.t 9)] [27], none, [9]⟩,
  ⟨some 0, .assign (.t 10), none, []⟩] none [0, 1, 10])
 (.seq (.seq (.reg 2 [⟨some 11, .move (.t 0), none, []⟩,
  ⟨some 12, .len 27 false (.t 11), none, [11]⟩,
  ⟨some 13, .bin .eql 3 (.t 12) (.c (Value.int IntKind.i64 0)) 3, none, [12]⟩] none [0, 1, 10, 13])
 (.cond [0, 1, 10] (.t 13) (.seq (.reg 3 [⟨some 4, .assign (.nilS 1), none, []⟩] none [4, 49])
 .ret) .skip))
 k3_limbs_up)))
def a_limbs_up : AFunc := ⟨50, [.tmp 4], b_limbs_up⟩

def j0_limbs_Up : IR :=
 (.seq (.reg 3 [⟨some 12, .move (.t 0), none, []⟩,
  ⟨some 13, .move (.t 1), none, [1]⟩,
  ⟨some 14, .call n_limbs_up [(.t 12), (.t 13)] [27, 3], none, [0, 12, 13]⟩,
  ⟨some 4, .assign (.t 14), none, []⟩,
  ⟨some 5, .assign (.c (Value.int IntKind.i64 0)), none, []⟩] none [4, 5, 14])
 .ret)
def k0_limbs_Up : IR := .tail [0, 1] j0_limbs_Up
def b_limbs_Up : IR :=
 (.seq (.reg 0 [⟨some 4, .assign (.nilS 1), none, [4]⟩,
  ⟨some 5, .assign (.c (Value.int IntKind.i64 0)), none, [5]⟩] none [0, 1])
 (.seq (.seq (.reg 1 [⟨some 6, .move (.t 1), none, []⟩,
  ⟨some 7, .bin .lss 3 (.t 6) (.c (Value.int IntKind.i64 0)) 3, none, [6]⟩,
  ⟨some 8, .move (.t 7), none, [7]⟩,
  ⟨some 9, .move (.t 1), some (2, false), []⟩,
  ⟨some 10, .bin .gtr 3 (.t 9) (.c (Value.int IntKind.i64 1048576)) 3, some (2, false), [9]⟩,
  ⟨some 11, .pick (.t 8) (.c (Value.bool true)) (.t 10), none, [8, 10]⟩] none [0, 1, 11])
 (.cond [0, 1] (.t 11) (.seq (.reg 2 [⟨some 4, .assign (.nilS 1), none, []⟩,
  ⟨some 5, .assign (.c (Value.int IntKind.i64 2)), none, []⟩] none [4, 5, 14])
 .ret) .skip))
 k0_limbs_Up))
def a_limbs_Up : AFunc := ⟨15, [.tmp 4, .tmp 5], b_limbs_Up⟩

def j0_limbs_Add : IR :=
 (.seq (.reg 11 [⟨some 42, .move (.t 5), none, []⟩,
  ⟨some 43, .move (.t 6), none, []⟩,
  ⟨some 44, .call n_limbs_low [(.t 43)] [29], none, [43]⟩,
  ⟨some 45, .lit 27 1 [(.t 44)], none, [44]⟩,
  ⟨some 46, .append 27 27 false 1 4 (.t 42) (.t 45), none, [42, 45]⟩,
  ⟨some 5, .assign (.t 46), none, []⟩] none [0, 1, 5, 6, 13, 14, 18, 20, 21, 46])
 (.reg 12 [⟨some 47, .move (.t 6), none, []⟩,
  ⟨some 48, .call n_limbs_high [(.t 47)] [29], none, [47]⟩,
  ⟨some 6, .assign (.t 48), none, [48]⟩] none [0, 1, 5, 6, 13, 14, 18, 20, 21, 46]))
def k0_limbs_Add : IR := .tail [0, 1, 5, 6, 13, 14, 18, 20, 21, 46] j0_limbs_Add
def j1_limbs_Add : IR :=
 (.reg 13 [⟨some 49, .bin .add 3 (.t 21) (.c (Value.int IntKind.i64 1)) 3, none, []⟩,
  ⟨some 21, .move (.t 49), none, [49]⟩] none [0, 1, 5, 6, 13, 14, 18, 20, 21, 46])
def k1_limbs_Add : IR := .tail [0, 1, 5, 6, 13, 14, 18, 20, 21, 46] j1_limbs_Add
def j2_limbs_Add : IR :=
 (.seq (.block 1 (.seq (.reg 7 [⟨some 23, .move (.t 21), none, []⟩,
  ⟨some 7, .assign (.t 23), none, [23]⟩] none [0, 1, 5, 6, 7, 13, 14, 18, 20, 21, 46])
 (.seq (.reg 8 [⟨some 24, .move (.t 6), none, []⟩,
  ⟨some 25, .move (.t 0), none, []⟩,
  ⟨some 26, .move (.t 7), none, []⟩,
  ⟨some 27, .iaddr 27 (.sl 1) (.t 25) (.t 26), none, []⟩,
  ⟨some 28, .load 35 none (.t 27), none, [25, 26, 27]⟩,
  ⟨some 29, .conv 35 29 (.int .u64) (.t 28), none, [28]⟩,
  ⟨some 30, .bin .add 29 (.t 24) (.t 29) 29, none, [24, 29]⟩,
  ⟨some 6, .assign (.t 30), none, [30]⟩] none [0, 1, 5, 6, 7, 13, 14, 18, 20, 21, 46])
 (.seq (.seq (.reg 9 [⟨some 31, .move (.t 7), none, []⟩,
  ⟨some 32, .move (.t 1), none, []⟩,
  ⟨some 33, .len 27 false (.t 32), none, [32]⟩,
  ⟨some 34, .bin .lss 3 (.t 31) (.t 33) 3, none, [31, 33]⟩] none [0, 1, 5, 6, 7, 13, 14, 18, 20, 21, 34, 46])
 (.cond [0, 1, 5, 6, 7, 13, 14, 18, 20, 21, 46] (.t 34) (.reg 10 [⟨some 35, .move (.t 6), none, []⟩,
  ⟨some 36, .move (.t 1), none, []⟩,
  ⟨some 37, .move (.t 7), none, [7]⟩,
  ⟨some 38, .iaddr 27 (.sl 1) (.t 36) (.t 37), none, []⟩,
  ⟨some 39, .load 35 none (.t 38), none, [36, 37, 38]⟩,
  ⟨some 40, .conv 35 29 (.int .u64) (.t 39), none, [39]⟩,
  ⟨some 41, .bin .add 29 (.t 35) (.t 40) 29, none, [35, 40]⟩,
  ⟨some 6, .assign (.t 41), none, [41]⟩] none [0, 1, 5, 6, 13, 14, 18, 20, 21, 46]) .skip))
 k0_limbs_Add))))
 k1_limbs_Add)
def k2_limbs_Add : IR := .tail [0, 1, 5, 6, 13, 14, 18, 20, 21, 46] j2_limbs_Add
def w0_limbs_Add : IR :=
 (.seq (.reg 6 [⟨some 22, .bin .lss 3 (.t 21) (.t 20) 3, none, []⟩] none [0, 1, 5, 6, 13, 14, 18, 20, 21, 22, 46])
 (.seq (.cond [0, 1, 5, 6, 13, 14, 18, 20, 21, 46] (.t 22) .skip (.exit 0))
 k2_limbs_Add))
def l0_limbs_Add : IR := .loop [0, 1, 5, 6, 13, 14, 18, 20, 21, 46] w0_limbs_Add
def j3_limbs_Add : IR :=
 (.seq (.reg 14 [⟨some 50, .move (.t 5), none, []⟩,
  ⟨some 51, .move (.t 6), none, [6]⟩,
  ⟨some 52, .conv 29 35 (.int .u32) (.t 51), none, [51]⟩,
  ⟨some 53, .lit 27 1 [(.t 52)], none, [52]⟩,
  ⟨some 54, .append 27 27 false 1 4 (.t 50) (.t 53), none, [5, 18, 46, 50, 53]⟩,
  ⟨some 55, .call n_limbs_trim [(.t 54)] [27], none, [54]⟩,
  ⟨some 4, .assign (.t 55), none, []⟩] none [4, 55])
 .ret)
def k3_limbs_Add : IR := .tail [5, 6, 18, 46] j3_limbs_Add
def j4_limbs_Add : IR :=
 (.seq (.reg 3 [⟨some 15, .move (.t 0), none, []⟩,
  ⟨some 16, .len 27 false (.t 15), none, [15]⟩,
  ⟨some 17, .bin .add 3 (.t 16) (.c (Value.int IntKind.i64 1)) 3, none, [16]⟩,
  ⟨some 18, .mk 27 1 4 (.v (.int .u32 0)) (.c (Value.int IntKind.i64 0)) (.t 17), none, [17]⟩,
  ⟨some 5, .assign (.t 18), none, []⟩] none [0, 1, 5, 13, 14, 18, 46])
 (.seq (.reg 4 [⟨some 6, .assign (.c (Value.int IntKind.u64 0)), none, []⟩] none [0, 1, 5, 6, 13, 14, 18, 46])
 (.seq (.seq (.reg 5 [⟨some 19, .move (.t 0), none, []⟩,
  ⟨some 20, .len 27 false (.t 19), none, [19]⟩,
  ⟨some 21, .move (.c (Value.int IntKind.i64 0)), none, []⟩] none [0, 1, 5, 6, 13, 14, 18, 20, 21, 46])
 (.block 0 l0_limbs_Add))
 k3_limbs_Add)))
def k4_limbs_Add : IR := .tail [0, 1, 13, 14] j4_limbs_Add
def b_limbs_Add : IR :=
 (.seq (.reg 0 [⟨some 4, .assign (.nilS 1), none, [4]⟩] none [0, 1, 13, 14])
 (.seq (.seq (.reg 1 [⟨some 8, .move (.t 0), none, []⟩,
  ⟨some 9, .len 27 false (.t 8), none, [8]⟩,
  ⟨some 10, .move (.t 1), none, []⟩,
  ⟨some 11, .len 27 false (.t 10), none, [10]⟩,
  ⟨some 12, .bin .lss 3 (.t 9) (.t 11) 3, none, [9, 11]⟩] none [0, 1, 12, 13, 14])
 (.cond [0, 1, 13, 14] (.t 12) (.reg 2 [⟨some 13, .move (.t 1), none, []⟩,
  ⟨some 14, .move (.t 0), none, []⟩,
  ⟨some 0, .assign (.t 13), none, []⟩,
  ⟨some 1, .assign (.t 14), none, []⟩] none [0, 1, 13, 14]) .skip))
 k4_limbs_Add))
def a_limbs_Add : AFunc := ⟨56, [.tmp 4], b_limbs_Add⟩

def j0_floats_value : IR :=
 (.seq (.reg 5 [⟨some 16, .move (.t 0), none, [0]⟩,
  ⟨some 17, .bin .sub 5 (.t 16) (.c (Value.int IntKind.u8 65)) 5, none, [16]⟩,
  ⟨some 18, .conv 5 3 (.int .i64) (.t 17), none, [17]⟩,
  ⟨some 19, .bin .add 3 (.t 18) (.c (Value.int IntKind.i64 10)) 3, none, [18]⟩,
  ⟨some 2, .assign (.t 19), none, [19]⟩] none [2])
 .ret)
def k0_floats_value : IR := .tail [0] j0_floats_value
def b_floats_value : IR :=
 (.seq (.reg 0 [⟨some 2, .assign (.c (Value.int IntKind.i64 0)), none, [2]⟩] none [0])
 (.seq (.block 0 (.seq (.reg 1 [⟨some 4, .move (.t 0), none, []⟩,
  ⟨some 5, .bin .leq 5 (.t 4) (.c (Value.int IntKind.u8 57)) 5, none, [4]⟩,
  ⟨some 3, .assign (.t 5), none, [5]⟩] none [0, 3])
 (.cond [0] (.t 3) (.seq (.reg 2 [⟨some 6, .move (.t 0), none, [0]⟩,
  ⟨some 7, .bin .sub 5 (.t 6) (.c (Value.int IntKind.u8 48)) 5, none, [6]⟩,
  ⟨some 8, .conv 5 3 (.int .i64) (.t 7), none, [7]⟩,
  ⟨some 2, .assign (.t 8), none, [8]⟩] none [2])
 .ret) (.seq (.reg 3 [⟨some 10, .move (.t 0), none, []⟩,
  ⟨some 11, .bin .geq 5 (.t 10) (.c (Value.int IntKind.u8 97)) 5, none, [10]⟩,
  ⟨some 9, .assign (.t 11), none, [11]⟩] none [0, 9])
 (.cond [0] (.t 9) (.seq (.reg 4 [⟨some 12, .move (.t 0), none, [0]⟩,
  ⟨some 13, .bin .sub 5 (.t 12) (.c (Value.int IntKind.u8 97)) 5, none, [12]⟩,
  ⟨some 14, .conv 5 3 (.int .i64) (.t 13), none, [13]⟩,
  ⟨some 15, .bin .add 3 (.t 14) (.c (Value.int IntKind.i64 10)) 3, none, [14]⟩,
  ⟨some 2, .assign (.t 15), none, [15]⟩] none [2])
 .ret) .skip)))))
 k0_floats_value))
def a_floats_value : AFunc := ⟨20, [.tmp 2], b_floats_value⟩

def j0_floats_power : IR :=
 (.reg 8 [⟨some 32, .bin .add 3 (.t 16) (.c (Value.int IntKind.i64 1)) 3, none, []⟩,
  ⟨some 16, .move (.t 32), none, [32]⟩] none [0, 3, 4, 15, 16])
def k0_floats_power : IR := .tail [0, 3, 4, 15, 16] j0_floats_power
def j1_floats_power : IR :=
 (.seq (.block 1 (.seq (.reg 5 [⟨some 18, .move (.t 16), none, []⟩,
  ⟨some 5, .assign (.t 18), none, [18]⟩] none [0, 3, 4, 5, 15, 16])
 (.seq (.reg 6 [⟨some 19, .move (.t 0), none, []⟩,
  ⟨some 20, .move (.t 5), none, []⟩,
  ⟨some 21, .index 9 .str none (.t 19) (.t 20), none, [19, 20]⟩,
  ⟨some 22, .bin .neq 5 (.t 21) (.c (Value.int IntKind.u8 45)) 5, none, [21]⟩] none [0, 3, 4, 5, 15, 16, 22])
 (.cond [0, 3, 4, 5, 15, 16] (.t 22) (.reg 7 [⟨some 23, .move (.t 4), none, []⟩,
  ⟨some 24, .bin .mul 3 (.c (Value.int IntKind.i64 10)) (.t 23) 3, none, [23]⟩,
  ⟨some 25, .move (.t 0), none, []⟩,
  ⟨some 26, .move (.t 5), none, [5]⟩,
  ⟨some 27, .index 9 .str none (.t 25) (.t 26), none, [25, 26]⟩,
  ⟨some 28, .bin .sub 5 (.t 27) (.c (Value.int IntKind.u8 48)) 5, none, [27]⟩,
  ⟨some 29, .conv 5 3 (.int .i64) (.t 28), none, [28]⟩,
  ⟨some 30, .bin .add 3 (.t 24) (.t 29) 3, none, [24, 29]⟩,
  ⟨some 31, .minmax false [3, 3] (.t 30) (.c (Value.int IntKind.i64 100000)), none, [30]⟩,
  ⟨some 4, .assign (.t 31), none, [31]⟩] none [0, 3, 4, 15, 16]) .skip))))
 k0_floats_power)
def k1_floats_power : IR := .tail [0, 3, 4, 15, 16] j1_floats_power
def w0_floats_power : IR :=
 (.seq (.reg 4 [⟨some 17, .bin .lss 3 (.t 16) (.t 15) 3, none, []⟩] none [0, 3, 4, 15, 16, 17])
 (.seq (.cond [0, 3, 4, 15, 16] (.t 17) .skip (.exit 0))
 k1_floats_power))
def l0_floats_power : IR := .loop [0, 3, 4, 15, 16] w0_floats_power
def j2_floats_power : IR :=
 (.seq (.reg 11 [⟨some 36, .move (.t 4), none, [4]⟩,
  ⟨some 2, .assign (.t 36), none, [36]⟩] none [2])
 .ret)
def k2_floats_power : IR := .tail [4] j2_floats_power
def j3_floats_power : IR :=
 (.seq (.seq (.reg 9 [⟨some 33, .move (.t 3), none, [3]⟩] none [4, 33])
 (.cond [4] (.t 33) (.seq (.reg 10 [⟨some 34, .move (.t 4), none, [4]⟩,
  ⟨some 35, .un .neg 3 (.t 34), none, [34]⟩,
  ⟨some 2, .assign (.t 35), none, [35]⟩] none [2])
 .ret) .skip))
 k2_floats_power)
def k3_floats_power : IR := .tail [3, 4] j3_floats_power
def b_floats_power : IR :=
 (.seq (.reg 0 [⟨some 2, .assign (.c (Value.int IntKind.i64 0)), none, [2]⟩] none [0])
 (.seq (.reg 1 [⟨some 6, .move (.t 0), none, []⟩,
  ⟨some 7, .len 9 true (.t 6), none, [6]⟩,
  ⟨some 8, .bin .gtr 3 (.t 7) (.c (Value.int IntKind.i64 0)) 3, none, [7]⟩,
  ⟨some 9, .move (.t 8), none, [8]⟩,
  ⟨some 10, .move (.t 0), some (3, true), []⟩,
  ⟨some 11, .index 9 .str none (.t 10) (.c (Value.int IntKind.i64 0)), some (3, true), [10]⟩,
  ⟨some 12, .bin .eql 5 (.t 11) (.c (Value.int IntKind.u8 45)) 5, some (3, true), [11]⟩,
  ⟨some 13, .pick (.t 9) (.t 12) (.c (Value.bool false)), none, [9, 12]⟩,
  ⟨some 3, .assign (.t 13), none, [13]⟩] none [0, 3])
 (.seq (.reg 2 [⟨some 4, .assign (.c (Value.int IntKind.i64 0)), none, []⟩] none [0, 3, 4])
 (.seq (.seq (.reg 3 [⟨some 14, .move (.t 0), none, []⟩,
  ⟨some 15, .len 9 true (.t 14), none, [14]⟩,
  ⟨some 16, .move (.c (Value.int IntKind.i64 0)), none, []⟩] none [0, 3, 4, 15, 16])
 (.block 0 l0_floats_power))
 k3_floats_power))))
def a_floats_power : AFunc := ⟨37, [.tmp 2], b_floats_power⟩

def j0_floats_text_quotient : IR :=
 (.reg 9 [⟨some 45, .bin .add 3 (.t 28) (.c (Value.int IntKind.i64 1)) 3, none, []⟩,
  ⟨some 28, .move (.t 45), none, [45]⟩] none [1, 6, 7, 22, 27, 28, 31, 33, 34, 44, 73, 76, 77])
def k0_floats_text_quotient : IR := .tail [1, 6, 7, 22, 27, 28, 31, 33, 34, 44, 73, 76, 77] j0_floats_text_quotient
def j1_floats_text_quotient : IR :=
 (.seq (.block 1 (.seq (.reg 6 [⟨some 30, .move (.t 28), none, []⟩,
  ⟨some 8, .assign (.t 30), none, [30]⟩] none [1, 6, 7, 8, 22, 27, 28, 31, 33, 34, 44, 73, 76, 77])
 (.seq (.reg 7 [⟨some 32, .move (.t 7), none, []⟩,
  ⟨some 33, .call n_limbs_Up [(.t 32), (.c (Value.int IntKind.i64 4))] [27, 3], none, [32]⟩,
  ⟨some 31, .move (.t 33), none, []⟩,
  ⟨some 34, .extr (.t 31) 0, none, []⟩,
  ⟨some 35, .extr (.t 31) 1, none, [35]⟩,
  ⟨some 7, .assign (.t 34), none, []⟩] none [1, 6, 7, 8, 22, 27, 28, 31, 33, 34, 44, 73, 76, 77])
 (.reg 8 [⟨some 36, .move (.t 7), none, []⟩,
  ⟨some 37, .faddr 44 (.t 1) 3 3, none, []⟩,
  ⟨some 38, .load 9 none (.t 37), none, [37]⟩,
  ⟨some 39, .move (.t 8), none, [8]⟩,
  ⟨some 40, .index 9 .str none (.t 38) (.t 39), none, [38, 39]⟩,
  ⟨some 41, .call n_floats_value [(.t 40)] [5], none, [40]⟩,
  ⟨some 42, .conv 3 29 (.int .u64) (.t 41), none, [41]⟩,
  ⟨some 43, .call n_limbs_From [(.t 42)] [29], none, [42]⟩,
  ⟨some 44, .call n_limbs_Add [(.t 36), (.t 43)] [27, 27], none, [36, 43]⟩,
  ⟨some 7, .assign (.t 44), none, []⟩] none [1, 6, 7, 22, 27, 28, 31, 33, 34, 44, 73, 76, 77]))))
 k0_floats_text_quotient)
def k1_floats_text_quotient : IR := .tail [1, 6, 7, 22, 27, 28, 31, 33, 34, 44, 73, 76, 77] j1_floats_text_quotient
def w0_floats_text_quotient : IR :=
 (.seq (.reg 5 [⟨some 29, .bin .lss 3 (.t 28) (.t 27) 3, none, []⟩] none [1, 6, 7, 22, 27, 28, 29, 31, 33, 34, 44, 73, 76, 77])
 (.seq (.cond [1, 6, 7, 22, 27, 28, 31, 33, 34, 44, 73, 76, 77] (.t 29) .skip (.exit 0))
 k1_floats_text_quotient))
def l0_floats_text_quotient : IR := .loop [1, 6, 7, 22, 27, 28, 31, 33, 34, 44, 73, 76, 77] w0_floats_text_quotient
def j2_floats_text_quotient : IR :=
 (.seq (.reg 21 [⟨some 82, .move (.t 6), none, []⟩,
  ⟨some 83, .move (.t 9), none, [9]⟩,
  ⟨some 84, .un .neg 3 (.t 83), none, [83]⟩,
  ⟨some 85, .call n_limbs_Up [(.t 82), (.t 84)] [27, 3], none, [6, 22, 82, 84]⟩,
  ⟨some 81, .move (.t 85), none, []⟩,
  ⟨some 86, .extr (.t 81) 0, none, []⟩,
  ⟨some 87, .extr (.t 81) 1, none, []⟩,
  ⟨some 11, .assign (.t 86), none, []⟩,
  ⟨some 12, .assign (.t 87), none, [12, 87]⟩] none [7, 11, 31, 33, 34, 44, 73, 76, 77, 81, 85, 86])
 (.seq (.reg 22 [⟨some 88, .move (.t 7), none, []⟩,
  ⟨some 89, .move (.t 11), none, []⟩,
  ⟨some 2, .assign (.t 88), none, []⟩,
  ⟨some 3, .assign (.t 89), none, []⟩,
  ⟨some 4, .assign (.c (Value.bool false)), none, []⟩,
  ⟨some 5, .assign (.c (Value.bool false)), none, []⟩] none [2, 3, 4, 5, 6, 7, 11, 13, 20, 22, 31, 33, 34, 44, 61, 65, 69, 73, 76, 77, 79, 80, 81, 85, 86, 88, 89, 90, 93, 94, 112, 116, 120, 132, 133, 134, 138, 139, 141, 142])
 .ret))
def k2_floats_text_quotient : IR := .tail [6, 7, 9, 22, 31, 33, 34, 44, 73, 76, 77] j2_floats_text_quotient
def j3_floats_text_quotient : IR :=
 (.seq (.reg 10 [⟨some 46, .faddr 44 (.t 1) 6 6, none, []⟩,
  ⟨some 47, .load 9 none (.t 46), none, [46]⟩,
  ⟨some 48, .call n_floats_power [(.t 47)] [9], none, [1, 47, 49]⟩,
  ⟨some 49, .faddr 44 (.t 1) 5 5, none, []⟩,
  ⟨some 50, .load 3 none (.t 49), none, []⟩,
  ⟨some 51, .bin .mul 3 (.c (Value.int IntKind.i64 4)) (.t 50) 3, none, [50]⟩,
  ⟨some 52, .bin .sub 3 (.t 48) (.t 51) 3, none, [48, 51]⟩,
  ⟨some 9, .assign (.t 52), none, [52]⟩] (some (.cons ⟨0, []⟩ (.cons ⟨3, []⟩ (.cons ⟨1, []⟩ (.cons ⟨4, []⟩ (.cons ⟨5, []⟩ (.cons ⟨2, [4]⟩ (.cons ⟨6, []⟩ (.cons ⟨7, []⟩ .nil))))))))) [6, 7, 9, 22, 31, 33, 34, 44, 73, 76, 77])
 (.seq (.seq (.reg 11 [⟨some 53, .move (.t 7), none, []⟩,
  ⟨some 54, .call n_limbs_Len [(.t 53)] [27], none, [53]⟩,
  ⟨some 55, .move (.t 9), none, []⟩,
  ⟨some 56, .bin .add 3 (.t 54) (.t 55) 3, none, [54, 55]⟩,
  ⟨some 10, .assign (.t 56), none, [56]⟩] none [6, 7, 9, 10, 22, 31, 33, 34, 44, 73, 76, 77])
 (.block 2 (.seq (.reg 12 [⟨some 58, .move (.t 7), none, []⟩,
  ⟨some 59, .call n_limbs_Len [(.t 58)] [27], none, [58]⟩,
  ⟨some 60, .bin .eql 3 (.t 59) (.c (Value.int IntKind.i64 0)) 3, none, [59]⟩,
  ⟨some 57, .assign (.t 60), none, [60]⟩] none [6, 7, 9, 10, 22, 31, 33, 34, 44, 57, 73, 76, 77])
 (.cond [6, 7, 9, 10, 22, 31, 33, 34, 44, 73, 76, 77] (.t 57) (.seq (.reg 13 [⟨some 61, .move (.t 6), none, []⟩,
  ⟨some 2, .assign (.nilS 1), none, []⟩,
  ⟨some 3, .assign (.t 61), none, []⟩,
  ⟨some 4, .assign (.c (Value.bool false)), none, []⟩,
  ⟨some 5, .assign (.c (Value.bool false)), none, []⟩] none [2, 3, 4, 5, 6, 7, 11, 13, 20, 22, 31, 33, 34, 44, 61, 65, 69, 73, 76, 77, 79, 80, 81, 85, 86, 88, 89, 90, 93, 94, 112, 116, 120, 132, 133, 134, 138, 139, 141, 142])
 .ret) (.seq (.reg 14 [⟨some 63, .move (.t 10), none, []⟩,
  ⟨some 64, .bin .gtr 3 (.t 63) (.c (Value.int IntKind.i64 2000)) 3, none, [63]⟩,
  ⟨some 62, .assign (.t 64), none, [64]⟩] none [6, 7, 9, 10, 22, 31, 33, 34, 44, 62, 73, 76, 77])
 (.cond [6, 7, 9, 10, 22, 31, 33, 34, 44, 73, 76, 77] (.t 62) (.seq (.reg 15 [⟨some 65, .move (.t 6), none, []⟩,
  ⟨some 2, .assign (.nilS 1), none, []⟩,
  ⟨some 3, .assign (.t 65), none, []⟩,
  ⟨some 4, .assign (.c (Value.bool true)), none, []⟩,
  ⟨some 5, .assign (.c (Value.bool false)), none, []⟩] none [2, 3, 4, 5, 6, 7, 11, 13, 20, 22, 31, 33, 34, 44, 61, 65, 69, 73, 76, 77, 79, 80, 81, 85, 86, 88, 89, 90, 93, 94, 112, 116, 120, 132, 133, 134, 138, 139, 141, 142])
 .ret) (.seq (.reg 16 [⟨some 67, .move (.t 10), none, [10]⟩,
  ⟨some 68, .bin .lss 3 (.t 67) (.c (Value.int IntKind.i64 (-2000))) 3, none, [67]⟩,
  ⟨some 66, .assign (.t 68), none, [68]⟩] none [6, 7, 9, 22, 31, 33, 34, 44, 66, 73, 76, 77])
 (.cond [6, 7, 9, 22, 31, 33, 34, 44, 73, 76, 77] (.t 66) (.seq (.reg 17 [⟨some 69, .move (.t 6), none, []⟩,
  ⟨some 2, .assign (.nilS 1), none, []⟩,
  ⟨some 3, .assign (.t 69), none, []⟩,
  ⟨some 4, .assign (.c (Value.bool false)), none, []⟩,
  ⟨some 5, .assign (.c (Value.bool true)), none, []⟩] none [2, 3, 4, 5, 6, 7, 11, 13, 20, 22, 31, 33, 34, 44, 61, 65, 69, 73, 76, 77, 79, 80, 81, 85, 86, 88, 89, 90, 93, 94, 112, 116, 120, 132, 133, 134, 138, 139, 141, 142])
 .ret) (.seq (.reg 18 [⟨some 71, .move (.t 9), none, []⟩,
  ⟨some 72, .bin .geq 3 (.t 71) (.c (Value.int IntKind.i64 0)) 3, none, [71]⟩,
  ⟨some 70, .assign (.t 72), none, [72]⟩] none [6, 7, 9, 22, 31, 33, 34, 44, 70, 73, 76, 77])
 (.cond [6, 7, 9, 22, 31, 33, 34, 44, 73, 76, 77] (.t 70) (.seq (.reg 19 [⟨some 74, .move (.t 7), none, []⟩,
  ⟨some 75, .move (.t 9), none, [9]⟩,
  ⟨some 76, .call n_limbs_Up [(.t 74), (.t 75)] [27, 3], none, [74, 75]⟩,
  ⟨some 73, .move (.t 76), none, []⟩,
  ⟨some 77, .extr (.t 73) 0, none, []⟩,
  ⟨some 78, .extr (.t 73) 1, none, [78]⟩,
  ⟨some 7, .assign (.t 77), none, []⟩] none [6, 7, 22, 31, 33, 34, 44, 73, 76, 77])
 (.seq (.reg 20 [⟨some 79, .move (.t 7), none, []⟩,
  ⟨some 80, .move (.t 6), none, []⟩,
  ⟨some 2, .assign (.t 79), none, []⟩,
  ⟨some 3, .assign (.t 80), none, []⟩,
  ⟨some 4, .assign (.c (Value.bool false)), none, []⟩,
  ⟨some 5, .assign (.c (Value.bool false)), none, []⟩] none [2, 3, 4, 5, 6, 7, 11, 13, 20, 22, 31, 33, 34, 44, 61, 65, 69, 73, 76, 77, 79, 80, 81, 85, 86, 88, 89, 90, 93, 94, 112, 116, 120, 132, 133, 134, 138, 139, 141, 142])
 .ret)) .skip))))))))))
 k2_floats_text_quotient))
def k3_floats_text_quotient : IR := .tail [1, 6, 7, 22, 31, 33, 34, 44, 73, 76, 77] j3_floats_text_quotient
def j4_floats_text_quotient : IR :=
 (.seq (.reg 35 [⟨some 135, .lit 27 1 [(.c (Value.int IntKind.u32 10))], none, []⟩,
  ⟨some 136, .move (.t 16), none, [16]⟩,
  ⟨some 137, .un .neg 3 (.t 136), none, [136]⟩,
  ⟨some 138, .call n_limbs_Pow [(.t 135), (.t 137)] [27, 3], none, [135, 137]⟩,
  ⟨some 134, .move (.t 138), none, []⟩,
  ⟨some 139, .extr (.t 134) 0, none, []⟩,
  ⟨some 140, .extr (.t 134) 1, none, []⟩,
  ⟨some 20, .assign (.t 139), none, []⟩,
  ⟨some 21, .assign (.t 140), none, [21, 140]⟩] none [13, 20, 90, 93, 94, 134, 138, 139])
 (.seq (.reg 36 [⟨some 141, .move (.t 13), none, []⟩,
  ⟨some 142, .move (.t 20), none, []⟩,
  ⟨some 2, .assign (.t 141), none, []⟩,
  ⟨some 3, .assign (.t 142), none, []⟩,
  ⟨some 4, .assign (.c (Value.bool false)), none, []⟩,
  ⟨some 5, .assign (.c (Value.bool false)), none, []⟩] none [2, 3, 4, 5, 6, 7, 11, 13, 20, 22, 31, 33, 34, 44, 61, 65, 69, 73, 76, 77, 79, 80, 81, 85, 86, 88, 89, 90, 93, 94, 112, 116, 120, 132, 133, 134, 138, 139, 141, 142])
 .ret))
def k4_floats_text_quotient : IR := .tail [13, 16, 90, 93, 94] j4_floats_text_quotient
def j5_floats_text_quotient : IR :=
 (.seq (.reg 23 [⟨some 91, .faddr 44 (.t 1) 3 3, none, []⟩,
  ⟨some 92, .load 9 none (.t 91), none, [91]⟩,
  ⟨some 93, .call n_limbs_Read [(.t 92)] [9], none, [92]⟩,
  ⟨some 90, .move (.t 93), none, []⟩,
  ⟨some 94, .extr (.t 90) 0, none, []⟩,
  ⟨some 95, .extr (.t 90) 1, none, []⟩,
  ⟨some 96, .extr (.t 90) 2, none, []⟩,
  ⟨some 13, .assign (.t 94), none, []⟩,
  ⟨some 14, .assign (.t 95), none, [14, 95]⟩,
  ⟨some 15, .assign (.t 96), none, [15, 96]⟩] none [1, 6, 13, 22, 90, 93, 94])
 (.seq (.reg 24 [⟨some 97, .faddr 44 (.t 1) 6 6, none, []⟩,
  ⟨some 98, .load 9 none (.t 97), none, [97]⟩,
  ⟨some 99, .call n_floats_power [(.t 98)] [9], none, [1, 98, 100]⟩,
  ⟨some 100, .faddr 44 (.t 1) 5 5, none, []⟩,
  ⟨some 101, .load 3 none (.t 100), none, []⟩,
  ⟨some 102, .bin .sub 3 (.t 99) (.t 101) 3, none, [99, 101]⟩,
  ⟨some 16, .assign (.t 102), none, [102]⟩] (some (.cons ⟨0, []⟩ (.cons ⟨3, []⟩ (.cons ⟨1, []⟩ (.cons ⟨4, []⟩ (.cons ⟨2, [4]⟩ (.cons ⟨5, []⟩ (.cons ⟨6, []⟩ .nil)))))))) [6, 13, 16, 22, 90, 93, 94])
 (.seq (.seq (.reg 25 [⟨some 103, .move (.t 13), none, []⟩,
  ⟨some 104, .call n_limbs_Print [(.t 103)] [27], none, [103]⟩,
  ⟨some 105, .len 9 true (.t 104), none, [104]⟩,
  ⟨some 106, .move (.t 16), none, []⟩,
  ⟨some 107, .bin .add 3 (.t 105) (.t 106) 3, none, [105, 106]⟩,
  ⟨some 17, .assign (.t 107), none, [107]⟩] none [6, 13, 16, 17, 22, 90, 93, 94])
 (.block 3 (.seq (.reg 26 [⟨some 109, .move (.t 13), none, []⟩,
  ⟨some 110, .call n_limbs_Len [(.t 109)] [27], none, [109]⟩,
  ⟨some 111, .bin .eql 3 (.t 110) (.c (Value.int IntKind.i64 0)) 3, none, [110]⟩,
  ⟨some 108, .assign (.t 111), none, [111]⟩] none [6, 13, 16, 17, 22, 90, 93, 94, 108])
 (.cond [6, 13, 16, 17, 22, 90, 93, 94] (.t 108) (.seq (.reg 27 [⟨some 112, .move (.t 6), none, []⟩,
  ⟨some 2, .assign (.nilS 1), none, []⟩,
  ⟨some 3, .assign (.t 112), none, []⟩,
  ⟨some 4, .assign (.c (Value.bool false)), none, []⟩,
  ⟨some 5, .assign (.c (Value.bool false)), none, []⟩] none [2, 3, 4, 5, 6, 7, 11, 13, 20, 22, 31, 33, 34, 44, 61, 65, 69, 73, 76, 77, 79, 80, 81, 85, 86, 88, 89, 90, 93, 94, 112, 116, 120, 132, 133, 134, 138, 139, 141, 142])
 .ret) (.seq (.reg 28 [⟨some 114, .move (.t 17), none, []⟩,
  ⟨some 115, .bin .gtr 3 (.t 114) (.c (Value.int IntKind.i64 600)) 3, none, [114]⟩,
  ⟨some 113, .assign (.t 115), none, [115]⟩] none [6, 13, 16, 17, 22, 90, 93, 94, 113])
 (.cond [6, 13, 16, 17, 22, 90, 93, 94] (.t 113) (.seq (.reg 29 [⟨some 116, .move (.t 6), none, []⟩,
  ⟨some 2, .assign (.nilS 1), none, []⟩,
  ⟨some 3, .assign (.t 116), none, []⟩,
  ⟨some 4, .assign (.c (Value.bool true)), none, []⟩,
  ⟨some 5, .assign (.c (Value.bool false)), none, []⟩] none [2, 3, 4, 5, 6, 7, 11, 13, 20, 22, 31, 33, 34, 44, 61, 65, 69, 73, 76, 77, 79, 80, 81, 85, 86, 88, 89, 90, 93, 94, 112, 116, 120, 132, 133, 134, 138, 139, 141, 142])
 .ret) (.seq (.reg 30 [⟨some 118, .move (.t 17), none, [17]⟩,
  ⟨some 119, .bin .lss 3 (.t 118) (.c (Value.int IntKind.i64 (-600))) 3, none, [118]⟩,
  ⟨some 117, .assign (.t 119), none, [119]⟩] none [6, 13, 16, 22, 90, 93, 94, 117])
 (.cond [6, 13, 16, 22, 90, 93, 94] (.t 117) (.seq (.reg 31 [⟨some 120, .move (.t 6), none, []⟩,
  ⟨some 2, .assign (.nilS 1), none, []⟩,
  ⟨some 3, .assign (.t 120), none, []⟩,
  ⟨some 4, .assign (.c (Value.bool false)), none, []⟩,
  ⟨some 5, .assign (.c (Value.bool true)), none, []⟩] none [2, 3, 4, 5, 6, 7, 11, 13, 20, 22, 31, 33, 34, 44, 61, 65, 69, 73, 76, 77, 79, 80, 81, 85, 86, 88, 89, 90, 93, 94, 112, 116, 120, 132, 133, 134, 138, 139, 141, 142])
 .ret) (.seq (.reg 32 [⟨some 122, .move (.t 16), none, []⟩,
  ⟨some 123, .bin .geq 3 (.t 122) (.c (Value.int IntKind.i64 0)) 3, none, [122]⟩,
  ⟨some 121, .assign (.t 123), none, [123]⟩] none [6, 13, 16, 22, 90, 93, 94, 121])
 (.cond [6, 13, 16, 22, 90, 93, 94] (.t 121) (.seq (.reg 33 [⟨some 125, .lit 27 1 [(.c (Value.int IntKind.u32 10))], none, []⟩,
  ⟨some 126, .move (.t 16), none, [16]⟩,
  ⟨some 127, .call n_limbs_Pow [(.t 125), (.t 126)] [27, 3], none, [125, 126]⟩,
  ⟨some 124, .move (.t 127), none, []⟩,
  ⟨some 128, .extr (.t 124) 0, none, []⟩,
  ⟨some 129, .extr (.t 124) 1, none, []⟩,
  ⟨some 18, .assign (.t 128), none, []⟩,
  ⟨some 19, .assign (.t 129), none, [19, 129]⟩] none [6, 13, 18, 22, 90, 93, 94, 124, 127, 128])
 (.seq (.reg 34 [⟨some 130, .move (.t 13), none, []⟩,
  ⟨some 131, .move (.t 18), none, []⟩,
  ⟨some 132, .call n_limbs_Mul [(.t 130), (.t 131)] [27, 27], none, [18, 124, 127, 128, 130, 131]⟩,
  ⟨some 133, .move (.t 6), none, []⟩,
  ⟨some 2, .assign (.t 132), none, []⟩,
  ⟨some 3, .assign (.t 133), none, []⟩,
  ⟨some 4, .assign (.c (Value.bool false)), none, []⟩,
  ⟨some 5, .assign (.c (Value.bool false)), none, []⟩] none [2, 3, 4, 5, 6, 7, 11, 13, 20, 22, 31, 33, 34, 44, 61, 65, 69, 73, 76, 77, 79, 80, 81, 85, 86, 88, 89, 90, 93, 94, 112, 116, 120, 132, 133, 134, 138, 139, 141, 142])
 .ret)) .skip))))))))))
 k4_floats_text_quotient)))
def k5_floats_text_quotient : IR := .tail [1, 6, 22] j5_floats_text_quotient
def b_floats_text_quotient : IR :=
 (.seq (.reg 0 [⟨some 1, .box 44 (.t 0), none, [0]⟩,
  ⟨some 2, .assign (.nilS 1), none, [2]⟩,
  ⟨some 3, .assign (.nilS 1), none, [3]⟩,
  ⟨some 4, .assign (.c (Value.bool false)), none, [4]⟩,
  ⟨some 5, .assign (.c (Value.bool false)), none, [5]⟩] none [1])
 (.seq (.reg 1 [⟨some 22, .call n_limbs_From [(.c (Value.int IntKind.u64 1))] [29], none, []⟩,
  ⟨some 6, .assign (.t 22), none, []⟩] none [1, 6, 22])
 (.seq (.seq (.reg 2 [⟨some 23, .faddr 44 (.t 1) 4 4, none, []⟩,
  ⟨some 24, .load 4 none (.t 23), none, [23]⟩] none [1, 6, 22, 24])
 (.cond [1, 6, 22] (.t 24) (.seq (.reg 3 [⟨some 7, .assign (.nilS 1), none, []⟩] none [1, 6, 7, 22, 31, 33, 34, 44, 73, 76, 77])
 (.seq (.seq (.reg 4 [⟨some 25, .faddr 44 (.t 1) 3 3, none, []⟩,
  ⟨some 26, .load 9 none (.t 25), none, [25]⟩,
  ⟨some 27, .len 9 true (.t 26), none, [26]⟩,
  ⟨some 28, .move (.c (Value.int IntKind.i64 0)), none, []⟩] none [1, 6, 7, 22, 27, 28, 31, 33, 34, 44, 73, 76, 77])
 (.block 0 l0_floats_text_quotient))
 k3_floats_text_quotient)) .skip))
 k5_floats_text_quotient)))
def a_floats_text_quotient : AFunc := ⟨143, [.tmp 2, .tmp 3, .tmp 4, .tmp 5], b_floats_text_quotient⟩

def b_math_Copysign : IR :=
 (.seq (.reg 0 [⟨some 4, .assign (.c (Value.float FloatKind.f64 0)), none, [4]⟩] none [0, 1])
 (.seq (.reg 1 [⟨some 5, .move (.t 0), none, [0]⟩,
  ⟨some 6, .ext n_math_Float64bits .toBits [(.t 5)] [22], none, [5]⟩,
  ⟨some 7, .bin .andNot 29 (.t 6) (.c (Value.int IntKind.u64 9223372036854775808)) 29, none, [6]⟩,
  ⟨some 8, .move (.t 1), none, [1]⟩,
  ⟨some 9, .ext n_math_Float64bits .toBits [(.t 8)] [22], none, [8]⟩,
  ⟨some 10, .bin .and 29 (.t 9) (.c (Value.int IntKind.u64 9223372036854775808)) 29, none, [9]⟩,
  ⟨some 11, .bin .or 29 (.t 7) (.t 10) 29, none, [7, 10]⟩,
  ⟨some 12, .ext n_math_Float64frombits .fromBits [(.t 11)] [29], none, [11]⟩,
  ⟨some 4, .assign (.t 12), none, [12]⟩] none [4])
 .ret))
def a_math_Copysign : AFunc := ⟨13, [.tmp 4], b_math_Copysign⟩

def j0_limbs_Cmp : IR :=
 (.seq (.reg 5 [⟨some 4, .assign (.c (Value.int IntKind.i64 1)), none, []⟩] none [4])
 .ret)
def k0_limbs_Cmp : IR := .tail [] j0_limbs_Cmp
def j1_limbs_Cmp : IR :=
 (.reg 8 [⟨some 25, .move (.t 5), none, []⟩,
  ⟨some 26, .bin .sub 3 (.t 25) (.c (Value.int IntKind.i64 1)) 3, none, [25]⟩,
  ⟨some 5, .assign (.t 26), none, [26]⟩] none [0, 1, 5, 7, 9])
def k1_limbs_Cmp : IR := .tail [0, 1, 5, 7, 9] j1_limbs_Cmp
def j2_limbs_Cmp : IR :=
 (.seq (.block 1 (.block 2 (.seq (.reg 9 [⟨some 28, .move (.t 0), none, []⟩,
  ⟨some 29, .move (.t 5), none, []⟩,
  ⟨some 30, .iaddr 27 (.sl 1) (.t 28) (.t 29), none, []⟩,
  ⟨some 31, .load 35 none (.t 30), none, [28, 29, 30]⟩,
  ⟨some 32, .move (.t 1), none, []⟩,
  ⟨some 33, .move (.t 5), none, []⟩,
  ⟨some 34, .iaddr 27 (.sl 1) (.t 32) (.t 33), none, []⟩,
  ⟨some 35, .load 35 none (.t 34), none, [32, 33, 34]⟩,
  ⟨some 36, .bin .lss 35 (.t 31) (.t 35) 35, none, [31, 35]⟩,
  ⟨some 27, .assign (.t 36), none, [36]⟩] (some (.cons ⟨0, []⟩ (.cons ⟨1, []⟩ (.cons ⟨2, []⟩ (.cons ⟨4, []⟩ (.cons ⟨5, []⟩ (.cons ⟨6, []⟩ (.cons ⟨3, []⟩ (.cons ⟨7, []⟩ (.cons ⟨8, []⟩ (.cons ⟨9, []⟩ .nil))))))))))) [0, 1, 5, 7, 9, 27])
 (.cond [0, 1, 5, 7, 9] (.t 27) (.seq (.reg 10 [⟨some 4, .assign (.c (Value.int IntKind.i64 (-1))), none, []⟩] none [4])
 .ret) (.seq (.reg 11 [⟨some 38, .move (.t 0), none, []⟩,
  ⟨some 39, .move (.t 5), none, []⟩,
  ⟨some 40, .iaddr 27 (.sl 1) (.t 38) (.t 39), none, []⟩,
  ⟨some 41, .load 35 none (.t 40), none, [38, 39, 40]⟩,
  ⟨some 42, .move (.t 1), none, []⟩,
  ⟨some 43, .move (.t 5), none, []⟩,
  ⟨some 44, .iaddr 27 (.sl 1) (.t 42) (.t 43), none, []⟩,
  ⟨some 45, .load 35 none (.t 44), none, [42, 43, 44]⟩,
  ⟨some 46, .bin .gtr 35 (.t 41) (.t 45) 35, none, [41, 45]⟩,
  ⟨some 37, .assign (.t 46), none, [46]⟩] (some (.cons ⟨0, []⟩ (.cons ⟨1, []⟩ (.cons ⟨2, []⟩ (.cons ⟨4, []⟩ (.cons ⟨5, []⟩ (.cons ⟨6, []⟩ (.cons ⟨3, []⟩ (.cons ⟨7, []⟩ (.cons ⟨8, []⟩ (.cons ⟨9, []⟩ .nil))))))))))) [0, 1, 5, 7, 9, 37])
 (.cond [0, 1, 5, 7, 9] (.t 37) (.seq (.reg 12 [⟨some 4, .assign (.c (Value.int IntKind.i64 1)), none, []⟩] none [4])
 .ret) .skip))))))
 k1_limbs_Cmp)
def k2_limbs_Cmp : IR := .tail [0, 1, 5, 7, 9] j2_limbs_Cmp
def w0_limbs_Cmp : IR :=
 (.seq (.seq (.reg 7 [⟨some 23, .move (.t 5), none, []⟩,
  ⟨some 24, .bin .geq 3 (.t 23) (.c (Value.int IntKind.i64 0)) 3, none, [23]⟩] none [0, 1, 5, 7, 9, 24])
 (.cond [0, 1, 5, 7, 9] (.t 24) .skip (.exit 0)))
 k2_limbs_Cmp)
def l0_limbs_Cmp : IR := .loop [0, 1, 5, 7, 9] w0_limbs_Cmp
def j3_limbs_Cmp : IR :=
 (.seq (.reg 13 [⟨some 4, .assign (.c (Value.int IntKind.i64 0)), none, []⟩] none [4])
 .ret)
def k3_limbs_Cmp : IR := .tail [] j3_limbs_Cmp
def j4_limbs_Cmp : IR :=
 (.seq (.seq (.reg 6 [⟨some 20, .move (.t 0), none, []⟩,
  ⟨some 21, .len 27 false (.t 20), none, [20]⟩,
  ⟨some 22, .bin .sub 3 (.t 21) (.c (Value.int IntKind.i64 1)) 3, none, [21]⟩,
  ⟨some 5, .assign (.t 22), none, [22]⟩] none [0, 1, 5, 7, 9])
 (.block 0 l0_limbs_Cmp))
 k3_limbs_Cmp)
def k4_limbs_Cmp : IR := .tail [0, 1, 7, 9] j4_limbs_Cmp
def b_limbs_Cmp : IR :=
 (.seq (.reg 0 [⟨some 4, .assign (.c (Value.int IntKind.i64 0)), none, [4]⟩] none [0, 1, 7, 9])
 (.seq (.reg 1 [⟨some 6, .move (.t 0), none, []⟩,
  ⟨some 7, .call n_limbs_trim [(.t 6)] [27], none, [6]⟩,
  ⟨some 8, .move (.t 1), none, []⟩,
  ⟨some 9, .call n_limbs_trim [(.t 8)] [27], none, [8]⟩,
  ⟨some 0, .assign (.t 7), none, []⟩,
  ⟨some 1, .assign (.t 9), none, []⟩] none [0, 1, 7, 9])
 (.seq (.seq (.reg 2 [⟨some 10, .move (.t 0), none, []⟩,
  ⟨some 11, .len 27 false (.t 10), none, [10]⟩,
  ⟨some 12, .move (.t 1), none, []⟩,
  ⟨some 13, .len 27 false (.t 12), none, [12]⟩,
  ⟨some 14, .bin .neq 3 (.t 11) (.t 13) 3, none, [11, 13]⟩] none [0, 1, 7, 9, 14])
 (.cond [0, 1, 7, 9] (.t 14) (.seq (.seq (.reg 3 [⟨some 15, .move (.t 0), none, []⟩,
  ⟨some 16, .len 27 false (.t 15), none, [0, 7, 15]⟩,
  ⟨some 17, .move (.t 1), none, []⟩,
  ⟨some 18, .len 27 false (.t 17), none, [1, 9, 17]⟩,
  ⟨some 19, .bin .lss 3 (.t 16) (.t 18) 3, none, [16, 18]⟩] none [19])
 (.cond [] (.t 19) (.seq (.reg 4 [⟨some 4, .assign (.c (Value.int IntKind.i64 (-1))), none, []⟩] none [4])
 .ret) .skip))
 k0_limbs_Cmp) .skip))
 k4_limbs_Cmp)))
def a_limbs_Cmp : AFunc := ⟨47, [.tmp 4], b_limbs_Cmp⟩

def b_bits_LeadingZeros32 : IR :=
 (.seq (.reg 0 [⟨some 2, .assign (.c (Value.int IntKind.i64 0)), none, [2]⟩] none [0])
 (.seq (.reg 1 [⟨some 3, .move (.t 0), none, [0]⟩,
  ⟨some 4, .call n_bits_Len32 [(.t 3)] [35], none, [3]⟩,
  ⟨some 5, .bin .sub 3 (.c (Value.int IntKind.i64 32)) (.t 4) 3, none, [4]⟩,
  ⟨some 2, .assign (.t 5), none, [5]⟩] none [2])
 .ret))
def a_bits_LeadingZeros32 : AFunc := ⟨6, [.tmp 2], b_bits_LeadingZeros32⟩

def b_bits_Sub32 : IR :=
 (.seq (.reg 0 [⟨some 6, .assign (.c (Value.int IntKind.u32 0)), none, [6]⟩,
  ⟨some 7, .assign (.c (Value.int IntKind.u32 0)), none, [7]⟩] none [0, 1, 2])
 (.seq (.reg 1 [⟨some 8, .move (.t 0), none, []⟩,
  ⟨some 9, .move (.t 1), none, []⟩,
  ⟨some 10, .bin .sub 35 (.t 8) (.t 9) 35, none, [8, 9]⟩,
  ⟨some 11, .move (.t 2), none, [2]⟩,
  ⟨some 12, .bin .sub 35 (.t 10) (.t 11) 35, none, [10, 11]⟩,
  ⟨some 6, .assign (.t 12), none, [12]⟩] none [0, 1, 6])
 (.seq (.reg 2 [⟨some 13, .move (.t 0), none, []⟩,
  ⟨some 14, .un .xor 35 (.t 13), none, [13]⟩,
  ⟨some 15, .move (.t 1), none, []⟩,
  ⟨some 16, .bin .and 35 (.t 14) (.t 15) 35, none, [14, 15]⟩,
  ⟨some 17, .move (.t 0), none, [0]⟩,
  ⟨some 18, .move (.t 1), none, [1]⟩,
  ⟨some 19, .bin .xor 35 (.t 17) (.t 18) 35, none, [17, 18]⟩,
  ⟨some 20, .un .xor 35 (.t 19), none, [19]⟩,
  ⟨some 21, .move (.t 6), none, []⟩,
  ⟨some 22, .bin .and 35 (.t 20) (.t 21) 35, none, [20, 21]⟩,
  ⟨some 23, .bin .or 35 (.t 16) (.t 22) 35, none, [16, 22]⟩,
  ⟨some 24, .bin .shr 35 (.t 23) (.c (Value.int IntKind.u64 31)) 55, none, [23]⟩,
  ⟨some 7, .assign (.t 24), none, [24]⟩] none [6, 7])
 .ret)))
def a_bits_Sub32 : AFunc := ⟨25, [.tmp 6, .tmp 7], b_bits_Sub32⟩

def b_bits_Add32 : IR :=
 (.seq (.reg 0 [⟨some 6, .assign (.c (Value.int IntKind.u32 0)), none, [6]⟩,
  ⟨some 7, .assign (.c (Value.int IntKind.u32 0)), none, [7]⟩] none [0, 1, 2])
 (.seq (.reg 1 [⟨some 9, .move (.t 0), none, [0]⟩,
  ⟨some 10, .conv 35 29 (.int .u64) (.t 9), none, [9]⟩,
  ⟨some 11, .move (.t 1), none, [1]⟩,
  ⟨some 12, .conv 35 29 (.int .u64) (.t 11), none, [11]⟩,
  ⟨some 13, .bin .add 29 (.t 10) (.t 12) 29, none, [10, 12]⟩,
  ⟨some 14, .move (.t 2), none, [2]⟩,
  ⟨some 15, .conv 35 29 (.int .u64) (.t 14), none, [14]⟩,
  ⟨some 16, .bin .add 29 (.t 13) (.t 15) 29, none, [13, 15]⟩,
  ⟨some 8, .assign (.t 16), none, [16]⟩] none [8])
 (.seq (.reg 2 [⟨some 17, .move (.t 8), none, []⟩,
  ⟨some 18, .conv 29 35 (.int .u32) (.t 17), none, [17]⟩,
  ⟨some 6, .assign (.t 18), none, [18]⟩] none [6, 8])
 (.seq (.reg 3 [⟨some 19, .move (.t 8), none, [8]⟩,
  ⟨some 20, .bin .shr 29 (.t 19) (.c (Value.int IntKind.u64 32)) 55, none, [19]⟩,
  ⟨some 21, .conv 29 35 (.int .u32) (.t 20), none, [20]⟩,
  ⟨some 7, .assign (.t 21), none, [21]⟩] none [6, 7])
 .ret))))
def a_bits_Add32 : AFunc := ⟨22, [.tmp 6, .tmp 7], b_bits_Add32⟩

def j0_limbs_long : IR :=
 (.cond [0, 1, 5, 6, 7, 8, 9, 11, 12, 24, 100000] (.t 71) (.seq (.reg 12 [⟨some 89, .move (.t 11), none, []⟩,
  ⟨some 90, .bin .sub 29 (.t 89) (.c (Value.int IntKind.u64 1)) 29, none, [89]⟩,
  ⟨some 11, .assign (.t 90), none, [90]⟩] none [0, 1, 5, 6, 7, 8, 9, 11, 12, 24, 100000])
 (.reg 13 [⟨some 91, .move (.t 12), none, []⟩,
  ⟨some 92, .move (.t 7), none, []⟩,
  ⟨some 93, .bin .add 29 (.t 91) (.t 92) 29, none, [91, 92]⟩,
  ⟨some 12, .assign (.t 93), none, [93]⟩] none [0, 1, 5, 6, 7, 8, 9, 11, 12, 24, 100000])) (.exit 2))
def k0_limbs_long : IR := .tail [0, 1, 5, 6, 7, 8, 9, 11, 12, 24, 71, 100000] j0_limbs_long
def j1_limbs_long : IR :=
 (.block 3 (.block 4 (.seq (.seq (.reg 10 [⟨some 72, .move (.t 11), none, []⟩,
  ⟨some 73, .bin .geq 29 (.t 72) (.c (Value.int IntKind.u64 4294967296)) 29, none, [72]⟩,
  ⟨some 71, .assign (.t 73), none, [73]⟩] none [0, 1, 5, 6, 7, 8, 9, 11, 12, 24, 71, 100000])
 (.cond [0, 1, 5, 6, 7, 8, 9, 11, 12, 24, 71, 100000] (.t 71) .skip (.reg 11 [⟨some 74, .move (.t 11), none, []⟩,
  ⟨some 75, .move (.t 8), none, []⟩,
  ⟨some 76, .bin .mul 29 (.t 74) (.t 75) 29, none, [74, 75]⟩,
  ⟨some 77, .move (.t 12), none, []⟩,
  ⟨some 78, .bin .shl 29 (.t 77) (.c (Value.int IntKind.u64 32)) 55, none, [77]⟩,
  ⟨some 79, .move (.t 0), none, []⟩,
  ⟨some 80, .move (.t 9), none, []⟩,
  ⟨some 81, .move (.t 5), none, []⟩,
  ⟨some 82, .bin .add 3 (.t 80) (.t 81) 3, none, [80, 81]⟩,
  ⟨some 83, .bin .sub 3 (.t 82) (.c (Value.int IntKind.i64 2)) 3, none, [82]⟩,
  ⟨some 84, .iaddr 27 (.sl 1) (.t 79) (.t 83), none, []⟩,
  ⟨some 85, .load 35 none (.t 84), none, [79, 83, 84]⟩,
  ⟨some 86, .conv 35 29 (.int .u64) (.t 85), none, [85]⟩,
  ⟨some 87, .bin .or 29 (.t 78) (.t 86) 29, none, [78, 86]⟩,
  ⟨some 88, .bin .gtr 29 (.t 76) (.t 87) 29, none, [76, 87]⟩,
  ⟨some 71, .assign (.t 88), none, [88]⟩] none [0, 1, 5, 6, 7, 8, 9, 11, 12, 24, 71, 100000])))
 k0_limbs_long)))
def k1_limbs_long : IR := .tail [0, 1, 5, 6, 7, 8, 9, 11, 12, 24, 100000] j1_limbs_long
def w1_limbs_long : IR :=
 (.seq (.seq (.reg 9 [⟨some 69, .move (.t 12), none, []⟩,
  ⟨some 70, .bin .lss 29 (.t 69) (.c (Value.int IntKind.u64 4294967296)) 29, none, [69]⟩] none [0, 1, 5, 6, 7, 8, 9, 11, 12, 24, 70, 100000])
 (.cond [0, 1, 5, 6, 7, 8, 9, 11, 12, 24, 100000] (.t 70) .skip (.exit 2)))
 k1_limbs_long)
def l1_limbs_long : IR := .loop [0, 1, 5, 6, 7, 8, 9, 11, 12, 24, 100000] w1_limbs_long
def j2_limbs_long : IR :=
 (.reg 22 [⟨some 127, .bin .add 3 (.t 95) (.c (Value.int IntKind.i64 1)) 3, none, []⟩,
  ⟨some 95, .move (.t 127), none, [127]⟩] none [0, 1, 5, 6, 7, 8, 9, 11, 13, 14, 24, 94, 95, 100000])
def k2_limbs_long : IR := .tail [0, 1, 5, 6, 7, 8, 9, 11, 13, 14, 24, 94, 95, 100000] j2_limbs_long
def j3_limbs_long : IR :=
 (.seq (.block 6 (.seq (.reg 18 [⟨some 97, .move (.t 95), none, []⟩,
  ⟨some 15, .assign (.t 97), none, [97]⟩] none [0, 1, 5, 6, 7, 8, 9, 11, 13, 14, 15, 24, 94, 95, 100000])
 (.seq (.reg 19 [⟨some 98, .move (.t 13), none, []⟩,
  ⟨some 99, .move (.t 11), none, []⟩,
  ⟨some 100, .move (.t 1), none, []⟩,
  ⟨some 101, .move (.t 15), none, []⟩,
  ⟨some 102, .iaddr 27 (.sl 1) (.t 100) (.t 101), none, []⟩,
  ⟨some 103, .load 35 none (.t 102), none, [100, 101, 102]⟩,
  ⟨some 104, .conv 35 29 (.int .u64) (.t 103), none, [103]⟩,
  ⟨some 105, .bin .mul 29 (.t 99) (.t 104) 29, none, [99, 104]⟩,
  ⟨some 106, .bin .add 29 (.t 98) (.t 105) 29, none, [98, 105]⟩,
  ⟨some 13, .assign (.t 106), none, [106]⟩] none [0, 1, 5, 6, 7, 8, 9, 11, 13, 14, 15, 24, 94, 95, 100000])
 (.seq (.reg 20 [⟨some 108, .move (.t 0), none, []⟩,
  ⟨some 109, .move (.t 15), none, []⟩,
  ⟨some 110, .move (.t 9), none, []⟩,
  ⟨some 111, .bin .add 3 (.t 109) (.t 110) 3, none, [109, 110]⟩,
  ⟨some 112, .move (.t 0), none, []⟩,
  ⟨some 113, .move (.t 15), none, [15]⟩,
  ⟨some 114, .move (.t 9), none, []⟩,
  ⟨some 115, .bin .add 3 (.t 113) (.t 114) 3, none, [113, 114]⟩,
  ⟨some 116, .iaddr 27 (.sl 1) (.t 112) (.t 115), none, []⟩,
  ⟨some 117, .load 35 none (.t 116), none, []⟩,
  ⟨some 118, .move (.t 13), none, []⟩,
  ⟨some 119, .call n_limbs_low [(.t 118)] [29], none, [112, 115, 116, 118]⟩,
  ⟨some 120, .move (.t 14), none, []⟩,
  ⟨some 121, .call n_bits_Sub32 [(.t 117), (.t 119), (.t 120)] [35, 35, 35], none, [117, 119, 120]⟩,
  ⟨some 107, .move (.t 121), none, [121]⟩,
  ⟨some 122, .extr (.t 107) 0, none, []⟩,
  ⟨some 123, .extr (.t 107) 1, none, [107]⟩,
  ⟨some 124, .iaddr 27 (.sl 1) (.t 108) (.t 111), none, []⟩,
  ⟨none, .store 35 none (.t 124) (.t 122), none, [108, 111, 122, 124]⟩,
  ⟨some 14, .assign (.t 123), none, [123]⟩] (some (.cons ⟨0, []⟩ (.cons ⟨1, []⟩ (.cons ⟨2, []⟩ (.cons ⟨3, []⟩ (.cons ⟨4, []⟩ (.cons ⟨5, []⟩ (.cons ⟨6, []⟩ (.cons ⟨7, []⟩ (.cons ⟨8, []⟩ (.cons ⟨10, []⟩ (.cons ⟨12, []⟩ (.cons ⟨9, []⟩ (.cons ⟨11, [9]⟩ (.cons ⟨13, []⟩ (.cons ⟨14, []⟩ (.cons ⟨15, []⟩ (.cons ⟨16, []⟩ (.cons ⟨17, []⟩ (.cons ⟨18, []⟩ (.cons ⟨19, []⟩ .nil))))))))))))))))))))) [0, 1, 5, 6, 7, 8, 9, 11, 13, 14, 24, 94, 95, 100000])
 (.reg 21 [⟨some 125, .move (.t 13), none, []⟩,
  ⟨some 126, .call n_limbs_high [(.t 125)] [29], none, [125]⟩,
  ⟨some 13, .assign (.t 126), none, [126]⟩] none [0, 1, 5, 6, 7, 8, 9, 11, 13, 14, 24, 94, 95, 100000])))))
 k2_limbs_long)
def k3_limbs_long : IR := .tail [0, 1, 5, 6, 7, 8, 9, 11, 13, 14, 24, 94, 95, 100000] j3_limbs_long
def w2_limbs_long : IR :=
 (.seq (.reg 17 [⟨some 96, .bin .lss 3 (.t 95) (.t 94) 3, none, []⟩] none [0, 1, 5, 6, 7, 8, 9, 11, 13, 14, 24, 94, 95, 96, 100000])
 (.seq (.cond [0, 1, 5, 6, 7, 8, 9, 11, 13, 14, 24, 94, 95, 100000] (.t 96) .skip (.exit 5))
 k3_limbs_long))
def l2_limbs_long : IR := .loop [0, 1, 5, 6, 7, 8, 9, 11, 13, 14, 24, 94, 95, 100000] w2_limbs_long
def j4_limbs_long : IR :=
 (.reg 32 [⟨some 183, .bin .add 3 (.t 160) (.c (Value.int IntKind.i64 1)) 3, none, []⟩,
  ⟨some 160, .move (.t 183), none, [183]⟩] none [0, 1, 5, 6, 7, 8, 9, 16, 24, 159, 160, 100000])
def k4_limbs_long : IR := .tail [0, 1, 5, 6, 7, 8, 9, 16, 24, 159, 160, 100000] j4_limbs_long
def j5_limbs_long : IR :=
 (.seq (.block 8 (.seq (.reg 30 [⟨some 162, .move (.t 160), none, []⟩,
  ⟨some 17, .assign (.t 162), none, [162]⟩] none [0, 1, 5, 6, 7, 8, 9, 16, 17, 24, 159, 160, 100000])
 (.reg 31 [⟨some 164, .move (.t 0), none, []⟩,
  ⟨some 165, .move (.t 17), none, []⟩,
  ⟨some 166, .move (.t 9), none, []⟩,
  ⟨some 167, .bin .add 3 (.t 165) (.t 166) 3, none, [165, 166]⟩,
  ⟨some 168, .move (.t 0), none, []⟩,
  ⟨some 169, .move (.t 17), none, []⟩,
  ⟨some 170, .move (.t 9), none, []⟩,
  ⟨some 171, .bin .add 3 (.t 169) (.t 170) 3, none, [169, 170]⟩,
  ⟨some 172, .iaddr 27 (.sl 1) (.t 168) (.t 171), none, []⟩,
  ⟨some 173, .load 35 none (.t 172), none, [168, 171, 172]⟩,
  ⟨some 174, .move (.t 1), none, []⟩,
  ⟨some 175, .move (.t 17), none, [17]⟩,
  ⟨some 176, .iaddr 27 (.sl 1) (.t 174) (.t 175), none, []⟩,
  ⟨some 177, .load 35 none (.t 176), none, [174, 175, 176]⟩,
  ⟨some 178, .move (.t 16), none, []⟩,
  ⟨some 179, .call n_bits_Add32 [(.t 173), (.t 177), (.t 178)] [35, 35, 35], none, [173, 177, 178]⟩,
  ⟨some 163, .move (.t 179), none, [179]⟩,
  ⟨some 180, .extr (.t 163) 0, none, []⟩,
  ⟨some 181, .extr (.t 163) 1, none, [163]⟩,
  ⟨some 182, .iaddr 27 (.sl 1) (.t 164) (.t 167), none, []⟩,
  ⟨none, .store 35 none (.t 182) (.t 180), none, [164, 167, 180, 182]⟩,
  ⟨some 16, .assign (.t 181), none, [181]⟩] (some (.cons ⟨0, []⟩ (.cons ⟨1, []⟩ (.cons ⟨2, []⟩ (.cons ⟨3, []⟩ (.cons ⟨4, []⟩ (.cons ⟨5, []⟩ (.cons ⟨6, []⟩ (.cons ⟨7, []⟩ (.cons ⟨8, []⟩ (.cons ⟨10, []⟩ (.cons ⟨11, []⟩ (.cons ⟨12, []⟩ (.cons ⟨14, []⟩ (.cons ⟨9, []⟩ (.cons ⟨13, []⟩ (.cons ⟨15, []⟩ (.cons ⟨16, []⟩ (.cons ⟨17, []⟩ (.cons ⟨18, []⟩ (.cons ⟨19, []⟩ (.cons ⟨20, []⟩ (.cons ⟨21, []⟩ .nil))))))))))))))))))))))) [0, 1, 5, 6, 7, 8, 9, 16, 24, 159, 160, 100000])))
 k4_limbs_long)
def k5_limbs_long : IR := .tail [0, 1, 5, 6, 7, 8, 9, 16, 24, 159, 160, 100000] j5_limbs_long
def w3_limbs_long : IR :=
 (.seq (.reg 29 [⟨some 161, .bin .lss 3 (.t 160) (.t 159) 3, none, []⟩] none [0, 1, 5, 6, 7, 8, 9, 16, 24, 159, 160, 161, 100000])
 (.seq (.cond [0, 1, 5, 6, 7, 8, 9, 16, 24, 159, 160, 100000] (.t 161) .skip (.exit 7))
 k5_limbs_long))
def l3_limbs_long : IR := .loop [0, 1, 5, 6, 7, 8, 9, 16, 24, 159, 160, 100000] w3_limbs_long
def j6_limbs_long : IR :=
 (.reg 33 [⟨some 184, .move (.t 0), none, []⟩,
  ⟨some 185, .move (.t 9), none, []⟩,
  ⟨some 186, .move (.t 5), none, []⟩,
  ⟨some 187, .bin .add 3 (.t 185) (.t 186) 3, none, [185, 186]⟩,
  ⟨some 188, .iaddr 27 (.sl 1) (.t 184) (.t 187), none, []⟩,
  ⟨some 189, .load 35 none (.t 188), none, [188]⟩,
  ⟨some 190, .move (.t 16), none, [16]⟩,
  ⟨some 191, .bin .add 35 (.t 189) (.t 190) 35, none, [189, 190]⟩,
  ⟨some 192, .iaddr 27 (.sl 1) (.t 184) (.t 187), none, []⟩,
  ⟨none, .store 35 none (.t 192) (.t 191), none, [184, 187, 191, 192]⟩] none [0, 1, 5, 6, 7, 8, 9, 24, 100000])
def k6_limbs_long : IR := .tail [0, 1, 5, 6, 7, 8, 9, 16, 24, 100000] j6_limbs_long
def j7_limbs_long : IR :=
 (.seq (.reg 26 [⟨some 153, .move (.t 6), none, []⟩,
  ⟨some 154, .move (.t 9), none, []⟩,
  ⟨some 155, .iaddr 27 (.sl 1) (.t 153) (.t 154), none, []⟩,
  ⟨some 156, .load 35 none (.t 155), none, [155]⟩,
  ⟨some 157, .bin .sub 35 (.t 156) (.c (Value.int IntKind.u32 1)) 35, none, [156]⟩,
  ⟨some 158, .iaddr 27 (.sl 1) (.t 153) (.t 154), none, []⟩,
  ⟨none, .store 35 none (.t 158) (.t 157), none, [153, 154, 157, 158]⟩] none [0, 1, 5, 6, 7, 8, 9, 24, 100000])
 (.seq (.reg 27 [⟨some 16, .assign (.c (Value.int IntKind.u32 0)), none, []⟩] none [0, 1, 5, 6, 7, 8, 9, 16, 24, 100000])
 (.seq (.seq (.reg 28 [⟨some 159, .move (.t 5), none, []⟩,
  ⟨some 160, .move (.c (Value.int IntKind.i64 0)), none, []⟩] none [0, 1, 5, 6, 7, 8, 9, 16, 24, 159, 160, 100000])
 (.block 7 l3_limbs_long))
 k6_limbs_long)))
def k7_limbs_long : IR := .tail [0, 1, 5, 6, 7, 8, 9, 24, 100000] j7_limbs_long
def j8_limbs_long : IR :=
 (.seq (.reg 23 [⟨some 129, .move (.t 0), none, []⟩,
  ⟨some 130, .move (.t 9), none, []⟩,
  ⟨some 131, .move (.t 5), none, []⟩,
  ⟨some 132, .bin .add 3 (.t 130) (.t 131) 3, none, [130, 131]⟩,
  ⟨some 133, .move (.t 0), none, []⟩,
  ⟨some 134, .move (.t 9), none, []⟩,
  ⟨some 135, .move (.t 5), none, []⟩,
  ⟨some 136, .bin .add 3 (.t 134) (.t 135) 3, none, [134, 135]⟩,
  ⟨some 137, .iaddr 27 (.sl 1) (.t 133) (.t 136), none, []⟩,
  ⟨some 138, .load 35 none (.t 137), none, [133, 136, 137]⟩,
  ⟨some 139, .move (.t 13), none, [13]⟩,
  ⟨some 140, .conv 29 35 (.int .u32) (.t 139), none, [139]⟩,
  ⟨some 141, .move (.t 14), none, []⟩,
  ⟨some 142, .call n_bits_Sub32 [(.t 138), (.t 140), (.t 141)] [35, 35, 35], none, [138, 140, 141]⟩,
  ⟨some 128, .move (.t 142), none, [142]⟩,
  ⟨some 143, .extr (.t 128) 0, none, []⟩,
  ⟨some 144, .extr (.t 128) 1, none, [128]⟩,
  ⟨some 145, .iaddr 27 (.sl 1) (.t 129) (.t 132), none, []⟩,
  ⟨none, .store 35 none (.t 145) (.t 143), none, [129, 132, 143, 145]⟩,
  ⟨some 14, .assign (.t 144), none, [144]⟩] none [0, 1, 5, 6, 7, 8, 9, 11, 14, 24, 100000])
 (.seq (.reg 24 [⟨some 146, .move (.t 6), none, []⟩,
  ⟨some 147, .move (.t 9), none, []⟩,
  ⟨some 148, .move (.t 11), none, [11]⟩,
  ⟨some 149, .conv 29 35 (.int .u32) (.t 148), none, [148]⟩,
  ⟨some 150, .iaddr 27 (.sl 1) (.t 146) (.t 147), none, []⟩,
  ⟨none, .store 35 none (.t 150) (.t 149), none, [146, 147, 149, 150]⟩] none [0, 1, 5, 6, 7, 8, 9, 14, 24, 100000])
 (.seq (.seq (.reg 25 [⟨some 151, .move (.t 14), none, [14]⟩,
  ⟨some 152, .bin .eql 35 (.t 151) (.c (Value.int IntKind.u32 0)) 35, none, [151]⟩] none [0, 1, 5, 6, 7, 8, 9, 24, 152, 100000])
 (.cond [0, 1, 5, 6, 7, 8, 9, 24, 100000] (.t 152) (.exit 1) .skip))
 k7_limbs_long)))
def k8_limbs_long : IR := .tail [0, 1, 5, 6, 7, 8, 9, 11, 13, 14, 24, 100000] j8_limbs_long
def j9_limbs_long : IR :=
 (.seq (.reg 14 [⟨some 13, .assign (.c (Value.int IntKind.u64 0)), none, []⟩] none [0, 1, 5, 6, 7, 8, 9, 11, 13, 24, 100000])
 (.seq (.reg 15 [⟨some 14, .assign (.c (Value.int IntKind.u32 0)), none, []⟩] none [0, 1, 5, 6, 7, 8, 9, 11, 13, 14, 24, 100000])
 (.seq (.seq (.reg 16 [⟨some 94, .move (.t 5), none, []⟩,
  ⟨some 95, .move (.c (Value.int IntKind.i64 0)), none, []⟩] none [0, 1, 5, 6, 7, 8, 9, 11, 13, 14, 24, 94, 95, 100000])
 (.block 5 l2_limbs_long))
 k8_limbs_long)))
def k9_limbs_long : IR := .tail [0, 1, 5, 6, 7, 8, 9, 11, 24, 100000] j9_limbs_long
def j10_limbs_long : IR :=
 (.reg 6 [⟨some 44, .move (.t 9), none, []⟩,
  ⟨some 45, .bin .sub 3 (.t 44) (.c (Value.int IntKind.i64 1)) 3, none, [44]⟩,
  ⟨some 9, .assign (.t 45), none, [45]⟩] none [0, 1, 5, 6, 7, 8, 9, 24, 100000])
def k10_limbs_long : IR := .tail [0, 1, 5, 6, 7, 8, 9, 24, 100000] j10_limbs_long
def j11_limbs_long : IR :=
 (.seq (.block 1 (.scope (.seq (.reg 7 [⟨some 46, .move (.t 0), none, []⟩,
  ⟨some 47, .move (.t 9), none, []⟩,
  ⟨some 48, .move (.t 5), none, []⟩,
  ⟨some 49, .bin .add 3 (.t 47) (.t 48) 3, none, [47, 48]⟩,
  ⟨some 50, .iaddr 27 (.sl 1) (.t 46) (.t 49), none, []⟩,
  ⟨some 51, .load 35 none (.t 50), none, [46, 49, 50]⟩,
  ⟨some 52, .conv 35 29 (.int .u64) (.t 51), none, [51]⟩,
  ⟨some 53, .bin .shl 29 (.t 52) (.c (Value.int IntKind.u64 32)) 55, none, [52]⟩,
  ⟨some 54, .move (.t 0), none, []⟩,
  ⟨some 55, .move (.t 9), none, []⟩,
  ⟨some 56, .move (.t 5), none, []⟩,
  ⟨some 57, .bin .add 3 (.t 55) (.t 56) 3, none, [55, 56]⟩,
  ⟨some 58, .bin .sub 3 (.t 57) (.c (Value.int IntKind.i64 1)) 3, none, [57]⟩,
  ⟨some 59, .iaddr 27 (.sl 1) (.t 54) (.t 58), none, []⟩,
  ⟨some 60, .load 35 none (.t 59), none, [54, 58, 59]⟩,
  ⟨some 61, .conv 35 29 (.int .u64) (.t 60), none, [60]⟩,
  ⟨some 62, .bin .or 29 (.t 53) (.t 61) 29, none, [53, 61]⟩,
  ⟨some 10, .assign (.t 62), none, [62]⟩] (some (.cons ⟨0, []⟩ (.cons ⟨1, []⟩ (.cons ⟨2, []⟩ (.cons ⟨3, []⟩ (.cons ⟨4, []⟩ (.cons ⟨8, []⟩ (.cons ⟨9, []⟩ (.cons ⟨10, []⟩ (.cons ⟨11, []⟩ (.cons ⟨12, []⟩ (.cons ⟨13, []⟩ (.cons ⟨5, []⟩ (.cons ⟨6, []⟩ (.cons ⟨7, []⟩ (.cons ⟨14, []⟩ (.cons ⟨15, []⟩ (.cons ⟨16, []⟩ (.cons ⟨17, []⟩ .nil))))))))))))))))))) [0, 1, 5, 6, 7, 8, 9, 10, 24, 100000])
 (.seq (.reg 8 [⟨some 63, .move (.t 10), none, []⟩,
  ⟨some 64, .move (.t 7), none, []⟩,
  ⟨some 65, .bin .quo 29 (.t 63) (.t 64) 29, none, [63, 64]⟩,
  ⟨some 66, .move (.t 10), none, [10]⟩,
  ⟨some 67, .move (.t 7), none, []⟩,
  ⟨some 68, .bin .rem 29 (.t 66) (.t 67) 29, none, [66, 67]⟩,
  ⟨some 11, .assign (.t 65), none, [65]⟩,
  ⟨some 12, .assign (.t 68), none, [68]⟩] (some (.cons ⟨0, []⟩ (.cons ⟨1, []⟩ (.cons ⟨2, []⟩ (.cons ⟨3, []⟩ (.cons ⟨4, []⟩ (.cons ⟨5, []⟩ (.cons ⟨6, []⟩ (.cons ⟨7, []⟩ .nil))))))))) [0, 1, 5, 6, 7, 8, 9, 11, 12, 24, 100000])
 (.seq (.label 0)
 (.seq (.block 2 l1_limbs_long)
 k9_limbs_long))))))
 k10_limbs_long)
def k11_limbs_long : IR := .tail [0, 1, 5, 6, 7, 8, 9, 24, 100000] j11_limbs_long
def w0_limbs_long : IR :=
 (.seq (.seq (.reg 5 [⟨some 42, .move (.t 9), none, []⟩,
  ⟨some 43, .bin .geq 3 (.t 42) (.c (Value.int IntKind.i64 0)) 3, none, [42]⟩] none [0, 1, 5, 6, 7, 8, 9, 24, 43, 100000])
 (.cond [0, 1, 5, 6, 7, 8, 9, 24, 100000] (.t 43) .skip (.exit 0)))
 k11_limbs_long)
def l0_limbs_long : IR := .loop [0, 1, 5, 6, 7, 8, 9, 24, 100000] w0_limbs_long
def j12_limbs_long : IR :=
 (.seq (.reg 34 [⟨some 193, .move (.t 6), none, []⟩,
  ⟨some 4, .assign (.t 193), none, []⟩] none [4, 6, 24, 193, 100000])
 .ret)
def k12_limbs_long : IR := .tail [6, 24, 100000] j12_limbs_long
def b_limbs_long : IR :=
 (.seq (.reg 0 [⟨some 4, .assign (.nilS 1), none, [4]⟩] none [0, 1, 100000])
 (.seq (.reg 1 [⟨some 18, .move (.t 1), none, []⟩,
  ⟨some 19, .len 27 false (.t 18), none, [18]⟩,
  ⟨some 5, .assign (.t 19), none, [19]⟩] none [0, 1, 5, 100000])
 (.seq (.reg 2 [⟨some 20, .move (.t 0), none, []⟩,
  ⟨some 21, .len 27 false (.t 20), none, [20]⟩,
  ⟨some 22, .move (.t 5), none, []⟩,
  ⟨some 23, .bin .sub 3 (.t 21) (.t 22) 3, none, [21, 22]⟩,
  ⟨some 24, .mk 27 1 4 (.v (.int .u32 0)) (.t 23) (.t 23), none, [23]⟩,
  ⟨some 6, .assign (.t 24), none, []⟩] none [0, 1, 5, 6, 24, 100000])
 (.seq (.reg 3 [⟨some 25, .move (.t 1), none, []⟩,
  ⟨some 26, .move (.t 5), none, []⟩,
  ⟨some 27, .bin .sub 3 (.t 26) (.c (Value.int IntKind.i64 1)) 3, none, [26]⟩,
  ⟨some 28, .iaddr 27 (.sl 1) (.t 25) (.t 27), none, []⟩,
  ⟨some 29, .load 35 none (.t 28), none, [25, 27, 28]⟩,
  ⟨some 30, .conv 35 29 (.int .u64) (.t 29), none, [29]⟩,
  ⟨some 31, .move (.t 1), none, []⟩,
  ⟨some 32, .move (.t 5), none, []⟩,
  ⟨some 33, .bin .sub 3 (.t 32) (.c (Value.int IntKind.i64 2)) 3, none, [32]⟩,
  ⟨some 34, .iaddr 27 (.sl 1) (.t 31) (.t 33), none, []⟩,
  ⟨some 35, .load 35 none (.t 34), none, []⟩,
  ⟨some 36, .conv 35 29 (.int .u64) (.t 35), none, [35]⟩,
  ⟨some 7, .assign (.t 30), none, [30, 31, 33, 34]⟩,
  ⟨some 8, .assign (.t 36), none, [36]⟩] (some (.cons ⟨0, []⟩ (.cons ⟨1, []⟩ (.cons ⟨2, []⟩ (.cons ⟨3, []⟩ (.cons ⟨6, []⟩ (.cons ⟨7, []⟩ (.cons ⟨8, []⟩ (.cons ⟨9, []⟩ (.cons ⟨4, []⟩ (.cons ⟨5, []⟩ (.cons ⟨10, []⟩ (.cons ⟨11, []⟩ (.cons ⟨12, [10]⟩ (.cons ⟨13, []⟩ .nil))))))))))))))) [0, 1, 5, 6, 7, 8, 24, 100000])
 (.seq (.seq (.reg 4 [⟨some 37, .move (.t 0), none, []⟩,
  ⟨some 38, .len 27 false (.t 37), none, [37]⟩,
  ⟨some 39, .move (.t 5), none, []⟩,
  ⟨some 40, .bin .sub 3 (.t 38) (.t 39) 3, none, [38, 39]⟩,
  ⟨some 41, .bin .sub 3 (.t 40) (.c (Value.int IntKind.i64 1)) 3, none, [40]⟩,
  ⟨some 9, .assign (.t 41), none, [41]⟩] none [0, 1, 5, 6, 7, 8, 9, 24, 100000])
 (.block 0 l0_limbs_long))
 k12_limbs_long)))))
def a_limbs_long : AFunc := ⟨194, [.tmp 4], b_limbs_long⟩

def j0_limbs_down : IR :=
 (.reg 12 [⟨some 46, .move (.t 5), none, []⟩,
  ⟨some 47, .move (.t 6), none, [6]⟩,
  ⟨some 48, .move (.t 7), none, [7]⟩,
  ⟨some 49, .move (.t 1), none, []⟩,
  ⟨some 50, .bin .rem 3 (.t 49) (.c (Value.int IntKind.i64 32)) 3, none, [49]⟩,
  ⟨some 51, .bin .shr 29 (.t 48) (.t 50) 3, none, [48, 50]⟩,
  ⟨some 52, .call n_limbs_low [(.t 51)] [29], none, [51]⟩,
  ⟨some 53, .iaddr 27 (.sl 1) (.t 46) (.t 47), none, []⟩,
  ⟨none, .store 35 none (.t 53) (.t 52), none, [46, 47, 52, 53]⟩] none [0, 1, 5, 9, 15, 17, 18, 21, 23, 24])
def k0_limbs_down : IR := .tail [0, 1, 5, 6, 7, 9, 15, 17, 18, 21, 23, 24] j0_limbs_down
def j1_limbs_down : IR :=
 (.reg 13 [⟨some 54, .bin .add 3 (.t 24) (.c (Value.int IntKind.i64 1)) 3, none, []⟩,
  ⟨some 24, .move (.t 54), none, [54]⟩] none [0, 1, 5, 9, 15, 17, 18, 21, 23, 24])
def k1_limbs_down : IR := .tail [0, 1, 5, 9, 15, 17, 18, 21, 23, 24] j1_limbs_down
def j2_limbs_down : IR :=
 (.seq (.block 1 (.seq (.reg 8 [⟨some 26, .move (.t 24), none, []⟩,
  ⟨some 6, .assign (.t 26), none, [26]⟩] none [0, 1, 5, 6, 9, 15, 17, 18, 21, 23, 24])
 (.seq (.reg 9 [⟨some 27, .move (.t 0), none, []⟩,
  ⟨some 28, .move (.t 6), none, []⟩,
  ⟨some 29, .iaddr 27 (.sl 1) (.t 27) (.t 28), none, []⟩,
  ⟨some 30, .load 35 none (.t 29), none, [27, 28, 29]⟩,
  ⟨some 31, .conv 35 29 (.int .u64) (.t 30), none, [30]⟩,
  ⟨some 7, .assign (.t 31), none, [31]⟩] none [0, 1, 5, 6, 7, 9, 15, 17, 18, 21, 23, 24])
 (.seq (.seq (.reg 10 [⟨some 32, .move (.t 6), none, []⟩,
  ⟨some 33, .bin .add 3 (.t 32) (.c (Value.int IntKind.i64 1)) 3, none, [32]⟩,
  ⟨some 34, .move (.t 0), none, []⟩,
  ⟨some 35, .len 27 false (.t 34), none, [34]⟩,
  ⟨some 36, .bin .lss 3 (.t 33) (.t 35) 3, none, [33, 35]⟩] none [0, 1, 5, 6, 7, 9, 15, 17, 18, 21, 23, 24, 36])
 (.cond [0, 1, 5, 6, 7, 9, 15, 17, 18, 21, 23, 24] (.t 36) (.reg 11 [⟨some 37, .move (.t 7), none, []⟩,
  ⟨some 38, .move (.t 0), none, []⟩,
  ⟨some 39, .move (.t 6), none, []⟩,
  ⟨some 40, .bin .add 3 (.t 39) (.c (Value.int IntKind.i64 1)) 3, none, [39]⟩,
  ⟨some 41, .iaddr 27 (.sl 1) (.t 38) (.t 40), none, []⟩,
  ⟨some 42, .load 35 none (.t 41), none, [38, 40, 41]⟩,
  ⟨some 43, .conv 35 29 (.int .u64) (.t 42), none, [42]⟩,
  ⟨some 44, .bin .shl 29 (.t 43) (.c (Value.int IntKind.u64 32)) 55, none, [43]⟩,
  ⟨some 45, .bin .or 29 (.t 37) (.t 44) 29, none, [37, 44]⟩,
  ⟨some 7, .assign (.t 45), none, [45]⟩] none [0, 1, 5, 6, 7, 9, 15, 17, 18, 21, 23, 24]) .skip))
 k0_limbs_down))))
 k1_limbs_down)
def k2_limbs_down : IR := .tail [0, 1, 5, 9, 15, 17, 18, 21, 23, 24] j2_limbs_down
def w0_limbs_down : IR :=
 (.seq (.reg 7 [⟨some 25, .bin .lss 3 (.t 24) (.t 23) 3, none, []⟩] none [0, 1, 5, 9, 15, 17, 18, 21, 23, 24, 25])
 (.seq (.cond [0, 1, 5, 9, 15, 17, 18, 21, 23, 24] (.t 25) .skip (.exit 0))
 k2_limbs_down))
def l0_limbs_down : IR := .loop [0, 1, 5, 9, 15, 17, 18, 21, 23, 24] w0_limbs_down
def j3_limbs_down : IR :=
 (.seq (.reg 14 [⟨some 55, .move (.t 5), none, []⟩,
  ⟨some 56, .call n_limbs_trim [(.t 55)] [27], none, [5, 21, 55]⟩,
  ⟨some 4, .assign (.t 56), none, []⟩] none [4, 56])
 .ret)
def k3_limbs_down : IR := .tail [5, 21] j3_limbs_down
def j4_limbs_down : IR :=
 (.seq (.reg 4 [⟨some 15, .move (.t 0), none, []⟩,
  ⟨some 16, .move (.t 1), none, []⟩,
  ⟨some 17, .bin .quo 3 (.t 16) (.c (Value.int IntKind.i64 32)) 3, none, [16]⟩,
  ⟨some 18, .slice 27 (.sl 1) (.t 15) (some (.t 17)) none none, none, []⟩,
  ⟨some 0, .assign (.t 18), none, []⟩] none [0, 1, 9, 15, 17, 18])
 (.seq (.reg 5 [⟨some 19, .move (.t 0), none, []⟩,
  ⟨some 20, .len 27 false (.t 19), none, [19]⟩,
  ⟨some 21, .mk 27 1 4 (.v (.int .u32 0)) (.t 20) (.t 20), none, [20]⟩,
  ⟨some 5, .assign (.t 21), none, []⟩] none [0, 1, 5, 9, 15, 17, 18, 21])
 (.seq (.seq (.reg 6 [⟨some 22, .move (.t 0), none, []⟩,
  ⟨some 23, .len 27 false (.t 22), none, [22]⟩,
  ⟨some 24, .move (.c (Value.int IntKind.i64 0)), none, []⟩] none [0, 1, 5, 9, 15, 17, 18, 21, 23, 24])
 (.block 0 l0_limbs_down))
 k3_limbs_down)))
def k4_limbs_down : IR := .tail [0, 1, 9, 15, 17, 18] j4_limbs_down
def b_limbs_down : IR :=
 (.seq (.reg 0 [⟨some 4, .assign (.nilS 1), none, [4]⟩] none [0, 1, 9, 15, 17, 18])
 (.seq (.reg 1 [⟨some 8, .move (.t 0), none, []⟩,
  ⟨some 9, .call n_limbs_trim [(.t 8)] [27], none, [8]⟩,
  ⟨some 0, .assign (.t 9), none, []⟩] none [0, 1, 9, 15, 17, 18])
 (.seq (.seq (.reg 2 [⟨some 10, .move (.t 1), none, []⟩,
  ⟨some 11, .bin .quo 3 (.t 10) (.c (Value.int IntKind.i64 32)) 3, none, [10]⟩,
  ⟨some 12, .move (.t 0), none, []⟩,
  ⟨some 13, .len 27 false (.t 12), none, [12]⟩,
  ⟨some 14, .bin .geq 3 (.t 11) (.t 13) 3, none, [11, 13]⟩] none [0, 1, 9, 14, 15, 17, 18])
 (.cond [0, 1, 9, 15, 17, 18] (.t 14) (.seq (.reg 3 [⟨some 4, .assign (.nilS 1), none, []⟩] none [4, 56])
 .ret) .skip))
 k4_limbs_down)))
def a_limbs_down : AFunc := ⟨57, [.tmp 4], b_limbs_down⟩

def j0_limbs_DivMod : IR :=
 (.reg 11 [⟨some 38, .move (.t 9), none, []⟩,
  ⟨some 39, .bin .sub 3 (.t 38) (.c (Value.int IntKind.i64 1)) 3, none, [38]⟩,
  ⟨some 9, .assign (.t 39), none, [39]⟩] none [0, 1, 7, 8, 9, 15, 17, 32])
def k0_limbs_DivMod : IR := .tail [0, 1, 7, 8, 9, 15, 17, 32] j0_limbs_DivMod
def j1_limbs_DivMod : IR :=
 (.seq (.block 1 (.seq (.reg 12 [⟨some 40, .move (.t 8), none, []⟩,
  ⟨some 41, .bin .shl 29 (.t 40) (.c (Value.int IntKind.u64 32)) 55, none, [40]⟩,
  ⟨some 42, .move (.t 0), none, []⟩,
  ⟨some 43, .move (.t 9), none, []⟩,
  ⟨some 44, .iaddr 27 (.sl 1) (.t 42) (.t 43), none, []⟩,
  ⟨some 45, .load 35 none (.t 44), none, [42, 43, 44]⟩,
  ⟨some 46, .conv 35 29 (.int .u64) (.t 45), none, [45]⟩,
  ⟨some 47, .bin .or 29 (.t 41) (.t 46) 29, none, [41, 46]⟩,
  ⟨some 8, .assign (.t 47), none, [47]⟩] none [0, 1, 7, 8, 9, 15, 17, 32])
 (.seq (.reg 13 [⟨some 48, .move (.t 7), none, []⟩,
  ⟨some 49, .move (.t 9), none, []⟩,
  ⟨some 50, .move (.t 8), none, []⟩,
  ⟨some 51, .move (.t 1), none, []⟩,
  ⟨some 52, .iaddr 27 (.sl 1) (.t 51) (.c (Value.int IntKind.i64 0)), none, []⟩,
  ⟨some 53, .load 35 none (.t 52), none, [51, 52]⟩,
  ⟨some 54, .conv 35 29 (.int .u64) (.t 53), none, [53]⟩,
  ⟨some 55, .bin .quo 29 (.t 50) (.t 54) 29, none, [50, 54]⟩,
  ⟨some 56, .conv 29 35 (.int .u32) (.t 55), none, [55]⟩,
  ⟨some 57, .iaddr 27 (.sl 1) (.t 48) (.t 49), none, []⟩,
  ⟨none, .store 35 none (.t 57) (.t 56), none, [48, 49, 56, 57]⟩] none [0, 1, 7, 8, 9, 15, 17, 32])
 (.reg 14 [⟨some 58, .move (.t 8), none, []⟩,
  ⟨some 59, .move (.t 1), none, []⟩,
  ⟨some 60, .iaddr 27 (.sl 1) (.t 59) (.c (Value.int IntKind.i64 0)), none, []⟩,
  ⟨some 61, .load 35 none (.t 60), none, [59, 60]⟩,
  ⟨some 62, .conv 35 29 (.int .u64) (.t 61), none, [61]⟩,
  ⟨some 63, .bin .rem 29 (.t 58) (.t 62) 29, none, [58, 62]⟩,
  ⟨some 8, .assign (.t 63), none, [63]⟩] none [0, 1, 7, 8, 9, 15, 17, 32]))))
 k0_limbs_DivMod)
def k1_limbs_DivMod : IR := .tail [0, 1, 7, 8, 9, 15, 17, 32] j1_limbs_DivMod
def w0_limbs_DivMod : IR :=
 (.seq (.seq (.reg 10 [⟨some 36, .move (.t 9), none, []⟩,
  ⟨some 37, .bin .geq 3 (.t 36) (.c (Value.int IntKind.i64 0)) 3, none, [36]⟩] none [0, 1, 7, 8, 9, 15, 17, 32, 37])
 (.cond [0, 1, 7, 8, 9, 15, 17, 32] (.t 37) .skip (.exit 0)))
 k1_limbs_DivMod)
def l0_limbs_DivMod : IR := .loop [0, 1, 7, 8, 9, 15, 17, 32] w0_limbs_DivMod
def j2_limbs_DivMod : IR :=
 (.seq (.reg 15 [⟨some 64, .move (.t 7), none, []⟩,
  ⟨some 65, .call n_limbs_trim [(.t 64)] [27], none, [7, 32, 64]⟩,
  ⟨some 66, .move (.t 8), none, [8]⟩,
  ⟨some 67, .call n_limbs_From [(.t 66)] [29], none, [66]⟩,
  ⟨some 4, .assign (.t 65), none, []⟩,
  ⟨some 5, .assign (.t 67), none, []⟩,
  ⟨some 6, .assign (.c (Value.int IntKind.i64 0)), none, []⟩] none [4, 5, 6, 26, 65, 67, 93, 100])
 .ret)
def k2_limbs_DivMod : IR := .tail [7, 8, 32] j2_limbs_DivMod
def j3_limbs_DivMod : IR :=
 (.block 3 (.reg 19 [⟨some 86, .move (.t 11), none, []⟩,
  ⟨some 87, .lit 27 1 [(.c (Value.int IntKind.u32 0))], none, []⟩,
  ⟨some 88, .append 27 27 false 1 4 (.t 86) (.t 87), none, [86, 87]⟩,
  ⟨some 11, .assign (.t 88), none, []⟩] none [0, 10, 11, 12, 15, 77, 80, 88]))
def k3_limbs_DivMod : IR := .tail [0, 10, 11, 12, 15, 77, 80, 88] j3_limbs_DivMod
def w1_limbs_DivMod : IR :=
 (.seq (.seq (.reg 18 [⟨some 81, .move (.t 11), none, []⟩,
  ⟨some 82, .len 27 false (.t 81), none, [81]⟩,
  ⟨some 83, .move (.t 0), none, []⟩,
  ⟨some 84, .len 27 false (.t 83), none, [83]⟩,
  ⟨some 85, .bin .leq 3 (.t 82) (.t 84) 3, none, [82, 84]⟩] none [0, 10, 11, 12, 15, 77, 80, 85, 88])
 (.cond [0, 10, 11, 12, 15, 77, 80, 88] (.t 85) .skip (.exit 2)))
 k3_limbs_DivMod)
def l1_limbs_DivMod : IR := .loop [0, 10, 11, 12, 15, 77, 80, 88] w1_limbs_DivMod
def j4_limbs_DivMod : IR :=
 (.seq (.reg 20 [⟨some 89, .move (.t 11), none, []⟩,
  ⟨some 90, .move (.t 12), none, []⟩,
  ⟨some 91, .call n_limbs_long [(.t 89), (.t 90)] [27, 27], none, [89, 90]⟩,
  ⟨some 13, .assign (.t 91), none, []⟩] none [10, 11, 12, 13, 77, 80, 88, 91])
 (.seq (.reg 21 [⟨some 92, .move (.t 13), none, []⟩,
  ⟨some 93, .call n_limbs_trim [(.t 92)] [27], none, [13, 91, 92]⟩,
  ⟨some 94, .move (.t 11), none, []⟩,
  ⟨some 95, .move (.t 12), none, []⟩,
  ⟨some 96, .len 27 false (.t 95), none, [12, 80, 95]⟩,
  ⟨some 97, .slice 27 (.sl 1) (.t 94) none (some (.t 96)) none, none, []⟩,
  ⟨some 98, .call n_limbs_trim [(.t 97)] [27], none, [11, 77, 88, 94, 96, 97]⟩,
  ⟨some 99, .move (.t 10), none, [10]⟩,
  ⟨some 100, .call n_limbs_down [(.t 98), (.t 99)] [27, 3], none, [98, 99]⟩,
  ⟨some 4, .assign (.t 93), none, []⟩,
  ⟨some 5, .assign (.t 100), none, []⟩,
  ⟨some 6, .assign (.c (Value.int IntKind.i64 0)), none, []⟩] (some (.cons ⟨0, []⟩ (.cons ⟨2, []⟩ (.cons ⟨3, []⟩ (.cons ⟨4, []⟩ (.cons ⟨5, []⟩ (.cons ⟨7, []⟩ (.cons ⟨1, []⟩ (.cons ⟨6, []⟩ (.cons ⟨8, []⟩ (.cons ⟨9, []⟩ (.cons ⟨10, []⟩ (.cons ⟨11, []⟩ .nil))))))))))))) [4, 5, 6, 26, 65, 67, 93, 100])
 .ret))
def k4_limbs_DivMod : IR := .tail [10, 11, 12, 77, 80, 88] j4_limbs_DivMod
def j5_limbs_DivMod : IR :=
 (.seq (.reg 16 [⟨some 68, .move (.t 1), none, []⟩,
  ⟨some 69, .move (.t 1), none, []⟩,
  ⟨some 70, .len 27 false (.t 69), none, [69]⟩,
  ⟨some 71, .bin .sub 3 (.t 70) (.c (Value.int IntKind.i64 1)) 3, none, [70]⟩,
  ⟨some 72, .iaddr 27 (.sl 1) (.t 68) (.t 71), none, []⟩,
  ⟨some 73, .load 35 none (.t 72), none, [68, 71, 72]⟩,
  ⟨some 74, .call n_bits_LeadingZeros32 [(.t 73)] [35], none, [73]⟩,
  ⟨some 10, .assign (.t 74), none, [74]⟩] none [0, 1, 10, 15, 17])
 (.seq (.reg 17 [⟨some 75, .move (.t 0), none, []⟩,
  ⟨some 76, .move (.t 10), none, []⟩,
  ⟨some 77, .call n_limbs_up [(.t 75), (.t 76)] [27, 3], none, [75, 76]⟩,
  ⟨some 78, .move (.t 1), none, []⟩,
  ⟨some 79, .move (.t 10), none, []⟩,
  ⟨some 80, .call n_limbs_up [(.t 78), (.t 79)] [27, 3], none, [1, 17, 78, 79]⟩,
  ⟨some 11, .assign (.t 77), none, []⟩,
  ⟨some 12, .assign (.t 80), none, []⟩] none [0, 10, 11, 12, 15, 77, 80, 88])
 (.seq (.block 2 l1_limbs_DivMod)
 k4_limbs_DivMod)))
def k5_limbs_DivMod : IR := .tail [0, 1, 15, 17] j5_limbs_DivMod
def j6_limbs_DivMod : IR :=
 (.seq (.seq (.reg 6 [⟨some 27, .move (.t 1), none, []⟩,
  ⟨some 28, .len 27 false (.t 27), none, [27]⟩,
  ⟨some 29, .bin .eql 3 (.t 28) (.c (Value.int IntKind.i64 1)) 3, none, [28]⟩] none [0, 1, 15, 17, 29])
 (.cond [0, 1, 15, 17] (.t 29) (.seq (.reg 7 [⟨some 30, .move (.t 0), none, []⟩,
  ⟨some 31, .len 27 false (.t 30), none, [30]⟩,
  ⟨some 32, .mk 27 1 4 (.v (.int .u32 0)) (.t 31) (.t 31), none, [31]⟩,
  ⟨some 7, .assign (.t 32), none, []⟩] none [0, 1, 7, 15, 17, 32])
 (.seq (.reg 8 [⟨some 8, .assign (.c (Value.int IntKind.u64 0)), none, []⟩] none [0, 1, 7, 8, 15, 17, 32])
 (.seq (.seq (.reg 9 [⟨some 33, .move (.t 0), none, []⟩,
  ⟨some 34, .len 27 false (.t 33), none, [33]⟩,
  ⟨some 35, .bin .sub 3 (.t 34) (.c (Value.int IntKind.i64 1)) 3, none, [34]⟩,
  ⟨some 9, .assign (.t 35), none, [35]⟩] none [0, 1, 7, 8, 9, 15, 17, 32])
 (.block 0 l0_limbs_DivMod))
 k2_limbs_DivMod))) .skip))
 k5_limbs_DivMod)
def k6_limbs_DivMod : IR := .tail [0, 1, 15, 17] j6_limbs_DivMod
def j7_limbs_DivMod : IR :=
 (.seq (.seq (.reg 4 [⟨some 21, .move (.t 0), none, []⟩,
  ⟨some 22, .move (.t 1), none, []⟩,
  ⟨some 23, .call n_limbs_Cmp [(.t 21), (.t 22)] [27, 27], none, [21, 22]⟩,
  ⟨some 24, .bin .lss 3 (.t 23) (.c (Value.int IntKind.i64 0)) 3, none, [23]⟩] none [0, 1, 15, 17, 24])
 (.cond [0, 1, 15, 17] (.t 24) (.seq (.reg 5 [⟨some 25, .move (.t 0), none, []⟩,
  ⟨some 26, .call n_limbs_Norm [(.t 25)] [27], none, [0, 15, 25]⟩,
  ⟨some 4, .assign (.nilS 1), none, []⟩,
  ⟨some 5, .assign (.t 26), none, []⟩,
  ⟨some 6, .assign (.c (Value.int IntKind.i64 0)), none, []⟩] none [4, 5, 6, 26, 65, 67, 93, 100])
 .ret) .skip))
 k6_limbs_DivMod)
def k7_limbs_DivMod : IR := .tail [0, 1, 15, 17] j7_limbs_DivMod
def b_limbs_DivMod : IR :=
 (.seq (.reg 0 [⟨some 4, .assign (.nilS 1), none, [4]⟩,
  ⟨some 5, .assign (.nilS 1), none, [5]⟩,
  ⟨some 6, .assign (.c (Value.int IntKind.i64 0)), none, [6]⟩] none [0, 1, 15, 17])
 (.seq (.reg 1 [⟨some 14, .move (.t 0), none, []⟩,
  ⟨some 15, .call n_limbs_trim [(.t 14)] [27], none, [14]⟩,
  ⟨some 16, .move (.t 1), none, []⟩,
  ⟨some 17, .call n_limbs_trim [(.t 16)] [27], none, [16]⟩,
  ⟨some 0, .assign (.t 15), none, []⟩,
  ⟨some 1, .assign (.t 17), none, []⟩] none [0, 1, 15, 17])
 (.seq (.seq (.reg 2 [⟨some 18, .move (.t 1), none, []⟩,
  ⟨some 19, .len 27 false (.t 18), none, [18]⟩,
  ⟨some 20, .bin .eql 3 (.t 19) (.c (Value.int IntKind.i64 0)) 3, none, [19]⟩] none [0, 1, 15, 17, 20])
 (.cond [0, 1, 15, 17] (.t 20) (.seq (.reg 3 [⟨some 4, .assign (.nilS 1), none, []⟩,
  ⟨some 5, .assign (.nilS 1), none, []⟩,
  ⟨some 6, .assign (.c (Value.int IntKind.i64 11)), none, []⟩] none [4, 5, 6, 26, 65, 67, 93, 100])
 .ret) .skip))
 k7_limbs_DivMod)))
def a_limbs_DivMod : AFunc := ⟨101, [.tmp 4, .tmp 5, .tmp 6], b_limbs_DivMod⟩

def j0_limbs_Small : IR :=
 (.reg 9 [⟨some 26, .bin .add 3 (.t 13) (.c (Value.int IntKind.i64 1)) 3, none, []⟩,
  ⟨some 13, .move (.t 26), none, [26]⟩] none [0, 4, 7, 12, 13])
def k0_limbs_Small : IR := .tail [0, 4, 7, 12, 13] j0_limbs_Small
def j1_limbs_Small : IR :=
 (.seq (.block 1 (.seq (.reg 7 [⟨some 15, .move (.t 13), none, []⟩,
  ⟨some 5, .assign (.t 15), none, [15]⟩] none [0, 4, 5, 7, 12, 13])
 (.reg 8 [⟨some 16, .move (.t 4), none, []⟩,
  ⟨some 17, .move (.t 0), none, []⟩,
  ⟨some 18, .move (.t 5), none, []⟩,
  ⟨some 19, .iaddr 27 (.sl 1) (.t 17) (.t 18), none, []⟩,
  ⟨some 20, .load 35 none (.t 19), none, [17, 18, 19]⟩,
  ⟨some 21, .conv 35 29 (.int .u64) (.t 20), none, [20]⟩,
  ⟨some 22, .move (.t 5), none, [5]⟩,
  ⟨some 23, .bin .mul 3 (.c (Value.int IntKind.i64 32)) (.t 22) 3, none, [22]⟩,
  ⟨some 24, .bin .shl 29 (.t 21) (.t 23) 3, none, [21, 23]⟩,
  ⟨some 25, .bin .or 29 (.t 16) (.t 24) 29, none, [16, 24]⟩,
  ⟨some 4, .assign (.t 25), none, [25]⟩] none [0, 4, 7, 12, 13])))
 k0_limbs_Small)
def k1_limbs_Small : IR := .tail [0, 4, 7, 12, 13] j1_limbs_Small
def w0_limbs_Small : IR :=
 (.seq (.reg 6 [⟨some 14, .bin .lss 3 (.t 13) (.t 12) 3, none, []⟩] none [0, 4, 7, 12, 13, 14])
 (.seq (.cond [0, 4, 7, 12, 13] (.t 14) .skip (.exit 0))
 k1_limbs_Small))
def l0_limbs_Small : IR := .loop [0, 4, 7, 12, 13] w0_limbs_Small
def j2_limbs_Small : IR :=
 (.seq (.reg 10 [⟨some 27, .move (.t 4), none, [4]⟩,
  ⟨some 2, .assign (.t 27), none, [27]⟩,
  ⟨some 3, .assign (.c (Value.bool true)), none, []⟩] none [2, 3])
 .ret)
def k2_limbs_Small : IR := .tail [4] j2_limbs_Small
def j3_limbs_Small : IR :=
 (.seq (.seq (.reg 5 [⟨some 11, .move (.t 0), none, []⟩,
  ⟨some 12, .len 27 false (.t 11), none, [11]⟩,
  ⟨some 13, .move (.c (Value.int IntKind.i64 0)), none, []⟩] none [0, 4, 7, 12, 13])
 (.block 0 l0_limbs_Small))
 k2_limbs_Small)
def k3_limbs_Small : IR := .tail [0, 4, 7] j3_limbs_Small
def b_limbs_Small : IR :=
 (.seq (.reg 0 [⟨some 2, .assign (.c (Value.int IntKind.u64 0)), none, [2]⟩,
  ⟨some 3, .assign (.c (Value.bool false)), none, [3]⟩] none [0, 7])
 (.seq (.reg 1 [⟨some 6, .move (.t 0), none, []⟩,
  ⟨some 7, .call n_limbs_trim [(.t 6)] [27], none, [6]⟩,
  ⟨some 0, .assign (.t 7), none, []⟩] none [0, 7])
 (.seq (.reg 2 [⟨some 4, .assign (.c (Value.int IntKind.u64 0)), none, []⟩] none [0, 4, 7])
 (.seq (.seq (.reg 3 [⟨some 8, .move (.t 0), none, []⟩,
  ⟨some 9, .len 27 false (.t 8), none, [8]⟩,
  ⟨some 10, .bin .gtr 3 (.t 9) (.c (Value.int IntKind.i64 2)) 3, none, [9]⟩] none [0, 4, 7, 10])
 (.cond [0, 4, 7] (.t 10) (.seq (.reg 4 [⟨some 2, .assign (.c (Value.int IntKind.u64 0)), none, []⟩,
  ⟨some 3, .assign (.c (Value.bool false)), none, []⟩] none [2, 3])
 .ret) .skip))
 k3_limbs_Small))))
def a_limbs_Small : AFunc := ⟨28, [.tmp 2, .tmp 3], b_limbs_Small⟩

def j0_floats_format_nearest : IR :=
 (.seq (.reg 19 [⟨some 103, .move (.t 15), none, [15]⟩,
  ⟨some 104, .move (.t 9), none, []⟩,
  ⟨some 105, .move (.t 9), none, [9]⟩,
  ⟨some 106, .faddr 79 (.t 3) 2 2, none, []⟩,
  ⟨some 107, .load 3 none (.t 106), none, []⟩,
  ⟨some 108, .bin .leq 3 (.t 105) (.t 107) 3, none, [105, 107]⟩,
  ⟨some 6, .assign (.t 103), none, [103]⟩,
  ⟨some 7, .assign (.t 104), none, [3, 104, 106]⟩,
  ⟨some 8, .assign (.t 108), none, [108]⟩] (some (.cons ⟨0, []⟩ (.cons ⟨1, []⟩ (.cons ⟨2, []⟩ (.cons ⟨3, []⟩ (.cons ⟨4, []⟩ (.cons ⟨5, []⟩ (.cons ⟨6, [4]⟩ (.cons ⟨7, [4]⟩ (.cons ⟨8, []⟩ .nil)))))))))) [6, 7, 8])
 .ret)
def k0_floats_format_nearest : IR := .tail [3, 9, 15] j0_floats_format_nearest
def j1_floats_format_nearest : IR :=
 (.seq (.seq (.reg 17 [⟨some 93, .move (.t 15), none, []⟩,
  ⟨some 94, .faddr 79 (.t 3) 0 0, none, []⟩,
  ⟨some 95, .load 3 none (.t 94), none, [94]⟩,
  ⟨some 96, .conv 3 55 (.int .u64) (.t 95), none, [95]⟩,
  ⟨some 97, .bin .shl 29 (.c (Value.int IntKind.u64 1)) (.t 96) 55, none, [96]⟩,
  ⟨some 98, .bin .eql 29 (.t 93) (.t 97) 29, none, [93, 97]⟩] none [3, 9, 15, 98])
 (.cond [3, 9, 15] (.t 98) (.reg 18 [⟨some 99, .move (.t 15), none, []⟩,
  ⟨some 100, .bin .shr 29 (.t 99) (.c (Value.int IntKind.u64 1)) 55, none, [99]⟩,
  ⟨some 101, .move (.t 9), none, []⟩,
  ⟨some 102, .bin .add 3 (.t 101) (.c (Value.int IntKind.i64 1)) 3, none, [101]⟩,
  ⟨some 15, .assign (.t 100), none, [100]⟩,
  ⟨some 9, .assign (.t 102), none, [102]⟩] none [3, 9, 15]) .skip))
 k0_floats_format_nearest)
def k1_floats_format_nearest : IR := .tail [3, 9, 15] j1_floats_format_nearest
def j2_floats_format_nearest : IR :=
 (.seq (.reg 13 [⟨some 71, .move (.t 12), none, []⟩,
  ⟨some 72, .call n_limbs_Small [(.t 71)] [27], none, [12, 60, 71]⟩,
  ⟨some 70, .move (.t 72), none, [72]⟩,
  ⟨some 73, .extr (.t 70) 0, none, []⟩,
  ⟨some 74, .extr (.t 70) 1, none, [70]⟩,
  ⟨some 15, .assign (.t 73), none, [73]⟩,
  ⟨some 16, .assign (.t 74), none, [16, 74]⟩] none [2, 3, 9, 11, 13, 15, 40, 50, 53, 54, 56, 59, 61])
 (.seq (.reg 14 [⟨some 75, .move (.t 13), none, []⟩,
  ⟨some 76, .move (.t 13), none, []⟩,
  ⟨some 77, .call n_limbs_Add [(.t 75), (.t 76)] [27, 27], none, [13, 56, 59, 61, 75, 76]⟩,
  ⟨some 78, .move (.t 11), none, []⟩,
  ⟨some 79, .call n_limbs_Cmp [(.t 77), (.t 78)] [27, 27], none, [2, 11, 40, 50, 53, 54, 77, 78]⟩,
  ⟨some 17, .assign (.t 79), none, [79]⟩] none [3, 9, 15, 17])
 (.seq (.seq (.reg 15 [⟨some 80, .move (.t 17), none, []⟩,
  ⟨some 81, .bin .gtr 3 (.t 80) (.c (Value.int IntKind.i64 0)) 3, none, [80]⟩,
  ⟨some 82, .move (.t 81), none, [81]⟩,
  ⟨some 83, .move (.t 17), some (2, false), [17]⟩,
  ⟨some 84, .bin .eql 3 (.t 83) (.c (Value.int IntKind.i64 0)) 3, some (2, false), [83]⟩,
  ⟨some 85, .move (.t 84), some (2, false), [84]⟩,
  ⟨some 86, .move (.t 15), some (5, true), []⟩,
  ⟨some 87, .bin .and 29 (.t 86) (.c (Value.int IntKind.u64 1)) 29, some (5, true), [86]⟩,
  ⟨some 88, .bin .eql 29 (.t 87) (.c (Value.int IntKind.u64 1)) 29, some (5, true), [87]⟩,
  ⟨some 89, .pick (.t 85) (.t 88) (.c (Value.bool false)), some (2, false), [85, 88]⟩,
  ⟨some 90, .pick (.t 82) (.c (Value.bool true)) (.t 89), none, [82, 89]⟩] none [3, 9, 15, 90])
 (.cond [3, 9, 15] (.t 90) (.reg 16 [⟨some 91, .move (.t 15), none, []⟩,
  ⟨some 92, .bin .add 29 (.t 91) (.c (Value.int IntKind.u64 1)) 29, none, [91]⟩,
  ⟨some 15, .assign (.t 92), none, [92]⟩] none [3, 9, 15]) .skip))
 k1_floats_format_nearest)))
def k2_floats_format_nearest : IR := .tail [2, 3, 9, 11, 12, 13, 40, 50, 53, 54, 56, 59, 60, 61] j2_floats_format_nearest
def j3_floats_format_nearest : IR :=
 (.seq (.reg 10 [⟨some 57, .move (.t 10), none, []⟩,
  ⟨some 58, .move (.t 11), none, []⟩,
  ⟨some 59, .call n_limbs_DivMod [(.t 57), (.t 58)] [27, 27], none, [10, 39, 43, 47, 48, 57, 58]⟩,
  ⟨some 56, .move (.t 59), none, []⟩,
  ⟨some 60, .extr (.t 56) 0, none, []⟩,
  ⟨some 61, .extr (.t 56) 1, none, []⟩,
  ⟨some 62, .extr (.t 56) 2, none, []⟩,
  ⟨some 12, .assign (.t 60), none, []⟩,
  ⟨some 13, .assign (.t 61), none, []⟩,
  ⟨some 14, .assign (.t 62), none, [14, 62]⟩] none [1, 2, 3, 9, 11, 12, 13, 40, 50, 53, 54, 56, 59, 60, 61])
 (.seq (.seq (.reg 11 [⟨some 63, .move (.t 12), none, []⟩,
  ⟨some 64, .call n_limbs_Len [(.t 63)] [27], none, [63, 65]⟩,
  ⟨some 65, .faddr 79 (.t 3) 0 0, none, []⟩,
  ⟨some 66, .load 3 none (.t 65), none, []⟩,
  ⟨some 67, .bin .gtr 3 (.t 64) (.t 66) 3, none, [64, 66]⟩] (some (.cons ⟨0, []⟩ (.cons ⟨2, []⟩ (.cons ⟨3, []⟩ (.cons ⟨1, [3]⟩ (.cons ⟨4, []⟩ .nil)))))) [1, 2, 3, 9, 11, 12, 13, 40, 50, 53, 54, 56, 59, 60, 61, 67])
 (.cond [1, 2, 3, 9, 11, 12, 13, 40, 50, 53, 54, 56, 59, 60, 61] (.t 67) (.seq (.reg 12 [⟨some 68, .move (.t 9), none, []⟩,
  ⟨some 69, .bin .add 3 (.t 68) (.c (Value.int IntKind.i64 1)) 3, none, [68]⟩,
  ⟨some 9, .assign (.t 69), none, [69]⟩] none [1, 2, 3, 9])
 (.exit 1)) .skip))
 k2_floats_format_nearest))
def k3_floats_format_nearest : IR := .tail [1, 2, 3, 9, 10, 11, 39, 40, 43, 47, 48, 50, 53, 54] j3_floats_format_nearest
def w0_floats_format_nearest : IR :=
 (.block 1 (.seq (.reg 6 [⟨some 39, .move (.t 1), none, []⟩,
  ⟨some 40, .move (.t 2), none, []⟩,
  ⟨some 10, .assign (.t 39), none, []⟩,
  ⟨some 11, .assign (.t 40), none, []⟩] none [1, 2, 3, 9, 10, 11, 39, 40, 43, 47, 48, 50, 53, 54])
 (.seq (.seq (.reg 7 [⟨some 41, .move (.t 9), none, []⟩,
  ⟨some 42, .bin .lss 3 (.t 41) (.c (Value.int IntKind.i64 0)) 3, none, [41]⟩] none [1, 2, 3, 9, 10, 11, 39, 40, 42, 43, 47, 48, 50, 53, 54])
 (.cond [1, 2, 3, 9, 10, 11, 39, 40, 43, 47, 48, 50, 53, 54] (.t 42) (.reg 8 [⟨some 44, .move (.t 1), none, []⟩,
  ⟨some 45, .move (.t 9), none, []⟩,
  ⟨some 46, .un .neg 3 (.t 45), none, [45]⟩,
  ⟨some 47, .call n_limbs_Up [(.t 44), (.t 46)] [27, 3], none, [44, 46]⟩,
  ⟨some 43, .move (.t 47), none, []⟩,
  ⟨some 48, .extr (.t 43) 0, none, []⟩,
  ⟨some 49, .extr (.t 43) 1, none, [49]⟩,
  ⟨some 10, .assign (.t 48), none, []⟩] none [1, 2, 3, 9, 10, 11, 39, 40, 43, 47, 48, 50, 53, 54]) (.reg 9 [⟨some 51, .move (.t 2), none, []⟩,
  ⟨some 52, .move (.t 9), none, []⟩,
  ⟨some 53, .call n_limbs_Up [(.t 51), (.t 52)] [27, 3], none, [51, 52]⟩,
  ⟨some 50, .move (.t 53), none, []⟩,
  ⟨some 54, .extr (.t 50) 0, none, []⟩,
  ⟨some 55, .extr (.t 50) 1, none, [55]⟩,
  ⟨some 11, .assign (.t 54), none, []⟩] none [1, 2, 3, 9, 10, 11, 39, 40, 43, 47, 48, 50, 53, 54])))
 k3_floats_format_nearest)))
def l0_floats_format_nearest : IR := .loop [1, 2, 3, 9] w0_floats_format_nearest
def j4_floats_format_nearest : IR :=
 (.block 0 l0_floats_format_nearest)
def k4_floats_format_nearest : IR := .tail [1, 2, 3, 9] j4_floats_format_nearest
def j5_floats_format_nearest : IR :=
 (.seq (.reg 3 [⟨some 23, .move (.t 1), none, []⟩,
  ⟨some 24, .call n_limbs_Len [(.t 23)] [27], none, [23]⟩,
  ⟨some 25, .move (.t 2), none, []⟩,
  ⟨some 26, .call n_limbs_Len [(.t 25)] [27], none, [25, 28, 31]⟩,
  ⟨some 27, .bin .sub 3 (.t 24) (.t 26) 3, none, [24, 26]⟩,
  ⟨some 28, .faddr 79 (.t 3) 0 0, none, []⟩,
  ⟨some 29, .load 3 none (.t 28), none, []⟩,
  ⟨some 30, .bin .sub 3 (.t 27) (.t 29) 3, none, [27, 29]⟩,
  ⟨some 31, .faddr 79 (.t 3) 1 1, none, []⟩,
  ⟨some 32, .load 3 none (.t 31), none, []⟩,
  ⟨some 33, .minmax true [3, 3] (.t 30) (.t 32), none, [30, 32]⟩,
  ⟨some 9, .assign (.t 33), none, [33]⟩] (some (.cons ⟨0, []⟩ (.cons ⟨2, []⟩ (.cons ⟨5, []⟩ (.cons ⟨8, []⟩ (.cons ⟨6, []⟩ (.cons ⟨9, []⟩ (.cons ⟨1, [6, 9]⟩ (.cons ⟨3, [6, 9]⟩ (.cons ⟨4, []⟩ (.cons ⟨7, []⟩ (.cons ⟨10, []⟩ (.cons ⟨11, []⟩ .nil))))))))))))) [1, 2, 3, 9])
 (.seq (.seq (.reg 4 [⟨some 34, .move (.t 9), none, []⟩,
  ⟨some 35, .faddr 79 (.t 3) 2 2, none, []⟩,
  ⟨some 36, .load 3 none (.t 35), none, [35]⟩,
  ⟨some 37, .bin .add 3 (.t 36) (.c (Value.int IntKind.i64 2)) 3, none, [36]⟩,
  ⟨some 38, .bin .gtr 3 (.t 34) (.t 37) 3, none, [34, 37]⟩] none [1, 2, 3, 9, 38])
 (.cond [1, 2, 3, 9] (.t 38) (.seq (.reg 5 [⟨some 6, .assign (.c (Value.int IntKind.u64 0)), none, []⟩,
  ⟨some 7, .assign (.c (Value.int IntKind.i64 0)), none, []⟩,
  ⟨some 8, .assign (.c (Value.bool false)), none, []⟩] none [6, 7, 8])
 .ret) .skip))
 k4_floats_format_nearest))
def k5_floats_format_nearest : IR := .tail [1, 2, 3] j5_floats_format_nearest
def b_floats_format_nearest : IR :=
 (.seq (.reg 0 [⟨some 3, .box 79 (.t 0), none, [0]⟩,
  ⟨some 6, .assign (.c (Value.int IntKind.u64 0)), none, [6]⟩,
  ⟨some 7, .assign (.c (Value.int IntKind.i64 0)), none, [7]⟩,
  ⟨some 8, .assign (.c (Value.bool false)), none, [8]⟩] none [1, 2, 3])
 (.seq (.seq (.reg 1 [⟨some 18, .move (.t 1), none, []⟩,
  ⟨some 19, .call n_limbs_Len [(.t 18)] [27], none, [18]⟩,
  ⟨some 20, .bin .eql 3 (.t 19) (.c (Value.int IntKind.i64 0)) 3, none, [19]⟩] none [1, 2, 3, 20])
 (.cond [1, 2, 3] (.t 20) (.seq (.reg 2 [⟨some 21, .faddr 79 (.t 3) 1 1, none, []⟩,
  ⟨some 22, .load 3 none (.t 21), none, []⟩,
  ⟨some 6, .assign (.c (Value.int IntKind.u64 0)), none, [3, 21]⟩,
  ⟨some 7, .assign (.t 22), none, [22]⟩,
  ⟨some 8, .assign (.c (Value.bool true)), none, []⟩] (some (.cons ⟨0, []⟩ (.cons ⟨1, []⟩ (.cons ⟨2, [1]⟩ (.cons ⟨3, []⟩ (.cons ⟨4, []⟩ .nil)))))) [6, 7, 8])
 .ret) .skip))
 k5_floats_format_nearest))
def a_floats_format_nearest : AFunc := ⟨109, [.tmp 6, .tmp 7, .tmp 8], b_floats_format_nearest⟩

def j0_floats_number : IR :=
 (.seq (.reg 9 [⟨some 38, .move (.t 10), none, [10]⟩,
  ⟨some 39, .ext n_math_Float64frombits .fromBits [(.t 38)] [29], none, [38]⟩,
  ⟨some 6, .assign (.t 39), none, [39]⟩] none [6])
 .ret)
def k0_floats_number : IR := .tail [10] j0_floats_number
def j1_floats_number : IR :=
 (.seq (.seq (.reg 7 [⟨some 35, .move (.t 0), none, [0]⟩] none [10, 35])
 (.cond [10] (.t 35) (.reg 8 [⟨some 36, .move (.t 10), none, []⟩,
  ⟨some 37, .bin .or 29 (.t 36) (.c (Value.int IntKind.u64 9223372036854775808)) 29, none, [36]⟩,
  ⟨some 10, .assign (.t 37), none, [37]⟩] none [10]) .skip))
 k0_floats_number)
def k1_floats_number : IR := .tail [0, 10] j1_floats_number
def b_floats_number : IR :=
 (.seq (.reg 0 [⟨some 6, .assign (.c (Value.float FloatKind.f64 0)), none, [6]⟩] none [0, 1, 2])
 (.seq (.reg 1 [⟨some 12, .load 79 (some 3) (.g 1 glob1), none, []⟩,
  ⟨some 13, .move (.t 1), none, []⟩,
  ⟨some 14, .move (.t 2), none, []⟩,
  ⟨some 15, .call n_floats_format_nearest [(.t 12), (.t 13), (.t 14)] [79, 27, 27], none, [1, 2, 12, 13, 14]⟩,
  ⟨some 11, .move (.t 15), none, [15]⟩,
  ⟨some 16, .extr (.t 11) 0, none, []⟩,
  ⟨some 17, .extr (.t 11) 1, none, []⟩,
  ⟨some 18, .extr (.t 11) 2, none, [11]⟩,
  ⟨some 7, .assign (.t 16), none, [16]⟩,
  ⟨some 8, .assign (.t 17), none, [17]⟩,
  ⟨some 9, .assign (.t 18), none, [18]⟩] none [0, 7, 8, 9])
 (.seq (.reg 2 [⟨some 10, .assign (.c (Value.int IntKind.u64 9218868437227405312)), none, []⟩] none [0, 7, 8, 9, 10])
 (.seq (.block 0 (.seq (.reg 3 [⟨some 20, .move (.t 9), none, []⟩,
  ⟨some 21, .move (.t 20), none, [20]⟩,
  ⟨some 22, .move (.t 7), some (1, true), []⟩,
  ⟨some 23, .bin .lss 29 (.t 22) (.c (Value.int IntKind.u64 4503599627370496)) 29, some (1, true), [22]⟩,
  ⟨some 24, .pick (.t 21) (.t 23) (.c (Value.bool false)), none, [21, 23]⟩,
  ⟨some 19, .assign (.t 24), none, [24]⟩] none [0, 7, 8, 9, 10, 19])
 (.cond [0, 7, 8, 9, 10] (.t 19) (.reg 4 [⟨some 25, .move (.t 7), none, [7]⟩,
  ⟨some 10, .assign (.t 25), none, [25]⟩] none [0, 10]) (.seq (.reg 5 [⟨some 27, .move (.t 9), none, [9]⟩,
  ⟨some 26, .assign (.t 27), none, [27]⟩] none [0, 7, 8, 10, 26])
 (.cond [0, 7, 8, 10] (.t 26) (.reg 6 [⟨some 28, .move (.t 8), none, [8]⟩,
  ⟨some 29, .bin .add 3 (.t 28) (.c (Value.int IntKind.i64 1075)) 3, none, [28]⟩,
  ⟨some 30, .conv 3 29 (.int .u64) (.t 29), none, [29]⟩,
  ⟨some 31, .bin .shl 29 (.t 30) (.c (Value.int IntKind.u64 52)) 55, none, [30]⟩,
  ⟨some 32, .move (.t 7), none, [7]⟩,
  ⟨some 33, .bin .sub 29 (.t 32) (.c (Value.int IntKind.u64 4503599627370496)) 29, none, [32]⟩,
  ⟨some 34, .bin .add 29 (.t 31) (.t 33) 29, none, [31, 33]⟩,
  ⟨some 10, .assign (.t 34), none, [34]⟩] none [0, 10]) .skip)))))
 k1_floats_number))))
def a_floats_number : AFunc := ⟨40, [.tmp 6], b_floats_number⟩

def j0_floats_Read : IR :=
 (.seq (.reg 16 [⟨some 49, .faddr 44 (.t 5) 0 0, none, []⟩,
  ⟨some 50, .load 4 none (.t 49), none, [5, 49]⟩,
  ⟨some 51, .move (.t 9), none, []⟩,
  ⟨some 52, .move (.t 10), none, []⟩,
  ⟨some 53, .call n_floats_number [(.t 50), (.t 51), (.t 52)] [4, 27, 27], none, [9, 10, 33, 35, 36, 37, 50, 51, 52]⟩,
  ⟨some 2, .assign (.t 53), none, [53]⟩,
  ⟨some 3, .assign (.c (Value.int IntKind.i64 0)), none, []⟩,
  ⟨some 4, .assign (.c (Value.int IntKind.i64 0)), none, []⟩] none [2, 3, 4])
 .ret)
def k0_floats_Read : IR := .tail [5, 9, 10, 33, 35, 36, 37] j0_floats_Read
def j1_floats_Read : IR :=
 (.seq (.reg 11 [⟨some 34, .load 44 (some 7) (.t 5), none, []⟩,
  ⟨some 35, .call n_floats_text_quotient [(.t 34)] [44], none, [34]⟩,
  ⟨some 33, .move (.t 35), none, []⟩,
  ⟨some 36, .extr (.t 33) 0, none, []⟩,
  ⟨some 37, .extr (.t 33) 1, none, []⟩,
  ⟨some 38, .extr (.t 33) 2, none, []⟩,
  ⟨some 39, .extr (.t 33) 3, none, []⟩,
  ⟨some 9, .assign (.t 36), none, []⟩,
  ⟨some 10, .assign (.t 37), none, []⟩,
  ⟨some 11, .assign (.t 38), none, [38]⟩,
  ⟨some 12, .assign (.t 39), none, [39]⟩] none [5, 8, 9, 10, 11, 12, 33, 35, 36, 37])
 (.seq (.block 0 (.seq (.reg 12 [⟨some 41, .move (.t 11), none, [11]⟩,
  ⟨some 40, .assign (.t 41), none, [41]⟩] none [5, 8, 9, 10, 12, 33, 35, 36, 37, 40])
 (.cond [5, 8, 9, 10, 12, 33, 35, 36, 37] (.t 40) (.seq (.reg 13 [⟨some 42, .move (.t 8), none, [8]⟩,
  ⟨some 43, .conv 22 3 (.fint .i64) (.t 42), none, [42]⟩,
  ⟨some 44, .call n_math_Inf [(.t 43)] [3], none, [43]⟩,
  ⟨some 2, .assign (.t 44), none, [44]⟩,
  ⟨some 3, .assign (.c (Value.int IntKind.i64 0)), none, []⟩,
  ⟨some 4, .assign (.c (Value.int IntKind.i64 0)), none, []⟩] none [2, 3, 4])
 .ret) (.seq (.reg 14 [⟨some 46, .move (.t 12), none, [12]⟩,
  ⟨some 45, .assign (.t 46), none, [46]⟩] none [5, 8, 9, 10, 33, 35, 36, 37, 45])
 (.cond [5, 8, 9, 10, 33, 35, 36, 37] (.t 45) (.seq (.reg 15 [⟨some 47, .move (.t 8), none, [8]⟩,
  ⟨some 48, .call n_math_Copysign [(.c (Value.float FloatKind.f64 0)), (.t 47)] [22, 22], none, [47]⟩,
  ⟨some 2, .assign (.t 48), none, [48]⟩,
  ⟨some 3, .assign (.c (Value.int IntKind.i64 0)), none, []⟩,
  ⟨some 4, .assign (.c (Value.int IntKind.i64 0)), none, []⟩] none [2, 3, 4])
 .ret) .skip)))))
 k0_floats_Read))
def k1_floats_Read : IR := .tail [5, 8] j1_floats_Read
def j2_floats_Read : IR :=
 (.seq (.seq (.reg 9 [⟨some 28, .faddr 44 (.t 5) 2 2, none, []⟩,
  ⟨some 29, .load 4 none (.t 28), none, [28]⟩] none [5, 8, 29])
 (.cond [5, 8] (.t 29) (.seq (.reg 10 [⟨some 30, .move (.t 8), none, [8]⟩,
  ⟨some 31, .conv 22 3 (.fint .i64) (.t 30), none, [30]⟩,
  ⟨some 32, .call n_math_Inf [(.t 31)] [3], none, [31]⟩,
  ⟨some 2, .assign (.t 32), none, [32]⟩,
  ⟨some 3, .assign (.c (Value.int IntKind.i64 0)), none, []⟩,
  ⟨some 4, .assign (.c (Value.int IntKind.i64 0)), none, []⟩] none [2, 3, 4])
 .ret) .skip))
 k1_floats_Read)
def k2_floats_Read : IR := .tail [5, 8] j2_floats_Read
def j3_floats_Read : IR :=
 (.seq (.reg 6 [⟨some 8, .assign (.c (Value.float FloatKind.f64 4607182418800017408)), none, []⟩] none [5, 8])
 (.seq (.seq (.reg 7 [⟨some 26, .faddr 44 (.t 5) 0 0, none, []⟩,
  ⟨some 27, .load 4 none (.t 26), none, [26]⟩] none [5, 8, 27])
 (.cond [5, 8] (.t 27) (.reg 8 [⟨some 8, .assign (.c (Value.float FloatKind.f64 13830554455654793216)), none, []⟩] none [5, 8]) .skip))
 k2_floats_Read))
def k3_floats_Read : IR := .tail [5] j3_floats_Read
def j4_floats_Read : IR :=
 (.seq (.seq (.reg 4 [⟨some 23, .faddr 44 (.t 5) 1 1, none, []⟩,
  ⟨some 24, .load 4 none (.t 23), none, [23]⟩] none [5, 24])
 (.cond [5] (.t 24) (.seq (.reg 5 [⟨some 25, .call n_math_NaN [] [], none, []⟩,
  ⟨some 2, .assign (.t 25), none, [25]⟩,
  ⟨some 3, .assign (.c (Value.int IntKind.i64 0)), none, []⟩,
  ⟨some 4, .assign (.c (Value.int IntKind.i64 0)), none, []⟩] none [2, 3, 4])
 .ret) .skip))
 k3_floats_Read)
def k4_floats_Read : IR := .tail [5] j4_floats_Read
def b_floats_Read : IR :=
 (.seq (.reg 0 [⟨some 2, .assign (.c (Value.float FloatKind.f64 0)), none, [2]⟩,
  ⟨some 3, .assign (.c (Value.int IntKind.i64 0)), none, [3]⟩,
  ⟨some 4, .assign (.c (Value.int IntKind.i64 0)), none, [4]⟩] none [0])
 (.seq (.reg 1 [⟨some 14, .move (.t 0), none, [0]⟩,
  ⟨some 15, .call n_floats_taken [(.t 14)] [9], none, [14]⟩,
  ⟨some 13, .move (.t 15), none, [15]⟩,
  ⟨some 16, .extr (.t 13) 0, none, []⟩,
  ⟨some 17, .extr (.t 13) 1, none, []⟩,
  ⟨some 18, .extr (.t 13) 2, none, [13]⟩,
  ⟨some 5, .alloc 44 [.v (.bool false), .v (.bool false), .v (.bool false), .v (.string ⟨#[]⟩), .v (.bool false), .v (.int .i64 0), .v (.string ⟨#[]⟩)], none, []⟩,
  ⟨none, .store 44 (some 7) (.t 5) (.t 16), none, [16]⟩,
  ⟨some 6, .assign (.t 17), none, [17]⟩,
  ⟨some 7, .assign (.t 18), none, [18]⟩] none [5, 6, 7])
 (.seq (.seq (.reg 2 [⟨some 19, .move (.t 6), none, []⟩,
  ⟨some 20, .bin .neq 23 (.t 19) (.c (Value.int IntKind.i64 0)) 23, none, [19]⟩] none [5, 6, 7, 20])
 (.cond [5, 6, 7] (.t 20) (.seq (.reg 3 [⟨some 21, .move (.t 6), none, [6]⟩,
  ⟨some 22, .move (.t 7), none, [7]⟩,
  ⟨some 2, .assign (.c (Value.float FloatKind.f64 0)), none, []⟩,
  ⟨some 3, .assign (.t 21), none, [21]⟩,
  ⟨some 4, .assign (.t 22), none, [22]⟩] none [2, 3, 4])
 .ret) .skip))
 k4_floats_Read)))
def a_floats_Read : AFunc := ⟨54, [.tmp 2, .tmp 3, .tmp 4], b_floats_Read⟩

def j0_thickettop_number : IR :=
 (.seq (.reg 3 [⟨some 13, .move (.t 0), none, [0]⟩,
  ⟨some 14, .conv 3 29 (.int .u64) (.t 13), none, [13]⟩,
  ⟨some 15, .call n_limbs_From [(.t 14)] [29], none, [14]⟩,
  ⟨some 16, .call n_limbs_Print [(.t 15)] [27], none, [15]⟩,
  ⟨some 2, .assign (.t 16), none, [16]⟩] none [2])
 .ret)
def k0_thickettop_number : IR := .tail [0] j0_thickettop_number
def b_thickettop_number : IR :=
 (.seq (.reg 0 [⟨some 2, .assign (.c (Value.string { data := #[] })), none, [2]⟩] none [0])
 (.seq (.seq (.reg 1 [⟨some 3, .move (.t 0), none, []⟩,
  ⟨some 4, .bin .lss 3 (.t 3) (.c (Value.int IntKind.i64 0)) 3, none, [3]⟩] none [0, 4])
 (.cond [0] (.t 4) (.seq (.reg 2 [⟨some 5, .move (.t 0), none, [0]⟩,
  ⟨some 6, .bin .add 3 (.t 5) (.c (Value.int IntKind.i64 1)) 3, none, [5]⟩,
  ⟨some 7, .un .neg 3 (.t 6), none, [6]⟩,
  ⟨some 8, .conv 3 29 (.int .u64) (.t 7), none, [7]⟩,
  ⟨some 9, .bin .add 29 (.t 8) (.c (Value.int IntKind.u64 1)) 29, none, [8]⟩,
  ⟨some 10, .call n_limbs_From [(.t 9)] [29], none, [9]⟩,
  ⟨some 11, .call n_limbs_Print [(.t 10)] [27], none, [10]⟩,
  ⟨some 12, .bin .add 9 (.c (Value.string { data := #[45] })) (.t 11) 9, none, [11]⟩,
  ⟨some 2, .assign (.t 12), none, [12]⟩] none [2])
 .ret) .skip))
 k0_thickettop_number))
def a_thickettop_number : AFunc := ⟨17, [.tmp 2], b_thickettop_number⟩

def j0_limbs_Gcd : IR :=
 (.block 1 (.seq (.reg 3 [⟨some 16, .move (.t 0), none, []⟩,
  ⟨some 17, .move (.t 1), none, []⟩,
  ⟨some 18, .call n_limbs_DivMod [(.t 16), (.t 17)] [27, 27], none, [0, 9, 16, 17, 22]⟩,
  ⟨some 15, .move (.t 18), none, []⟩,
  ⟨some 19, .extr (.t 15) 0, none, []⟩,
  ⟨some 20, .extr (.t 15) 1, none, []⟩,
  ⟨some 21, .extr (.t 15) 2, none, []⟩,
  ⟨some 5, .assign (.t 19), none, [5, 19]⟩,
  ⟨some 6, .assign (.t 20), none, []⟩,
  ⟨some 7, .assign (.t 21), none, [7, 21]⟩] none [1, 6, 11, 15, 18, 20, 23])
 (.reg 4 [⟨some 22, .move (.t 1), none, []⟩,
  ⟨some 23, .move (.t 6), none, []⟩,
  ⟨some 0, .assign (.t 22), none, []⟩,
  ⟨some 1, .assign (.t 23), none, []⟩] none [0, 1, 6, 9, 11, 15, 18, 20, 22, 23])))
def k0_limbs_Gcd : IR := .tail [0, 1, 6, 9, 11, 15, 18, 20, 22, 23] j0_limbs_Gcd
def w0_limbs_Gcd : IR :=
 (.seq (.seq (.reg 2 [⟨some 12, .move (.t 1), none, []⟩,
  ⟨some 13, .len 27 false (.t 12), none, [12]⟩,
  ⟨some 14, .bin .gtr 3 (.t 13) (.c (Value.int IntKind.i64 0)) 3, none, [13]⟩] none [0, 1, 6, 9, 11, 14, 15, 18, 20, 22, 23])
 (.cond [0, 1, 6, 9, 11, 15, 18, 20, 22, 23] (.t 14) .skip (.exit 0)))
 k0_limbs_Gcd)
def l0_limbs_Gcd : IR := .loop [0, 1, 6, 9, 11, 15, 18, 20, 22, 23] w0_limbs_Gcd
def j1_limbs_Gcd : IR :=
 (.seq (.reg 5 [⟨some 24, .move (.t 0), none, []⟩,
  ⟨some 4, .assign (.t 24), none, []⟩] none [0, 1, 4, 6, 9, 11, 15, 18, 20, 22, 23, 24])
 .ret)
def k1_limbs_Gcd : IR := .tail [0, 1, 6, 9, 11, 15, 18, 20, 22, 23] j1_limbs_Gcd
def b_limbs_Gcd : IR :=
 (.seq (.reg 0 [⟨some 4, .assign (.nilS 1), none, [4]⟩] none [0, 1, 6, 9, 11, 15, 18, 20, 22, 23])
 (.seq (.reg 1 [⟨some 8, .move (.t 0), none, []⟩,
  ⟨some 9, .call n_limbs_Norm [(.t 8)] [27], none, [8]⟩,
  ⟨some 10, .move (.t 1), none, []⟩,
  ⟨some 11, .call n_limbs_Norm [(.t 10)] [27], none, [10]⟩,
  ⟨some 0, .assign (.t 9), none, []⟩,
  ⟨some 1, .assign (.t 11), none, []⟩] none [0, 1, 6, 9, 11, 15, 18, 20, 22, 23])
 (.seq (.block 0 l0_limbs_Gcd)
 k1_limbs_Gcd)))
def a_limbs_Gcd : AFunc := ⟨25, [.tmp 4], b_limbs_Gcd⟩

def j0_limbs_right : IR :=
 (.seq (.reg 3 [⟨some 20, .move (.t 1), none, []⟩,
  ⟨some 21, .move (.t 2), none, []⟩,
  ⟨some 22, .call n_limbs_Gcd [(.t 20), (.t 21)] [27, 27], none, [20, 21]⟩,
  ⟨some 7, .assign (.t 22), none, []⟩] none [0, 1, 2, 6, 7, 22])
 (.seq (.reg 4 [⟨some 24, .move (.t 1), none, []⟩,
  ⟨some 25, .move (.t 7), none, []⟩,
  ⟨some 26, .call n_limbs_DivMod [(.t 24), (.t 25)] [27, 27], none, [1, 24, 25]⟩,
  ⟨some 23, .move (.t 26), none, []⟩,
  ⟨some 27, .extr (.t 23) 0, none, []⟩,
  ⟨some 28, .extr (.t 23) 1, none, []⟩,
  ⟨some 29, .extr (.t 23) 2, none, []⟩,
  ⟨some 8, .assign (.t 27), none, []⟩,
  ⟨some 9, .assign (.t 28), none, [9, 28]⟩,
  ⟨some 10, .assign (.t 29), none, [10, 29]⟩] none [0, 2, 6, 7, 8, 22, 23, 26, 27])
 (.seq (.reg 5 [⟨some 31, .move (.t 2), none, []⟩,
  ⟨some 32, .move (.t 7), none, []⟩,
  ⟨some 33, .call n_limbs_DivMod [(.t 31), (.t 32)] [27, 27], none, [2, 7, 22, 31, 32]⟩,
  ⟨some 30, .move (.t 33), none, []⟩,
  ⟨some 34, .extr (.t 30) 0, none, []⟩,
  ⟨some 35, .extr (.t 30) 1, none, []⟩,
  ⟨some 36, .extr (.t 30) 2, none, []⟩,
  ⟨some 11, .assign (.t 34), none, []⟩,
  ⟨some 12, .assign (.t 35), none, [12, 35]⟩,
  ⟨some 13, .assign (.t 36), none, [13, 36]⟩] none [0, 6, 8, 11, 23, 26, 27, 30, 33, 34])
 (.seq (.reg 6 [⟨some 37, .move (.t 0), none, [0]⟩,
  ⟨some 38, .move (.t 8), none, []⟩,
  ⟨some 39, .move (.t 11), none, []⟩,
  ⟨some 40, .build 38 [(0, 1), (1, 1), (2, 1)] [.v (.bool false), .nil 1, .nil 1] [(0, (.t 37)), (1, (.t 38)), (2, (.t 39))], none, []⟩,
  ⟨none, .store 38 (some 3) (.t 6) (.t 40), none, [8, 11, 23, 26, 27, 30, 33, 34, 37, 38, 39, 40]⟩] none [6])
 .ret))))
def k0_limbs_right : IR := .tail [0, 1, 2, 6] j0_limbs_right
def b_limbs_right : IR :=
 (.seq (.reg 0 [⟨some 6, .alloc 38 [.v (.bool false), .nil 1, .nil 1], none, []⟩] none [0, 1, 2, 6])
 (.seq (.seq (.reg 1 [⟨some 14, .move (.t 1), none, []⟩,
  ⟨some 15, .call n_limbs_trim [(.t 14)] [27], none, [14]⟩,
  ⟨some 16, .len 27 false (.t 15), none, [15]⟩,
  ⟨some 17, .bin .eql 3 (.t 16) (.c (Value.int IntKind.i64 0)) 3, none, [16]⟩] none [0, 1, 2, 6, 17])
 (.cond [0, 1, 2, 6] (.t 17) (.seq (.reg 2 [⟨some 18, .lit 27 1 [(.c (Value.int IntKind.u32 1))], none, []⟩,
  ⟨some 19, .build 38 [(0, 1), (1, 1), (2, 1)] [.v (.bool false), .nil 1, .nil 1] [(2, (.t 18))], none, []⟩,
  ⟨none, .store 38 (some 3) (.t 6) (.t 19), none, [18, 19]⟩] none [6])
 .ret) .skip))
 k0_limbs_right))
def a_limbs_right : AFunc := ⟨41, [.cell 6 38 (some 3)], b_limbs_right⟩

def j0_limbs_Over : IR :=
 (.seq (.reg 3 [⟨some 13, .move (.t 0), none, [0]⟩,
  ⟨some 14, .move (.t 1), none, []⟩,
  ⟨some 15, .move (.t 2), none, []⟩,
  ⟨some 16, .call n_limbs_right [(.t 13), (.t 14), (.t 15)] [4, 27, 27], none, [1, 2, 13, 14, 15]⟩,
  ⟨none, .store 38 (some 3) (.t 6) (.t 16), none, [16]⟩,
  ⟨some 7, .assign (.c (Value.int IntKind.i64 0)), none, []⟩] none [6, 7])
 .ret)
def k0_limbs_Over : IR := .tail [0, 1, 2, 6] j0_limbs_Over
def b_limbs_Over : IR :=
 (.seq (.reg 0 [⟨some 6, .alloc 38 [.v (.bool false), .nil 1, .nil 1], none, []⟩,
  ⟨some 7, .assign (.c (Value.int IntKind.i64 0)), none, [7]⟩] none [0, 1, 2, 6])
 (.seq (.seq (.reg 1 [⟨some 8, .move (.t 2), none, []⟩,
  ⟨some 9, .call n_limbs_trim [(.t 8)] [27], none, [8]⟩,
  ⟨some 10, .len 27 false (.t 9), none, [9]⟩,
  ⟨some 11, .bin .eql 3 (.t 10) (.c (Value.int IntKind.i64 0)) 3, none, [10]⟩] none [0, 1, 2, 6, 11])
 (.cond [0, 1, 2, 6] (.t 11) (.seq (.reg 2 [⟨some 12, .build 38 [(0, 1), (1, 1), (2, 1)] [.v (.bool false), .nil 1, .nil 1] [], none, []⟩,
  ⟨none, .store 38 (some 3) (.t 6) (.t 12), none, [12]⟩,
  ⟨some 7, .assign (.c (Value.int IntKind.i64 11)), none, []⟩] none [6, 7])
 .ret) .skip))
 k0_limbs_Over))
def a_limbs_Over : AFunc := ⟨17, [.cell 6 38 (some 3), .tmp 7], b_limbs_Over⟩

def j0_floats_Nearest : IR :=
 (.seq (.reg 15 [⟨some 55, .faddr 38 (.t 4) 0 0, none, []⟩,
  ⟨some 56, .load 4 none (.t 55), none, [55]⟩,
  ⟨some 57, .faddr 38 (.t 4) 1 1, none, []⟩,
  ⟨some 58, .load 27 none (.t 57), none, []⟩,
  ⟨some 59, .faddr 38 (.t 4) 2 2, none, []⟩,
  ⟨some 60, .load 27 none (.t 59), none, []⟩,
  ⟨some 61, .call n_floats_number [(.t 56), (.t 58), (.t 60)] [4, 27, 27], none, [4, 56, 57, 58, 59, 60]⟩,
  ⟨some 2, .assign (.t 61), none, [61]⟩,
  ⟨some 3, .assign (.c (Value.int IntKind.i64 0)), none, []⟩] none [2, 3])
 .ret)
def k0_floats_Nearest : IR := .tail [4] j0_floats_Nearest
def j1_floats_Nearest : IR :=
 (.seq (.reg 4 [⟨some 20, .faddr 38 (.t 4) 1 1, none, []⟩,
  ⟨some 21, .load 27 none (.t 20), none, []⟩,
  ⟨some 22, .call n_limbs_Len [(.t 21)] [27], none, [20, 21]⟩,
  ⟨some 23, .faddr 38 (.t 4) 2 2, none, []⟩,
  ⟨some 24, .load 27 none (.t 23), none, []⟩,
  ⟨some 25, .call n_limbs_Len [(.t 24)] [27], none, [23, 24]⟩,
  ⟨some 26, .bin .sub 3 (.t 22) (.t 25) 3, none, [22, 25]⟩,
  ⟨some 6, .assign (.t 26), none, [26]⟩] (some (.cons ⟨0, []⟩ (.cons ⟨3, []⟩ (.cons ⟨1, []⟩ (.cons ⟨4, []⟩ (.cons ⟨2, [4]⟩ (.cons ⟨5, []⟩ (.cons ⟨6, []⟩ (.cons ⟨7, []⟩ .nil))))))))) [4, 6])
 (.seq (.block 0 (.seq (.reg 5 [⟨some 28, .faddr 38 (.t 4) 1 1, none, []⟩,
  ⟨some 29, .load 27 none (.t 28), none, []⟩,
  ⟨some 30, .call n_limbs_Len [(.t 29)] [27], none, [28, 29]⟩,
  ⟨some 31, .bin .eql 3 (.t 30) (.c (Value.int IntKind.i64 0)) 3, none, [30]⟩,
  ⟨some 27, .assign (.t 31), none, [31]⟩] none [4, 6, 27])
 (.cond [4, 6] (.t 27) (.seq (.reg 6 [⟨some 2, .assign (.c (Value.float FloatKind.f64 0)), none, []⟩,
  ⟨some 3, .assign (.c (Value.int IntKind.i64 0)), none, []⟩] none [2, 3])
 .ret) (.seq (.reg 7 [⟨some 33, .move (.t 6), none, []⟩,
  ⟨some 34, .bin .gtr 3 (.t 33) (.c (Value.int IntKind.i64 2000)) 3, none, [33]⟩,
  ⟨some 35, .move (.t 34), none, [34]⟩,
  ⟨some 36, .faddr 38 (.t 4) 0 0, some (2, true), []⟩,
  ⟨some 37, .load 4 none (.t 36), some (2, true), [36]⟩,
  ⟨some 38, .pick (.t 35) (.t 37) (.c (Value.bool false)), none, [35, 37]⟩,
  ⟨some 32, .assign (.t 38), none, [38]⟩] none [4, 6, 32])
 (.cond [4, 6] (.t 32) (.seq (.reg 8 [⟨some 39, .call n_math_Inf [(.c (Value.int IntKind.i64 (-1)))] [3], none, []⟩,
  ⟨some 2, .assign (.t 39), none, [39]⟩,
  ⟨some 3, .assign (.c (Value.int IntKind.i64 0)), none, []⟩] none [2, 3])
 .ret) (.seq (.reg 9 [⟨some 41, .move (.t 6), none, []⟩,
  ⟨some 42, .bin .gtr 3 (.t 41) (.c (Value.int IntKind.i64 2000)) 3, none, [41]⟩,
  ⟨some 40, .assign (.t 42), none, [42]⟩] none [4, 6, 40])
 (.cond [4, 6] (.t 40) (.seq (.reg 10 [⟨some 43, .call n_math_Inf [(.c (Value.int IntKind.i64 1))] [3], none, []⟩,
  ⟨some 2, .assign (.t 43), none, [43]⟩,
  ⟨some 3, .assign (.c (Value.int IntKind.i64 0)), none, []⟩] none [2, 3])
 .ret) (.seq (.reg 11 [⟨some 45, .move (.t 6), none, []⟩,
  ⟨some 46, .bin .lss 3 (.t 45) (.c (Value.int IntKind.i64 (-2000))) 3, none, [45]⟩,
  ⟨some 47, .move (.t 46), none, [46]⟩,
  ⟨some 48, .faddr 38 (.t 4) 0 0, some (2, true), []⟩,
  ⟨some 49, .load 4 none (.t 48), some (2, true), [48]⟩,
  ⟨some 50, .pick (.t 47) (.t 49) (.c (Value.bool false)), none, [47, 49]⟩,
  ⟨some 44, .assign (.t 50), none, [50]⟩] none [4, 6, 44])
 (.cond [4, 6] (.t 44) (.seq (.reg 12 [⟨some 51, .call n_math_Copysign [(.c (Value.float FloatKind.f64 0)), (.c (Value.float FloatKind.f64 13830554455654793216))] [22, 22], none, []⟩,
  ⟨some 2, .assign (.t 51), none, [51]⟩,
  ⟨some 3, .assign (.c (Value.int IntKind.i64 0)), none, []⟩] none [2, 3])
 .ret) (.seq (.reg 13 [⟨some 53, .move (.t 6), none, [6]⟩,
  ⟨some 54, .bin .lss 3 (.t 53) (.c (Value.int IntKind.i64 (-2000))) 3, none, [53]⟩,
  ⟨some 52, .assign (.t 54), none, [54]⟩] none [4, 52])
 (.cond [4] (.t 52) (.seq (.reg 14 [⟨some 2, .assign (.c (Value.float FloatKind.f64 0)), none, []⟩,
  ⟨some 3, .assign (.c (Value.int IntKind.i64 0)), none, []⟩] none [2, 3])
 .ret) .skip)))))))))))
 k0_floats_Nearest))
def k1_floats_Nearest : IR := .tail [4] j1_floats_Nearest
def b_floats_Nearest : IR :=
 (.seq (.reg 0 [⟨some 1, .box 38 (.t 0), none, [0]⟩,
  ⟨some 2, .assign (.c (Value.float FloatKind.f64 0)), none, [2]⟩,
  ⟨some 3, .assign (.c (Value.int IntKind.i64 0)), none, [3]⟩] none [1])
 (.seq (.reg 1 [⟨some 8, .faddr 38 (.t 1) 0 0, none, []⟩,
  ⟨some 9, .load 4 none (.t 8), none, [8]⟩,
  ⟨some 10, .faddr 38 (.t 1) 1 1, none, []⟩,
  ⟨some 11, .load 27 none (.t 10), none, []⟩,
  ⟨some 12, .faddr 38 (.t 1) 2 2, none, []⟩,
  ⟨some 13, .load 27 none (.t 12), none, []⟩,
  ⟨some 14, .call n_limbs_Over [(.t 9), (.t 11), (.t 13)] [4, 27, 27], none, [1, 9, 10, 11, 12, 13]⟩,
  ⟨some 7, .move (.t 14), none, []⟩,
  ⟨some 15, .extr (.t 7) 0, none, []⟩,
  ⟨some 16, .extr (.t 7) 1, none, []⟩,
  ⟨some 4, .alloc 38 [.v (.bool false), .nil 1, .nil 1], none, []⟩,
  ⟨none, .store 38 (some 3) (.t 4) (.t 15), none, [7, 14, 15]⟩,
  ⟨some 5, .assign (.t 16), none, [16]⟩] none [4, 5])
 (.seq (.seq (.reg 2 [⟨some 17, .move (.t 5), none, []⟩,
  ⟨some 18, .bin .neq 23 (.t 17) (.c (Value.int IntKind.i64 0)) 23, none, [17]⟩] none [4, 5, 18])
 (.cond [4, 5] (.t 18) (.seq (.reg 3 [⟨some 19, .move (.t 5), none, [5]⟩,
  ⟨some 2, .assign (.c (Value.float FloatKind.f64 0)), none, []⟩,
  ⟨some 3, .assign (.t 19), none, [19]⟩] none [2, 3])
 .ret) .skip))
 k1_floats_Nearest)))
def a_floats_Nearest : AFunc := ⟨62, [.tmp 2, .tmp 3], b_floats_Nearest⟩

def j0_thickettop_TopQuotient : IR :=
 (.seq (.reg 28 [⟨some 165, .move (.t 15), none, [15]⟩,
  ⟨some 166, .bin .add 9 (.c (Value.string { data := #[45] })) (.t 165) 9, none, [165]⟩,
  ⟨some 167, .call n_floats_Read [(.t 166)] [9], none, [166]⟩,
  ⟨some 164, .move (.t 167), none, [167]⟩,
  ⟨some 168, .extr (.t 164) 0, none, []⟩,
  ⟨some 169, .extr (.t 164) 1, none, []⟩,
  ⟨some 170, .extr (.t 164) 2, none, [164]⟩,
  ⟨some 23, .assign (.t 168), none, [168]⟩,
  ⟨some 8, .assign (.t 169), none, [169]⟩,
  ⟨some 24, .assign (.t 170), none, [24, 170]⟩] none [8, 20, 23])
 (.seq (.reg 29 [⟨some 171, .move (.t 8), none, [8]⟩,
  ⟨some 172, .bin .eql 23 (.t 171) (.c (Value.int IntKind.i64 0)) 23, none, [171]⟩,
  ⟨some 173, .move (.t 172), none, [172]⟩,
  ⟨some 174, .move (.t 23), some (2, true), [23]⟩,
  ⟨some 175, .ext n_math_Float64bits .toBits [(.t 174)] [22], some (2, true), [174]⟩,
  ⟨some 176, .move (.t 20), some (2, true), [20]⟩,
  ⟨some 177, .ext n_math_Float64bits .toBits [(.t 176)] [22], some (2, true), [176]⟩,
  ⟨some 178, .bin .or 29 (.t 177) (.c (Value.int IntKind.u64 9223372036854775808)) 29, some (2, true), [177]⟩,
  ⟨some 179, .bin .eql 29 (.t 175) (.t 178) 29, some (2, true), [175, 178]⟩,
  ⟨some 180, .pick (.t 173) (.t 179) (.c (Value.bool false)), none, [173, 179]⟩,
  ⟨some 6, .assign (.t 180), none, [180]⟩] none [6])
 .ret))
def k0_thickettop_TopQuotient : IR := .tail [15, 20] j0_thickettop_TopQuotient
def j1_thickettop_TopQuotient : IR :=
 (.seq (.reg 24 [⟨some 137, .move (.t 15), none, []⟩,
  ⟨some 138, .call n_floats_Read [(.t 137)] [9], none, [137]⟩,
  ⟨some 136, .move (.t 138), none, [138]⟩,
  ⟨some 139, .extr (.t 136) 0, none, []⟩,
  ⟨some 140, .extr (.t 136) 1, none, []⟩,
  ⟨some 141, .extr (.t 136) 2, none, [136]⟩,
  ⟨some 20, .assign (.t 139), none, [139]⟩,
  ⟨some 8, .assign (.t 140), none, [140]⟩,
  ⟨some 11, .assign (.t 141), none, [141]⟩] none [8, 11, 15, 19, 20])
 (.seq (.reg 25 [⟨some 143, .load 38 (some 3) (.t 19), none, []⟩,
  ⟨some 144, .call n_floats_Nearest [(.t 143)] [38], none, [19, 143]⟩,
  ⟨some 142, .move (.t 144), none, [144]⟩,
  ⟨some 145, .extr (.t 142) 0, none, []⟩,
  ⟨some 146, .extr (.t 142) 1, none, [142]⟩,
  ⟨some 21, .assign (.t 145), none, [145]⟩,
  ⟨some 22, .assign (.t 146), none, [146]⟩] none [8, 11, 15, 20, 21, 22])
 (.seq (.seq (.reg 26 [⟨some 147, .move (.t 8), none, [8]⟩,
  ⟨some 148, .bin .neq 23 (.t 147) (.c (Value.int IntKind.i64 0)) 23, none, [147]⟩,
  ⟨some 149, .move (.t 148), none, [148]⟩,
  ⟨some 150, .move (.t 11), some (2, false), [11]⟩,
  ⟨some 151, .bin .neq 3 (.t 150) (.c (Value.int IntKind.i64 0)) 3, some (2, false), [150]⟩,
  ⟨some 152, .pick (.t 149) (.c (Value.bool true)) (.t 151), none, [149, 151]⟩,
  ⟨some 153, .move (.t 152), none, [152]⟩,
  ⟨some 154, .move (.t 22), some (6, false), [22]⟩,
  ⟨some 155, .bin .neq 23 (.t 154) (.c (Value.int IntKind.i64 0)) 23, some (6, false), [154]⟩,
  ⟨some 156, .pick (.t 153) (.c (Value.bool true)) (.t 155), none, [153, 155]⟩,
  ⟨some 157, .move (.t 156), none, [156]⟩,
  ⟨some 158, .move (.t 20), some (10, false), []⟩,
  ⟨some 159, .ext n_math_Float64bits .toBits [(.t 158)] [22], some (10, false), [158]⟩,
  ⟨some 160, .move (.t 21), some (10, false), [21]⟩,
  ⟨some 161, .ext n_math_Float64bits .toBits [(.t 160)] [22], some (10, false), [160]⟩,
  ⟨some 162, .bin .neq 29 (.t 159) (.t 161) 29, some (10, false), [159, 161]⟩,
  ⟨some 163, .pick (.t 157) (.c (Value.bool true)) (.t 162), none, [157, 162]⟩] none [15, 20, 163])
 (.cond [15, 20] (.t 163) (.seq (.reg 27 [⟨some 6, .assign (.c (Value.bool false)), none, []⟩] none [6])
 .ret) .skip))
 k0_thickettop_TopQuotient)))
def k1_thickettop_TopQuotient : IR := .tail [15, 19] j1_thickettop_TopQuotient
def j2_thickettop_TopQuotient : IR :=
 (.seq (.reg 21 [⟨some 126, .move (.t 10), none, []⟩,
  ⟨some 127, .move (.t 18), none, []⟩,
  ⟨some 128, .call n_limbs_Mul [(.t 126), (.t 127)] [27, 27], none, [126, 127]⟩,
  ⟨some 129, .call n_limbs_From [(.c (Value.int IntKind.u64 1))] [29], none, []⟩,
  ⟨some 130, .build 38 [(0, 1), (1, 1), (2, 1)] [.v (.bool false), .nil 1, .nil 1] [(1, (.t 128)), (2, (.t 129))], none, []⟩,
  ⟨some 19, .alloc 38 [.v (.bool false), .nil 1, .nil 1], none, []⟩,
  ⟨none, .store 38 (some 3) (.t 19) (.t 130), none, [128, 129, 130]⟩] none [10, 15, 16, 18, 19, 41, 43, 44, 113, 116, 117])
 (.seq (.seq (.reg 22 [⟨some 131, .move (.t 16), none, [16]⟩,
  ⟨some 132, .bin .lss 3 (.t 131) (.c (Value.int IntKind.i64 0)) 3, none, [131]⟩] none [10, 15, 18, 19, 41, 43, 44, 113, 116, 117, 132])
 (.cond [10, 15, 18, 19, 41, 43, 44, 113, 116, 117] (.t 132) (.reg 23 [⟨some 133, .move (.t 10), none, []⟩,
  ⟨some 134, .move (.t 18), none, []⟩,
  ⟨some 135, .build 38 [(0, 1), (1, 1), (2, 1)] [.v (.bool false), .nil 1, .nil 1] [(1, (.t 133)), (2, (.t 134))], none, []⟩,
  ⟨none, .store 38 (some 3) (.t 19) (.t 135), none, [10, 18, 41, 43, 44, 113, 116, 117, 133, 134, 135]⟩] none [15, 19]) .skip))
 k1_thickettop_TopQuotient))
def k2_thickettop_TopQuotient : IR := .tail [10, 15, 16, 18, 41, 43, 44, 113, 116, 117] j2_thickettop_TopQuotient
def j3_thickettop_TopQuotient : IR :=
 (.seq (.reg 18 [⟨some 114, .lit 27 1 [(.c (Value.int IntKind.u32 10))], none, []⟩,
  ⟨some 115, .move (.t 17), none, [17]⟩,
  ⟨some 116, .call n_limbs_Pow [(.t 114), (.t 115)] [27, 3], none, [114, 115]⟩,
  ⟨some 113, .move (.t 116), none, []⟩,
  ⟨some 117, .extr (.t 113) 0, none, []⟩,
  ⟨some 118, .extr (.t 113) 1, none, []⟩,
  ⟨some 18, .assign (.t 117), none, []⟩,
  ⟨some 8, .assign (.t 118), none, [118]⟩] none [8, 10, 15, 16, 18, 41, 43, 44, 113, 116, 117])
 (.seq (.seq (.reg 19 [⟨some 119, .move (.t 8), none, [8]⟩,
  ⟨some 120, .bin .neq 23 (.t 119) (.c (Value.int IntKind.i64 0)) 23, none, [119]⟩,
  ⟨some 121, .move (.t 120), none, [120]⟩,
  ⟨some 122, .move (.t 15), some (2, false), []⟩,
  ⟨some 123, .len 9 true (.t 122), some (2, false), [122]⟩,
  ⟨some 124, .bin .gtr 3 (.t 123) (.c (Value.int IntKind.i64 4095)) 3, some (2, false), [123]⟩,
  ⟨some 125, .pick (.t 121) (.c (Value.bool true)) (.t 124), none, [121, 124]⟩] none [10, 15, 16, 18, 41, 43, 44, 113, 116, 117, 125])
 (.cond [10, 15, 16, 18, 41, 43, 44, 113, 116, 117] (.t 125) (.seq (.reg 20 [⟨some 6, .assign (.c (Value.bool true)), none, []⟩] none [6])
 .ret) .skip))
 k2_thickettop_TopQuotient))
def k3_thickettop_TopQuotient : IR := .tail [10, 15, 16, 17, 41, 43, 44] j3_thickettop_TopQuotient
def j4_thickettop_TopQuotient : IR :=
 (.seq (.reg 13 [⟨some 100, .move (.t 15), none, []⟩,
  ⟨some 101, .bin .add 9 (.t 100) (.c (Value.string { data := #[101] })) 9, none, [100]⟩,
  ⟨some 102, .move (.t 2), none, []⟩,
  ⟨some 103, .call n_thickettop_number [(.t 102)] [3], none, [102]⟩,
  ⟨some 104, .bin .add 9 (.t 101) (.t 103) 9, none, [101, 103]⟩,
  ⟨some 15, .assign (.t 104), none, [104]⟩] none [1, 2, 10, 15, 41, 43, 44])
 (.seq (.reg 14 [⟨some 105, .move (.t 2), none, [2]⟩,
  ⟨some 106, .move (.t 1), none, [1]⟩,
  ⟨some 107, .bin .sub 3 (.t 105) (.t 106) 3, none, [105, 106]⟩,
  ⟨some 16, .assign (.t 107), none, [107]⟩] none [10, 15, 16, 41, 43, 44])
 (.seq (.reg 15 [⟨some 108, .move (.t 16), none, []⟩,
  ⟨some 17, .assign (.t 108), none, [108]⟩] none [10, 15, 16, 17, 41, 43, 44])
 (.seq (.seq (.reg 16 [⟨some 109, .move (.t 16), none, []⟩,
  ⟨some 110, .bin .lss 3 (.t 109) (.c (Value.int IntKind.i64 0)) 3, none, [109]⟩] none [10, 15, 16, 17, 41, 43, 44, 110])
 (.cond [10, 15, 16, 17, 41, 43, 44] (.t 110) (.reg 17 [⟨some 111, .move (.t 16), none, []⟩,
  ⟨some 112, .un .neg 3 (.t 111), none, [111]⟩,
  ⟨some 17, .assign (.t 112), none, [112]⟩] none [10, 15, 16, 17, 41, 43, 44]) .skip))
 k3_thickettop_TopQuotient))))
def k4_thickettop_TopQuotient : IR := .tail [1, 2, 10, 15, 41, 43, 44] j4_thickettop_TopQuotient
def j5_thickettop_TopQuotient : IR :=
 (.seq (.reg 10 [⟨some 83, .move (.t 0), none, []⟩,
  ⟨some 15, .assign (.t 83), none, [83]⟩] none [0, 1, 2, 10, 15, 41, 43, 44])
 (.seq (.seq (.reg 11 [⟨some 84, .move (.t 1), none, []⟩,
  ⟨some 85, .bin .gtr 3 (.t 84) (.c (Value.int IntKind.i64 0)) 3, none, [84]⟩] none [0, 1, 2, 10, 15, 41, 43, 44, 85])
 (.cond [0, 1, 2, 10, 15, 41, 43, 44] (.t 85) (.reg 12 [⟨some 86, .move (.t 0), none, []⟩,
  ⟨some 87, .move (.t 0), none, []⟩,
  ⟨some 88, .len 9 true (.t 87), none, [87]⟩,
  ⟨some 89, .move (.t 1), none, []⟩,
  ⟨some 90, .bin .sub 3 (.t 88) (.t 89) 3, none, [88, 89]⟩,
  ⟨some 91, .slice 9 .str (.t 86) none (some (.t 90)) none, none, [86, 90]⟩,
  ⟨some 92, .bin .add 9 (.t 91) (.c (Value.string { data := #[46] })) 9, none, [91]⟩,
  ⟨some 93, .move (.t 0), none, []⟩,
  ⟨some 94, .move (.t 0), none, [0]⟩,
  ⟨some 95, .len 9 true (.t 94), none, [94]⟩,
  ⟨some 96, .move (.t 1), none, []⟩,
  ⟨some 97, .bin .sub 3 (.t 95) (.t 96) 3, none, [95, 96]⟩,
  ⟨some 98, .slice 9 .str (.t 93) (some (.t 97)) none none, none, [93, 97]⟩,
  ⟨some 99, .bin .add 9 (.t 92) (.t 98) 9, none, [92, 98]⟩,
  ⟨some 15, .assign (.t 99), none, [99]⟩] (some (.cons ⟨0, []⟩ (.cons ⟨1, []⟩ (.cons ⟨2, []⟩ (.cons ⟨3, []⟩ (.cons ⟨4, []⟩ (.cons ⟨5, []⟩ (.cons ⟨6, []⟩ (.cons ⟨7, []⟩ (.cons ⟨8, []⟩ (.cons ⟨9, []⟩ (.cons ⟨10, []⟩ (.cons ⟨11, []⟩ (.cons ⟨12, []⟩ (.cons ⟨13, []⟩ (.cons ⟨14, []⟩ .nil)))))))))))))))) [1, 2, 10, 15, 41, 43, 44]) .skip))
 k4_thickettop_TopQuotient))
def k5_thickettop_TopQuotient : IR := .tail [0, 1, 2, 10, 41, 43, 44] j5_thickettop_TopQuotient
def j6_thickettop_TopQuotient : IR :=
 (.seq (.seq (.reg 8 [⟨some 67, .move (.t 1), none, []⟩,
  ⟨some 68, .bin .lss 3 (.t 67) (.c (Value.int IntKind.i64 0)) 3, none, [67]⟩,
  ⟨some 69, .move (.t 68), none, [68]⟩,
  ⟨some 70, .move (.t 1), some (2, false), []⟩,
  ⟨some 71, .move (.t 0), some (2, false), []⟩,
  ⟨some 72, .len 9 true (.t 71), some (2, false), [71]⟩,
  ⟨some 73, .bin .geq 3 (.t 70) (.t 72) 3, some (2, false), [70, 72]⟩,
  ⟨some 74, .pick (.t 69) (.c (Value.bool true)) (.t 73), none, [69, 73]⟩,
  ⟨some 75, .move (.t 74), none, [74]⟩,
  ⟨some 76, .move (.t 2), some (8, false), []⟩,
  ⟨some 77, .bin .lss 3 (.t 76) (.c (Value.int IntKind.i64 (-1073741824))) 3, some (8, false), [76]⟩,
  ⟨some 78, .pick (.t 75) (.c (Value.bool true)) (.t 77), none, [75, 77]⟩,
  ⟨some 79, .move (.t 78), none, [78]⟩,
  ⟨some 80, .move (.t 2), some (12, false), []⟩,
  ⟨some 81, .bin .gtr 3 (.t 80) (.c (Value.int IntKind.i64 1073741824)) 3, some (12, false), [80]⟩,
  ⟨some 82, .pick (.t 79) (.c (Value.bool true)) (.t 81), none, [79, 81]⟩] none [0, 1, 2, 10, 41, 43, 44, 82])
 (.cond [0, 1, 2, 10, 41, 43, 44] (.t 82) (.seq (.reg 9 [⟨some 6, .assign (.c (Value.bool true)), none, []⟩] none [6])
 .ret) .skip))
 k5_thickettop_TopQuotient)
def k6_thickettop_TopQuotient : IR := .tail [0, 1, 2, 10, 41, 43, 44] j6_thickettop_TopQuotient
def j7_thickettop_TopQuotient : IR :=
 (.seq (.reg 4 [⟨some 42, .move (.t 0), none, []⟩,
  ⟨some 43, .call n_limbs_Read [(.t 42)] [9], none, [42]⟩,
  ⟨some 41, .move (.t 43), none, []⟩,
  ⟨some 44, .extr (.t 41) 0, none, []⟩,
  ⟨some 45, .extr (.t 41) 1, none, []⟩,
  ⟨some 46, .extr (.t 41) 2, none, []⟩,
  ⟨some 10, .assign (.t 44), none, []⟩,
  ⟨some 8, .assign (.t 45), none, [45]⟩,
  ⟨some 11, .assign (.t 46), none, [46]⟩] none [0, 1, 2, 8, 10, 11, 41, 43, 44])
 (.seq (.seq (.reg 5 [⟨some 47, .move (.t 8), none, [8]⟩,
  ⟨some 48, .bin .neq 23 (.t 47) (.c (Value.int IntKind.i64 0)) 23, none, [47]⟩] none [0, 1, 2, 10, 11, 41, 43, 44, 48])
 (.cond [0, 1, 2, 10, 11, 41, 43, 44] (.t 48) (.seq (.reg 6 [⟨some 50, .move (.t 0), none, []⟩,
  ⟨some 51, .call n_floats_Read [(.t 50)] [9], none, [50]⟩,
  ⟨some 49, .move (.t 51), none, [51]⟩,
  ⟨some 52, .extr (.t 49) 0, none, []⟩,
  ⟨some 53, .extr (.t 49) 1, none, []⟩,
  ⟨some 54, .extr (.t 49) 2, none, [49]⟩,
  ⟨some 12, .assign (.t 52), none, [12, 52]⟩,
  ⟨some 13, .assign (.t 53), none, [53]⟩,
  ⟨some 14, .assign (.t 54), none, [54]⟩] none [0, 11, 13, 14])
 (.seq (.reg 7 [⟨some 55, .move (.t 13), none, [13]⟩,
  ⟨some 56, .bin .neq 23 (.t 55) (.c (Value.int IntKind.i64 0)) 23, none, [55]⟩,
  ⟨some 57, .move (.t 56), none, [56]⟩,
  ⟨some 58, .move (.t 11), some (2, false), [11]⟩,
  ⟨some 59, .move (.t 0), some (2, false), [0]⟩,
  ⟨some 60, .len 9 true (.t 59), some (2, false), [59]⟩,
  ⟨some 61, .bin .lss 3 (.t 58) (.t 60) 3, some (2, false), [58, 60]⟩,
  ⟨some 62, .move (.t 61), some (2, false), [61]⟩,
  ⟨some 63, .move (.t 14), some (7, true), [14]⟩,
  ⟨some 64, .bin .geq 3 (.t 63) (.c (Value.int IntKind.i64 0)) 3, some (7, true), [63]⟩,
  ⟨some 65, .pick (.t 62) (.t 64) (.c (Value.bool false)), some (2, false), [62, 64]⟩,
  ⟨some 66, .pick (.t 57) (.c (Value.bool true)) (.t 65), none, [57, 65]⟩,
  ⟨some 6, .assign (.t 66), none, [66]⟩] none [6])
 .ret)) .skip))
 k6_thickettop_TopQuotient))
def k7_thickettop_TopQuotient : IR := .tail [0, 1, 2] j7_thickettop_TopQuotient
def b_thickettop_TopQuotient : IR :=
 (.seq (.reg 0 [⟨some 6, .assign (.c (Value.bool false)), none, [6]⟩] none [0, 1, 2])
 (.seq (.reg 1 [⟨some 26, .call n_floats_Read [(.c (Value.string { data := #[48, 46, 53] }))] [9], none, []⟩,
  ⟨some 25, .move (.t 26), none, [26]⟩,
  ⟨some 27, .extr (.t 25) 0, none, []⟩,
  ⟨some 28, .extr (.t 25) 1, none, []⟩,
  ⟨some 29, .extr (.t 25) 2, none, [25]⟩,
  ⟨some 7, .assign (.t 27), none, [27]⟩,
  ⟨some 8, .assign (.t 28), none, [28]⟩,
  ⟨some 9, .assign (.t 29), none, [9, 29]⟩] none [0, 1, 2, 7, 8])
 (.seq (.seq (.reg 2 [⟨some 30, .move (.t 8), none, [8]⟩,
  ⟨some 31, .bin .neq 23 (.t 30) (.c (Value.int IntKind.i64 0)) 23, none, [30]⟩,
  ⟨some 32, .move (.t 31), none, [31]⟩,
  ⟨some 33, .move (.t 7), some (2, false), [7]⟩,
  ⟨some 34, .bin .neq 22 (.t 33) (.c (Value.float FloatKind.f64 4602678819172646912)) 22, some (2, false), [33]⟩,
  ⟨some 35, .pick (.t 32) (.c (Value.bool true)) (.t 34), none, [32, 34]⟩,
  ⟨some 36, .move (.t 35), none, [35]⟩,
  ⟨some 37, .call n_limbs_From [(.c (Value.int IntKind.u64 12))] [29], some (6, false), []⟩,
  ⟨some 38, .call n_limbs_Print [(.t 37)] [27], some (6, false), [37]⟩,
  ⟨some 39, .bin .neq 9 (.t 38) (.c (Value.string { data := #[49, 50] })) 9, some (6, false), [38]⟩,
  ⟨some 40, .pick (.t 36) (.c (Value.bool true)) (.t 39), none, [36, 39]⟩] none [0, 1, 2, 40])
 (.cond [0, 1, 2] (.t 40) (.seq (.reg 3 [⟨some 6, .assign (.c (Value.bool false)), none, []⟩] none [6])
 .ret) .skip))
 k7_thickettop_TopQuotient)))
def a_thickettop_TopQuotient : AFunc := ⟨181, [.tmp 6], b_thickettop_TopQuotient⟩

def fnTab : List (FuncId × AFunc) := [(n_floats_scanner_takes, a_floats_scanner_takes), (n_floats_scanner_byte, a_floats_scanner_byte), (n_floats_scanner_word, a_floats_scanner_word), (n_floats_digit, a_floats_digit), (n_floats_scanner_run, a_floats_scanner_run), (n_floats_scanner_figures, a_floats_scanner_figures), (n_floats_cut, a_floats_cut), (n_floats_taken, a_floats_taken), (n_math_NaN, a_math_NaN), (n_math_Inf, a_math_Inf), (n_limbs_trim, a_limbs_trim), (n_limbs_Norm, a_limbs_Norm), (n_strings_trimLeftByte, a_strings_trimLeftByte), (n_strings_TrimLeft, a_strings_TrimLeft), (n_limbs_Print, a_limbs_Print), (n_limbs_low, a_limbs_low), (n_limbs_high, a_limbs_high), (n_limbs_From, a_limbs_From), (n_limbs_grow, a_limbs_grow), (n_limbs_Read, a_limbs_Read), (n_limbs_Mul, a_limbs_Mul), (n_bits_Len32, a_bits_Len32), (n_limbs_Len, a_limbs_Len), (n_limbs_Pow, a_limbs_Pow), (n_limbs_up, a_limbs_up), (n_limbs_Up, a_limbs_Up), (n_limbs_Add, a_limbs_Add), (n_floats_value, a_floats_value), (n_floats_power, a_floats_power), (n_floats_text_quotient, a_floats_text_quotient), (n_math_Copysign, a_math_Copysign), (n_limbs_Cmp, a_limbs_Cmp), (n_bits_LeadingZeros32, a_bits_LeadingZeros32), (n_bits_Sub32, a_bits_Sub32), (n_bits_Add32, a_bits_Add32), (n_limbs_long, a_limbs_long), (n_limbs_down, a_limbs_down), (n_limbs_DivMod, a_limbs_DivMod), (n_limbs_Small, a_limbs_Small), (n_floats_format_nearest, a_floats_format_nearest), (n_floats_number, a_floats_number), (n_floats_Read, a_floats_Read), (n_thickettop_number, a_thickettop_number), (n_limbs_Gcd, a_limbs_Gcd), (n_limbs_right, a_limbs_right), (n_limbs_Over, a_limbs_Over), (n_floats_Nearest, a_floats_Nearest), (n_thickettop_TopQuotient, a_thickettop_TopQuotient)]
def modeTab : List (FuncId × List Bool) := [(n_floats_scanner_takes, [true, false]), (n_floats_scanner_byte, [true]), (n_floats_scanner_word, [true, false]), (n_floats_scanner_run, [true, false]), (n_floats_scanner_figures, [true, true]), (n_limbs_trim, [true]), (n_limbs_grow, [true, false, false]), (n_limbs_long, [true, false]), (n_strings_Builder_WriteString, [true, false]), (n_strings_Builder_String, [true])]
def G (n : Nat) : List PV := match n with | 1 => glob1 | _ => []
def extT : Oracle := fun f xs => if f = n_strings_Builder_WriteString then xWriteString 59 5 xs else if f = n_strings_Builder_String then xString 59 5 xs else none
def T : Tab := { fns := fun f => fnTab.lookup f, ext := extT, modes := fun f => (modeTab.lookup f).getD [], glob := G }
theorem fn_floats_scanner_takes : T.fns n_floats_scanner_takes = some a_floats_scanner_takes := rfl
@[simp] theorem tl0_floats_scanner_takes (e : Env) : Exec T k0_floats_scanner_takes e = Exec T j0_floats_scanner_takes (e.keep [0, 8, 9, 100000]) := Exec_tail _ _ _
@[simp] theorem tl1_floats_scanner_takes (e : Env) : Exec T k1_floats_scanner_takes e = Exec T j1_floats_scanner_takes (e.keep [100000]) := Exec_tail _ _ _
theorem ex0_floats_scanner_takes (e : Env) : Exec T l0_floats_scanner_takes e = andThen (Exec T w0_floats_scanner_takes (e.keep [0, 8, 100000])) (Exec T l0_floats_scanner_takes) := Exec_loop _ _ _
theorem run_floats_scanner_takes (xs : List PV) : Cinf T n_floats_scanner_takes xs = Run T a_floats_scanner_takes xs := Cinf_eq rfl fn_floats_scanner_takes
@[simp] theorem md_floats_scanner_takes : T.modes n_floats_scanner_takes = [true, false] := rfl
@[simp] theorem call_floats_scanner_takes (C : Oracle) (e : Env) (xs : List PV) : call T C e n_floats_scanner_takes xs = callK1 C n_floats_scanner_takes xs (moves e [] [true, false] xs) := call_modes md_floats_scanner_takes
theorem fn_floats_scanner_byte : T.fns n_floats_scanner_byte = some a_floats_scanner_byte := rfl
@[simp] theorem tl0_floats_scanner_byte (e : Env) : Exec T k0_floats_scanner_byte e = Exec T j0_floats_scanner_byte (e.keep [100000]) := Exec_tail _ _ _
theorem run_floats_scanner_byte (xs : List PV) : Cinf T n_floats_scanner_byte xs = Run T a_floats_scanner_byte xs := Cinf_eq rfl fn_floats_scanner_byte
@[simp] theorem md_floats_scanner_byte : T.modes n_floats_scanner_byte = [true] := rfl
@[simp] theorem call_floats_scanner_byte (C : Oracle) (e : Env) (xs : List PV) : call T C e n_floats_scanner_byte xs = callK1 C n_floats_scanner_byte xs (moves e [] [true] xs) := call_modes md_floats_scanner_byte
theorem fn_floats_scanner_word : T.fns n_floats_scanner_word = some a_floats_scanner_word := rfl
@[simp] theorem tl0_floats_scanner_word (e : Env) : Exec T k0_floats_scanner_word e = Exec T j0_floats_scanner_word (e.keep [0, 1, 7, 8, 100000]) := Exec_tail _ _ _
@[simp] theorem tl1_floats_scanner_word (e : Env) : Exec T k1_floats_scanner_word e = Exec T j1_floats_scanner_word (e.keep [0, 1, 7, 8, 100000]) := Exec_tail _ _ _
@[simp] theorem tl2_floats_scanner_word (e : Env) : Exec T k2_floats_scanner_word e = Exec T j2_floats_scanner_word (e.keep [100000]) := Exec_tail _ _ _
theorem ex0_floats_scanner_word (e : Env) : Exec T l0_floats_scanner_word e = andThen (Exec T w0_floats_scanner_word (e.keep [0, 1, 7, 8, 100000])) (Exec T l0_floats_scanner_word) := Exec_loop _ _ _
theorem run_floats_scanner_word (xs : List PV) : Cinf T n_floats_scanner_word xs = Run T a_floats_scanner_word xs := Cinf_eq rfl fn_floats_scanner_word
@[simp] theorem md_floats_scanner_word : T.modes n_floats_scanner_word = [true, false] := rfl
@[simp] theorem call_floats_scanner_word (C : Oracle) (e : Env) (xs : List PV) : call T C e n_floats_scanner_word xs = callK1 C n_floats_scanner_word xs (moves e [] [true, false] xs) := call_modes md_floats_scanner_word
theorem fn_floats_digit : T.fns n_floats_digit = some a_floats_digit := rfl
theorem run_floats_digit (xs : List PV) : Cinf T n_floats_digit xs = Run T a_floats_digit xs := Cinf_eq rfl fn_floats_digit
@[simp] theorem md_floats_digit : T.modes n_floats_digit = [] := rfl
@[simp] theorem call_floats_digit (C : Oracle) (e : Env) (xs : List PV) : call T C e n_floats_digit xs = callK1 C n_floats_digit xs (moves e [] [] xs) := call_modes md_floats_digit
theorem fn_floats_scanner_run : T.fns n_floats_scanner_run = some a_floats_scanner_run := rfl
@[simp] theorem tl0_floats_scanner_run (e : Env) : Exec T k0_floats_scanner_run e = Exec T j0_floats_scanner_run (e.keep [0, 1, 6, 100000]) := Exec_tail _ _ _
@[simp] theorem tl1_floats_scanner_run (e : Env) : Exec T k1_floats_scanner_run e = Exec T j1_floats_scanner_run (e.keep [0, 6, 100000]) := Exec_tail _ _ _
theorem ex0_floats_scanner_run (e : Env) : Exec T l0_floats_scanner_run e = andThen (Exec T w0_floats_scanner_run (e.keep [0, 1, 6, 100000])) (Exec T l0_floats_scanner_run) := Exec_loop _ _ _
theorem run_floats_scanner_run (xs : List PV) : Cinf T n_floats_scanner_run xs = Run T a_floats_scanner_run xs := Cinf_eq rfl fn_floats_scanner_run
@[simp] theorem md_floats_scanner_run : T.modes n_floats_scanner_run = [true, false] := rfl
@[simp] theorem call_floats_scanner_run (C : Oracle) (e : Env) (xs : List PV) : call T C e n_floats_scanner_run xs = callK1 C n_floats_scanner_run xs (moves e [] [true, false] xs) := call_modes md_floats_scanner_run
theorem fn_floats_scanner_figures : T.fns n_floats_scanner_figures = some a_floats_scanner_figures := rfl
@[simp] theorem tl0_floats_scanner_figures (e : Env) : Exec T k0_floats_scanner_figures e = Exec T j0_floats_scanner_figures (e.keep [0, 1, 7, 100000, 100001]) := Exec_tail _ _ _
@[simp] theorem tl1_floats_scanner_figures (e : Env) : Exec T k1_floats_scanner_figures e = Exec T j1_floats_scanner_figures (e.keep [100000, 100001]) := Exec_tail _ _ _
@[simp] theorem tl2_floats_scanner_figures (e : Env) : Exec T k2_floats_scanner_figures e = Exec T j2_floats_scanner_figures (e.keep [1, 5, 10, 100000, 100001]) := Exec_tail _ _ _
@[simp] theorem tl3_floats_scanner_figures (e : Env) : Exec T k3_floats_scanner_figures e = Exec T j3_floats_scanner_figures (e.keep [0, 1, 10, 100000, 100001]) := Exec_tail _ _ _
@[simp] theorem tl4_floats_scanner_figures (e : Env) : Exec T k4_floats_scanner_figures e = Exec T j4_floats_scanner_figures (e.keep [0, 1, 100000, 100001]) := Exec_tail _ _ _
@[simp] theorem tl5_floats_scanner_figures (e : Env) : Exec T k5_floats_scanner_figures e = Exec T j5_floats_scanner_figures (e.keep [0, 1, 9, 100000, 100001]) := Exec_tail _ _ _
@[simp] theorem tl6_floats_scanner_figures (e : Env) : Exec T k6_floats_scanner_figures e = Exec T j6_floats_scanner_figures (e.keep [0, 1, 100000, 100001]) := Exec_tail _ _ _
@[simp] theorem tl7_floats_scanner_figures (e : Env) : Exec T k7_floats_scanner_figures e = Exec T j7_floats_scanner_figures (e.keep [0, 1, 5, 100000, 100001]) := Exec_tail _ _ _
@[simp] theorem tl8_floats_scanner_figures (e : Env) : Exec T k8_floats_scanner_figures e = Exec T j8_floats_scanner_figures (e.keep [0, 1, 100000, 100001]) := Exec_tail _ _ _
theorem run_floats_scanner_figures (xs : List PV) : Cinf T n_floats_scanner_figures xs = Run T a_floats_scanner_figures xs := Cinf_eq rfl fn_floats_scanner_figures
@[simp] theorem md_floats_scanner_figures : T.modes n_floats_scanner_figures = [true, true] := rfl
@[simp] theorem call_floats_scanner_figures (C : Oracle) (e : Env) (xs : List PV) : call T C e n_floats_scanner_figures xs = callK1 C n_floats_scanner_figures xs (moves e [] [true, true] xs) := call_modes md_floats_scanner_figures
theorem fn_floats_cut : T.fns n_floats_cut = some a_floats_cut := rfl
@[simp] theorem tl0_floats_cut (e : Env) : Exec T k0_floats_cut e = Exec T j0_floats_cut (e.keep [2, 5]) := Exec_tail _ _ _
@[simp] theorem tl1_floats_cut (e : Env) : Exec T k1_floats_cut e = Exec T j1_floats_cut (e.keep [0, 2, 4, 5, 9]) := Exec_tail _ _ _
theorem run_floats_cut (xs : List PV) : Cinf T n_floats_cut xs = Run T a_floats_cut xs := Cinf_eq rfl fn_floats_cut
@[simp] theorem md_floats_cut : T.modes n_floats_cut = [] := rfl
@[simp] theorem call_floats_cut (C : Oracle) (e : Env) (xs : List PV) : call T C e n_floats_cut xs = callK1 C n_floats_cut xs (moves e [] [] xs) := call_modes md_floats_cut
theorem fn_floats_taken : T.fns n_floats_taken = some a_floats_taken := rfl
@[simp] theorem tl0_floats_taken (e : Env) : Exec T k0_floats_taken e = Exec T j0_floats_taken (e.keep [2, 5]) := Exec_tail _ _ _
@[simp] theorem tl1_floats_taken (e : Env) : Exec T k1_floats_taken e = Exec T j1_floats_taken (e.keep [0, 2]) := Exec_tail _ _ _
theorem run_floats_taken (xs : List PV) : Cinf T n_floats_taken xs = Run T a_floats_taken xs := Cinf_eq rfl fn_floats_taken
@[simp] theorem md_floats_taken : T.modes n_floats_taken = [] := rfl
@[simp] theorem call_floats_taken (C : Oracle) (e : Env) (xs : List PV) : call T C e n_floats_taken xs = callK1 C n_floats_taken xs (moves e [] [] xs) := call_modes md_floats_taken
theorem fn_math_NaN : T.fns n_math_NaN = some a_math_NaN := rfl
theorem run_math_NaN (xs : List PV) : Cinf T n_math_NaN xs = Run T a_math_NaN xs := Cinf_eq rfl fn_math_NaN
@[simp] theorem md_math_NaN : T.modes n_math_NaN = [] := rfl
@[simp] theorem call_math_NaN (C : Oracle) (e : Env) (xs : List PV) : call T C e n_math_NaN xs = callK1 C n_math_NaN xs (moves e [] [] xs) := call_modes md_math_NaN
theorem fn_math_Inf : T.fns n_math_Inf = some a_math_Inf := rfl
@[simp] theorem tl0_math_Inf (e : Env) : Exec T k0_math_Inf e = Exec T j0_math_Inf (e.keep [3]) := Exec_tail _ _ _
theorem run_math_Inf (xs : List PV) : Cinf T n_math_Inf xs = Run T a_math_Inf xs := Cinf_eq rfl fn_math_Inf
@[simp] theorem md_math_Inf : T.modes n_math_Inf = [] := rfl
@[simp] theorem call_math_Inf (C : Oracle) (e : Env) (xs : List PV) : call T C e n_math_Inf xs = callK1 C n_math_Inf xs (moves e [] [] xs) := call_modes md_math_Inf
theorem fn_limbs_trim : T.fns n_limbs_trim = some a_limbs_trim := rfl
@[simp] theorem tl0_limbs_trim (e : Env) : Exec T k0_limbs_trim e = Exec T j0_limbs_trim (e.keep [0, 3, 100000]) := Exec_tail _ _ _
@[simp] theorem tl1_limbs_trim (e : Env) : Exec T k1_limbs_trim e = Exec T j1_limbs_trim (e.keep [0, 3, 100000]) := Exec_tail _ _ _
theorem ex0_limbs_trim (e : Env) : Exec T l0_limbs_trim e = andThen (Exec T w0_limbs_trim (e.keep [0, 3, 100000])) (Exec T l0_limbs_trim) := Exec_loop _ _ _
theorem run_limbs_trim (xs : List PV) : Cinf T n_limbs_trim xs = Run T a_limbs_trim xs := Cinf_eq rfl fn_limbs_trim
@[simp] theorem md_limbs_trim : T.modes n_limbs_trim = [true] := rfl
@[simp] theorem call_limbs_trim (C : Oracle) (e : Env) (xs : List PV) : call T C e n_limbs_trim xs = callK1 C n_limbs_trim xs (moves e [] [true] xs) := call_modes md_limbs_trim
theorem fn_limbs_Norm : T.fns n_limbs_Norm = some a_limbs_Norm := rfl
theorem run_limbs_Norm (xs : List PV) : Cinf T n_limbs_Norm xs = Run T a_limbs_Norm xs := Cinf_eq rfl fn_limbs_Norm
@[simp] theorem md_limbs_Norm : T.modes n_limbs_Norm = [] := rfl
@[simp] theorem call_limbs_Norm (C : Oracle) (e : Env) (xs : List PV) : call T C e n_limbs_Norm xs = callK1 C n_limbs_Norm xs (moves e [] [] xs) := call_modes md_limbs_Norm
theorem fn_strings_trimLeftByte : T.fns n_strings_trimLeftByte = some a_strings_trimLeftByte := rfl
@[simp] theorem tl0_strings_trimLeftByte (e : Env) : Exec T k0_strings_trimLeftByte e = Exec T j0_strings_trimLeftByte (e.keep [0, 1]) := Exec_tail _ _ _
@[simp] theorem tl1_strings_trimLeftByte (e : Env) : Exec T k1_strings_trimLeftByte e = Exec T j1_strings_trimLeftByte (e.keep [0]) := Exec_tail _ _ _
theorem ex0_strings_trimLeftByte (e : Env) : Exec T l0_strings_trimLeftByte e = andThen (Exec T w0_strings_trimLeftByte (e.keep [0, 1])) (Exec T l0_strings_trimLeftByte) := Exec_loop _ _ _
theorem run_strings_trimLeftByte (xs : List PV) : Cinf T n_strings_trimLeftByte xs = Run T a_strings_trimLeftByte xs := Cinf_eq rfl fn_strings_trimLeftByte
@[simp] theorem md_strings_trimLeftByte : T.modes n_strings_trimLeftByte = [] := rfl
@[simp] theorem call_strings_trimLeftByte (C : Oracle) (e : Env) (xs : List PV) : call T C e n_strings_trimLeftByte xs = callK1 C n_strings_trimLeftByte xs (moves e [] [] xs) := call_modes md_strings_trimLeftByte
theorem fn_strings_TrimLeft : T.fns n_strings_TrimLeft = some a_strings_TrimLeft := rfl
@[simp] theorem tl0_strings_TrimLeft (e : Env) : Exec T k0_strings_TrimLeft e = Exec T j0_strings_TrimLeft (e.keep [0, 1]) := Exec_tail _ _ _
@[simp] theorem tl1_strings_TrimLeft (e : Env) : Exec T k1_strings_TrimLeft e = Exec T j1_strings_TrimLeft (e.keep [0, 1]) := Exec_tail _ _ _
@[simp] theorem tl2_strings_TrimLeft (e : Env) : Exec T k2_strings_TrimLeft e = Exec T j2_strings_TrimLeft (e.keep [0, 1]) := Exec_tail _ _ _
theorem run_strings_TrimLeft (xs : List PV) : Cinf T n_strings_TrimLeft xs = Run T a_strings_TrimLeft xs := Cinf_eq rfl fn_strings_TrimLeft
@[simp] theorem md_strings_TrimLeft : T.modes n_strings_TrimLeft = [] := rfl
@[simp] theorem call_strings_TrimLeft (C : Oracle) (e : Env) (xs : List PV) : call T C e n_strings_TrimLeft xs = callK1 C n_strings_TrimLeft xs (moves e [] [] xs) := call_modes md_strings_TrimLeft
theorem fn_limbs_Print : T.fns n_limbs_Print = some a_limbs_Print := rfl
@[simp] theorem tl0_limbs_Print (e : Env) : Exec T k0_limbs_Print e = Exec T j0_limbs_Print (e.keep [0, 3, 4, 5, 10, 41, 57]) := Exec_tail _ _ _
@[simp] theorem tl1_limbs_Print (e : Env) : Exec T k1_limbs_Print e = Exec T j1_limbs_Print (e.keep [0, 3, 4, 5, 10, 41, 57]) := Exec_tail _ _ _
@[simp] theorem tl2_limbs_Print (e : Env) : Exec T k2_limbs_Print e = Exec T j2_limbs_Print (e.keep [0, 3, 4, 6, 10, 41, 42, 57]) := Exec_tail _ _ _
@[simp] theorem tl3_limbs_Print (e : Env) : Exec T k3_limbs_Print e = Exec T j3_limbs_Print (e.keep [0, 3, 4, 6, 10, 41, 42, 57]) := Exec_tail _ _ _
@[simp] theorem tl4_limbs_Print (e : Env) : Exec T k4_limbs_Print e = Exec T j4_limbs_Print (e.keep [0, 3, 6, 10, 41, 57]) := Exec_tail _ _ _
@[simp] theorem tl5_limbs_Print (e : Env) : Exec T k5_limbs_Print e = Exec T j5_limbs_Print (e.keep [0, 3, 4, 10, 41, 57]) := Exec_tail _ _ _
@[simp] theorem tl6_limbs_Print (e : Env) : Exec T k6_limbs_Print e = Exec T j6_limbs_Print (e.keep [0, 3, 10, 41, 57]) := Exec_tail _ _ _
@[simp] theorem tl7_limbs_Print (e : Env) : Exec T k7_limbs_Print e = Exec T j7_limbs_Print (e.keep [3, 7, 8, 57]) := Exec_tail _ _ _
@[simp] theorem tl8_limbs_Print (e : Env) : Exec T k8_limbs_Print e = Exec T j8_limbs_Print (e.keep [3, 7, 8, 57]) := Exec_tail _ _ _
@[simp] theorem tl9_limbs_Print (e : Env) : Exec T k9_limbs_Print e = Exec T j9_limbs_Print (e.keep [7]) := Exec_tail _ _ _
@[simp] theorem tl10_limbs_Print (e : Env) : Exec T k10_limbs_Print e = Exec T j10_limbs_Print (e.keep [3, 57]) := Exec_tail _ _ _
@[simp] theorem tl11_limbs_Print (e : Env) : Exec T k11_limbs_Print e = Exec T j11_limbs_Print (e.keep [0, 10, 41]) := Exec_tail _ _ _
theorem ex1_limbs_Print (e : Env) : Exec T l1_limbs_Print e = andThen (Exec T w1_limbs_Print (e.keep [0, 3, 4, 5, 10, 41, 57])) (Exec T l1_limbs_Print) := Exec_loop _ _ _
theorem ex2_limbs_Print (e : Env) : Exec T l2_limbs_Print e = andThen (Exec T w2_limbs_Print (e.keep [0, 3, 4, 6, 10, 41, 42, 57])) (Exec T l2_limbs_Print) := Exec_loop _ _ _
theorem ex0_limbs_Print (e : Env) : Exec T l0_limbs_Print e = andThen (Exec T w0_limbs_Print (e.keep [0, 3, 10, 41, 57])) (Exec T l0_limbs_Print) := Exec_loop _ _ _
theorem ex3_limbs_Print (e : Env) : Exec T l3_limbs_Print e = andThen (Exec T w3_limbs_Print (e.keep [3, 7, 8, 57])) (Exec T l3_limbs_Print) := Exec_loop _ _ _
theorem run_limbs_Print (xs : List PV) : Cinf T n_limbs_Print xs = Run T a_limbs_Print xs := Cinf_eq rfl fn_limbs_Print
@[simp] theorem md_limbs_Print : T.modes n_limbs_Print = [] := rfl
@[simp] theorem call_limbs_Print (C : Oracle) (e : Env) (xs : List PV) : call T C e n_limbs_Print xs = callK1 C n_limbs_Print xs (moves e [] [] xs) := call_modes md_limbs_Print
theorem fn_limbs_low : T.fns n_limbs_low = some a_limbs_low := rfl
theorem run_limbs_low (xs : List PV) : Cinf T n_limbs_low xs = Run T a_limbs_low xs := Cinf_eq rfl fn_limbs_low
@[simp] theorem md_limbs_low : T.modes n_limbs_low = [] := rfl
@[simp] theorem call_limbs_low (C : Oracle) (e : Env) (xs : List PV) : call T C e n_limbs_low xs = callK1 C n_limbs_low xs (moves e [] [] xs) := call_modes md_limbs_low
theorem fn_limbs_high : T.fns n_limbs_high = some a_limbs_high := rfl
theorem run_limbs_high (xs : List PV) : Cinf T n_limbs_high xs = Run T a_limbs_high xs := Cinf_eq rfl fn_limbs_high
@[simp] theorem md_limbs_high : T.modes n_limbs_high = [] := rfl
@[simp] theorem call_limbs_high (C : Oracle) (e : Env) (xs : List PV) : call T C e n_limbs_high xs = callK1 C n_limbs_high xs (moves e [] [] xs) := call_modes md_limbs_high
theorem fn_limbs_From : T.fns n_limbs_From = some a_limbs_From := rfl
theorem run_limbs_From (xs : List PV) : Cinf T n_limbs_From xs = Run T a_limbs_From xs := Cinf_eq rfl fn_limbs_From
@[simp] theorem md_limbs_From : T.modes n_limbs_From = [] := rfl
@[simp] theorem call_limbs_From (C : Oracle) (e : Env) (xs : List PV) : call T C e n_limbs_From xs = callK1 C n_limbs_From xs (moves e [] [] xs) := call_modes md_limbs_From
theorem fn_limbs_grow : T.fns n_limbs_grow = some a_limbs_grow := rfl
@[simp] theorem tl0_limbs_grow (e : Env) : Exec T k0_limbs_grow e = Exec T j0_limbs_grow (e.keep [0, 1, 7, 12, 13, 40, 100000]) := Exec_tail _ _ _
@[simp] theorem tl1_limbs_grow (e : Env) : Exec T k1_limbs_grow e = Exec T j1_limbs_grow (e.keep [0, 1, 7, 12, 13, 40, 100000]) := Exec_tail _ _ _
@[simp] theorem tl2_limbs_grow (e : Env) : Exec T k2_limbs_grow e = Exec T j2_limbs_grow (e.keep [0, 40, 100000]) := Exec_tail _ _ _
@[simp] theorem tl3_limbs_grow (e : Env) : Exec T k3_limbs_grow e = Exec T j3_limbs_grow (e.keep [0, 7, 40, 100000]) := Exec_tail _ _ _
theorem ex0_limbs_grow (e : Env) : Exec T l0_limbs_grow e = andThen (Exec T w0_limbs_grow (e.keep [0, 1, 7, 12, 13, 40, 100000])) (Exec T l0_limbs_grow) := Exec_loop _ _ _
theorem run_limbs_grow (xs : List PV) : Cinf T n_limbs_grow xs = Run T a_limbs_grow xs := Cinf_eq rfl fn_limbs_grow
@[simp] theorem md_limbs_grow : T.modes n_limbs_grow = [true, false, false] := rfl
@[simp] theorem call_limbs_grow (C : Oracle) (e : Env) (xs : List PV) : call T C e n_limbs_grow xs = callK1 C n_limbs_grow xs (moves e [] [true, false, false] xs) := call_modes md_limbs_grow
theorem fn_limbs_Read : T.fns n_limbs_Read = some a_limbs_Read := rfl
@[simp] theorem tl0_limbs_Read (e : Env) : Exec T k0_limbs_Read e = Exec T j0_limbs_Read (e.keep [0, 12, 13]) := Exec_tail _ _ _
@[simp] theorem tl1_limbs_Read (e : Env) : Exec T k1_limbs_Read e = Exec T j1_limbs_Read (e.keep [0, 12, 13]) := Exec_tail _ _ _
@[simp] theorem tl2_limbs_Read (e : Env) : Exec T k2_limbs_Read e = Exec T j2_limbs_Read (e.keep [0, 6, 7, 8, 9, 36, 37, 54]) := Exec_tail _ _ _
@[simp] theorem tl3_limbs_Read (e : Env) : Exec T k3_limbs_Read e = Exec T j3_limbs_Read (e.keep [0, 6, 7, 8, 9, 36, 37, 54]) := Exec_tail _ _ _
@[simp] theorem tl4_limbs_Read (e : Env) : Exec T k4_limbs_Read e = Exec T j4_limbs_Read (e.keep [0, 6, 7, 8, 9, 54]) := Exec_tail _ _ _
@[simp] theorem tl5_limbs_Read (e : Env) : Exec T k5_limbs_Read e = Exec T j5_limbs_Read (e.keep [0, 6, 54]) := Exec_tail _ _ _
@[simp] theorem tl6_limbs_Read (e : Env) : Exec T k6_limbs_Read e = Exec T j6_limbs_Read (e.keep [6, 54]) := Exec_tail _ _ _
@[simp] theorem tl7_limbs_Read (e : Env) : Exec T k7_limbs_Read e = Exec T j7_limbs_Read (e.keep [0]) := Exec_tail _ _ _
@[simp] theorem tl8_limbs_Read (e : Env) : Exec T k8_limbs_Read e = Exec T j8_limbs_Read (e.keep [0]) := Exec_tail _ _ _
theorem ex0_limbs_Read (e : Env) : Exec T l0_limbs_Read e = andThen (Exec T w0_limbs_Read (e.keep [0, 12, 13])) (Exec T l0_limbs_Read) := Exec_loop _ _ _
theorem ex2_limbs_Read (e : Env) : Exec T l2_limbs_Read e = andThen (Exec T w2_limbs_Read (e.keep [0, 6, 7, 8, 9, 36, 37, 54])) (Exec T l2_limbs_Read) := Exec_loop _ _ _
theorem ex1_limbs_Read (e : Env) : Exec T l1_limbs_Read e = andThen (Exec T w1_limbs_Read (e.keep [0, 6, 54])) (Exec T l1_limbs_Read) := Exec_loop _ _ _
theorem run_limbs_Read (xs : List PV) : Cinf T n_limbs_Read xs = Run T a_limbs_Read xs := Cinf_eq rfl fn_limbs_Read
@[simp] theorem md_limbs_Read : T.modes n_limbs_Read = [] := rfl
@[simp] theorem call_limbs_Read (C : Oracle) (e : Env) (xs : List PV) : call T C e n_limbs_Read xs = callK1 C n_limbs_Read xs (moves e [] [] xs) := call_modes md_limbs_Read
theorem fn_limbs_Mul : T.fns n_limbs_Mul = some a_limbs_Mul := rfl
@[simp] theorem tl0_limbs_Mul (e : Env) : Exec T k0_limbs_Mul e = Exec T j0_limbs_Mul (e.keep [0, 1, 5, 6, 7, 10, 12, 18, 20, 21, 25, 26]) := Exec_tail _ _ _
@[simp] theorem tl1_limbs_Mul (e : Env) : Exec T k1_limbs_Mul e = Exec T j1_limbs_Mul (e.keep [0, 1, 5, 6, 7, 10, 12, 18, 20, 21, 25, 26]) := Exec_tail _ _ _
@[simp] theorem tl2_limbs_Mul (e : Env) : Exec T k2_limbs_Mul e = Exec T j2_limbs_Mul (e.keep [0, 1, 5, 6, 7, 10, 12, 18, 20, 21]) := Exec_tail _ _ _
@[simp] theorem tl3_limbs_Mul (e : Env) : Exec T k3_limbs_Mul e = Exec T j3_limbs_Mul (e.keep [0, 1, 5, 10, 12, 18, 20, 21]) := Exec_tail _ _ _
@[simp] theorem tl4_limbs_Mul (e : Env) : Exec T k4_limbs_Mul e = Exec T j4_limbs_Mul (e.keep [0, 1, 5, 10, 12, 18, 20, 21]) := Exec_tail _ _ _
@[simp] theorem tl5_limbs_Mul (e : Env) : Exec T k5_limbs_Mul e = Exec T j5_limbs_Mul (e.keep [5, 18]) := Exec_tail _ _ _
theorem ex1_limbs_Mul (e : Env) : Exec T l1_limbs_Mul e = andThen (Exec T w1_limbs_Mul (e.keep [0, 1, 5, 6, 7, 10, 12, 18, 20, 21, 25, 26])) (Exec T l1_limbs_Mul) := Exec_loop _ _ _
theorem ex0_limbs_Mul (e : Env) : Exec T l0_limbs_Mul e = andThen (Exec T w0_limbs_Mul (e.keep [0, 1, 5, 10, 12, 18, 20, 21])) (Exec T l0_limbs_Mul) := Exec_loop _ _ _
theorem run_limbs_Mul (xs : List PV) : Cinf T n_limbs_Mul xs = Run T a_limbs_Mul xs := Cinf_eq rfl fn_limbs_Mul
@[simp] theorem md_limbs_Mul : T.modes n_limbs_Mul = [] := rfl
@[simp] theorem call_limbs_Mul (C : Oracle) (e : Env) (xs : List PV) : call T C e n_limbs_Mul xs = callK1 C n_limbs_Mul xs (moves e [] [] xs) := call_modes md_limbs_Mul
theorem fn_bits_Len32 : T.fns n_bits_Len32 = some a_bits_Len32 := rfl
@[simp] theorem tl0_bits_Len32 (e : Env) : Exec T k0_bits_Len32 e = Exec T j0_bits_Len32 (e.keep [0, 2]) := Exec_tail _ _ _
@[simp] theorem tl1_bits_Len32 (e : Env) : Exec T k1_bits_Len32 e = Exec T j1_bits_Len32 (e.keep [0, 2]) := Exec_tail _ _ _
theorem run_bits_Len32 (xs : List PV) : Cinf T n_bits_Len32 xs = Run T a_bits_Len32 xs := Cinf_eq rfl fn_bits_Len32
@[simp] theorem md_bits_Len32 : T.modes n_bits_Len32 = [] := rfl
@[simp] theorem call_bits_Len32 (C : Oracle) (e : Env) (xs : List PV) : call T C e n_bits_Len32 xs = callK1 C n_bits_Len32 xs (moves e [] [] xs) := call_modes md_bits_Len32
theorem fn_limbs_Len : T.fns n_limbs_Len = some a_limbs_Len := rfl
@[simp] theorem tl0_limbs_Len (e : Env) : Exec T k0_limbs_Len e = Exec T j0_limbs_Len (e.keep [0, 4]) := Exec_tail _ _ _
theorem run_limbs_Len (xs : List PV) : Cinf T n_limbs_Len xs = Run T a_limbs_Len xs := Cinf_eq rfl fn_limbs_Len
@[simp] theorem md_limbs_Len : T.modes n_limbs_Len = [] := rfl
@[simp] theorem call_limbs_Len (C : Oracle) (e : Env) (xs : List PV) : call T C e n_limbs_Len xs = callK1 C n_limbs_Len xs (moves e [] [] xs) := call_modes md_limbs_Len
theorem fn_limbs_Pow : T.fns n_limbs_Pow = some a_limbs_Pow := rfl
@[simp] theorem tl0_limbs_Pow (e : Env) : Exec T k0_limbs_Pow e = Exec T j0_limbs_Pow (e.keep [0, 1, 6, 7, 19, 26, 34]) := Exec_tail _ _ _
@[simp] theorem tl1_limbs_Pow (e : Env) : Exec T k1_limbs_Pow e = Exec T j1_limbs_Pow (e.keep [0, 1, 6, 7, 19, 26, 34]) := Exec_tail _ _ _
@[simp] theorem tl2_limbs_Pow (e : Env) : Exec T k2_limbs_Pow e = Exec T j2_limbs_Pow (e.keep [6, 19, 26, 34]) := Exec_tail _ _ _
@[simp] theorem tl3_limbs_Pow (e : Env) : Exec T k3_limbs_Pow e = Exec T j3_limbs_Pow (e.keep [0, 1]) := Exec_tail _ _ _
@[simp] theorem tl4_limbs_Pow (e : Env) : Exec T k4_limbs_Pow e = Exec T j4_limbs_Pow (e.keep [0, 1]) := Exec_tail _ _ _
theorem ex0_limbs_Pow (e : Env) : Exec T l0_limbs_Pow e = andThen (Exec T w0_limbs_Pow (e.keep [0, 1, 6, 7, 19, 26, 34])) (Exec T l0_limbs_Pow) := Exec_loop _ _ _
theorem run_limbs_Pow (xs : List PV) : Cinf T n_limbs_Pow xs = Run T a_limbs_Pow xs := Cinf_eq rfl fn_limbs_Pow
@[simp] theorem md_limbs_Pow : T.modes n_limbs_Pow = [] := rfl
@[simp] theorem call_limbs_Pow (C : Oracle) (e : Env) (xs : List PV) : call T C e n_limbs_Pow xs = callK1 C n_limbs_Pow xs (moves e [] [] xs) := call_modes md_limbs_Pow
theorem fn_limbs_up : T.fns n_limbs_up = some a_limbs_up := rfl
@[simp] theorem tl0_limbs_up (e : Env) : Exec T k0_limbs_up e = Exec T j0_limbs_up (e.keep [0, 1, 5, 6, 10, 22, 23, 24, 25, 40]) := Exec_tail _ _ _
@[simp] theorem tl1_limbs_up (e : Env) : Exec T k1_limbs_up e = Exec T j1_limbs_up (e.keep [0, 1, 5, 6, 10, 22, 23, 24, 25, 40]) := Exec_tail _ _ _
@[simp] theorem tl2_limbs_up (e : Env) : Exec T k2_limbs_up e = Exec T j2_limbs_up (e.keep [5, 6, 22, 40]) := Exec_tail _ _ _
@[simp] theorem tl3_limbs_up (e : Env) : Exec T k3_limbs_up e = Exec T j3_limbs_up (e.keep [0, 1, 10]) := Exec_tail _ _ _
theorem ex0_limbs_up (e : Env) : Exec T l0_limbs_up e = andThen (Exec T w0_limbs_up (e.keep [0, 1, 5, 6, 10, 22, 23, 24, 25, 40])) (Exec T l0_limbs_up) := Exec_loop _ _ _
theorem run_limbs_up (xs : List PV) : Cinf T n_limbs_up xs = Run T a_limbs_up xs := Cinf_eq rfl fn_limbs_up
@[simp] theorem md_limbs_up : T.modes n_limbs_up = [] := rfl
@[simp] theorem call_limbs_up (C : Oracle) (e : Env) (xs : List PV) : call T C e n_limbs_up xs = callK1 C n_limbs_up xs (moves e [] [] xs) := call_modes md_limbs_up
theorem fn_limbs_Up : T.fns n_limbs_Up = some a_limbs_Up := rfl
@[simp] theorem tl0_limbs_Up (e : Env) : Exec T k0_limbs_Up e = Exec T j0_limbs_Up (e.keep [0, 1]) := Exec_tail _ _ _
theorem run_limbs_Up (xs : List PV) : Cinf T n_limbs_Up xs = Run T a_limbs_Up xs := Cinf_eq rfl fn_limbs_Up
@[simp] theorem md_limbs_Up : T.modes n_limbs_Up = [] := rfl
@[simp] theorem call_limbs_Up (C : Oracle) (e : Env) (xs : List PV) : call T C e n_limbs_Up xs = callK1 C n_limbs_Up xs (moves e [] [] xs) := call_modes md_limbs_Up
theorem fn_limbs_Add : T.fns n_limbs_Add = some a_limbs_Add := rfl
@[simp] theorem tl0_limbs_Add (e : Env) : Exec T k0_limbs_Add e = Exec T j0_limbs_Add (e.keep [0, 1, 5, 6, 13, 14, 18, 20, 21, 46]) := Exec_tail _ _ _
@[simp] theorem tl1_limbs_Add (e : Env) : Exec T k1_limbs_Add e = Exec T j1_limbs_Add (e.keep [0, 1, 5, 6, 13, 14, 18, 20, 21, 46]) := Exec_tail _ _ _
@[simp] theorem tl2_limbs_Add (e : Env) : Exec T k2_limbs_Add e = Exec T j2_limbs_Add (e.keep [0, 1, 5, 6, 13, 14, 18, 20, 21, 46]) := Exec_tail _ _ _
@[simp] theorem tl3_limbs_Add (e : Env) : Exec T k3_limbs_Add e = Exec T j3_limbs_Add (e.keep [5, 6, 18, 46]) := Exec_tail _ _ _
@[simp] theorem tl4_limbs_Add (e : Env) : Exec T k4_limbs_Add e = Exec T j4_limbs_Add (e.keep [0, 1, 13, 14]) := Exec_tail _ _ _
theorem ex0_limbs_Add (e : Env) : Exec T l0_limbs_Add e = andThen (Exec T w0_limbs_Add (e.keep [0, 1, 5, 6, 13, 14, 18, 20, 21, 46])) (Exec T l0_limbs_Add) := Exec_loop _ _ _
theorem run_limbs_Add (xs : List PV) : Cinf T n_limbs_Add xs = Run T a_limbs_Add xs := Cinf_eq rfl fn_limbs_Add
@[simp] theorem md_limbs_Add : T.modes n_limbs_Add = [] := rfl
@[simp] theorem call_limbs_Add (C : Oracle) (e : Env) (xs : List PV) : call T C e n_limbs_Add xs = callK1 C n_limbs_Add xs (moves e [] [] xs) := call_modes md_limbs_Add
theorem fn_floats_value : T.fns n_floats_value = some a_floats_value := rfl
@[simp] theorem tl0_floats_value (e : Env) : Exec T k0_floats_value e = Exec T j0_floats_value (e.keep [0]) := Exec_tail _ _ _
theorem run_floats_value (xs : List PV) : Cinf T n_floats_value xs = Run T a_floats_value xs := Cinf_eq rfl fn_floats_value
@[simp] theorem md_floats_value : T.modes n_floats_value = [] := rfl
@[simp] theorem call_floats_value (C : Oracle) (e : Env) (xs : List PV) : call T C e n_floats_value xs = callK1 C n_floats_value xs (moves e [] [] xs) := call_modes md_floats_value
theorem fn_floats_power : T.fns n_floats_power = some a_floats_power := rfl
@[simp] theorem tl0_floats_power (e : Env) : Exec T k0_floats_power e = Exec T j0_floats_power (e.keep [0, 3, 4, 15, 16]) := Exec_tail _ _ _
@[simp] theorem tl1_floats_power (e : Env) : Exec T k1_floats_power e = Exec T j1_floats_power (e.keep [0, 3, 4, 15, 16]) := Exec_tail _ _ _
@[simp] theorem tl2_floats_power (e : Env) : Exec T k2_floats_power e = Exec T j2_floats_power (e.keep [4]) := Exec_tail _ _ _
@[simp] theorem tl3_floats_power (e : Env) : Exec T k3_floats_power e = Exec T j3_floats_power (e.keep [3, 4]) := Exec_tail _ _ _
theorem ex0_floats_power (e : Env) : Exec T l0_floats_power e = andThen (Exec T w0_floats_power (e.keep [0, 3, 4, 15, 16])) (Exec T l0_floats_power) := Exec_loop _ _ _
theorem run_floats_power (xs : List PV) : Cinf T n_floats_power xs = Run T a_floats_power xs := Cinf_eq rfl fn_floats_power
@[simp] theorem md_floats_power : T.modes n_floats_power = [] := rfl
@[simp] theorem call_floats_power (C : Oracle) (e : Env) (xs : List PV) : call T C e n_floats_power xs = callK1 C n_floats_power xs (moves e [] [] xs) := call_modes md_floats_power
theorem fn_floats_text_quotient : T.fns n_floats_text_quotient = some a_floats_text_quotient := rfl
@[simp] theorem tl0_floats_text_quotient (e : Env) : Exec T k0_floats_text_quotient e = Exec T j0_floats_text_quotient (e.keep [1, 6, 7, 22, 27, 28, 31, 33, 34, 44, 73, 76, 77]) := Exec_tail _ _ _
@[simp] theorem tl1_floats_text_quotient (e : Env) : Exec T k1_floats_text_quotient e = Exec T j1_floats_text_quotient (e.keep [1, 6, 7, 22, 27, 28, 31, 33, 34, 44, 73, 76, 77]) := Exec_tail _ _ _
@[simp] theorem tl2_floats_text_quotient (e : Env) : Exec T k2_floats_text_quotient e = Exec T j2_floats_text_quotient (e.keep [6, 7, 9, 22, 31, 33, 34, 44, 73, 76, 77]) := Exec_tail _ _ _
@[simp] theorem tl3_floats_text_quotient (e : Env) : Exec T k3_floats_text_quotient e = Exec T j3_floats_text_quotient (e.keep [1, 6, 7, 22, 31, 33, 34, 44, 73, 76, 77]) := Exec_tail _ _ _
@[simp] theorem tl4_floats_text_quotient (e : Env) : Exec T k4_floats_text_quotient e = Exec T j4_floats_text_quotient (e.keep [13, 16, 90, 93, 94]) := Exec_tail _ _ _
@[simp] theorem tl5_floats_text_quotient (e : Env) : Exec T k5_floats_text_quotient e = Exec T j5_floats_text_quotient (e.keep [1, 6, 22]) := Exec_tail _ _ _
theorem ex0_floats_text_quotient (e : Env) : Exec T l0_floats_text_quotient e = andThen (Exec T w0_floats_text_quotient (e.keep [1, 6, 7, 22, 27, 28, 31, 33, 34, 44, 73, 76, 77])) (Exec T l0_floats_text_quotient) := Exec_loop _ _ _
theorem run_floats_text_quotient (xs : List PV) : Cinf T n_floats_text_quotient xs = Run T a_floats_text_quotient xs := Cinf_eq rfl fn_floats_text_quotient
@[simp] theorem md_floats_text_quotient : T.modes n_floats_text_quotient = [] := rfl
@[simp] theorem call_floats_text_quotient (C : Oracle) (e : Env) (xs : List PV) : call T C e n_floats_text_quotient xs = callK1 C n_floats_text_quotient xs (moves e [] [] xs) := call_modes md_floats_text_quotient
theorem fn_math_Copysign : T.fns n_math_Copysign = some a_math_Copysign := rfl
theorem run_math_Copysign (xs : List PV) : Cinf T n_math_Copysign xs = Run T a_math_Copysign xs := Cinf_eq rfl fn_math_Copysign
@[simp] theorem md_math_Copysign : T.modes n_math_Copysign = [] := rfl
@[simp] theorem call_math_Copysign (C : Oracle) (e : Env) (xs : List PV) : call T C e n_math_Copysign xs = callK1 C n_math_Copysign xs (moves e [] [] xs) := call_modes md_math_Copysign
theorem fn_limbs_Cmp : T.fns n_limbs_Cmp = some a_limbs_Cmp := rfl
@[simp] theorem tl0_limbs_Cmp (e : Env) : Exec T k0_limbs_Cmp e = Exec T j0_limbs_Cmp (e.keep []) := Exec_tail _ _ _
@[simp] theorem tl1_limbs_Cmp (e : Env) : Exec T k1_limbs_Cmp e = Exec T j1_limbs_Cmp (e.keep [0, 1, 5, 7, 9]) := Exec_tail _ _ _
@[simp] theorem tl2_limbs_Cmp (e : Env) : Exec T k2_limbs_Cmp e = Exec T j2_limbs_Cmp (e.keep [0, 1, 5, 7, 9]) := Exec_tail _ _ _
@[simp] theorem tl3_limbs_Cmp (e : Env) : Exec T k3_limbs_Cmp e = Exec T j3_limbs_Cmp (e.keep []) := Exec_tail _ _ _
@[simp] theorem tl4_limbs_Cmp (e : Env) : Exec T k4_limbs_Cmp e = Exec T j4_limbs_Cmp (e.keep [0, 1, 7, 9]) := Exec_tail _ _ _
theorem ex0_limbs_Cmp (e : Env) : Exec T l0_limbs_Cmp e = andThen (Exec T w0_limbs_Cmp (e.keep [0, 1, 5, 7, 9])) (Exec T l0_limbs_Cmp) := Exec_loop _ _ _
theorem run_limbs_Cmp (xs : List PV) : Cinf T n_limbs_Cmp xs = Run T a_limbs_Cmp xs := Cinf_eq rfl fn_limbs_Cmp
@[simp] theorem md_limbs_Cmp : T.modes n_limbs_Cmp = [] := rfl
@[simp] theorem call_limbs_Cmp (C : Oracle) (e : Env) (xs : List PV) : call T C e n_limbs_Cmp xs = callK1 C n_limbs_Cmp xs (moves e [] [] xs) := call_modes md_limbs_Cmp
theorem fn_bits_LeadingZeros32 : T.fns n_bits_LeadingZeros32 = some a_bits_LeadingZeros32 := rfl
theorem run_bits_LeadingZeros32 (xs : List PV) : Cinf T n_bits_LeadingZeros32 xs = Run T a_bits_LeadingZeros32 xs := Cinf_eq rfl fn_bits_LeadingZeros32
@[simp] theorem md_bits_LeadingZeros32 : T.modes n_bits_LeadingZeros32 = [] := rfl
@[simp] theorem call_bits_LeadingZeros32 (C : Oracle) (e : Env) (xs : List PV) : call T C e n_bits_LeadingZeros32 xs = callK1 C n_bits_LeadingZeros32 xs (moves e [] [] xs) := call_modes md_bits_LeadingZeros32
theorem fn_bits_Sub32 : T.fns n_bits_Sub32 = some a_bits_Sub32 := rfl
theorem run_bits_Sub32 (xs : List PV) : Cinf T n_bits_Sub32 xs = Run T a_bits_Sub32 xs := Cinf_eq rfl fn_bits_Sub32
@[simp] theorem md_bits_Sub32 : T.modes n_bits_Sub32 = [] := rfl
@[simp] theorem call_bits_Sub32 (C : Oracle) (e : Env) (xs : List PV) : call T C e n_bits_Sub32 xs = callK1 C n_bits_Sub32 xs (moves e [] [] xs) := call_modes md_bits_Sub32
theorem fn_bits_Add32 : T.fns n_bits_Add32 = some a_bits_Add32 := rfl
theorem run_bits_Add32 (xs : List PV) : Cinf T n_bits_Add32 xs = Run T a_bits_Add32 xs := Cinf_eq rfl fn_bits_Add32
@[simp] theorem md_bits_Add32 : T.modes n_bits_Add32 = [] := rfl
@[simp] theorem call_bits_Add32 (C : Oracle) (e : Env) (xs : List PV) : call T C e n_bits_Add32 xs = callK1 C n_bits_Add32 xs (moves e [] [] xs) := call_modes md_bits_Add32
theorem fn_limbs_long : T.fns n_limbs_long = some a_limbs_long := rfl
@[simp] theorem tl0_limbs_long (e : Env) : Exec T k0_limbs_long e = Exec T j0_limbs_long (e.keep [0, 1, 5, 6, 7, 8, 9, 11, 12, 24, 71, 100000]) := Exec_tail _ _ _
@[simp] theorem tl1_limbs_long (e : Env) : Exec T k1_limbs_long e = Exec T j1_limbs_long (e.keep [0, 1, 5, 6, 7, 8, 9, 11, 12, 24, 100000]) := Exec_tail _ _ _
@[simp] theorem tl2_limbs_long (e : Env) : Exec T k2_limbs_long e = Exec T j2_limbs_long (e.keep [0, 1, 5, 6, 7, 8, 9, 11, 13, 14, 24, 94, 95, 100000]) := Exec_tail _ _ _
@[simp] theorem tl3_limbs_long (e : Env) : Exec T k3_limbs_long e = Exec T j3_limbs_long (e.keep [0, 1, 5, 6, 7, 8, 9, 11, 13, 14, 24, 94, 95, 100000]) := Exec_tail _ _ _
@[simp] theorem tl4_limbs_long (e : Env) : Exec T k4_limbs_long e = Exec T j4_limbs_long (e.keep [0, 1, 5, 6, 7, 8, 9, 16, 24, 159, 160, 100000]) := Exec_tail _ _ _
@[simp] theorem tl5_limbs_long (e : Env) : Exec T k5_limbs_long e = Exec T j5_limbs_long (e.keep [0, 1, 5, 6, 7, 8, 9, 16, 24, 159, 160, 100000]) := Exec_tail _ _ _
@[simp] theorem tl6_limbs_long (e : Env) : Exec T k6_limbs_long e = Exec T j6_limbs_long (e.keep [0, 1, 5, 6, 7, 8, 9, 16, 24, 100000]) := Exec_tail _ _ _
@[simp] theorem tl7_limbs_long (e : Env) : Exec T k7_limbs_long e = Exec T j7_limbs_long (e.keep [0, 1, 5, 6, 7, 8, 9, 24, 100000]) := Exec_tail _ _ _
@[simp] theorem tl8_limbs_long (e : Env) : Exec T k8_limbs_long e = Exec T j8_limbs_long (e.keep [0, 1, 5, 6, 7, 8, 9, 11, 13, 14, 24, 100000]) := Exec_tail _ _ _
@[simp] theorem tl9_limbs_long (e : Env) : Exec T k9_limbs_long e = Exec T j9_limbs_long (e.keep [0, 1, 5, 6, 7, 8, 9, 11, 24, 100000]) := Exec_tail _ _ _
@[simp] theorem tl10_limbs_long (e : Env) : Exec T k10_limbs_long e = Exec T j10_limbs_long (e.keep [0, 1, 5, 6, 7, 8, 9, 24, 100000]) := Exec_tail _ _ _
@[simp] theorem tl11_limbs_long (e : Env) : Exec T k11_limbs_long e = Exec T j11_limbs_long (e.keep [0, 1, 5, 6, 7, 8, 9, 24, 100000]) := Exec_tail _ _ _
@[simp] theorem tl12_limbs_long (e : Env) : Exec T k12_limbs_long e = Exec T j12_limbs_long (e.keep [6, 24, 100000]) := Exec_tail _ _ _
theorem ex1_limbs_long (e : Env) : Exec T l1_limbs_long e = andThen (Exec T w1_limbs_long (e.keep [0, 1, 5, 6, 7, 8, 9, 11, 12, 24, 100000])) (Exec T l1_limbs_long) := Exec_loop _ _ _
theorem ex2_limbs_long (e : Env) : Exec T l2_limbs_long e = andThen (Exec T w2_limbs_long (e.keep [0, 1, 5, 6, 7, 8, 9, 11, 13, 14, 24, 94, 95, 100000])) (Exec T l2_limbs_long) := Exec_loop _ _ _
theorem ex3_limbs_long (e : Env) : Exec T l3_limbs_long e = andThen (Exec T w3_limbs_long (e.keep [0, 1, 5, 6, 7, 8, 9, 16, 24, 159, 160, 100000])) (Exec T l3_limbs_long) := Exec_loop _ _ _
theorem ex0_limbs_long (e : Env) : Exec T l0_limbs_long e = andThen (Exec T w0_limbs_long (e.keep [0, 1, 5, 6, 7, 8, 9, 24, 100000])) (Exec T l0_limbs_long) := Exec_loop _ _ _
theorem run_limbs_long (xs : List PV) : Cinf T n_limbs_long xs = Run T a_limbs_long xs := Cinf_eq rfl fn_limbs_long
@[simp] theorem md_limbs_long : T.modes n_limbs_long = [true, false] := rfl
@[simp] theorem call_limbs_long (C : Oracle) (e : Env) (xs : List PV) : call T C e n_limbs_long xs = callK1 C n_limbs_long xs (moves e [] [true, false] xs) := call_modes md_limbs_long
theorem fn_limbs_down : T.fns n_limbs_down = some a_limbs_down := rfl
@[simp] theorem tl0_limbs_down (e : Env) : Exec T k0_limbs_down e = Exec T j0_limbs_down (e.keep [0, 1, 5, 6, 7, 9, 15, 17, 18, 21, 23, 24]) := Exec_tail _ _ _
@[simp] theorem tl1_limbs_down (e : Env) : Exec T k1_limbs_down e = Exec T j1_limbs_down (e.keep [0, 1, 5, 9, 15, 17, 18, 21, 23, 24]) := Exec_tail _ _ _
@[simp] theorem tl2_limbs_down (e : Env) : Exec T k2_limbs_down e = Exec T j2_limbs_down (e.keep [0, 1, 5, 9, 15, 17, 18, 21, 23, 24]) := Exec_tail _ _ _
@[simp] theorem tl3_limbs_down (e : Env) : Exec T k3_limbs_down e = Exec T j3_limbs_down (e.keep [5, 21]) := Exec_tail _ _ _
@[simp] theorem tl4_limbs_down (e : Env) : Exec T k4_limbs_down e = Exec T j4_limbs_down (e.keep [0, 1, 9, 15, 17, 18]) := Exec_tail _ _ _
theorem ex0_limbs_down (e : Env) : Exec T l0_limbs_down e = andThen (Exec T w0_limbs_down (e.keep [0, 1, 5, 9, 15, 17, 18, 21, 23, 24])) (Exec T l0_limbs_down) := Exec_loop _ _ _
theorem run_limbs_down (xs : List PV) : Cinf T n_limbs_down xs = Run T a_limbs_down xs := Cinf_eq rfl fn_limbs_down
@[simp] theorem md_limbs_down : T.modes n_limbs_down = [] := rfl
@[simp] theorem call_limbs_down (C : Oracle) (e : Env) (xs : List PV) : call T C e n_limbs_down xs = callK1 C n_limbs_down xs (moves e [] [] xs) := call_modes md_limbs_down
theorem fn_limbs_DivMod : T.fns n_limbs_DivMod = some a_limbs_DivMod := rfl
@[simp] theorem tl0_limbs_DivMod (e : Env) : Exec T k0_limbs_DivMod e = Exec T j0_limbs_DivMod (e.keep [0, 1, 7, 8, 9, 15, 17, 32]) := Exec_tail _ _ _
@[simp] theorem tl1_limbs_DivMod (e : Env) : Exec T k1_limbs_DivMod e = Exec T j1_limbs_DivMod (e.keep [0, 1, 7, 8, 9, 15, 17, 32]) := Exec_tail _ _ _
@[simp] theorem tl2_limbs_DivMod (e : Env) : Exec T k2_limbs_DivMod e = Exec T j2_limbs_DivMod (e.keep [7, 8, 32]) := Exec_tail _ _ _
@[simp] theorem tl3_limbs_DivMod (e : Env) : Exec T k3_limbs_DivMod e = Exec T j3_limbs_DivMod (e.keep [0, 10, 11, 12, 15, 77, 80, 88]) := Exec_tail _ _ _
@[simp] theorem tl4_limbs_DivMod (e : Env) : Exec T k4_limbs_DivMod e = Exec T j4_limbs_DivMod (e.keep [10, 11, 12, 77, 80, 88]) := Exec_tail _ _ _
@[simp] theorem tl5_limbs_DivMod (e : Env) : Exec T k5_limbs_DivMod e = Exec T j5_limbs_DivMod (e.keep [0, 1, 15, 17]) := Exec_tail _ _ _
@[simp] theorem tl6_limbs_DivMod (e : Env) : Exec T k6_limbs_DivMod e = Exec T j6_limbs_DivMod (e.keep [0, 1, 15, 17]) := Exec_tail _ _ _
@[simp] theorem tl7_limbs_DivMod (e : Env) : Exec T k7_limbs_DivMod e = Exec T j7_limbs_DivMod (e.keep [0, 1, 15, 17]) := Exec_tail _ _ _
theorem ex0_limbs_DivMod (e : Env) : Exec T l0_limbs_DivMod e = andThen (Exec T w0_limbs_DivMod (e.keep [0, 1, 7, 8, 9, 15, 17, 32])) (Exec T l0_limbs_DivMod) := Exec_loop _ _ _
theorem ex1_limbs_DivMod (e : Env) : Exec T l1_limbs_DivMod e = andThen (Exec T w1_limbs_DivMod (e.keep [0, 10, 11, 12, 15, 77, 80, 88])) (Exec T l1_limbs_DivMod) := Exec_loop _ _ _
theorem run_limbs_DivMod (xs : List PV) : Cinf T n_limbs_DivMod xs = Run T a_limbs_DivMod xs := Cinf_eq rfl fn_limbs_DivMod
@[simp] theorem md_limbs_DivMod : T.modes n_limbs_DivMod = [] := rfl
@[simp] theorem call_limbs_DivMod (C : Oracle) (e : Env) (xs : List PV) : call T C e n_limbs_DivMod xs = callK1 C n_limbs_DivMod xs (moves e [] [] xs) := call_modes md_limbs_DivMod
theorem fn_limbs_Small : T.fns n_limbs_Small = some a_limbs_Small := rfl
@[simp] theorem tl0_limbs_Small (e : Env) : Exec T k0_limbs_Small e = Exec T j0_limbs_Small (e.keep [0, 4, 7, 12, 13]) := Exec_tail _ _ _
@[simp] theorem tl1_limbs_Small (e : Env) : Exec T k1_limbs_Small e = Exec T j1_limbs_Small (e.keep [0, 4, 7, 12, 13]) := Exec_tail _ _ _
@[simp] theorem tl2_limbs_Small (e : Env) : Exec T k2_limbs_Small e = Exec T j2_limbs_Small (e.keep [4]) := Exec_tail _ _ _
@[simp] theorem tl3_limbs_Small (e : Env) : Exec T k3_limbs_Small e = Exec T j3_limbs_Small (e.keep [0, 4, 7]) := Exec_tail _ _ _
theorem ex0_limbs_Small (e : Env) : Exec T l0_limbs_Small e = andThen (Exec T w0_limbs_Small (e.keep [0, 4, 7, 12, 13])) (Exec T l0_limbs_Small) := Exec_loop _ _ _
theorem run_limbs_Small (xs : List PV) : Cinf T n_limbs_Small xs = Run T a_limbs_Small xs := Cinf_eq rfl fn_limbs_Small
@[simp] theorem md_limbs_Small : T.modes n_limbs_Small = [] := rfl
@[simp] theorem call_limbs_Small (C : Oracle) (e : Env) (xs : List PV) : call T C e n_limbs_Small xs = callK1 C n_limbs_Small xs (moves e [] [] xs) := call_modes md_limbs_Small
theorem fn_floats_format_nearest : T.fns n_floats_format_nearest = some a_floats_format_nearest := rfl
@[simp] theorem tl0_floats_format_nearest (e : Env) : Exec T k0_floats_format_nearest e = Exec T j0_floats_format_nearest (e.keep [3, 9, 15]) := Exec_tail _ _ _
@[simp] theorem tl1_floats_format_nearest (e : Env) : Exec T k1_floats_format_nearest e = Exec T j1_floats_format_nearest (e.keep [3, 9, 15]) := Exec_tail _ _ _
@[simp] theorem tl2_floats_format_nearest (e : Env) : Exec T k2_floats_format_nearest e = Exec T j2_floats_format_nearest (e.keep [2, 3, 9, 11, 12, 13, 40, 50, 53, 54, 56, 59, 60, 61]) := Exec_tail _ _ _
@[simp] theorem tl3_floats_format_nearest (e : Env) : Exec T k3_floats_format_nearest e = Exec T j3_floats_format_nearest (e.keep [1, 2, 3, 9, 10, 11, 39, 40, 43, 47, 48, 50, 53, 54]) := Exec_tail _ _ _
@[simp] theorem tl4_floats_format_nearest (e : Env) : Exec T k4_floats_format_nearest e = Exec T j4_floats_format_nearest (e.keep [1, 2, 3, 9]) := Exec_tail _ _ _
@[simp] theorem tl5_floats_format_nearest (e : Env) : Exec T k5_floats_format_nearest e = Exec T j5_floats_format_nearest (e.keep [1, 2, 3]) := Exec_tail _ _ _
theorem ex0_floats_format_nearest (e : Env) : Exec T l0_floats_format_nearest e = andThen (Exec T w0_floats_format_nearest (e.keep [1, 2, 3, 9])) (Exec T l0_floats_format_nearest) := Exec_loop _ _ _
theorem run_floats_format_nearest (xs : List PV) : Cinf T n_floats_format_nearest xs = Run T a_floats_format_nearest xs := Cinf_eq rfl fn_floats_format_nearest
@[simp] theorem md_floats_format_nearest : T.modes n_floats_format_nearest = [] := rfl
@[simp] theorem call_floats_format_nearest (C : Oracle) (e : Env) (xs : List PV) : call T C e n_floats_format_nearest xs = callK1 C n_floats_format_nearest xs (moves e [] [] xs) := call_modes md_floats_format_nearest
theorem fn_floats_number : T.fns n_floats_number = some a_floats_number := rfl
@[simp] theorem tl0_floats_number (e : Env) : Exec T k0_floats_number e = Exec T j0_floats_number (e.keep [10]) := Exec_tail _ _ _
@[simp] theorem tl1_floats_number (e : Env) : Exec T k1_floats_number e = Exec T j1_floats_number (e.keep [0, 10]) := Exec_tail _ _ _
theorem run_floats_number (xs : List PV) : Cinf T n_floats_number xs = Run T a_floats_number xs := Cinf_eq rfl fn_floats_number
@[simp] theorem md_floats_number : T.modes n_floats_number = [] := rfl
@[simp] theorem call_floats_number (C : Oracle) (e : Env) (xs : List PV) : call T C e n_floats_number xs = callK1 C n_floats_number xs (moves e [] [] xs) := call_modes md_floats_number
theorem fn_floats_Read : T.fns n_floats_Read = some a_floats_Read := rfl
@[simp] theorem tl0_floats_Read (e : Env) : Exec T k0_floats_Read e = Exec T j0_floats_Read (e.keep [5, 9, 10, 33, 35, 36, 37]) := Exec_tail _ _ _
@[simp] theorem tl1_floats_Read (e : Env) : Exec T k1_floats_Read e = Exec T j1_floats_Read (e.keep [5, 8]) := Exec_tail _ _ _
@[simp] theorem tl2_floats_Read (e : Env) : Exec T k2_floats_Read e = Exec T j2_floats_Read (e.keep [5, 8]) := Exec_tail _ _ _
@[simp] theorem tl3_floats_Read (e : Env) : Exec T k3_floats_Read e = Exec T j3_floats_Read (e.keep [5]) := Exec_tail _ _ _
@[simp] theorem tl4_floats_Read (e : Env) : Exec T k4_floats_Read e = Exec T j4_floats_Read (e.keep [5]) := Exec_tail _ _ _
theorem run_floats_Read (xs : List PV) : Cinf T n_floats_Read xs = Run T a_floats_Read xs := Cinf_eq rfl fn_floats_Read
@[simp] theorem md_floats_Read : T.modes n_floats_Read = [] := rfl
@[simp] theorem call_floats_Read (C : Oracle) (e : Env) (xs : List PV) : call T C e n_floats_Read xs = callK1 C n_floats_Read xs (moves e [] [] xs) := call_modes md_floats_Read
theorem fn_thickettop_number : T.fns n_thickettop_number = some a_thickettop_number := rfl
@[simp] theorem tl0_thickettop_number (e : Env) : Exec T k0_thickettop_number e = Exec T j0_thickettop_number (e.keep [0]) := Exec_tail _ _ _
theorem run_thickettop_number (xs : List PV) : Cinf T n_thickettop_number xs = Run T a_thickettop_number xs := Cinf_eq rfl fn_thickettop_number
@[simp] theorem md_thickettop_number : T.modes n_thickettop_number = [] := rfl
@[simp] theorem call_thickettop_number (C : Oracle) (e : Env) (xs : List PV) : call T C e n_thickettop_number xs = callK1 C n_thickettop_number xs (moves e [] [] xs) := call_modes md_thickettop_number
theorem fn_limbs_Gcd : T.fns n_limbs_Gcd = some a_limbs_Gcd := rfl
@[simp] theorem tl0_limbs_Gcd (e : Env) : Exec T k0_limbs_Gcd e = Exec T j0_limbs_Gcd (e.keep [0, 1, 6, 9, 11, 15, 18, 20, 22, 23]) := Exec_tail _ _ _
@[simp] theorem tl1_limbs_Gcd (e : Env) : Exec T k1_limbs_Gcd e = Exec T j1_limbs_Gcd (e.keep [0, 1, 6, 9, 11, 15, 18, 20, 22, 23]) := Exec_tail _ _ _
theorem ex0_limbs_Gcd (e : Env) : Exec T l0_limbs_Gcd e = andThen (Exec T w0_limbs_Gcd (e.keep [0, 1, 6, 9, 11, 15, 18, 20, 22, 23])) (Exec T l0_limbs_Gcd) := Exec_loop _ _ _
theorem run_limbs_Gcd (xs : List PV) : Cinf T n_limbs_Gcd xs = Run T a_limbs_Gcd xs := Cinf_eq rfl fn_limbs_Gcd
@[simp] theorem md_limbs_Gcd : T.modes n_limbs_Gcd = [] := rfl
@[simp] theorem call_limbs_Gcd (C : Oracle) (e : Env) (xs : List PV) : call T C e n_limbs_Gcd xs = callK1 C n_limbs_Gcd xs (moves e [] [] xs) := call_modes md_limbs_Gcd
theorem fn_limbs_right : T.fns n_limbs_right = some a_limbs_right := rfl
@[simp] theorem tl0_limbs_right (e : Env) : Exec T k0_limbs_right e = Exec T j0_limbs_right (e.keep [0, 1, 2, 6]) := Exec_tail _ _ _
theorem run_limbs_right (xs : List PV) : Cinf T n_limbs_right xs = Run T a_limbs_right xs := Cinf_eq rfl fn_limbs_right
@[simp] theorem md_limbs_right : T.modes n_limbs_right = [] := rfl
@[simp] theorem call_limbs_right (C : Oracle) (e : Env) (xs : List PV) : call T C e n_limbs_right xs = callK1 C n_limbs_right xs (moves e [] [] xs) := call_modes md_limbs_right
theorem fn_limbs_Over : T.fns n_limbs_Over = some a_limbs_Over := rfl
@[simp] theorem tl0_limbs_Over (e : Env) : Exec T k0_limbs_Over e = Exec T j0_limbs_Over (e.keep [0, 1, 2, 6]) := Exec_tail _ _ _
theorem run_limbs_Over (xs : List PV) : Cinf T n_limbs_Over xs = Run T a_limbs_Over xs := Cinf_eq rfl fn_limbs_Over
@[simp] theorem md_limbs_Over : T.modes n_limbs_Over = [] := rfl
@[simp] theorem call_limbs_Over (C : Oracle) (e : Env) (xs : List PV) : call T C e n_limbs_Over xs = callK1 C n_limbs_Over xs (moves e [] [] xs) := call_modes md_limbs_Over
theorem fn_floats_Nearest : T.fns n_floats_Nearest = some a_floats_Nearest := rfl
@[simp] theorem tl0_floats_Nearest (e : Env) : Exec T k0_floats_Nearest e = Exec T j0_floats_Nearest (e.keep [4]) := Exec_tail _ _ _
@[simp] theorem tl1_floats_Nearest (e : Env) : Exec T k1_floats_Nearest e = Exec T j1_floats_Nearest (e.keep [4]) := Exec_tail _ _ _
theorem run_floats_Nearest (xs : List PV) : Cinf T n_floats_Nearest xs = Run T a_floats_Nearest xs := Cinf_eq rfl fn_floats_Nearest
@[simp] theorem md_floats_Nearest : T.modes n_floats_Nearest = [] := rfl
@[simp] theorem call_floats_Nearest (C : Oracle) (e : Env) (xs : List PV) : call T C e n_floats_Nearest xs = callK1 C n_floats_Nearest xs (moves e [] [] xs) := call_modes md_floats_Nearest
theorem fn_thickettop_TopQuotient : T.fns n_thickettop_TopQuotient = some a_thickettop_TopQuotient := rfl
@[simp] theorem tl0_thickettop_TopQuotient (e : Env) : Exec T k0_thickettop_TopQuotient e = Exec T j0_thickettop_TopQuotient (e.keep [15, 20]) := Exec_tail _ _ _
@[simp] theorem tl1_thickettop_TopQuotient (e : Env) : Exec T k1_thickettop_TopQuotient e = Exec T j1_thickettop_TopQuotient (e.keep [15, 19]) := Exec_tail _ _ _
@[simp] theorem tl2_thickettop_TopQuotient (e : Env) : Exec T k2_thickettop_TopQuotient e = Exec T j2_thickettop_TopQuotient (e.keep [10, 15, 16, 18, 41, 43, 44, 113, 116, 117]) := Exec_tail _ _ _
@[simp] theorem tl3_thickettop_TopQuotient (e : Env) : Exec T k3_thickettop_TopQuotient e = Exec T j3_thickettop_TopQuotient (e.keep [10, 15, 16, 17, 41, 43, 44]) := Exec_tail _ _ _
@[simp] theorem tl4_thickettop_TopQuotient (e : Env) : Exec T k4_thickettop_TopQuotient e = Exec T j4_thickettop_TopQuotient (e.keep [1, 2, 10, 15, 41, 43, 44]) := Exec_tail _ _ _
@[simp] theorem tl5_thickettop_TopQuotient (e : Env) : Exec T k5_thickettop_TopQuotient e = Exec T j5_thickettop_TopQuotient (e.keep [0, 1, 2, 10, 41, 43, 44]) := Exec_tail _ _ _
@[simp] theorem tl6_thickettop_TopQuotient (e : Env) : Exec T k6_thickettop_TopQuotient e = Exec T j6_thickettop_TopQuotient (e.keep [0, 1, 2, 10, 41, 43, 44]) := Exec_tail _ _ _
@[simp] theorem tl7_thickettop_TopQuotient (e : Env) : Exec T k7_thickettop_TopQuotient e = Exec T j7_thickettop_TopQuotient (e.keep [0, 1, 2]) := Exec_tail _ _ _
theorem run_thickettop_TopQuotient (xs : List PV) : Cinf T n_thickettop_TopQuotient xs = Run T a_thickettop_TopQuotient xs := Cinf_eq rfl fn_thickettop_TopQuotient
@[simp] theorem md_thickettop_TopQuotient : T.modes n_thickettop_TopQuotient = [] := rfl
@[simp] theorem call_thickettop_TopQuotient (C : Oracle) (e : Env) (xs : List PV) : call T C e n_thickettop_TopQuotient xs = callK1 C n_thickettop_TopQuotient xs (moves e [] [] xs) := call_modes md_thickettop_TopQuotient
theorem x_strings_Builder_WriteString (xs : List PV) {r : PV × List PV} (h : xWriteString 59 5 xs = some r) : Cinf T n_strings_Builder_WriteString xs = some r := Cinf_iff.2 ⟨1, by show (match xWriteString 59 5 xs with | some r => some r | none => _) = some r; rw [h]⟩
@[simp] theorem md_strings_Builder_WriteString : T.modes n_strings_Builder_WriteString = [true, false] := rfl
@[simp] theorem call_strings_Builder_WriteString (C : Oracle) (e : Env) (xs : List PV) : call T C e n_strings_Builder_WriteString xs = callK1 C n_strings_Builder_WriteString xs (moves e [] [true, false] xs) := call_modes md_strings_Builder_WriteString
theorem x_strings_Builder_String (xs : List PV) {r : PV × List PV} (h : xString 59 5 xs = some r) : Cinf T n_strings_Builder_String xs = some r := Cinf_iff.2 ⟨1, by show (match xString 59 5 xs with | some r => some r | none => _) = some r; rw [h]⟩
@[simp] theorem md_strings_Builder_String : T.modes n_strings_Builder_String = [true] := rfl
@[simp] theorem call_strings_Builder_String (C : Oracle) (e : Env) (xs : List PV) : call T C e n_strings_Builder_String xs = callK1 C n_strings_Builder_String xs (moves e [] [true] xs) := call_modes md_strings_Builder_String
end Go.AM.F
