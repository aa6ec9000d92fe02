/- The functions of the program in the abstract machine's form, printed by a program of the session's own (ir.py); Lean checks them against the program. No conditions. -/
import Derived.Test.YtkcnnifgdhabgaaDoorAmVal
namespace Go.AM.F
open Go Go.AM
set_option maxRecDepth 100000

abbrev n_thicketlaw10_JsonPrints : FuncId := 4
abbrev n_thicketref10_Same : FuncId := 10
abbrev n_thicketref10_Copy : FuncId := 11
abbrev n_json_Print : FuncId := 12
abbrev n_thicketref10_Print : FuncId := 13
abbrev n_json_Check : FuncId := 14
abbrev n_thicketref10_Check : FuncId := 15
abbrev n_json_reader_fail : FuncId := 23
abbrev n_thicketref10_reading_ok : FuncId := 25
abbrev n_thicketref10_reading_fail : FuncId := 27
abbrev n_json_write : FuncId := 28
abbrev n_thicketref10_printed : FuncId := 29
abbrev n_json_deep : FuncId := 30
abbrev n_json_right : FuncId := 31
abbrev n_json_twin : FuncId := 32
abbrev n_thicketref10_deep : FuncId := 33
abbrev n_thicketref10_form : FuncId := 34
abbrev n_thicketref10_twins : FuncId := 35
abbrev n_json_reader_number : FuncId := 42
abbrev n_thicketref10_isDigit : FuncId := 44
abbrev n_thicketref10_reading_number : FuncId := 45
abbrev n_json_quoted : FuncId := 49
abbrev n_thicketref10_quoted : FuncId := 50
abbrev n_api_Json : FuncId := 51
abbrev n_json_deep_1 : FuncId := 52
abbrev n_json_number : FuncId := 53
abbrev n_utf8_ValidString : FuncId := 54
abbrev n_thicketref10_Right : FuncId := 55
abbrev n_json_reader_takes : FuncId := 58
abbrev n_json_reader_digits : FuncId := 59
abbrev n_thicketref10_reading_next : FuncId := 60
abbrev n_thicketref10_reading_digits : FuncId := 61
abbrev n_thicketref10_Char : FuncId := 63
abbrev n_strings_IndexRune : FuncId := 64
abbrev n_utf8_AppendRune : FuncId := 65
abbrev n_api_Json_66 : FuncId := 66
abbrev n_json_number_1 : FuncId := 67
abbrev n_strings_IndexByte : FuncId := 69
abbrev n_json_reader_digit : FuncId := 73
abbrev n_utf8_ValidRune : FuncId := 77
abbrev n_bytealg_Cutover : FuncId := 78
abbrev n_bytealg_IndexString : FuncId := 79
abbrev n_utf8_appendRuneNonASCII : FuncId := 80
abbrev n_stringslite_IndexByte : FuncId := 81
abbrev n_bytealg_IndexByteString : FuncId := 83
def glob0 : List PV := ([240, 240, 240, 240, 240, 240, 240, 240, 240, 240, 240, 240, 240, 240, 240, 240, 240, 240, 240, 240, 240, 240, 240, 240, 240, 240, 240, 240, 240, 240, 240, 240, 240, 240, 240, 240, 240, 240, 240, 240, 240, 240, 240, 240, 240, 240, 240, 240, 240, 240, 240, 240, 240, 240, 240, 240, 240, 240, 240, 240, 240, 240, 240, 240, 240, 240, 240, 240, 240, 240, 240, 240, 240, 240, 240, 240, 240, 240, 240, 240, 240, 240, 240, 240, 240, 240, 240, 240, 240, 240, 240, 240, 240, 240, 240, 240, 240, 240, 240, 240, 240, 240, 240, 240, 240, 240, 240, 240, 240, 240, 240, 240, 240, 240, 240, 240, 240, 240, 240, 240, 240, 240, 240, 240, 240, 240, 240, 240, 241, 241, 241, 241, 241, 241, 241, 241, 241, 241, 241, 241, 241, 241, 241, 241, 241, 241, 241, 241, 241, 241, 241, 241, 241, 241, 241, 241, 241, 241, 241, 241, 241, 241, 241, 241, 241, 241, 241, 241, 241, 241, 241, 241, 241, 241, 241, 241, 241, 241, 241, 241, 241, 241, 241, 241, 241, 241, 241, 241, 241, 241, 241, 241, 241, 241, 2, 2, 2, 2, 2, 2, 2, 2, 2, 2, 2, 2, 2, 2, 2, 2, 2, 2, 2, 2, 2, 2, 2, 2, 2, 2, 2, 2, 2, 2, 19, 3, 3, 3, 3, 3, 3, 3, 3, 3, 3, 3, 3, 35, 3, 3, 52, 4, 4, 4, 68, 241, 241, 241, 241, 241, 241, 241, 241, 241, 241, 241] : List Int).map fun z => .v (.int .u8 z)
def glob1 : List PV := ([128, 191, 160, 191, 128, 159, 144, 191, 128, 143, 0, 0, 0, 0, 0, 0, 0, 0, 0, 0, 0, 0, 0, 0, 0, 0, 0, 0, 0, 0, 0, 0] : List Int).map fun z => .v (.int .u8 z)
def j0_thicketref10_Same : IR :=
 (.reg 5 [⟨some 42, .move (.t 5), none, []⟩,
  ⟨some 43, .bin .add 3 (.t 42) (.c (Value.int IntKind.i64 1)) 3, none, [42]⟩,
  ⟨some 5, .assign (.t 43), none, [43]⟩] none [2, 3, 5])
def k0_thicketref10_Same : IR := .tail [2, 3, 5] j0_thicketref10_Same
def j1_thicketref10_Same : IR :=
 (.seq (.block 1 (.seq (.reg 6 [⟨some 44, .faddr 27 (.t 2) 2 2, none, []⟩,
  ⟨some 45, .load 24 none (.t 44), none, []⟩,
  ⟨some 46, .move (.t 5), none, []⟩,
  ⟨some 47, .iaddr 24 (.sl 1) (.t 45) (.t 46), none, []⟩,
  ⟨some 48, .load 9 none (.t 47), none, [44, 45, 46, 47]⟩,
  ⟨some 49, .faddr 27 (.t 3) 2 2, none, []⟩,
  ⟨some 50, .load 24 none (.t 49), none, []⟩,
  ⟨some 51, .move (.t 5), none, []⟩,
  ⟨some 52, .iaddr 24 (.sl 1) (.t 50) (.t 51), none, []⟩,
  ⟨some 53, .load 9 none (.t 52), none, [49, 50, 51, 52]⟩,
  ⟨some 54, .bin .neq 9 (.t 48) (.t 53) 9, none, [48, 53]⟩] (some (.cons ⟨0, []⟩ (.cons ⟨2, []⟩ (.cons ⟨5, []⟩ (.cons ⟨7, []⟩ (.cons ⟨1, []⟩ (.cons ⟨3, []⟩ (.cons ⟨4, []⟩ (.cons ⟨6, []⟩ (.cons ⟨8, []⟩ (.cons ⟨9, []⟩ (.cons ⟨10, []⟩ .nil)))))))))))) [2, 3, 5, 54])
 (.cond [2, 3, 5] (.t 54) (.seq (.reg 7 [⟨some 4, .assign (.c (Value.bool false)), none, []⟩] none [4])
 .ret) .skip)))
 k0_thicketref10_Same)
def k1_thicketref10_Same : IR := .tail [2, 3, 5] j1_thicketref10_Same
def w0_thicketref10_Same : IR :=
 (.seq (.seq (.reg 4 [⟨some 37, .move (.t 5), none, []⟩,
  ⟨some 38, .faddr 27 (.t 2) 2 2, none, []⟩,
  ⟨some 39, .load 24 none (.t 38), none, []⟩,
  ⟨some 40, .len 24 false (.t 39), none, [38, 39]⟩,
  ⟨some 41, .bin .lss 3 (.t 37) (.t 40) 3, none, [37, 40]⟩] none [2, 3, 5, 41])
 (.cond [2, 3, 5] (.t 41) .skip (.exit 0)))
 k1_thicketref10_Same)
def l0_thicketref10_Same : IR := .loop [2, 3, 5] w0_thicketref10_Same
def j2_thicketref10_Same : IR :=
 (.reg 10 [⟨some 60, .move (.t 6), none, []⟩,
  ⟨some 61, .bin .add 3 (.t 60) (.c (Value.int IntKind.i64 1)) 3, none, [60]⟩,
  ⟨some 6, .assign (.t 61), none, [61]⟩] none [2, 3, 6])
def k2_thicketref10_Same : IR := .tail [2, 3, 6] j2_thicketref10_Same
def j3_thicketref10_Same : IR :=
 (.seq (.block 3 (.seq (.reg 11 [⟨some 62, .faddr 27 (.t 2) 3 3, none, []⟩,
  ⟨some 63, .load 25 none (.t 62), none, []⟩,
  ⟨some 64, .move (.t 6), none, []⟩,
  ⟨some 65, .iaddr 25 (.sl 4) (.t 63) (.t 64), none, []⟩,
  ⟨some 66, .load 27 (some 4) (.t 65), none, []⟩,
  ⟨some 67, .faddr 27 (.t 3) 3 3, none, []⟩,
  ⟨some 68, .load 25 none (.t 67), none, []⟩,
  ⟨some 69, .move (.t 6), none, []⟩,
  ⟨some 70, .iaddr 25 (.sl 4) (.t 68) (.t 69), none, []⟩,
  ⟨some 71, .load 27 (some 4) (.t 70), none, []⟩,
  ⟨some 72, .call n_thicketref10_Same [(.t 66), (.t 71)] [27, 27], none, [62, 63, 64, 65, 66, 67, 68, 69, 70, 71]⟩,
  ⟨some 73, .un .not 4 (.t 72), none, [72]⟩] (some (.cons ⟨0, []⟩ (.cons ⟨2, []⟩ (.cons ⟨5, []⟩ (.cons ⟨7, []⟩ (.cons ⟨1, []⟩ (.cons ⟨3, []⟩ (.cons ⟨4, []⟩ (.cons ⟨6, []⟩ (.cons ⟨8, []⟩ (.cons ⟨9, []⟩ (.cons ⟨10, []⟩ (.cons ⟨11, []⟩ .nil))))))))))))) [2, 3, 6, 73])
 (.cond [2, 3, 6] (.t 73) (.seq (.reg 12 [⟨some 4, .assign (.c (Value.bool false)), none, []⟩] none [4])
 .ret) .skip)))
 k2_thicketref10_Same)
def k3_thicketref10_Same : IR := .tail [2, 3, 6] j3_thicketref10_Same
def w1_thicketref10_Same : IR :=
 (.seq (.seq (.reg 9 [⟨some 55, .move (.t 6), none, []⟩,
  ⟨some 56, .faddr 27 (.t 2) 3 3, none, []⟩,
  ⟨some 57, .load 25 none (.t 56), none, []⟩,
  ⟨some 58, .len 25 false (.t 57), none, [56, 57]⟩,
  ⟨some 59, .bin .lss 3 (.t 55) (.t 58) 3, none, [55, 58]⟩] none [2, 3, 6, 59])
 (.cond [2, 3, 6] (.t 59) .skip (.exit 2)))
 k3_thicketref10_Same)
def l1_thicketref10_Same : IR := .loop [2, 3, 6] w1_thicketref10_Same
def j4_thicketref10_Same : IR :=
 (.seq (.reg 13 [⟨some 4, .assign (.c (Value.bool true)), none, []⟩] none [4])
 .ret)
def k4_thicketref10_Same : IR := .tail [] j4_thicketref10_Same
def j5_thicketref10_Same : IR :=
 (.seq (.seq (.reg 8 [⟨some 6, .assign (.c (Value.int IntKind.i64 0)), none, []⟩] none [2, 3, 6])
 (.block 2 l1_thicketref10_Same))
 k4_thicketref10_Same)
def k5_thicketref10_Same : IR := .tail [2, 3] j5_thicketref10_Same
def j6_thicketref10_Same : IR :=
 (.seq (.seq (.reg 3 [⟨some 5, .assign (.c (Value.int IntKind.i64 0)), none, []⟩] none [2, 3, 5])
 (.block 0 l0_thicketref10_Same))
 k5_thicketref10_Same)
def k6_thicketref10_Same : IR := .tail [2, 3] j6_thicketref10_Same
def b_thicketref10_Same : IR :=
 (.seq (.reg 0 [⟨some 2, .box 27 (.t 0), none, [0]⟩,
  ⟨some 3, .box 27 (.t 1), none, [1]⟩,
  ⟨some 4, .assign (.c (Value.bool false)), none, [4]⟩] none [2, 3])
 (.seq (.seq (.reg 1 [⟨some 7, .faddr 27 (.t 2) 0 0, none, []⟩,
  ⟨some 8, .load 23 none (.t 7), none, [7]⟩,
  ⟨some 9, .faddr 27 (.t 3) 0 0, none, []⟩,
  ⟨some 10, .load 23 none (.t 9), none, [9]⟩,
  ⟨some 11, .bin .neq 23 (.t 8) (.t 10) 23, none, [8, 10]⟩,
  ⟨some 12, .move (.t 11), none, [11]⟩,
  ⟨some 13, .faddr 27 (.t 2) 1 1, some (5, false), []⟩,
  ⟨some 14, .load 9 none (.t 13), some (5, false), [13]⟩,
  ⟨some 15, .faddr 27 (.t 3) 1 1, some (5, false), []⟩,
  ⟨some 16, .load 9 none (.t 15), some (5, false), [15]⟩,
  ⟨some 17, .bin .neq 9 (.t 14) (.t 16) 9, some (5, false), [14, 16]⟩,
  ⟨some 18, .pick (.t 12) (.c (Value.bool true)) (.t 17), none, [12, 17]⟩,
  ⟨some 19, .move (.t 18), none, [18]⟩,
  ⟨some 20, .faddr 27 (.t 2) 2 2, some (12, false), []⟩,
  ⟨some 21, .load 24 none (.t 20), some (12, false), []⟩,
  ⟨some 22, .len 24 false (.t 21), some (12, false), [20, 21]⟩,
  ⟨some 23, .faddr 27 (.t 3) 2 2, some (12, false), []⟩,
  ⟨some 24, .load 24 none (.t 23), some (12, false), []⟩,
  ⟨some 25, .len 24 false (.t 24), some (12, false), [23, 24]⟩,
  ⟨some 26, .bin .neq 3 (.t 22) (.t 25) 3, some (12, false), [22, 25]⟩,
  ⟨some 27, .pick (.t 19) (.c (Value.bool true)) (.t 26), none, [19, 26]⟩,
  ⟨some 28, .move (.t 27), none, [27]⟩,
  ⟨some 29, .faddr 27 (.t 2) 3 3, some (21, false), []⟩,
  ⟨some 30, .load 25 none (.t 29), some (21, false), []⟩,
  ⟨some 31, .len 25 false (.t 30), some (21, false), [29, 30]⟩,
  ⟨some 32, .faddr 27 (.t 3) 3 3, some (21, false), []⟩,
  ⟨some 33, .load 25 none (.t 32), some (21, false), []⟩,
  ⟨some 34, .len 25 false (.t 33), some (21, false), [32, 33]⟩,
  ⟨some 35, .bin .neq 3 (.t 31) (.t 34) 3, some (21, false), [31, 34]⟩,
  ⟨some 36, .pick (.t 28) (.c (Value.bool true)) (.t 35), none, [28, 35]⟩] none [2, 3, 36])
 (.cond [2, 3] (.t 36) (.seq (.reg 2 [⟨some 4, .assign (.c (Value.bool false)), none, []⟩] none [4])
 .ret) .skip))
 k6_thicketref10_Same))
def a_thicketref10_Same : AFunc := ⟨74, [.tmp 4], b_thicketref10_Same⟩

def j0_thicketref10_Copy : IR :=
 (.reg 4 [⟨some 16, .move (.t 4), none, []⟩,
  ⟨some 17, .bin .add 3 (.t 16) (.c (Value.int IntKind.i64 1)) 3, none, [16]⟩,
  ⟨some 4, .assign (.t 17), none, [17]⟩] none [1, 2, 3, 4])
def k0_thicketref10_Copy : IR := .tail [1, 2, 3, 4] j0_thicketref10_Copy
def j1_thicketref10_Copy : IR :=
 (.seq (.block 1 (.reg 5 [⟨some 18, .faddr 27 (.t 3) 2 2, none, []⟩,
  ⟨some 19, .load 24 none (.t 18), none, []⟩,
  ⟨some 20, .faddr 27 (.t 1) 2 2, none, []⟩,
  ⟨some 21, .load 24 none (.t 20), none, []⟩,
  ⟨some 22, .move (.t 4), none, []⟩,
  ⟨some 23, .iaddr 24 (.sl 1) (.t 21) (.t 22), none, []⟩,
  ⟨some 24, .load 9 none (.t 23), none, [20, 21, 22, 23]⟩,
  ⟨some 25, .lit 24 1 [(.t 24)], none, [24]⟩,
  ⟨some 26, .append 24 24 false 1 16 (.t 19) (.t 25), none, [18, 19, 25]⟩,
  ⟨some 27, .faddr 27 (.t 3) 2 2, none, []⟩,
  ⟨none, .store 24 none (.t 27) (.t 26), none, [26, 27]⟩] (some (.cons ⟨0, []⟩ (.cons ⟨2, []⟩ (.cons ⟨4, []⟩ (.cons ⟨1, []⟩ (.cons ⟨3, []⟩ (.cons ⟨5, []⟩ (.cons ⟨6, []⟩ (.cons ⟨7, [1]⟩ (.cons ⟨8, []⟩ (.cons ⟨9, []⟩ (.cons ⟨10, []⟩ .nil)))))))))))) [1, 2, 3, 4]))
 k0_thicketref10_Copy)
def k1_thicketref10_Copy : IR := .tail [1, 2, 3, 4] j1_thicketref10_Copy
def w0_thicketref10_Copy : IR :=
 (.seq (.seq (.reg 3 [⟨some 11, .move (.t 4), none, []⟩,
  ⟨some 12, .faddr 27 (.t 1) 2 2, none, []⟩,
  ⟨some 13, .load 24 none (.t 12), none, []⟩,
  ⟨some 14, .len 24 false (.t 13), none, [12, 13]⟩,
  ⟨some 15, .bin .lss 3 (.t 11) (.t 14) 3, none, [11, 14]⟩] none [1, 2, 3, 4, 15])
 (.cond [1, 2, 3, 4] (.t 15) .skip (.exit 0)))
 k1_thicketref10_Copy)
def l0_thicketref10_Copy : IR := .loop [1, 2, 3, 4] w0_thicketref10_Copy
def j2_thicketref10_Copy : IR :=
 (.reg 8 [⟨some 33, .move (.t 5), none, []⟩,
  ⟨some 34, .bin .add 3 (.t 33) (.c (Value.int IntKind.i64 1)) 3, none, [33]⟩,
  ⟨some 5, .assign (.t 34), none, [34]⟩] none [1, 2, 3, 5])
def k2_thicketref10_Copy : IR := .tail [1, 2, 3, 5] j2_thicketref10_Copy
def j3_thicketref10_Copy : IR :=
 (.seq (.block 3 (.reg 9 [⟨some 35, .faddr 27 (.t 3) 3 3, none, []⟩,
  ⟨some 36, .load 25 none (.t 35), none, []⟩,
  ⟨some 37, .faddr 27 (.t 1) 3 3, none, []⟩,
  ⟨some 38, .load 25 none (.t 37), none, []⟩,
  ⟨some 39, .move (.t 5), none, []⟩,
  ⟨some 40, .iaddr 25 (.sl 4) (.t 38) (.t 39), none, []⟩,
  ⟨some 41, .load 27 (some 4) (.t 40), none, []⟩,
  ⟨some 42, .call n_thicketref10_Copy [(.t 41)] [27], none, [37, 38, 39, 40, 41]⟩,
  ⟨some 43, .lit 25 4 [(.t 42)], none, [42]⟩,
  ⟨some 44, .append 25 25 false 4 72 (.t 36) (.t 43), none, [35, 36, 43]⟩,
  ⟨some 45, .faddr 27 (.t 3) 3 3, none, []⟩,
  ⟨none, .store 25 none (.t 45) (.t 44), none, [44, 45]⟩] (some (.cons ⟨0, []⟩ (.cons ⟨2, []⟩ (.cons ⟨4, []⟩ (.cons ⟨1, []⟩ (.cons ⟨3, []⟩ (.cons ⟨5, []⟩ (.cons ⟨6, []⟩ (.cons ⟨7, [1]⟩ (.cons ⟨8, [1]⟩ (.cons ⟨9, []⟩ (.cons ⟨10, []⟩ (.cons ⟨11, []⟩ .nil))))))))))))) [1, 2, 3, 5]))
 k2_thicketref10_Copy)
def k3_thicketref10_Copy : IR := .tail [1, 2, 3, 5] j3_thicketref10_Copy
def w1_thicketref10_Copy : IR :=
 (.seq (.seq (.reg 7 [⟨some 28, .move (.t 5), none, []⟩,
  ⟨some 29, .faddr 27 (.t 1) 3 3, none, []⟩,
  ⟨some 30, .load 25 none (.t 29), none, []⟩,
  ⟨some 31, .len 25 false (.t 30), none, [29, 30]⟩,
  ⟨some 32, .bin .lss 3 (.t 28) (.t 31) 3, none, [28, 31]⟩] none [1, 2, 3, 5, 32])
 (.cond [1, 2, 3, 5] (.t 32) .skip (.exit 2)))
 k3_thicketref10_Copy)
def l1_thicketref10_Copy : IR := .loop [1, 2, 3, 5] w1_thicketref10_Copy
def j4_thicketref10_Copy : IR :=
 (.seq (.reg 10 [⟨some 46, .load 27 (some 4) (.t 3), none, []⟩,
  ⟨none, .store 27 (some 4) (.t 2) (.t 46), none, [3, 46]⟩] none [2])
 .ret)
def k4_thicketref10_Copy : IR := .tail [2, 3] j4_thicketref10_Copy
def j5_thicketref10_Copy : IR :=
 (.seq (.seq (.reg 6 [⟨some 5, .assign (.c (Value.int IntKind.i64 0)), none, []⟩] none [1, 2, 3, 5])
 (.block 2 l1_thicketref10_Copy))
 k4_thicketref10_Copy)
def k5_thicketref10_Copy : IR := .tail [1, 2, 3] j5_thicketref10_Copy
def b_thicketref10_Copy : IR :=
 (.seq (.reg 0 [⟨some 1, .box 27 (.t 0), none, [0]⟩,
  ⟨some 2, .alloc 27 [.v (.int .u8 0), .v (.string ⟨#[]⟩), .nil 1, .nil 4], none, []⟩] none [1, 2])
 (.seq (.reg 1 [⟨some 6, .faddr 27 (.t 1) 0 0, none, []⟩,
  ⟨some 7, .load 23 none (.t 6), none, [6]⟩,
  ⟨some 8, .faddr 27 (.t 1) 1 1, none, []⟩,
  ⟨some 9, .load 9 none (.t 8), none, [8]⟩,
  ⟨some 10, .build 27 [(0, 1), (1, 1), (2, 1), (3, 1)] [.v (.int .u8 0), .v (.string ⟨#[]⟩), .nil 1, .nil 4] [(0, (.t 7)), (1, (.t 9))], none, []⟩,
  ⟨some 3, .alloc 27 [.v (.int .u8 0), .v (.string ⟨#[]⟩), .nil 1, .nil 4], none, []⟩,
  ⟨none, .store 27 (some 4) (.t 3) (.t 10), none, [7, 9, 10]⟩] none [1, 2, 3])
 (.seq (.seq (.reg 2 [⟨some 4, .assign (.c (Value.int IntKind.i64 0)), none, []⟩] none [1, 2, 3, 4])
 (.block 0 l0_thicketref10_Copy))
 k5_thicketref10_Copy)))
def a_thicketref10_Copy : AFunc := ⟨47, [.cell 2 27 (some 4)], b_thicketref10_Copy⟩

def j0_json_twin : IR :=
 (.reg 8 [⟨some 22, .bin .add 3 (.t 10) (.c (Value.int IntKind.i64 1)) 3, none, []⟩,
  ⟨some 10, .move (.t 22), none, [22]⟩] none [1, 3, 6, 7, 8, 9, 10])
def k0_json_twin : IR := .tail [1, 3, 6, 7, 8, 9, 10] j0_json_twin
def j1_json_twin : IR :=
 (.seq (.block 1 (.seq (.reg 4 [⟨some 12, .iaddr 24 (.sl 1) (.t 8) (.t 10), none, []⟩,
  ⟨some 13, .load 9 none (.t 12), none, [12]⟩,
  ⟨some 5, .assign (.t 13), none, [13]⟩] none [1, 3, 5, 6, 7, 8, 9, 10])
 (.seq (.reg 5 [⟨some 14, .move (.t 3), none, []⟩,
  ⟨some 15, .move (.t 5), none, []⟩,
  ⟨some 16, .mlook 68 none (.int .i64 0) (.t 14) (.t 15), none, []⟩,
  ⟨some 17, .bin .add 3 (.t 16) (.c (Value.int IntKind.i64 1)) 3, none, [16]⟩,
  ⟨none, .mput false 68 none (.t 14) (.t 15) (.t 17), none, [14, 15, 17]⟩] none [1, 3, 5, 6, 7, 8, 9, 10])
 (.seq (.reg 6 [⟨some 18, .move (.t 3), none, []⟩,
  ⟨some 19, .move (.t 5), none, [5]⟩,
  ⟨some 20, .mlook 68 none (.int .i64 0) (.t 18) (.t 19), none, [18, 19]⟩,
  ⟨some 21, .bin .gtr 3 (.t 20) (.c (Value.int IntKind.i64 1)) 3, none, [20]⟩] none [1, 3, 6, 7, 8, 9, 10, 21])
 (.cond [1, 3, 6, 7, 8, 9, 10] (.t 21) (.seq (.reg 7 [⟨some 2, .assign (.c (Value.bool true)), none, []⟩] none [2])
 .ret) .skip)))))
 k0_json_twin)
def k1_json_twin : IR := .tail [1, 3, 6, 7, 8, 9, 10] j1_json_twin
def w0_json_twin : IR :=
 (.seq (.reg 3 [⟨some 11, .bin .lss 3 (.t 10) (.t 9) 3, none, []⟩] none [1, 3, 6, 7, 8, 9, 10, 11])
 (.seq (.cond [1, 3, 6, 7, 8, 9, 10] (.t 11) .skip (.exit 0))
 k1_json_twin))
def l0_json_twin : IR := .loop [1, 3, 6, 7, 8, 9, 10] w0_json_twin
def j2_json_twin : IR :=
 (.seq (.reg 9 [⟨some 23, .faddr 27 (.t 1) 3 3, none, []⟩,
  ⟨some 24, .load 25 none (.t 23), none, []⟩,
  ⟨some 25, .call n_api_Json [(.t 24), (.f n_json_twin)] [25, 37], none, [1, 23, 24]⟩,
  ⟨some 2, .assign (.t 25), none, [25]⟩] none [2])
 .ret)
def k2_json_twin : IR := .tail [1] j2_json_twin
def b_json_twin : IR :=
 (.seq (.reg 0 [⟨some 1, .box 27 (.t 0), none, [0]⟩,
  ⟨some 2, .assign (.c (Value.bool false)), none, [2]⟩] none [1])
 (.seq (.reg 1 [⟨some 6, .mkmap 68, none, []⟩,
  ⟨some 3, .assign (.t 6), none, []⟩] none [1, 3, 6])
 (.seq (.seq (.reg 2 [⟨some 7, .faddr 27 (.t 1) 2 2, none, []⟩,
  ⟨some 8, .load 24 none (.t 7), none, []⟩,
  ⟨some 9, .len 24 false (.t 8), none, []⟩,
  ⟨some 10, .move (.c (Value.int IntKind.i64 0)), none, []⟩] none [1, 3, 6, 7, 8, 9, 10])
 (.block 0 l0_json_twin))
 k2_json_twin)))
def a_json_twin : AFunc := ⟨26, [.tmp 2], b_json_twin⟩

def b_json_deep_1 : IR :=
 (.seq (.reg 0 [⟨some 2, .box 27 (.t 0), none, [0]⟩,
  ⟨some 3, .assign (.c (Value.bool false)), none, [3]⟩] none [1, 2])
 (.seq (.reg 1 [⟨some 4, .load 27 (some 4) (.t 2), none, []⟩,
  ⟨some 5, .load 3 none (.t 1), none, [1]⟩,
  ⟨some 6, .call n_json_deep [(.t 4), (.t 5)] [27, 3], none, [2, 4, 5]⟩,
  ⟨some 3, .assign (.t 6), none, [6]⟩] none [3])
 .ret))
def a_json_deep_1 : AFunc := ⟨7, [.tmp 3], b_json_deep_1⟩

def j0_api_Json_66 : IR :=
 (.reg 6 [⟨some 18, .bin .add 3 (.t 8) (.c (Value.int IntKind.i64 1)) 3, none, []⟩,
  ⟨some 8, .move (.t 18), none, [18]⟩] none [0, 1, 7, 8])
def k0_api_Json_66 : IR := .tail [0, 1, 7, 8] j0_api_Json_66
def j1_api_Json_66 : IR :=
 (.seq (.block 1 (.seq (.reg 3 [⟨some 10, .move (.t 8), none, []⟩,
  ⟨some 5, .assign (.t 10), none, [10]⟩] none [0, 1, 5, 7, 8])
 (.seq (.reg 4 [⟨some 11, .move (.t 1), none, []⟩,
  ⟨some 12, .move (.t 0), none, []⟩,
  ⟨some 13, .move (.t 5), none, []⟩,
  ⟨some 14, .iaddr 25 (.sl 4) (.t 12) (.t 13), none, []⟩,
  ⟨some 15, .load 27 (some 4) (.t 14), none, []⟩,
  ⟨some 16, .callv [n_json_twin, n_json_deep_1] (.t 11) [(.t 15)] [27], none, [11, 12, 13, 14, 15]⟩] none [0, 1, 5, 7, 8, 16])
 (.cond [0, 1, 5, 7, 8] (.t 16) (.seq (.reg 5 [⟨some 17, .move (.t 5), none, [5]⟩,
  ⟨some 4, .assign (.t 17), none, [17]⟩] none [4])
 .ret) .skip))))
 k0_api_Json_66)
def k1_api_Json_66 : IR := .tail [0, 1, 7, 8] j1_api_Json_66
def w0_api_Json_66 : IR :=
 (.seq (.reg 2 [⟨some 9, .bin .lss 3 (.t 8) (.t 7) 3, none, []⟩] none [0, 1, 7, 8, 9])
 (.seq (.cond [0, 1, 7, 8] (.t 9) .skip (.exit 0))
 k1_api_Json_66))
def l0_api_Json_66 : IR := .loop [0, 1, 7, 8] w0_api_Json_66
def j2_api_Json_66 : IR :=
 (.seq (.reg 7 [⟨some 4, .assign (.c (Value.int IntKind.i64 (-1))), none, []⟩] none [4])
 .ret)
def k2_api_Json_66 : IR := .tail [] j2_api_Json_66
def b_api_Json_66 : IR :=
 (.seq (.reg 0 [⟨some 4, .assign (.c (Value.int IntKind.i64 0)), none, [4]⟩] none [0, 1])
 (.seq (.seq (.reg 1 [⟨some 6, .move (.t 0), none, []⟩,
  ⟨some 7, .len 25 false (.t 6), none, [6]⟩,
  ⟨some 8, .move (.c (Value.int IntKind.i64 0)), none, []⟩] none [0, 1, 7, 8])
 (.block 0 l0_api_Json_66))
 k2_api_Json_66))
def a_api_Json_66 : AFunc := ⟨19, [.tmp 4], b_api_Json_66⟩

def b_api_Json : IR :=
 (.seq (.reg 0 [⟨some 4, .assign (.c (Value.bool false)), none, [4]⟩] none [0, 1])
 (.seq (.reg 1 [⟨some 5, .move (.t 0), none, []⟩,
  ⟨some 6, .move (.t 1), none, []⟩,
  ⟨some 7, .call n_api_Json_66 [(.t 5), (.t 6)] [25, 37], none, [0, 1, 5, 6]⟩,
  ⟨some 8, .bin .geq 3 (.t 7) (.c (Value.int IntKind.i64 0)) 3, none, [7]⟩,
  ⟨some 4, .assign (.t 8), none, [8]⟩] none [4])
 .ret))
def a_api_Json : AFunc := ⟨9, [.tmp 4], b_api_Json⟩

def j0_json_deep : IR :=
 (.reg 4 [⟨some 15, .load 3 none (.t 3), none, []⟩,
  ⟨some 16, .bin .sub 3 (.t 15) (.c (Value.int IntKind.i64 1)) 3, none, [15]⟩,
  ⟨none, .store 3 none (.t 3) (.t 16), none, [16]⟩] none [2, 3])
def k0_json_deep : IR := .tail [2, 3] j0_json_deep
def j1_json_deep : IR :=
 (.seq (.reg 5 [⟨some 17, .faddr 27 (.t 2) 3 3, none, []⟩,
  ⟨some 18, .load 25 none (.t 17), none, []⟩,
  ⟨some 19, .mkclo n_json_deep_1 (.t 3), none, [3]⟩,
  ⟨some 20, .call n_api_Json [(.t 18), (.t 19)] [25, 37], none, [2, 17, 18, 19]⟩,
  ⟨some 4, .assign (.t 20), none, [20]⟩] none [4])
 .ret)
def k1_json_deep : IR := .tail [2, 3] j1_json_deep
def b_json_deep : IR :=
 (.seq (.reg 0 [⟨some 2, .box 27 (.t 0), none, [0]⟩,
  ⟨some 3, .box 3 (.t 1), none, [1]⟩,
  ⟨some 4, .assign (.c (Value.bool false)), none, [4]⟩] none [2, 3])
 (.seq (.seq (.reg 1 [⟨some 5, .faddr 27 (.t 2) 0 0, none, []⟩,
  ⟨some 6, .load 23 none (.t 5), none, [5]⟩,
  ⟨some 7, .bin .eql 23 (.t 6) (.c (Value.int IntKind.u8 6)) 23, none, [6]⟩,
  ⟨some 8, .move (.t 7), none, [7]⟩,
  ⟨some 9, .faddr 27 (.t 2) 0 0, some (3, false), []⟩,
  ⟨some 10, .load 23 none (.t 9), some (3, false), [9]⟩,
  ⟨some 11, .bin .eql 23 (.t 10) (.c (Value.int IntKind.u8 7)) 23, some (3, false), [10]⟩,
  ⟨some 12, .pick (.t 8) (.c (Value.bool true)) (.t 11), none, [8, 11]⟩] none [2, 3, 12])
 (.cond [2, 3] (.t 12) (.seq (.seq (.reg 2 [⟨some 13, .load 3 none (.t 3), none, []⟩,
  ⟨some 14, .bin .eql 3 (.t 13) (.c (Value.int IntKind.i64 0)) 3, none, [13]⟩] none [2, 3, 14])
 (.cond [2, 3] (.t 14) (.seq (.reg 3 [⟨some 4, .assign (.c (Value.bool true)), none, []⟩] none [4])
 .ret) .skip))
 k0_json_deep) .skip))
 k1_json_deep))
def a_json_deep : AFunc := ⟨21, [.tmp 4], b_json_deep⟩

def b_stringslite_IndexByte : IR :=
 (.seq (.reg 0 [⟨some 4, .assign (.c (Value.int IntKind.i64 0)), none, [4]⟩] none [0, 1])
 (.seq (.reg 1 [⟨some 5, .move (.t 0), none, [0]⟩,
  ⟨some 6, .move (.t 1), none, [1]⟩,
  ⟨some 7, .ext n_bytealg_IndexByteString .idxByteStr [(.t 5), (.t 6)] [9, 5], none, [5, 6]⟩,
  ⟨some 4, .assign (.t 7), none, [7]⟩] none [4])
 .ret))
def a_stringslite_IndexByte : AFunc := ⟨8, [.tmp 4], b_stringslite_IndexByte⟩

def b_strings_IndexByte : IR :=
 (.seq (.reg 0 [⟨some 4, .assign (.c (Value.int IntKind.i64 0)), none, [4]⟩] none [0, 1])
 (.seq (.reg 1 [⟨some 5, .move (.t 0), none, [0]⟩,
  ⟨some 6, .move (.t 1), none, [1]⟩,
  ⟨some 7, .call n_stringslite_IndexByte [(.t 5), (.t 6)] [9, 5], none, [5, 6]⟩,
  ⟨some 4, .assign (.t 7), none, [7]⟩] none [4])
 .ret))
def a_strings_IndexByte : AFunc := ⟨8, [.tmp 4], b_strings_IndexByte⟩

def j0_json_reader_takes : IR :=
 (.seq (.reg 4 [⟨some 4, .assign (.c (Value.bool false)), none, []⟩] none [4, 100000])
 .ret)
def k0_json_reader_takes : IR := .tail [100000] j0_json_reader_takes
def b_json_reader_takes : IR :=
 (.seq (.reg 0 [⟨some 4, .assign (.c (Value.bool false)), none, [4]⟩] none [0, 1, 100000])
 (.seq (.seq (.reg 1 [⟨some 5, .move (.t 0), none, []⟩,
  ⟨some 6, .nilck (.t 5), none, []⟩,
  ⟨some 7, .faddr 50 (.t 6) 1 1, none, []⟩,
  ⟨some 8, .load 3 none (.t 7), none, [5, 6, 7]⟩,
  ⟨some 9, .move (.t 0), none, []⟩,
  ⟨some 10, .nilck (.t 9), none, []⟩,
  ⟨some 11, .faddr 50 (.t 10) 0 0, none, []⟩,
  ⟨some 12, .load 22 none (.t 11), none, []⟩,
  ⟨some 13, .len 22 false (.t 12), none, [9, 10, 11, 12]⟩,
  ⟨some 14, .bin .lss 3 (.t 8) (.t 13) 3, none, [8, 13]⟩,
  ⟨some 15, .move (.t 14), none, [14]⟩,
  ⟨some 16, .move (.t 1), some (10, true), [1]⟩,
  ⟨some 17, .move (.t 0), some (10, true), []⟩,
  ⟨some 18, .nilck (.t 17), some (10, true), []⟩,
  ⟨some 19, .faddr 50 (.t 18) 0 0, some (10, true), []⟩,
  ⟨some 20, .load 22 none (.t 19), some (10, true), []⟩,
  ⟨some 21, .move (.t 0), some (10, true), []⟩,
  ⟨some 22, .nilck (.t 21), some (10, true), []⟩,
  ⟨some 23, .faddr 50 (.t 22) 1 1, some (10, true), []⟩,
  ⟨some 24, .load 3 none (.t 23), some (10, true), [21, 22, 23]⟩,
  ⟨some 25, .iaddr 22 (.sl 1) (.t 20) (.t 24), some (10, true), []⟩,
  ⟨some 26, .load 5 none (.t 25), some (10, true), [17, 18, 19, 20, 24, 25]⟩,
  ⟨some 27, .call n_strings_IndexByte [(.t 16), (.t 26)] [9, 5], some (10, true), [16, 26]⟩,
  ⟨some 28, .bin .geq 3 (.t 27) (.c (Value.int IntKind.i64 0)) 3, some (10, true), [27]⟩,
  ⟨some 29, .pick (.t 15) (.t 28) (.c (Value.bool false)), none, [15, 28]⟩] (some (.cons ⟨0, []⟩ (.cons ⟨1, []⟩ (.cons ⟨2, []⟩ (.cons ⟨4, []⟩ (.cons ⟨5, []⟩ (.cons ⟨6, []⟩ (.cons ⟨3, []⟩ (.cons ⟨7, []⟩ (.cons ⟨8, []⟩ (.cons ⟨9, []⟩ (.cons ⟨10, []⟩ (.cons ⟨11, []⟩ (.cons ⟨12, []⟩ (.cons ⟨13, []⟩ (.cons ⟨14, []⟩ (.cons ⟨16, []⟩ (.cons ⟨17, []⟩ (.cons ⟨18, []⟩ (.cons ⟨15, []⟩ (.cons ⟨19, []⟩ (.cons ⟨20, []⟩ (.cons ⟨21, []⟩ (.cons ⟨22, []⟩ (.cons ⟨23, []⟩ (.cons ⟨24, []⟩ .nil)))))))))))))))))))))))))) [0, 29, 100000])
 (.cond [0, 100000] (.t 29) (.seq (.reg 2 [⟨some 30, .move (.t 0), none, []⟩,
  ⟨some 31, .nilck (.t 30), none, []⟩,
  ⟨some 32, .faddr 50 (.t 31) 1 1, none, []⟩,
  ⟨some 33, .load 3 none (.t 32), none, [31, 32]⟩,
  ⟨some 34, .bin .add 3 (.t 33) (.c (Value.int IntKind.i64 1)) 3, none, [33]⟩,
  ⟨some 35, .nilck (.t 30), none, []⟩,
  ⟨some 36, .faddr 50 (.t 35) 1 1, none, []⟩,
  ⟨none, .store 3 none (.t 36) (.t 34), none, [0, 30, 34, 35, 36]⟩] none [100000])
 (.seq (.reg 3 [⟨some 4, .assign (.c (Value.bool true)), none, []⟩] none [4, 100000])
 .ret)) .skip))
 k0_json_reader_takes))
def a_json_reader_takes : AFunc := ⟨37, [.tmp 4], b_json_reader_takes⟩

def b_json_reader_fail : IR :=
 (.regp 0 [⟨some 2, .move (.t 0), none, []⟩,
  ⟨some 3, .nilck (.t 2), none, []⟩,
  ⟨some 4, .faddr 50 (.t 3) 1 1, none, []⟩,
  ⟨some 5, .load 3 none (.t 4), none, [0, 2, 3, 4]⟩,
  ⟨some 6, .build 46 [(0, 1), (1, 1)] [.v (.int .i64 0), .v (.int .i64 0)] [(0, (.c (Value.int IntKind.i64 100))), (1, (.t 5))], none, [5]⟩,
  ⟨some 7, .mkiface 46 (.t 6), none, [6]⟩,
  ⟨none, .throw (.t 7), none, [7]⟩] none [100000])
def a_json_reader_fail : AFunc := ⟨8, [], b_json_reader_fail⟩

def b_json_reader_digit : IR :=
 (.seq (.reg 0 [⟨some 2, .assign (.c (Value.bool false)), none, [2]⟩] none [0, 100000])
 (.seq (.reg 1 [⟨some 3, .move (.t 0), none, []⟩,
  ⟨some 4, .nilck (.t 3), none, []⟩,
  ⟨some 5, .faddr 50 (.t 4) 1 1, none, []⟩,
  ⟨some 6, .load 3 none (.t 5), none, [3, 4, 5]⟩,
  ⟨some 7, .move (.t 0), none, []⟩,
  ⟨some 8, .nilck (.t 7), none, []⟩,
  ⟨some 9, .faddr 50 (.t 8) 0 0, none, []⟩,
  ⟨some 10, .load 22 none (.t 9), none, []⟩,
  ⟨some 11, .len 22 false (.t 10), none, [7, 8, 9, 10]⟩,
  ⟨some 12, .bin .lss 3 (.t 6) (.t 11) 3, none, [6, 11]⟩,
  ⟨some 13, .move (.t 12), none, [12]⟩,
  ⟨some 14, .move (.t 0), some (10, true), []⟩,
  ⟨some 15, .nilck (.t 14), some (10, true), []⟩,
  ⟨some 16, .faddr 50 (.t 15) 0 0, some (10, true), []⟩,
  ⟨some 17, .load 22 none (.t 16), some (10, true), []⟩,
  ⟨some 18, .move (.t 0), some (10, true), []⟩,
  ⟨some 19, .nilck (.t 18), some (10, true), []⟩,
  ⟨some 20, .faddr 50 (.t 19) 1 1, some (10, true), []⟩,
  ⟨some 21, .load 3 none (.t 20), some (10, true), [18, 19, 20]⟩,
  ⟨some 22, .iaddr 22 (.sl 1) (.t 17) (.t 21), some (10, true), []⟩,
  ⟨some 23, .load 5 none (.t 22), some (10, true), [14, 15, 16, 17, 21, 22]⟩,
  ⟨some 24, .bin .geq 5 (.t 23) (.c (Value.int IntKind.u8 48)) 5, some (10, true), [23]⟩,
  ⟨some 25, .pick (.t 13) (.t 24) (.c (Value.bool false)), none, [13, 24]⟩,
  ⟨some 26, .move (.t 25), none, [25]⟩,
  ⟨some 27, .move (.t 0), some (23, true), []⟩,
  ⟨some 28, .nilck (.t 27), some (23, true), []⟩,
  ⟨some 29, .faddr 50 (.t 28) 0 0, some (23, true), []⟩,
  ⟨some 30, .load 22 none (.t 29), some (23, true), []⟩,
  ⟨some 31, .move (.t 0), some (23, true), []⟩,
  ⟨some 32, .nilck (.t 31), some (23, true), []⟩,
  ⟨some 33, .faddr 50 (.t 32) 1 1, some (23, true), []⟩,
  ⟨some 34, .load 3 none (.t 33), some (23, true), [31, 32, 33]⟩,
  ⟨some 35, .iaddr 22 (.sl 1) (.t 30) (.t 34), some (23, true), []⟩,
  ⟨some 36, .load 5 none (.t 35), some (23, true), [0, 27, 28, 29, 30, 34, 35]⟩,
  ⟨some 37, .bin .leq 5 (.t 36) (.c (Value.int IntKind.u8 57)) 5, some (23, true), [36]⟩,
  ⟨some 38, .pick (.t 26) (.t 37) (.c (Value.bool false)), none, [26, 37]⟩,
  ⟨some 2, .assign (.t 38), none, [38]⟩] (some (.cons ⟨0, []⟩ (.cons ⟨1, []⟩ (.cons ⟨2, []⟩ (.cons ⟨4, []⟩ (.cons ⟨5, []⟩ (.cons ⟨6, []⟩ (.cons ⟨3, []⟩ (.cons ⟨7, []⟩ (.cons ⟨8, []⟩ (.cons ⟨9, []⟩ (.cons ⟨10, []⟩ (.cons ⟨11, []⟩ (.cons ⟨12, []⟩ (.cons ⟨13, []⟩ (.cons ⟨15, []⟩ (.cons ⟨16, []⟩ (.cons ⟨17, []⟩ (.cons ⟨14, []⟩ (.cons ⟨18, []⟩ (.cons ⟨19, []⟩ (.cons ⟨20, []⟩ (.cons ⟨21, []⟩ (.cons ⟨22, []⟩ (.cons ⟨23, []⟩ (.cons ⟨24, []⟩ (.cons ⟨25, []⟩ (.cons ⟨26, []⟩ (.cons ⟨28, []⟩ (.cons ⟨29, []⟩ (.cons ⟨30, []⟩ (.cons ⟨27, []⟩ (.cons ⟨31, []⟩ (.cons ⟨32, []⟩ (.cons ⟨33, []⟩ (.cons ⟨34, []⟩ (.cons ⟨35, []⟩ (.cons ⟨36, []⟩ .nil)))))))))))))))))))))))))))))))))))))) [2, 100000])
 .ret))
def a_json_reader_digit : AFunc := ⟨39, [.tmp 2], b_json_reader_digit⟩

def j0_json_reader_digits : IR :=
 (.block 1 (.reg 3 [⟨some 9, .move (.t 0), none, []⟩,
  ⟨some 10, .nilck (.t 9), none, []⟩,
  ⟨some 11, .faddr 50 (.t 10) 1 1, none, []⟩,
  ⟨some 12, .load 3 none (.t 11), none, [10, 11]⟩,
  ⟨some 13, .bin .add 3 (.t 12) (.c (Value.int IntKind.i64 1)) 3, none, [12]⟩,
  ⟨some 14, .nilck (.t 9), none, []⟩,
  ⟨some 15, .faddr 50 (.t 14) 1 1, none, []⟩,
  ⟨none, .store 3 none (.t 15) (.t 13), none, [9, 13, 14, 15]⟩] none [0, 100000]))
def k0_json_reader_digits : IR := .tail [0, 100000] j0_json_reader_digits
def w0_json_reader_digits : IR :=
 (.seq (.seq (.reg 2 [⟨some 7, .move (.t 0), none, []⟩,
  ⟨some 8, .call n_json_reader_digit [(.t 7)] [48], none, [7]⟩] none [0, 8, 100000])
 (.cond [0, 100000] (.t 8) .skip (.exit 0)))
 k0_json_reader_digits)
def l0_json_reader_digits : IR := .loop [0, 100000] w0_json_reader_digits
def j1_json_reader_digits : IR :=
 (.block 0 l0_json_reader_digits)
def k1_json_reader_digits : IR := .tail [0, 100000] j1_json_reader_digits
def b_json_reader_digits : IR :=
 (.seq (.seq (.reg 0 [⟨some 2, .move (.t 0), none, []⟩,
  ⟨some 3, .call n_json_reader_digit [(.t 2)] [48], none, [2]⟩,
  ⟨some 4, .un .not 4 (.t 3), none, [3]⟩] none [0, 4, 100000])
 (.cond [0, 100000] (.t 4) (.regp 1 [⟨some 5, .move (.t 0), none, []⟩,
  ⟨some 6, .call n_json_reader_fail [(.t 5)] [48], none, [5, 6]⟩] none [0, 100000]) .skip))
 k1_json_reader_digits)
def a_json_reader_digits : AFunc := ⟨16, [], b_json_reader_digits⟩

def j0_json_reader_number : IR :=
 (.seq (.reg 5 [⟨some 13, .move (.t 0), none, []⟩,
  ⟨some 14, .call n_json_reader_takes [(.t 13), (.c (Value.string { data := #[101, 69] }))] [48, 9], none, [13]⟩] none [0, 14, 100000])
 (.cond [0, 100000] (.t 14) (.seq (.reg 6 [⟨some 15, .move (.t 0), none, []⟩,
  ⟨some 16, .call n_json_reader_takes [(.t 15), (.c (Value.string { data := #[43, 45] }))] [48, 9], none, [15, 16]⟩] none [0, 100000])
 (.regp 7 [⟨some 17, .move (.t 0), none, []⟩,
  ⟨some 18, .call n_json_reader_digits [(.t 17)] [48], none, [0, 17, 18]⟩] none [100000])) .skip))
def k0_json_reader_number : IR := .tail [0, 100000] j0_json_reader_number
def j1_json_reader_number : IR :=
 (.seq (.seq (.reg 3 [⟨some 9, .move (.t 0), none, []⟩,
  ⟨some 10, .call n_json_reader_takes [(.t 9), (.c (Value.string { data := #[46] }))] [48, 9], none, [9]⟩] none [0, 10, 100000])
 (.cond [0, 100000] (.t 10) (.regp 4 [⟨some 11, .move (.t 0), none, []⟩,
  ⟨some 12, .call n_json_reader_digits [(.t 11)] [48], none, [11, 12]⟩] none [0, 100000]) .skip))
 k0_json_reader_number)
def k1_json_reader_number : IR := .tail [0, 100000] j1_json_reader_number
def b_json_reader_number : IR :=
 (.seq (.reg 0 [⟨some 2, .move (.t 0), none, []⟩,
  ⟨some 3, .call n_json_reader_takes [(.t 2), (.c (Value.string { data := #[45] }))] [48, 9], none, [2, 3]⟩] none [0, 100000])
 (.seq (.seq (.reg 1 [⟨some 4, .move (.t 0), none, []⟩,
  ⟨some 5, .call n_json_reader_takes [(.t 4), (.c (Value.string { data := #[48] }))] [48, 9], none, [4]⟩,
  ⟨some 6, .un .not 4 (.t 5), none, [5]⟩] none [0, 6, 100000])
 (.cond [0, 100000] (.t 6) (.regp 2 [⟨some 7, .move (.t 0), none, []⟩,
  ⟨some 8, .call n_json_reader_digits [(.t 7)] [48], none, [7, 8]⟩] none [0, 100000]) .skip))
 k1_json_reader_number))
def a_json_reader_number : AFunc := ⟨19, [], b_json_reader_number⟩

-- json_number_1: builtin recover; operator neq of interface
def b_json_number_1 : IR :=
 (.seq (.reg 0 [⟨some 2, .other (Op.call { callee := (Callee.builtin Builtin.recover), args := #[], argTypes := #[] }), none, []⟩,
  ⟨some 1, .assign (.t 2), none, []⟩] none [0, 1, 2, 100000])
 (.seq (.reg 1 [⟨some 3, .move (.t 1), none, []⟩,
  ⟨some 4, .other (Op.binOp BinOp.neq 20 (Operand.tmp 3) (Operand.const Value.nilIface) 20), none, [1, 2, 3]⟩] none [0, 4, 100000])
 (.cond [0, 100000] (.t 4) (.reg 2 [⟨none, .store 4 none (.t 0) (.c (Value.bool false)), none, [0]⟩] none [100000]) .skip)))
def a_json_number_1 : AFunc := ⟨5, [], b_json_number_1⟩

def j0_json_number : IR :=
 (.seq (.reg 2 [⟨some 5, .move (.t 0), none, []⟩,
  ⟨some 6, .conv 9 22 .toBytes (.t 5), none, [5]⟩,
  ⟨some 7, .build 50 [(0, 1), (1, 1)] [.nil 1, .v (.int .i64 0)] [(0, (.t 6))], none, []⟩,
  ⟨some 8, .box 50 (.t 7), none, [6, 7]⟩,
  ⟨some 3, .assign (.t 8), none, []⟩] none [0, 2, 3, 8, 200000])
 (.seq (.frz [(3, [0])] (.regp 3 [⟨some 9, .move (.t 3), none, []⟩,
  ⟨some 10, .call n_json_reader_number [(.t 9)] [48], none, [9, 10]⟩] none [0, 2, 3, 8, 200000]))
 (.seq (.reg 4 [⟨some 11, .move (.t 3), none, []⟩,
  ⟨some 12, .nilck (.t 11), none, []⟩,
  ⟨some 13, .faddr 50 (.t 12) 1 1, none, []⟩,
  ⟨some 14, .load 3 none (.t 13), none, [3, 8, 11, 12, 13]⟩,
  ⟨some 15, .move (.t 0), none, [0]⟩,
  ⟨some 16, .len 9 true (.t 15), none, [15]⟩,
  ⟨some 17, .bin .eql 3 (.t 14) (.t 16) 3, none, [14, 16]⟩,
  ⟨none, .store 4 none (.t 2) (.t 17), none, [17]⟩] none [2, 200000])
 .ret)))
def hnd_json_number : Value → Option (List (List PV)) := fun x => match x with
  | .iface _ _ => some [[.v (.bool false)]]
  | _ => none
def b_json_number : IR :=
 (.seq (.reg 0 [⟨some 2, .alloc 4 [.v (.bool false)], none, []⟩] none [0, 2])
 (.gd 1 4 n_json_number_1 [2] hnd_json_number j0_json_number))
def a_json_number : AFunc := ⟨18, [.cell 2 4 none], b_json_number⟩

def j0_json_right : IR :=
 (.reg 22 [⟨some 97, .bin .add 3 (.t 90) (.c (Value.int IntKind.i64 1)) 3, none, []⟩,
  ⟨some 90, .move (.t 97), none, [97]⟩] none [1, 87, 88, 89, 90])
def k0_json_right : IR := .tail [1, 87, 88, 89, 90] j0_json_right
def j1_json_right : IR :=
 (.seq (.block 2 (.seq (.reg 19 [⟨some 92, .iaddr 24 (.sl 1) (.t 88) (.t 90), none, []⟩,
  ⟨some 93, .load 9 none (.t 92), none, [92]⟩,
  ⟨some 4, .assign (.t 93), none, [93]⟩] none [1, 4, 87, 88, 89, 90])
 (.seq (.reg 20 [⟨some 94, .move (.t 4), none, [4]⟩,
  ⟨some 95, .call n_utf8_ValidString [(.t 94)] [9], none, [94]⟩,
  ⟨some 96, .un .not 4 (.t 95), none, [95]⟩] none [1, 87, 88, 89, 90, 96])
 (.cond [1, 87, 88, 89, 90] (.t 96) (.seq (.reg 21 [⟨some 2, .assign (.c (Value.bool false)), none, []⟩] none [2])
 .ret) .skip))))
 k0_json_right)
def k1_json_right : IR := .tail [1, 87, 88, 89, 90] j1_json_right
def w0_json_right : IR :=
 (.seq (.reg 18 [⟨some 91, .bin .lss 3 (.t 90) (.t 89) 3, none, []⟩] none [1, 87, 88, 89, 90, 91])
 (.seq (.cond [1, 87, 88, 89, 90] (.t 91) .skip (.exit 1))
 k1_json_right))
def l0_json_right : IR := .loop [1, 87, 88, 89, 90] w0_json_right
def j2_json_right : IR :=
 (.seq (.reg 17 [⟨some 87, .faddr 27 (.t 1) 2 2, none, []⟩,
  ⟨some 88, .load 24 none (.t 87), none, []⟩,
  ⟨some 89, .len 24 false (.t 88), none, []⟩,
  ⟨some 90, .move (.c (Value.int IntKind.i64 0)), none, []⟩] none [1, 87, 88, 89, 90])
 (.block 1 l0_json_right))
def k2_json_right : IR := .tail [1] j2_json_right
def j3_json_right : IR :=
 (.cond [1, 8] (.t 9) (.seq (.reg 6 [⟨some 13, .faddr 27 (.t 1) 1 1, none, []⟩,
  ⟨some 14, .load 9 none (.t 13), none, [13]⟩,
  ⟨some 15, .bin .eql 9 (.t 14) (.c (Value.string { data := #[] })) 9, none, [14]⟩,
  ⟨some 16, .move (.t 15), none, [15]⟩,
  ⟨some 17, .faddr 27 (.t 1) 2 2, some (3, true), []⟩,
  ⟨some 18, .load 24 none (.t 17), some (3, true), []⟩,
  ⟨some 19, .len 24 false (.t 18), some (3, true), [17, 18]⟩,
  ⟨some 20, .bin .eql 3 (.t 19) (.c (Value.int IntKind.i64 0)) 3, some (3, true), [19]⟩,
  ⟨some 21, .pick (.t 16) (.t 20) (.c (Value.bool false)), none, [16, 20]⟩,
  ⟨some 22, .move (.t 21), none, [21]⟩,
  ⟨some 23, .faddr 27 (.t 1) 3 3, some (9, true), []⟩,
  ⟨some 24, .load 25 none (.t 23), some (9, true), []⟩,
  ⟨some 25, .len 25 false (.t 24), some (9, true), [1, 23, 24]⟩,
  ⟨some 26, .bin .eql 3 (.t 25) (.c (Value.int IntKind.i64 0)) 3, some (9, true), [25]⟩,
  ⟨some 27, .pick (.t 22) (.t 26) (.c (Value.bool false)), none, [22, 26]⟩,
  ⟨some 2, .assign (.t 27), none, [27]⟩] none [2])
 .ret) (.seq (.reg 7 [⟨some 29, .bin .eql 23 (.t 8) (.c (Value.int IntKind.u8 4)) 23, none, []⟩,
  ⟨some 28, .assign (.t 29), none, [29]⟩] none [1, 8, 28])
 (.cond [1, 8] (.t 28) (.seq (.reg 8 [⟨some 30, .faddr 27 (.t 1) 1 1, none, []⟩,
  ⟨some 31, .load 9 none (.t 30), none, [30]⟩,
  ⟨some 32, .call n_json_number [(.t 31)] [9], none, [31]⟩,
  ⟨some 33, .move (.t 32), none, [32]⟩,
  ⟨some 34, .faddr 27 (.t 1) 2 2, some (3, true), []⟩,
  ⟨some 35, .load 24 none (.t 34), some (3, true), []⟩,
  ⟨some 36, .len 24 false (.t 35), some (3, true), [34, 35]⟩,
  ⟨some 37, .bin .eql 3 (.t 36) (.c (Value.int IntKind.i64 0)) 3, some (3, true), [36]⟩,
  ⟨some 38, .pick (.t 33) (.t 37) (.c (Value.bool false)), none, [33, 37]⟩,
  ⟨some 39, .move (.t 38), none, [38]⟩,
  ⟨some 40, .faddr 27 (.t 1) 3 3, some (9, true), []⟩,
  ⟨some 41, .load 25 none (.t 40), some (9, true), []⟩,
  ⟨some 42, .len 25 false (.t 41), some (9, true), [1, 40, 41]⟩,
  ⟨some 43, .bin .eql 3 (.t 42) (.c (Value.int IntKind.i64 0)) 3, some (9, true), [42]⟩,
  ⟨some 44, .pick (.t 39) (.t 43) (.c (Value.bool false)), none, [39, 43]⟩,
  ⟨some 2, .assign (.t 44), none, [44]⟩] none [2])
 .ret) (.seq (.reg 9 [⟨some 46, .bin .eql 23 (.t 8) (.c (Value.int IntKind.u8 5)) 23, none, []⟩,
  ⟨some 45, .assign (.t 46), none, [46]⟩] none [1, 8, 45])
 (.cond [1, 8] (.t 45) (.seq (.reg 10 [⟨some 47, .faddr 27 (.t 1) 1 1, none, []⟩,
  ⟨some 48, .load 9 none (.t 47), none, [47]⟩,
  ⟨some 49, .call n_utf8_ValidString [(.t 48)] [9], none, [48]⟩,
  ⟨some 50, .move (.t 49), none, [49]⟩,
  ⟨some 51, .faddr 27 (.t 1) 2 2, some (3, true), []⟩,
  ⟨some 52, .load 24 none (.t 51), some (3, true), []⟩,
  ⟨some 53, .len 24 false (.t 52), some (3, true), [51, 52]⟩,
  ⟨some 54, .bin .eql 3 (.t 53) (.c (Value.int IntKind.i64 0)) 3, some (3, true), [53]⟩,
  ⟨some 55, .pick (.t 50) (.t 54) (.c (Value.bool false)), none, [50, 54]⟩,
  ⟨some 56, .move (.t 55), none, [55]⟩,
  ⟨some 57, .faddr 27 (.t 1) 3 3, some (9, true), []⟩,
  ⟨some 58, .load 25 none (.t 57), some (9, true), []⟩,
  ⟨some 59, .len 25 false (.t 58), some (9, true), [1, 57, 58]⟩,
  ⟨some 60, .bin .eql 3 (.t 59) (.c (Value.int IntKind.i64 0)) 3, some (9, true), [59]⟩,
  ⟨some 61, .pick (.t 56) (.t 60) (.c (Value.bool false)), none, [56, 60]⟩,
  ⟨some 2, .assign (.t 61), none, [61]⟩] none [2])
 .ret) (.seq (.reg 11 [⟨some 63, .bin .eql 23 (.t 8) (.c (Value.int IntKind.u8 6)) 23, none, []⟩,
  ⟨some 62, .assign (.t 63), none, [63]⟩] none [1, 8, 62])
 (.cond [1, 8] (.t 62) (.seq (.reg 12 [⟨some 64, .faddr 27 (.t 1) 1 1, none, []⟩,
  ⟨some 65, .load 9 none (.t 64), none, [64]⟩,
  ⟨some 66, .bin .neq 9 (.t 65) (.c (Value.string { data := #[] })) 9, none, [65]⟩,
  ⟨some 67, .move (.t 66), none, [66]⟩,
  ⟨some 68, .faddr 27 (.t 1) 2 2, some (3, false), []⟩,
  ⟨some 69, .load 24 none (.t 68), some (3, false), []⟩,
  ⟨some 70, .len 24 false (.t 69), some (3, false), [68, 69]⟩,
  ⟨some 71, .bin .gtr 3 (.t 70) (.c (Value.int IntKind.i64 0)) 3, some (3, false), [70]⟩,
  ⟨some 72, .pick (.t 67) (.c (Value.bool true)) (.t 71), none, [67, 71]⟩] none [1, 72])
 (.cond [1] (.t 72) (.seq (.reg 13 [⟨some 2, .assign (.c (Value.bool false)), none, []⟩] none [2])
 .ret) .skip)) (.seq (.reg 14 [⟨some 74, .bin .eql 23 (.t 8) (.c (Value.int IntKind.u8 7)) 23, none, [8]⟩,
  ⟨some 73, .assign (.t 74), none, [74]⟩] none [1, 73])
 (.cond [1] (.t 73) (.seq (.seq (.reg 15 [⟨some 75, .faddr 27 (.t 1) 1 1, none, []⟩,
  ⟨some 76, .load 9 none (.t 75), none, [75]⟩,
  ⟨some 77, .bin .neq 9 (.t 76) (.c (Value.string { data := #[] })) 9, none, [76]⟩,
  ⟨some 78, .move (.t 77), none, [77]⟩,
  ⟨some 79, .faddr 27 (.t 1) 2 2, some (3, false), []⟩,
  ⟨some 80, .load 24 none (.t 79), some (3, false), []⟩,
  ⟨some 81, .len 24 false (.t 80), some (3, false), [79, 80]⟩,
  ⟨some 82, .faddr 27 (.t 1) 3 3, some (3, false), []⟩,
  ⟨some 83, .load 25 none (.t 82), some (3, false), []⟩,
  ⟨some 84, .len 25 false (.t 83), some (3, false), [82, 83]⟩,
  ⟨some 85, .bin .neq 3 (.t 81) (.t 84) 3, some (3, false), [81, 84]⟩,
  ⟨some 86, .pick (.t 78) (.c (Value.bool true)) (.t 85), none, [78, 85]⟩] none [1, 86])
 (.cond [1] (.t 86) (.seq (.reg 16 [⟨some 2, .assign (.c (Value.bool false)), none, []⟩] none [2])
 .ret) .skip))
 k2_json_right) (.seq (.reg 2 [⟨some 2, .assign (.c (Value.bool false)), none, []⟩] none [2])
 .ret))))))))))
def k3_json_right : IR := .tail [1, 8, 9] j3_json_right
def j4_json_right : IR :=
 (.reg 28 [⟨some 108, .bin .add 3 (.t 101) (.c (Value.int IntKind.i64 1)) 3, none, []⟩,
  ⟨some 101, .move (.t 108), none, [108]⟩] none [1, 98, 99, 100, 101])
def k4_json_right : IR := .tail [1, 98, 99, 100, 101] j4_json_right
def j5_json_right : IR :=
 (.seq (.block 4 (.seq (.reg 25 [⟨some 103, .iaddr 25 (.sl 4) (.t 99) (.t 101), none, []⟩,
  ⟨some 104, .load 27 (some 4) (.t 103), none, []⟩,
  ⟨some 6, .alloc 27 [.v (.int .u8 0), .v (.string ⟨#[]⟩), .nil 1, .nil 4], none, []⟩,
  ⟨none, .store 27 (some 4) (.t 6) (.t 104), none, [103, 104]⟩] none [1, 6, 98, 99, 100, 101])
 (.seq (.reg 26 [⟨some 105, .load 27 (some 4) (.t 6), none, []⟩,
  ⟨some 106, .call n_json_right [(.t 105)] [27], none, [6, 105]⟩,
  ⟨some 107, .un .not 4 (.t 106), none, [106]⟩] none [1, 98, 99, 100, 101, 107])
 (.cond [1, 98, 99, 100, 101] (.t 107) (.seq (.reg 27 [⟨some 2, .assign (.c (Value.bool false)), none, []⟩] none [2])
 .ret) .skip))))
 k4_json_right)
def k5_json_right : IR := .tail [1, 98, 99, 100, 101] j5_json_right
def w1_json_right : IR :=
 (.seq (.reg 24 [⟨some 102, .bin .lss 3 (.t 101) (.t 100) 3, none, []⟩] none [1, 98, 99, 100, 101, 102])
 (.seq (.cond [1, 98, 99, 100, 101] (.t 102) .skip (.exit 3))
 k5_json_right))
def l1_json_right : IR := .loop [1, 98, 99, 100, 101] w1_json_right
def j6_json_right : IR :=
 (.seq (.reg 29 [⟨some 2, .assign (.c (Value.bool true)), none, []⟩] none [2])
 .ret)
def k6_json_right : IR := .tail [] j6_json_right
def j7_json_right : IR :=
 (.seq (.seq (.reg 23 [⟨some 98, .faddr 27 (.t 1) 3 3, none, []⟩,
  ⟨some 99, .load 25 none (.t 98), none, []⟩,
  ⟨some 100, .len 25 false (.t 99), none, []⟩,
  ⟨some 101, .move (.c (Value.int IntKind.i64 0)), none, []⟩] none [1, 98, 99, 100, 101])
 (.block 3 l1_json_right))
 k6_json_right)
def k7_json_right : IR := .tail [1] j7_json_right
def b_json_right : IR :=
 (.seq (.reg 0 [⟨some 1, .box 27 (.t 0), none, [0]⟩,
  ⟨some 2, .assign (.c (Value.bool false)), none, [2]⟩] none [1])
 (.seq (.seq (.reg 1 [⟨some 7, .faddr 27 (.t 1) 0 0, none, []⟩,
  ⟨some 8, .load 23 none (.t 7), none, [7]⟩] none [1, 8])
 (.block 0 (.seq (.seq (.reg 3 [⟨some 10, .bin .eql 23 (.t 8) (.c (Value.int IntKind.u8 1)) 23, none, []⟩,
  ⟨some 9, .assign (.t 10), none, [10]⟩] none [1, 8, 9])
 (.cond [1, 8, 9] (.t 9) .skip (.seq (.reg 4 [⟨some 11, .bin .eql 23 (.t 8) (.c (Value.int IntKind.u8 2)) 23, none, []⟩,
  ⟨some 9, .assign (.t 11), none, [11]⟩] none [1, 8, 9])
 (.cond [1, 8, 9] (.t 9) .skip (.reg 5 [⟨some 12, .bin .eql 23 (.t 8) (.c (Value.int IntKind.u8 3)) 23, none, []⟩,
  ⟨some 9, .assign (.t 12), none, [12]⟩] none [1, 8, 9])))))
 k3_json_right)))
 k7_json_right))
def a_json_right : AFunc := ⟨109, [.tmp 2], b_json_right⟩

def j0_json_Check : IR :=
 (.seq (.reg 7 [⟨some 2, .assign (.c (Value.int IntKind.i64 0)), none, []⟩] none [2])
 .ret)
def k0_json_Check : IR := .tail [] j0_json_Check
def b_json_Check : IR :=
 (.seq (.reg 0 [⟨some 1, .box 27 (.t 0), none, [0]⟩,
  ⟨some 2, .assign (.c (Value.int IntKind.i64 0)), none, [2]⟩] none [1])
 (.seq (.block 0 (.seq (.reg 1 [⟨some 4, .load 27 (some 4) (.t 1), none, []⟩,
  ⟨some 5, .call n_json_deep [(.t 4), (.c (Value.int IntKind.i64 256))] [27, 3], none, [4]⟩,
  ⟨some 3, .assign (.t 5), none, [5]⟩] none [1, 3])
 (.cond [1] (.t 3) (.seq (.reg 2 [⟨some 2, .assign (.c (Value.int IntKind.i64 101)), none, []⟩] none [2])
 .ret) (.seq (.reg 3 [⟨some 7, .load 27 (some 4) (.t 1), none, []⟩,
  ⟨some 8, .call n_json_right [(.t 7)] [27], none, [7]⟩,
  ⟨some 9, .un .not 4 (.t 8), none, [8]⟩,
  ⟨some 6, .assign (.t 9), none, [9]⟩] none [1, 6])
 (.cond [1] (.t 6) (.seq (.reg 4 [⟨some 2, .assign (.c (Value.int IntKind.i64 100)), none, []⟩] none [2])
 .ret) (.seq (.reg 5 [⟨some 11, .load 27 (some 4) (.t 1), none, []⟩,
  ⟨some 12, .call n_json_twin [(.t 11)] [27], none, [1, 11]⟩,
  ⟨some 10, .assign (.t 12), none, [12]⟩] none [10])
 (.cond [] (.t 10) (.seq (.reg 6 [⟨some 2, .assign (.c (Value.int IntKind.i64 102)), none, []⟩] none [2])
 .ret) .skip)))))))
 k0_json_Check))
def a_json_Check : AFunc := ⟨13, [.tmp 2], b_json_Check⟩

def j0_utf8_ValidRune : IR :=
 (.seq (.reg 5 [⟨some 2, .assign (.c (Value.bool false)), none, []⟩] none [2])
 .ret)
def k0_utf8_ValidRune : IR := .tail [] j0_utf8_ValidRune
def b_utf8_ValidRune : IR :=
 (.seq (.reg 0 [⟨some 2, .assign (.c (Value.bool false)), none, [2]⟩] none [0])
 (.seq (.block 0 (.seq (.reg 1 [⟨some 4, .move (.t 0), none, []⟩,
  ⟨some 5, .bin .leq 21 (.c (Value.int IntKind.i32 0)) (.t 4) 21, none, [4]⟩,
  ⟨some 6, .move (.t 5), none, [5]⟩,
  ⟨some 7, .move (.t 0), some (2, true), []⟩,
  ⟨some 8, .bin .lss 21 (.t 7) (.c (Value.int IntKind.i32 55296)) 21, some (2, true), [7]⟩,
  ⟨some 9, .pick (.t 6) (.t 8) (.c (Value.bool false)), none, [6, 8]⟩,
  ⟨some 3, .assign (.t 9), none, [9]⟩] none [0, 3])
 (.cond [0] (.t 3) (.seq (.reg 2 [⟨some 2, .assign (.c (Value.bool true)), none, []⟩] none [2])
 .ret) (.seq (.reg 3 [⟨some 11, .move (.t 0), none, []⟩,
  ⟨some 12, .bin .lss 21 (.c (Value.int IntKind.i32 57343)) (.t 11) 21, none, [11]⟩,
  ⟨some 13, .move (.t 12), none, [12]⟩,
  ⟨some 14, .move (.t 0), some (2, true), [0]⟩,
  ⟨some 15, .bin .leq 21 (.t 14) (.c (Value.int IntKind.i32 1114111)) 21, some (2, true), [14]⟩,
  ⟨some 16, .pick (.t 13) (.t 15) (.c (Value.bool false)), none, [13, 15]⟩,
  ⟨some 10, .assign (.t 16), none, [16]⟩] none [10])
 (.cond [] (.t 10) (.seq (.reg 4 [⟨some 2, .assign (.c (Value.bool true)), none, []⟩] none [2])
 .ret) .skip)))))
 k0_utf8_ValidRune))
def a_utf8_ValidRune : AFunc := ⟨17, [.tmp 2], b_utf8_ValidRune⟩

def b_bytealg_Cutover : IR :=
 (.seq (.reg 0 [⟨some 2, .assign (.c (Value.int IntKind.i64 0)), none, [2]⟩] none [0])
 (.seq (.reg 1 [⟨some 3, .move (.t 0), none, [0]⟩,
  ⟨some 4, .bin .add 3 (.t 3) (.c (Value.int IntKind.i64 16)) 3, none, [3]⟩,
  ⟨some 5, .bin .quo 3 (.t 4) (.c (Value.int IntKind.i64 8)) 3, none, [4]⟩,
  ⟨some 2, .assign (.t 5), none, [5]⟩] none [2])
 .ret))
def a_bytealg_Cutover : AFunc := ⟨6, [.tmp 2], b_bytealg_Cutover⟩

-- strings_IndexRune: code Code.goto; code Code.goto; no body: "internal/bytealg.IndexString"
def j0_strings_IndexRune : IR :=
 (.block 10 (.seq (.reg 39 [⟨some 178, .extr (.t 176) 1, none, []⟩,
  ⟨some 179, .extr (.t 176) 2, none, [176]⟩,
  ⟨some 5, .assign (.t 178), none, [178]⟩,
  ⟨some 6, .assign (.t 179), none, [179]⟩] none [5, 6, 175])
 (.seq (.reg 40 [⟨some 180, .move (.t 6), none, [6]⟩,
  ⟨some 181, .bin .eql 21 (.t 180) (.c (Value.int IntKind.i32 65533)) 21, none, [180]⟩] none [5, 175, 181])
 (.cond [5, 175] (.t 181) (.seq (.reg 41 [⟨some 182, .move (.t 5), none, [5]⟩,
  ⟨some 4, .assign (.t 182), none, [182]⟩] none [4])
 .ret) .skip))))
def k0_strings_IndexRune : IR := .tail [175, 176] j0_strings_IndexRune
def w0_strings_IndexRune : IR :=
 (.seq (.reg 38 [⟨some 176, .next (.t 175), none, []⟩,
  ⟨some 177, .extr (.t 176) 0, none, []⟩] none [175, 176, 177])
 (.seq (.cond [175, 176] (.t 177) .skip (.exit 9))
 k0_strings_IndexRune))
def l0_strings_IndexRune : IR := .loop [175] w0_strings_IndexRune
def j1_strings_IndexRune : IR :=
 (.seq (.reg 42 [⟨some 4, .assign (.c (Value.int IntKind.i64 (-1))), none, []⟩] none [4])
 .ret)
def k1_strings_IndexRune : IR := .tail [] j1_strings_IndexRune
def j2_strings_IndexRune : IR :=
 (.reg 10 [⟨some 44, .move (.t 9), none, []⟩,
  ⟨some 45, .move (.t 11), none, [11]⟩,
  ⟨some 46, .bin .add 3 (.t 45) (.c (Value.int IntKind.i64 1)) 3, none, [45]⟩,
  ⟨some 47, .bin .add 3 (.t 44) (.t 46) 3, none, [44, 46]⟩,
  ⟨some 9, .assign (.t 47), none, [47]⟩] none [0, 7, 8, 9])
def k2_strings_IndexRune : IR := .tail [0, 7, 8, 9, 11] j2_strings_IndexRune
def j3_strings_IndexRune : IR :=
 (.reg 13 [⟨some 52, .move (.t 12), none, []⟩,
  ⟨some 53, .bin .add 3 (.t 52) (.c (Value.int IntKind.i64 1)) 3, none, [52]⟩,
  ⟨some 12, .assign (.t 53), none, [53]⟩] none [0, 7, 8, 9, 12])
def k3_strings_IndexRune : IR := .tail [0, 7, 8, 9, 12] j3_strings_IndexRune
def j4_strings_IndexRune : IR :=
 (.seq (.block 4 (.seq (.reg 14 [⟨some 54, .move (.t 0), none, []⟩,
  ⟨some 55, .move (.t 9), none, []⟩,
  ⟨some 56, .move (.t 12), none, []⟩,
  ⟨some 57, .bin .sub 3 (.t 55) (.t 56) 3, none, [55, 56]⟩,
  ⟨some 58, .index 9 .str none (.t 54) (.t 57), none, [54, 57]⟩,
  ⟨some 59, .move (.t 7), none, []⟩,
  ⟨some 60, .move (.t 8), none, []⟩,
  ⟨some 61, .move (.t 12), none, []⟩,
  ⟨some 62, .bin .sub 3 (.t 60) (.t 61) 3, none, [60, 61]⟩,
  ⟨some 63, .index 9 .str none (.t 59) (.t 62), none, [59, 62]⟩,
  ⟨some 64, .bin .neq 5 (.t 58) (.t 63) 5, none, [58, 63]⟩] (some (.cons ⟨0, []⟩ (.cons ⟨1, []⟩ (.cons ⟨2, []⟩ (.cons ⟨3, []⟩ (.cons ⟨4, []⟩ (.cons ⟨5, []⟩ (.cons ⟨6, []⟩ (.cons ⟨7, []⟩ (.cons ⟨8, []⟩ (.cons ⟨9, []⟩ (.cons ⟨10, []⟩ .nil)))))))))))) [0, 7, 8, 9, 12, 64])
 (.cond [0, 7, 8, 9, 12] (.t 64) .other .skip)))
 k3_strings_IndexRune)
def k4_strings_IndexRune : IR := .tail [0, 7, 8, 9, 12] j4_strings_IndexRune
def w2_strings_IndexRune : IR :=
 (.seq (.seq (.reg 12 [⟨some 48, .move (.t 12), none, []⟩,
  ⟨some 49, .move (.t 7), none, []⟩,
  ⟨some 50, .len 9 true (.t 49), none, [49]⟩,
  ⟨some 51, .bin .lss 3 (.t 48) (.t 50) 3, none, [48, 50]⟩] none [0, 7, 8, 9, 12, 51])
 (.cond [0, 7, 8, 9, 12] (.t 51) .skip (.exit 3)))
 k4_strings_IndexRune)
def l2_strings_IndexRune : IR := .loop [0, 7, 8, 9, 12] w2_strings_IndexRune
def j5_strings_IndexRune : IR :=
 (.seq (.seq (.reg 15 [⟨some 65, .move (.t 9), none, [9]⟩,
  ⟨some 66, .move (.t 8), none, [8]⟩,
  ⟨some 67, .bin .sub 3 (.t 65) (.t 66) 3, none, [65, 66]⟩,
  ⟨some 4, .assign (.t 67), none, [67]⟩] none [4])
 .ret)
 (.seq (.label 0)
 (.seq (.reg 16 [⟨some 68, .move (.t 10), none, []⟩,
  ⟨some 69, .bin .add 3 (.t 68) (.c (Value.int IntKind.i64 1)) 3, none, [68]⟩,
  ⟨some 10, .assign (.t 69), none, [69]⟩] none [0, 7, 8, 9, 10])
 (.seq (.reg 17 [⟨some 70, .move (.t 9), none, []⟩,
  ⟨some 71, .bin .add 3 (.t 70) (.c (Value.int IntKind.i64 1)) 3, none, [70]⟩,
  ⟨some 9, .assign (.t 71), none, [71]⟩] none [0, 7, 8, 9, 10])
 (.seq (.reg 18 [⟨some 72, .move (.c (Value.bool true)), none, []⟩,
  ⟨some 73, .move (.t 10), some (0, true), []⟩,
  ⟨some 74, .move (.t 9), some (0, true), []⟩,
  ⟨some 75, .call n_bytealg_Cutover [(.t 74)] [3], some (0, true), [74]⟩,
  ⟨some 76, .bin .gtr 3 (.t 73) (.t 75) 3, some (0, true), [73, 75]⟩,
  ⟨some 77, .pick (.t 72) (.t 76) (.c (Value.bool false)), none, [72, 76]⟩,
  ⟨some 78, .move (.t 77), none, [77]⟩,
  ⟨some 79, .move (.t 9), some (6, true), []⟩,
  ⟨some 80, .move (.t 0), some (6, true), []⟩,
  ⟨some 81, .len 9 true (.t 80), some (6, true), [80]⟩,
  ⟨some 82, .bin .lss 3 (.t 79) (.t 81) 3, some (6, true), [79, 81]⟩,
  ⟨some 83, .pick (.t 78) (.t 82) (.c (Value.bool false)), none, [78, 82]⟩,
  ⟨some 84, .move (.t 83), none, [83]⟩,
  ⟨some 85, .move (.c (Value.bool false)), some (12, false), []⟩,
  ⟨some 86, .move (.t 10), some (13, true), [10]⟩,
  ⟨some 87, .move (.t 9), some (13, true), []⟩,
  ⟨some 88, .bin .shr 3 (.t 87) (.c (Value.int IntKind.u64 4)) 74, some (13, true), [87]⟩,
  ⟨some 89, .bin .add 3 (.c (Value.int IntKind.i64 4)) (.t 88) 3, some (13, true), [88]⟩,
  ⟨some 90, .bin .geq 3 (.t 86) (.t 89) 3, some (13, true), [86, 89]⟩,
  ⟨some 91, .pick (.t 85) (.t 90) (.c (Value.bool false)), some (12, false), [85, 90]⟩,
  ⟨some 92, .move (.t 91), some (12, false), [91]⟩,
  ⟨some 93, .move (.t 9), some (20, true), []⟩,
  ⟨some 94, .move (.t 0), some (20, true), []⟩,
  ⟨some 95, .len 9 true (.t 94), some (20, true), [94]⟩,
  ⟨some 96, .bin .lss 3 (.t 93) (.t 95) 3, some (20, true), [93, 95]⟩,
  ⟨some 97, .pick (.t 92) (.t 96) (.c (Value.bool false)), some (12, false), [92, 96]⟩,
  ⟨some 98, .pick (.t 84) (.c (Value.bool true)) (.t 97), none, [84, 97]⟩] none [0, 7, 8, 9, 98])
 (.cond [0, 7, 8, 9] (.t 98) .other .skip))))))
def k5_strings_IndexRune : IR := .tail [8, 9] j5_strings_IndexRune
def j6_strings_IndexRune : IR :=
 (.seq (.seq (.reg 11 [⟨some 12, .assign (.c (Value.int IntKind.i64 1)), none, []⟩] none [0, 7, 8, 9, 12])
 (.block 3 l2_strings_IndexRune))
 k5_strings_IndexRune)
def k6_strings_IndexRune : IR := .tail [0, 7, 8, 9] j6_strings_IndexRune
def j7_strings_IndexRune : IR :=
 (.block 2 (.scope (.seq (.seq (.reg 6 [⟨some 27, .move (.t 0), none, []⟩,
  ⟨some 28, .move (.t 9), none, []⟩,
  ⟨some 29, .index 9 .str none (.t 27) (.t 28), none, [27, 28]⟩,
  ⟨some 30, .move (.t 7), none, []⟩,
  ⟨some 31, .move (.t 8), none, []⟩,
  ⟨some 32, .index 9 .str none (.t 30) (.t 31), none, [30, 31]⟩,
  ⟨some 33, .bin .neq 5 (.t 29) (.t 32) 5, none, [29, 32]⟩] (some (.cons ⟨0, []⟩ (.cons ⟨1, []⟩ (.cons ⟨2, []⟩ (.cons ⟨3, []⟩ (.cons ⟨4, []⟩ (.cons ⟨5, []⟩ (.cons ⟨6, []⟩ .nil)))))))) [0, 7, 8, 9, 33])
 (.cond [0, 7, 8, 9] (.t 33) (.seq (.reg 7 [⟨some 34, .move (.t 0), none, []⟩,
  ⟨some 35, .move (.t 9), none, []⟩,
  ⟨some 36, .bin .add 3 (.t 35) (.c (Value.int IntKind.i64 1)) 3, none, [35]⟩,
  ⟨some 37, .slice 9 .str (.t 34) (some (.t 36)) none none, none, [34, 36]⟩,
  ⟨some 38, .move (.t 7), none, []⟩,
  ⟨some 39, .move (.t 8), none, []⟩,
  ⟨some 40, .index 9 .str none (.t 38) (.t 39), none, [38, 39]⟩,
  ⟨some 41, .call n_strings_IndexByte [(.t 37), (.t 40)] [9, 5], none, [37, 40]⟩,
  ⟨some 11, .assign (.t 41), none, [41]⟩] (some (.cons ⟨0, []⟩ (.cons ⟨1, []⟩ (.cons ⟨2, []⟩ (.cons ⟨3, []⟩ (.cons ⟨4, []⟩ (.cons ⟨5, []⟩ (.cons ⟨6, []⟩ (.cons ⟨7, []⟩ (.cons ⟨8, []⟩ .nil)))))))))) [0, 7, 8, 9, 11])
 (.seq (.seq (.reg 8 [⟨some 42, .move (.t 11), none, []⟩,
  ⟨some 43, .bin .lss 3 (.t 42) (.c (Value.int IntKind.i64 0)) 3, none, [42]⟩] none [0, 7, 8, 9, 11, 43])
 (.cond [0, 7, 8, 9, 11] (.t 43) (.seq (.reg 9 [⟨some 4, .assign (.c (Value.int IntKind.i64 (-1))), none, []⟩] none [4])
 .ret) .skip))
 k2_strings_IndexRune)) .skip))
 k6_strings_IndexRune)))
def k7_strings_IndexRune : IR := .tail [0, 7, 8, 9] j7_strings_IndexRune
def w1_strings_IndexRune : IR :=
 (.seq (.seq (.reg 5 [⟨some 23, .move (.t 9), none, []⟩,
  ⟨some 24, .move (.t 0), none, []⟩,
  ⟨some 25, .len 9 true (.t 24), none, [24]⟩,
  ⟨some 26, .bin .lss 3 (.t 23) (.t 25) 3, none, [23, 25]⟩] none [0, 7, 8, 9, 26])
 (.cond [0, 7, 8, 9] (.t 26) .skip (.exit 1)))
 k7_strings_IndexRune)
def l1_strings_IndexRune : IR := .loop [0, 7, 8, 9] w1_strings_IndexRune
def j8_strings_IndexRune : IR :=
 (.reg 30 [⟨some 144, .move (.t 16), none, []⟩,
  ⟨some 145, .bin .add 3 (.t 144) (.c (Value.int IntKind.i64 1)) 3, none, [144]⟩,
  ⟨some 16, .assign (.t 145), none, [145]⟩] none [0, 7, 8, 9, 14, 15, 16])
def k8_strings_IndexRune : IR := .tail [0, 7, 8, 9, 14, 15, 16] j8_strings_IndexRune
def j9_strings_IndexRune : IR :=
 (.seq (.block 8 (.seq (.reg 31 [⟨some 146, .move (.t 0), none, []⟩,
  ⟨some 147, .move (.t 9), none, []⟩,
  ⟨some 148, .move (.t 16), none, []⟩,
  ⟨some 149, .bin .sub 3 (.t 147) (.t 148) 3, none, [147, 148]⟩,
  ⟨some 150, .index 9 .str none (.t 146) (.t 149), none, [146, 149]⟩,
  ⟨some 151, .move (.t 7), none, []⟩,
  ⟨some 152, .move (.t 8), none, []⟩,
  ⟨some 153, .move (.t 16), none, []⟩,
  ⟨some 154, .bin .sub 3 (.t 152) (.t 153) 3, none, [152, 153]⟩,
  ⟨some 155, .index 9 .str none (.t 151) (.t 154), none, [151, 154]⟩,
  ⟨some 156, .bin .neq 5 (.t 150) (.t 155) 5, none, [150, 155]⟩] (some (.cons ⟨0, []⟩ (.cons ⟨1, []⟩ (.cons ⟨2, []⟩ (.cons ⟨3, []⟩ (.cons ⟨4, []⟩ (.cons ⟨5, []⟩ (.cons ⟨6, []⟩ (.cons ⟨7, []⟩ (.cons ⟨8, []⟩ (.cons ⟨9, []⟩ (.cons ⟨10, []⟩ .nil)))))))))))) [0, 7, 8, 9, 14, 15, 16, 156])
 (.cond [0, 7, 8, 9, 14, 15, 16] (.t 156) (.exit 6) .skip)))
 k8_strings_IndexRune)
def k9_strings_IndexRune : IR := .tail [0, 7, 8, 9, 14, 15, 16] j9_strings_IndexRune
def w4_strings_IndexRune : IR :=
 (.seq (.seq (.reg 29 [⟨some 140, .move (.t 16), none, []⟩,
  ⟨some 141, .move (.t 7), none, []⟩,
  ⟨some 142, .len 9 true (.t 141), none, [141]⟩,
  ⟨some 143, .bin .lss 3 (.t 140) (.t 142) 3, none, [140, 142]⟩] none [0, 7, 8, 9, 14, 15, 16, 143])
 (.cond [0, 7, 8, 9, 14, 15, 16] (.t 143) .skip (.exit 7)))
 k9_strings_IndexRune)
def l4_strings_IndexRune : IR := .loop [0, 7, 8, 9, 14, 15, 16] w4_strings_IndexRune
def j10_strings_IndexRune : IR :=
 (.seq (.reg 32 [⟨some 157, .move (.t 9), none, [9]⟩,
  ⟨some 158, .move (.t 8), none, [8]⟩,
  ⟨some 159, .bin .sub 3 (.t 157) (.t 158) 3, none, [157, 158]⟩,
  ⟨some 4, .assign (.t 159), none, [159]⟩] none [4])
 .ret)
def k10_strings_IndexRune : IR := .tail [8, 9] j10_strings_IndexRune
def j11_strings_IndexRune : IR :=
 (.reg 26 [⟨some 125, .move (.t 9), none, []⟩,
  ⟨some 126, .bin .add 3 (.t 125) (.c (Value.int IntKind.i64 1)) 3, none, [125]⟩,
  ⟨some 9, .assign (.t 126), none, [126]⟩] none [0, 7, 8, 9, 14, 15])
def k11_strings_IndexRune : IR := .tail [0, 7, 8, 9, 14, 15] j11_strings_IndexRune
def j12_strings_IndexRune : IR :=
 (.seq (.block 6 (.seq (.reg 27 [⟨some 127, .move (.t 0), none, []⟩,
  ⟨some 128, .move (.t 9), none, []⟩,
  ⟨some 129, .index 9 .str none (.t 127) (.t 128), none, [127, 128]⟩,
  ⟨some 130, .move (.t 14), none, []⟩,
  ⟨some 131, .bin .eql 5 (.t 129) (.t 130) 5, none, [129, 130]⟩,
  ⟨some 132, .move (.t 131), none, [131]⟩,
  ⟨some 133, .move (.t 0), some (5, true), []⟩,
  ⟨some 134, .move (.t 9), some (5, true), []⟩,
  ⟨some 135, .bin .sub 3 (.t 134) (.c (Value.int IntKind.i64 1)) 3, some (5, true), [134]⟩,
  ⟨some 136, .index 9 .str none (.t 133) (.t 135), some (5, true), [133, 135]⟩,
  ⟨some 137, .move (.t 15), some (5, true), []⟩,
  ⟨some 138, .bin .eql 5 (.t 136) (.t 137) 5, some (5, true), [136, 137]⟩,
  ⟨some 139, .pick (.t 132) (.t 138) (.c (Value.bool false)), none, [132, 138]⟩] none [0, 7, 8, 9, 14, 15, 139])
 (.cond [0, 7, 8, 9, 14, 15] (.t 139) (.seq (.seq (.reg 28 [⟨some 16, .assign (.c (Value.int IntKind.i64 2)), none, []⟩] none [0, 7, 8, 9, 14, 15, 16])
 (.block 7 l4_strings_IndexRune))
 k10_strings_IndexRune) .skip)))
 k11_strings_IndexRune)
def k12_strings_IndexRune : IR := .tail [0, 7, 8, 9, 14, 15] j12_strings_IndexRune
def w3_strings_IndexRune : IR :=
 (.seq (.seq (.reg 25 [⟨some 121, .move (.t 9), none, []⟩,
  ⟨some 122, .move (.t 0), none, []⟩,
  ⟨some 123, .len 9 true (.t 122), none, [122]⟩,
  ⟨some 124, .bin .lss 3 (.t 121) (.t 123) 3, none, [121, 123]⟩] none [0, 7, 8, 9, 14, 15, 124])
 (.cond [0, 7, 8, 9, 14, 15] (.t 124) .skip (.exit 5)))
 k12_strings_IndexRune)
def l3_strings_IndexRune : IR := .loop [0, 7, 8, 9, 14, 15] w3_strings_IndexRune
def j13_strings_IndexRune : IR :=
 (.seq (.reg 33 [⟨some 4, .assign (.c (Value.int IntKind.i64 (-1))), none, []⟩] none [4])
 .ret)
def k13_strings_IndexRune : IR := .tail [] j13_strings_IndexRune
def j14_strings_IndexRune : IR :=
 (.seq (.seq (.reg 19 [⟨some 4, .assign (.c (Value.int IntKind.i64 (-1))), none, []⟩] none [4])
 .ret)
 (.seq (.label 1)
 (.seq (.cond [0, 1, 7, 8, 9] (.c (Value.bool true)) (.seq (.reg 20 [⟨some 99, .move (.t 0), none, [0]⟩,
  ⟨some 100, .move (.t 9), none, []⟩,
  ⟨some 101, .move (.t 8), none, []⟩,
  ⟨some 102, .bin .sub 3 (.t 100) (.t 101) 3, none, [100, 101]⟩,
  ⟨some 103, .slice 9 .str (.t 99) (some (.t 102)) none none, none, [99, 102]⟩,
  ⟨some 104, .move (.t 1), none, [1]⟩,
  ⟨some 105, .conv 21 9 .rune (.t 104), none, [104]⟩,
  ⟨some 106, .other (Op.call { callee := (Callee.value (Operand.func 79)), args := #[(Operand.tmp 103), (Operand.tmp 105)], argTypes := #[9, 9] }), none, [103, 105]⟩,
  ⟨some 13, .assign (.t 106), none, [106]⟩] none [8, 9, 13])
 (.seq (.reg 21 [⟨some 107, .move (.t 13), none, []⟩,
  ⟨some 108, .bin .geq 3 (.t 107) (.c (Value.int IntKind.i64 0)) 3, none, [107]⟩] none [8, 9, 13, 108])
 (.cond [8, 9, 13] (.t 108) (.seq (.reg 22 [⟨some 109, .move (.t 9), none, [9]⟩,
  ⟨some 110, .move (.t 13), none, [13]⟩,
  ⟨some 111, .bin .add 3 (.t 109) (.t 110) 3, none, [109, 110]⟩,
  ⟨some 112, .move (.t 8), none, [8]⟩,
  ⟨some 113, .bin .sub 3 (.t 111) (.t 112) 3, none, [111, 112]⟩,
  ⟨some 4, .assign (.t 113), none, [113]⟩] none [4])
 .ret) .skip))) (.scope (.seq (.reg 23 [⟨some 114, .move (.t 7), none, []⟩,
  ⟨some 115, .move (.t 8), none, []⟩,
  ⟨some 116, .index 9 .str none (.t 114) (.t 115), none, [114, 115]⟩,
  ⟨some 14, .assign (.t 116), none, [116]⟩] none [0, 7, 8, 9, 14])
 (.seq (.reg 24 [⟨some 117, .move (.t 7), none, []⟩,
  ⟨some 118, .move (.t 8), none, []⟩,
  ⟨some 119, .bin .sub 3 (.t 118) (.c (Value.int IntKind.i64 1)) 3, none, [118]⟩,
  ⟨some 120, .index 9 .str none (.t 117) (.t 119), none, [117, 119]⟩,
  ⟨some 15, .assign (.t 120), none, [120]⟩] none [0, 7, 8, 9, 14, 15])
 (.seq (.label 2)
 (.block 5 l3_strings_IndexRune))))))
 k13_strings_IndexRune)))
def k14_strings_IndexRune : IR := .tail [] j14_strings_IndexRune
def b_strings_IndexRune : IR :=
 (.seq (.reg 0 [⟨some 4, .assign (.c (Value.int IntKind.i64 0)), none, [4]⟩] none [0, 1])
 (.block 0 (.seq (.reg 34 [⟨some 161, .move (.t 1), none, []⟩,
  ⟨some 162, .bin .leq 21 (.c (Value.int IntKind.i32 0)) (.t 161) 21, none, [161]⟩,
  ⟨some 163, .move (.t 162), none, [162]⟩,
  ⟨some 164, .move (.t 1), some (2, true), []⟩,
  ⟨some 165, .bin .lss 21 (.t 164) (.c (Value.int IntKind.i32 128)) 21, some (2, true), [164]⟩,
  ⟨some 166, .pick (.t 163) (.t 165) (.c (Value.bool false)), none, [163, 165]⟩,
  ⟨some 160, .assign (.t 166), none, [166]⟩] none [0, 1, 160])
 (.cond [0, 1] (.t 160) (.seq (.reg 35 [⟨some 167, .move (.t 0), none, [0]⟩,
  ⟨some 168, .move (.t 1), none, [1]⟩,
  ⟨some 169, .conv 21 5 (.int .u8) (.t 168), none, [168]⟩,
  ⟨some 170, .call n_strings_IndexByte [(.t 167), (.t 169)] [9, 5], none, [167, 169]⟩,
  ⟨some 4, .assign (.t 170), none, [170]⟩] none [4])
 .ret) (.seq (.reg 36 [⟨some 172, .move (.t 1), none, []⟩,
  ⟨some 173, .bin .eql 21 (.t 172) (.c (Value.int IntKind.i32 65533)) 21, none, [172]⟩,
  ⟨some 171, .assign (.t 173), none, [173]⟩] none [0, 1, 171])
 (.cond [0, 1] (.t 171) (.seq (.seq (.reg 37 [⟨some 174, .move (.t 0), none, [0]⟩,
  ⟨some 175, .range 9 (.t 174), none, [174]⟩] none [175])
 (.block 9 l0_strings_IndexRune))
 k1_strings_IndexRune) (.seq (.reg 43 [⟨some 184, .move (.t 1), none, []⟩,
  ⟨some 185, .call n_utf8_ValidRune [(.t 184)] [21], none, [184]⟩,
  ⟨some 186, .un .not 4 (.t 185), none, [185]⟩,
  ⟨some 183, .assign (.t 186), none, [186]⟩] none [0, 1, 183])
 (.cond [0, 1] (.t 183) (.seq (.reg 44 [⟨some 4, .assign (.c (Value.int IntKind.i64 (-1))), none, []⟩] none [4])
 .ret) (.scope (.seq (.reg 1 [⟨some 17, .move (.t 1), none, [1]⟩,
  ⟨some 18, .conv 21 9 .rune (.t 17), none, [17]⟩,
  ⟨some 7, .assign (.t 18), none, [18]⟩] none [0, 7])
 (.seq (.reg 2 [⟨some 19, .move (.t 7), none, []⟩,
  ⟨some 20, .len 9 true (.t 19), none, [19]⟩,
  ⟨some 21, .bin .sub 3 (.t 20) (.c (Value.int IntKind.i64 1)) 3, none, [20]⟩,
  ⟨some 8, .assign (.t 21), none, [21]⟩] none [0, 7, 8])
 (.seq (.reg 3 [⟨some 22, .move (.t 8), none, []⟩,
  ⟨some 9, .assign (.t 22), none, [22]⟩] none [0, 7, 8, 9])
 (.seq (.reg 4 [⟨some 10, .assign (.c (Value.int IntKind.i64 0)), none, [10]⟩] none [0, 7, 8, 9])
 (.seq (.block 1 l1_strings_IndexRune)
 k14_strings_IndexRune))))))))))))))
def a_strings_IndexRune : AFunc := ⟨187, [.tmp 4], b_strings_IndexRune⟩

def j0_utf8_appendRuneNonASCII : IR :=
 (.cond [0, 1, 5, 100000] (.t 25) (.seq (.reg 7 [⟨some 34, .move (.t 0), none, []⟩,
  ⟨some 35, .move (.t 1), none, []⟩,
  ⟨some 36, .bin .shr 21 (.t 35) (.c (Value.int IntKind.u64 12)) 74, none, [35]⟩,
  ⟨some 37, .conv 21 5 (.int .u8) (.t 36), none, [36]⟩,
  ⟨some 38, .bin .or 5 (.c (Value.int IntKind.u8 224)) (.t 37) 5, none, [37]⟩,
  ⟨some 39, .move (.t 1), none, []⟩,
  ⟨some 40, .bin .shr 21 (.t 39) (.c (Value.int IntKind.u64 6)) 74, none, [39]⟩,
  ⟨some 41, .conv 21 5 (.int .u8) (.t 40), none, [40]⟩,
  ⟨some 42, .bin .and 5 (.t 41) (.c (Value.int IntKind.u8 63)) 5, none, [41]⟩,
  ⟨some 43, .bin .or 5 (.c (Value.int IntKind.u8 128)) (.t 42) 5, none, [42]⟩,
  ⟨some 44, .move (.t 1), none, [1]⟩,
  ⟨some 45, .conv 21 5 (.int .u8) (.t 44), none, [44]⟩,
  ⟨some 46, .bin .and 5 (.t 45) (.c (Value.int IntKind.u8 63)) 5, none, [45]⟩,
  ⟨some 47, .bin .or 5 (.c (Value.int IntKind.u8 128)) (.t 46) 5, none, [46]⟩,
  ⟨some 48, .lit 22 1 [(.t 38), (.t 43), (.t 47)], none, [38, 43, 47]⟩,
  ⟨some 49, .append 22 22 false 1 1 (.t 34) (.t 48), none, [0, 34, 48]⟩,
  ⟨some 4, .assign (.t 49), none, []⟩] none [4, 10, 24, 49, 77, 100000])
 .ret) (.seq (.reg 8 [⟨some 51, .move (.t 5), none, []⟩,
  ⟨some 52, .bin .gtr 92 (.t 51) (.c (Value.int IntKind.u32 65535)) 92, none, [51]⟩,
  ⟨some 53, .move (.t 52), none, [52]⟩,
  ⟨some 54, .move (.t 5), some (2, true), [5]⟩,
  ⟨some 55, .bin .leq 92 (.t 54) (.c (Value.int IntKind.u32 1114111)) 92, some (2, true), [54]⟩,
  ⟨some 56, .pick (.t 53) (.t 55) (.c (Value.bool false)), none, [53, 55]⟩,
  ⟨some 50, .assign (.t 56), none, [56]⟩] none [0, 1, 50, 100000])
 (.cond [0, 1, 100000] (.t 50) (.seq (.reg 9 [⟨some 57, .move (.t 0), none, []⟩,
  ⟨some 58, .move (.t 1), none, []⟩,
  ⟨some 59, .bin .shr 21 (.t 58) (.c (Value.int IntKind.u64 18)) 74, none, [58]⟩,
  ⟨some 60, .conv 21 5 (.int .u8) (.t 59), none, [59]⟩,
  ⟨some 61, .bin .or 5 (.c (Value.int IntKind.u8 240)) (.t 60) 5, none, [60]⟩,
  ⟨some 62, .move (.t 1), none, []⟩,
  ⟨some 63, .bin .shr 21 (.t 62) (.c (Value.int IntKind.u64 12)) 74, none, [62]⟩,
  ⟨some 64, .conv 21 5 (.int .u8) (.t 63), none, [63]⟩,
  ⟨some 65, .bin .and 5 (.t 64) (.c (Value.int IntKind.u8 63)) 5, none, [64]⟩,
  ⟨some 66, .bin .or 5 (.c (Value.int IntKind.u8 128)) (.t 65) 5, none, [65]⟩,
  ⟨some 67, .move (.t 1), none, []⟩,
  ⟨some 68, .bin .shr 21 (.t 67) (.c (Value.int IntKind.u64 6)) 74, none, [67]⟩,
  ⟨some 69, .conv 21 5 (.int .u8) (.t 68), none, [68]⟩,
  ⟨some 70, .bin .and 5 (.t 69) (.c (Value.int IntKind.u8 63)) 5, none, [69]⟩,
  ⟨some 71, .bin .or 5 (.c (Value.int IntKind.u8 128)) (.t 70) 5, none, [70]⟩,
  ⟨some 72, .move (.t 1), none, [1]⟩,
  ⟨some 73, .conv 21 5 (.int .u8) (.t 72), none, [72]⟩,
  ⟨some 74, .bin .and 5 (.t 73) (.c (Value.int IntKind.u8 63)) 5, none, [73]⟩,
  ⟨some 75, .bin .or 5 (.c (Value.int IntKind.u8 128)) (.t 74) 5, none, [74]⟩,
  ⟨some 76, .lit 22 1 [(.t 61), (.t 66), (.t 71), (.t 75)], none, [61, 66, 71, 75]⟩,
  ⟨some 77, .append 22 22 false 1 1 (.t 57) (.t 76), none, [0, 57, 76]⟩,
  ⟨some 4, .assign (.t 77), none, []⟩] none [4, 10, 24, 49, 77, 100000])
 .ret) (.seq (.reg 2 [⟨some 8, .move (.t 0), none, []⟩,
  ⟨some 9, .lit 22 1 [(.c (Value.int IntKind.u8 239)), (.c (Value.int IntKind.u8 191)), (.c (Value.int IntKind.u8 189))], none, []⟩,
  ⟨some 10, .append 22 22 false 1 1 (.t 8) (.t 9), none, [0, 8, 9]⟩,
  ⟨some 4, .assign (.t 10), none, []⟩] none [4, 10, 24, 49, 77, 100000])
 .ret))))
def k0_utf8_appendRuneNonASCII : IR := .tail [0, 1, 5, 25, 100000] j0_utf8_appendRuneNonASCII
def b_utf8_appendRuneNonASCII : IR :=
 (.seq (.reg 0 [⟨some 4, .assign (.nilS 1), none, [4]⟩] none [0, 1, 100000])
 (.seq (.reg 1 [⟨some 6, .move (.t 1), none, []⟩,
  ⟨some 7, .conv 21 92 (.int .u32) (.t 6), none, [6]⟩,
  ⟨some 5, .assign (.t 7), none, [7]⟩] none [0, 1, 5, 100000])
 (.block 0 (.seq (.reg 3 [⟨some 12, .move (.t 5), none, []⟩,
  ⟨some 13, .bin .leq 92 (.t 12) (.c (Value.int IntKind.u32 2047)) 92, none, [12]⟩,
  ⟨some 11, .assign (.t 13), none, [13]⟩] none [0, 1, 5, 11, 100000])
 (.cond [0, 1, 5, 100000] (.t 11) (.seq (.reg 4 [⟨some 14, .move (.t 0), none, []⟩,
  ⟨some 15, .move (.t 1), none, []⟩,
  ⟨some 16, .bin .shr 21 (.t 15) (.c (Value.int IntKind.u64 6)) 74, none, [15]⟩,
  ⟨some 17, .conv 21 5 (.int .u8) (.t 16), none, [16]⟩,
  ⟨some 18, .bin .or 5 (.c (Value.int IntKind.u8 192)) (.t 17) 5, none, [17]⟩,
  ⟨some 19, .move (.t 1), none, [1]⟩,
  ⟨some 20, .conv 21 5 (.int .u8) (.t 19), none, [19]⟩,
  ⟨some 21, .bin .and 5 (.t 20) (.c (Value.int IntKind.u8 63)) 5, none, [20]⟩,
  ⟨some 22, .bin .or 5 (.c (Value.int IntKind.u8 128)) (.t 21) 5, none, [21]⟩,
  ⟨some 23, .lit 22 1 [(.t 18), (.t 22)], none, [18, 22]⟩,
  ⟨some 24, .append 22 22 false 1 1 (.t 14) (.t 23), none, [0, 14, 23]⟩,
  ⟨some 4, .assign (.t 24), none, []⟩] none [4, 10, 24, 49, 77, 100000])
 .ret) (.seq (.seq (.reg 5 [⟨some 26, .move (.t 5), none, []⟩,
  ⟨some 27, .bin .lss 92 (.t 26) (.c (Value.int IntKind.u32 55296)) 92, none, [26]⟩,
  ⟨some 25, .assign (.t 27), none, [27]⟩] none [0, 1, 5, 25, 100000])
 (.cond [0, 1, 5, 25, 100000] (.t 25) .skip (.reg 6 [⟨some 28, .move (.t 5), none, []⟩,
  ⟨some 29, .bin .lss 92 (.c (Value.int IntKind.u32 57343)) (.t 28) 92, none, [28]⟩,
  ⟨some 30, .move (.t 29), none, [29]⟩,
  ⟨some 31, .move (.t 5), some (2, true), []⟩,
  ⟨some 32, .bin .leq 92 (.t 31) (.c (Value.int IntKind.u32 65535)) 92, some (2, true), [31]⟩,
  ⟨some 33, .pick (.t 30) (.t 32) (.c (Value.bool false)), none, [30, 32]⟩,
  ⟨some 25, .assign (.t 33), none, [33]⟩] none [0, 1, 5, 25, 100000])))
 k0_utf8_appendRuneNonASCII))))))
def a_utf8_appendRuneNonASCII : AFunc := ⟨78, [.tmp 4], b_utf8_appendRuneNonASCII⟩

def j0_utf8_AppendRune : IR :=
 (.seq (.reg 3 [⟨some 13, .move (.t 0), none, []⟩,
  ⟨some 14, .move (.t 1), none, [1]⟩,
  ⟨some 15, .call n_utf8_appendRuneNonASCII [(.t 13), (.t 14)] [22, 21], none, [0, 13, 14]⟩,
  ⟨some 4, .assign (.t 15), none, []⟩] none [4, 12, 15, 100000])
 .ret)
def k0_utf8_AppendRune : IR := .tail [0, 1, 100000] j0_utf8_AppendRune
def b_utf8_AppendRune : IR :=
 (.seq (.reg 0 [⟨some 4, .assign (.nilS 1), none, [4]⟩] none [0, 1, 100000])
 (.seq (.seq (.reg 1 [⟨some 5, .move (.t 1), none, []⟩,
  ⟨some 6, .conv 21 92 (.int .u32) (.t 5), none, [5]⟩,
  ⟨some 7, .bin .leq 92 (.t 6) (.c (Value.int IntKind.u32 127)) 92, none, [6]⟩] none [0, 1, 7, 100000])
 (.cond [0, 1, 100000] (.t 7) (.seq (.reg 2 [⟨some 8, .move (.t 0), none, []⟩,
  ⟨some 9, .move (.t 1), none, [1]⟩,
  ⟨some 10, .conv 21 5 (.int .u8) (.t 9), none, [9]⟩,
  ⟨some 11, .lit 22 1 [(.t 10)], none, [10]⟩,
  ⟨some 12, .append 22 22 false 1 1 (.t 8) (.t 11), none, [0, 8, 11]⟩,
  ⟨some 4, .assign (.t 12), none, []⟩] none [4, 12, 15, 100000])
 .ret) .skip))
 k0_utf8_AppendRune))
def a_utf8_AppendRune : AFunc := ⟨16, [.tmp 4], b_utf8_AppendRune⟩

def j0_json_quoted : IR :=
 (.block 1 (.seq (.reg 4 [⟨some 15, .extr (.t 13) 2, none, [13]⟩,
  ⟨some 6, .assign (.t 15), none, [15]⟩] none [0, 6, 10, 12, 20, 32, 44, 100000])
 (.seq (.reg 5 [⟨some 16, .move (.t 6), none, []⟩,
  ⟨some 17, .call n_strings_IndexRune [(.c (Value.string { data := #[34, 92, 47, 8, 12, 10, 13, 9] })), (.t 16)] [9, 21], none, [16]⟩,
  ⟨some 7, .assign (.t 17), none, [17]⟩] none [0, 6, 7, 10, 12, 20, 32, 44, 100000])
 (.block 2 (.seq (.reg 7 [⟨some 22, .move (.t 6), none, []⟩,
  ⟨some 23, .bin .neq 21 (.t 22) (.c (Value.int IntKind.i32 47)) 21, none, [22]⟩,
  ⟨some 24, .move (.t 23), none, [23]⟩,
  ⟨some 25, .move (.t 7), some (2, true), []⟩,
  ⟨some 26, .bin .geq 3 (.t 25) (.c (Value.int IntKind.i64 0)) 3, some (2, true), [25]⟩,
  ⟨some 27, .pick (.t 24) (.t 26) (.c (Value.bool false)), none, [24, 26]⟩,
  ⟨some 21, .assign (.t 27), none, [27]⟩] none [0, 6, 7, 10, 12, 20, 21, 32, 44, 100000])
 (.cond [0, 6, 7, 10, 12, 20, 32, 44, 100000] (.t 21) (.reg 8 [⟨some 28, .move (.t 0), none, []⟩,
  ⟨some 29, .move (.t 7), none, [7]⟩,
  ⟨some 30, .index 9 .str none (.c (Value.string { data := #[34, 92, 47, 98, 102, 110, 114, 116] })) (.t 29), none, [29]⟩,
  ⟨some 31, .lit 22 1 [(.c (Value.int IntKind.u8 92)), (.t 30)], none, [30]⟩,
  ⟨some 32, .append 22 22 false 1 1 (.t 28) (.t 31), none, [28, 31]⟩,
  ⟨some 0, .assign (.t 32), none, []⟩] none [0, 10, 12, 20, 32, 44, 100000]) (.seq (.reg 9 [⟨some 34, .move (.t 6), none, []⟩,
  ⟨some 35, .bin .lss 21 (.t 34) (.c (Value.int IntKind.i32 32)) 21, none, [34]⟩,
  ⟨some 33, .assign (.t 35), none, [35]⟩] none [0, 6, 10, 12, 20, 32, 33, 44, 100000])
 (.cond [0, 6, 10, 12, 20, 32, 44, 100000] (.t 33) (.reg 10 [⟨some 36, .move (.t 0), none, []⟩,
  ⟨some 37, .move (.t 6), none, []⟩,
  ⟨some 38, .bin .shr 21 (.t 37) (.c (Value.int IntKind.u64 4)) 74, none, [37]⟩,
  ⟨some 39, .index 9 .str none (.c (Value.string { data := #[48, 49, 50, 51, 52, 53, 54, 55, 56, 57, 97, 98, 99, 100, 101, 102] })) (.t 38), none, [38]⟩,
  ⟨some 40, .move (.t 6), none, [6]⟩,
  ⟨some 41, .bin .and 21 (.t 40) (.c (Value.int IntKind.i32 15)) 21, none, [40]⟩,
  ⟨some 42, .index 9 .str none (.c (Value.string { data := #[48, 49, 50, 51, 52, 53, 54, 55, 56, 57, 97, 98, 99, 100, 101, 102] })) (.t 41), none, [41]⟩,
  ⟨some 43, .lit 22 1 [(.c (Value.int IntKind.u8 92)), (.c (Value.int IntKind.u8 117)), (.c (Value.int IntKind.u8 48)), (.c (Value.int IntKind.u8 48)), (.t 39), (.t 42)], none, [39, 42]⟩,
  ⟨some 44, .append 22 22 false 1 1 (.t 36) (.t 43), none, [36, 43]⟩,
  ⟨some 0, .assign (.t 44), none, []⟩] (some (.cons ⟨0, []⟩ (.cons ⟨1, []⟩ (.cons ⟨2, []⟩ (.cons ⟨3, []⟩ (.cons ⟨4, []⟩ (.cons ⟨5, []⟩ (.cons ⟨6, []⟩ (.cons ⟨7, []⟩ (.cons ⟨8, []⟩ (.cons ⟨9, []⟩ .nil))))))))))) [0, 10, 12, 20, 32, 44, 100000]) (.reg 6 [⟨some 18, .move (.t 0), none, []⟩,
  ⟨some 19, .move (.t 6), none, [6]⟩,
  ⟨some 20, .call n_utf8_AppendRune [(.t 18), (.t 19)] [22, 21], none, [18, 19]⟩,
  ⟨some 0, .assign (.t 20), none, []⟩] none [0, 10, 12, 20, 32, 44, 100000])))))))))
def k0_json_quoted : IR := .tail [0, 10, 12, 13, 20, 32, 44, 100000] j0_json_quoted
def w0_json_quoted : IR :=
 (.seq (.reg 3 [⟨some 13, .next (.t 12), none, []⟩,
  ⟨some 14, .extr (.t 13) 0, none, []⟩] none [0, 10, 12, 13, 14, 20, 32, 44, 100000])
 (.seq (.cond [0, 10, 12, 13, 20, 32, 44, 100000] (.t 14) .skip (.exit 0))
 k0_json_quoted))
def l0_json_quoted : IR := .loop [0, 10, 12, 20, 32, 44, 100000] w0_json_quoted
def j1_json_quoted : IR :=
 (.seq (.reg 11 [⟨some 45, .move (.t 0), none, []⟩,
  ⟨some 46, .lit 22 1 [(.c (Value.int IntKind.u8 34))], none, []⟩,
  ⟨some 47, .append 22 22 false 1 1 (.t 45) (.t 46), none, [0, 10, 20, 32, 44, 45, 46]⟩,
  ⟨some 4, .assign (.t 47), none, []⟩] none [4, 47, 100000])
 .ret)
def k1_json_quoted : IR := .tail [0, 10, 20, 32, 44, 100000] j1_json_quoted
def b_json_quoted : IR :=
 (.seq (.reg 0 [⟨some 4, .assign (.nilS 1), none, [4]⟩] none [0, 1, 10, 20, 32, 44, 100000])
 (.seq (.reg 1 [⟨some 8, .move (.t 0), none, []⟩,
  ⟨some 9, .lit 22 1 [(.c (Value.int IntKind.u8 34))], none, []⟩,
  ⟨some 10, .append 22 22 false 1 1 (.t 8) (.t 9), none, [8, 9]⟩,
  ⟨some 0, .assign (.t 10), none, []⟩] none [0, 1, 10, 20, 32, 44, 100000])
 (.seq (.seq (.reg 2 [⟨some 11, .move (.t 1), none, [1]⟩,
  ⟨some 12, .range 9 (.t 11), none, [11]⟩] none [0, 10, 12, 20, 32, 44, 100000])
 (.block 0 l0_json_quoted))
 k1_json_quoted)))
def a_json_quoted : AFunc := ⟨48, [.tmp 4], b_json_quoted⟩

def j0_json_write : IR :=
 (.reg 23 [⟨some 67, .move (.t 0), none, []⟩,
  ⟨some 68, .load 27 (some 4) (.t 7), none, []⟩,
  ⟨some 69, .call n_json_write [(.t 67), (.t 68)] [22, 27], none, [7, 67, 68]⟩,
  ⟨some 0, .assign (.t 69), none, []⟩] none [0, 3, 5, 41, 42, 43, 44, 45, 54, 66, 69, 100000])
def k0_json_write : IR := .tail [0, 3, 5, 7, 41, 42, 43, 44, 45, 54, 66, 69, 100000] j0_json_write
def j1_json_write : IR :=
 (.seq (.seq (.reg 21 [⟨some 55, .faddr 27 (.t 3) 0 0, none, []⟩,
  ⟨some 56, .load 23 none (.t 55), none, [55]⟩,
  ⟨some 57, .bin .eql 23 (.t 56) (.c (Value.int IntKind.u8 7)) 23, none, [56]⟩] none [0, 3, 5, 6, 7, 41, 42, 43, 44, 45, 54, 57, 66, 69, 100000])
 (.cond [0, 3, 5, 6, 7, 41, 42, 43, 44, 45, 54, 66, 69, 100000] (.t 57) (.reg 22 [⟨some 58, .move (.t 0), none, []⟩,
  ⟨some 59, .faddr 27 (.t 3) 2 2, none, []⟩,
  ⟨some 60, .load 24 none (.t 59), none, []⟩,
  ⟨some 61, .move (.t 6), none, [6]⟩,
  ⟨some 62, .iaddr 24 (.sl 1) (.t 60) (.t 61), none, []⟩,
  ⟨some 63, .load 9 none (.t 62), none, [59, 60, 61, 62]⟩,
  ⟨some 64, .call n_json_quoted [(.t 58), (.t 63)] [22, 9], none, [58, 63]⟩,
  ⟨some 65, .lit 22 1 [(.c (Value.int IntKind.u8 58))], none, []⟩,
  ⟨some 66, .append 22 22 false 1 1 (.t 64) (.t 65), none, [64, 65]⟩,
  ⟨some 0, .assign (.t 66), none, []⟩] none [0, 3, 5, 7, 41, 42, 43, 44, 45, 54, 66, 69, 100000]) .skip))
 k0_json_write)
def k1_json_write : IR := .tail [0, 3, 5, 6, 7, 41, 42, 43, 44, 45, 54, 66, 69, 100000] j1_json_write
def j2_json_write : IR :=
 (.reg 24 [⟨some 70, .bin .add 3 (.t 45) (.c (Value.int IntKind.i64 1)) 3, none, []⟩,
  ⟨some 45, .move (.t 70), none, [70]⟩] none [0, 3, 5, 41, 42, 43, 44, 45, 54, 66, 69, 100000])
def k2_json_write : IR := .tail [0, 3, 5, 41, 42, 43, 44, 45, 54, 66, 69, 100000] j2_json_write
def j3_json_write : IR :=
 (.seq (.block 2 (.seq (.reg 18 [⟨some 47, .move (.t 45), none, []⟩,
  ⟨some 48, .iaddr 25 (.sl 4) (.t 43) (.t 45), none, []⟩,
  ⟨some 49, .load 27 (some 4) (.t 48), none, []⟩,
  ⟨some 7, .alloc 27 [.v (.int .u8 0), .v (.string ⟨#[]⟩), .nil 1, .nil 4], none, []⟩,
  ⟨some 6, .assign (.t 47), none, [47]⟩,
  ⟨none, .store 27 (some 4) (.t 7) (.t 49), none, [48, 49]⟩] none [0, 3, 5, 6, 7, 41, 42, 43, 44, 45, 54, 66, 69, 100000])
 (.seq (.seq (.reg 19 [⟨some 50, .move (.t 6), none, []⟩,
  ⟨some 51, .bin .gtr 3 (.t 50) (.c (Value.int IntKind.i64 0)) 3, none, [50]⟩] none [0, 3, 5, 6, 7, 41, 42, 43, 44, 45, 51, 54, 66, 69, 100000])
 (.cond [0, 3, 5, 6, 7, 41, 42, 43, 44, 45, 54, 66, 69, 100000] (.t 51) (.reg 20 [⟨some 52, .move (.t 0), none, []⟩,
  ⟨some 53, .lit 22 1 [(.c (Value.int IntKind.u8 44))], none, []⟩,
  ⟨some 54, .append 22 22 false 1 1 (.t 52) (.t 53), none, [52, 53]⟩,
  ⟨some 0, .assign (.t 54), none, []⟩] none [0, 3, 5, 6, 7, 41, 42, 43, 44, 45, 54, 66, 69, 100000]) .skip))
 k1_json_write)))
 k2_json_write)
def k3_json_write : IR := .tail [0, 3, 5, 41, 42, 43, 44, 45, 54, 66, 69, 100000] j3_json_write
def w0_json_write : IR :=
 (.seq (.reg 17 [⟨some 46, .bin .lss 3 (.t 45) (.t 44) 3, none, []⟩] none [0, 3, 5, 41, 42, 43, 44, 45, 46, 54, 66, 69, 100000])
 (.seq (.cond [0, 3, 5, 41, 42, 43, 44, 45, 54, 66, 69, 100000] (.t 46) .skip (.exit 1))
 k3_json_write))
def l0_json_write : IR := .loop [0, 3, 5, 41, 42, 43, 44, 45, 54, 66, 69, 100000] w0_json_write
def j4_json_write : IR :=
 (.seq (.reg 25 [⟨some 71, .move (.t 0), none, []⟩,
  ⟨some 72, .move (.t 5), none, [5]⟩,
  ⟨some 73, .index 9 .str none (.t 72) (.c (Value.int IntKind.i64 1)), none, [72]⟩,
  ⟨some 74, .lit 22 1 [(.t 73)], none, [73]⟩,
  ⟨some 75, .append 22 22 false 1 1 (.t 71) (.t 74), none, [0, 41, 54, 66, 69, 71, 74]⟩,
  ⟨some 4, .assign (.t 75), none, []⟩] none [4, 13, 17, 21, 27, 33, 75, 100000])
 .ret)
def k4_json_write : IR := .tail [0, 5, 41, 54, 66, 69, 100000] j4_json_write
def j5_json_write : IR :=
 (.seq (.reg 15 [⟨some 37, .move (.t 0), none, []⟩,
  ⟨some 38, .move (.t 5), none, []⟩,
  ⟨some 39, .index 9 .str none (.t 38) (.c (Value.int IntKind.i64 0)), none, [38]⟩,
  ⟨some 40, .lit 22 1 [(.t 39)], none, [39]⟩,
  ⟨some 41, .append 22 22 false 1 1 (.t 37) (.t 40), none, [37, 40]⟩,
  ⟨some 0, .assign (.t 41), none, []⟩] none [0, 3, 5, 41, 54, 66, 69, 100000])
 (.seq (.seq (.reg 16 [⟨some 42, .faddr 27 (.t 3) 3 3, none, []⟩,
  ⟨some 43, .load 25 none (.t 42), none, []⟩,
  ⟨some 44, .len 25 false (.t 43), none, []⟩,
  ⟨some 45, .move (.c (Value.int IntKind.i64 0)), none, []⟩] none [0, 3, 5, 41, 42, 43, 44, 45, 54, 66, 69, 100000])
 (.block 1 l0_json_write))
 k4_json_write))
def k5_json_write : IR := .tail [0, 3, 5, 41, 54, 66, 69, 100000] j5_json_write
def j6_json_write : IR :=
 (.seq (.reg 12 [⟨some 5, .assign (.c (Value.string { data := #[91, 93] })), none, []⟩] none [0, 3, 5, 41, 54, 66, 69, 100000])
 (.seq (.seq (.reg 13 [⟨some 34, .faddr 27 (.t 3) 0 0, none, []⟩,
  ⟨some 35, .load 23 none (.t 34), none, [34]⟩,
  ⟨some 36, .bin .eql 23 (.t 35) (.c (Value.int IntKind.u8 7)) 23, none, [35]⟩] none [0, 3, 5, 36, 41, 54, 66, 69, 100000])
 (.cond [0, 3, 5, 41, 54, 66, 69, 100000] (.t 36) (.reg 14 [⟨some 5, .assign (.c (Value.string { data := #[123, 125] })), none, []⟩] none [0, 3, 5, 41, 54, 66, 69, 100000]) .skip))
 k5_json_write))
def k6_json_write : IR := .tail [0, 3, 41, 54, 66, 69, 100000] j6_json_write
def b_json_write : IR :=
 (.seq (.reg 0 [⟨some 3, .box 27 (.t 1), none, [1]⟩,
  ⟨some 4, .assign (.nilS 1), none, [4]⟩] none [0, 3, 41, 54, 66, 69, 100000])
 (.seq (.seq (.reg 1 [⟨some 8, .faddr 27 (.t 3) 0 0, none, []⟩,
  ⟨some 9, .load 23 none (.t 8), none, [8]⟩] none [0, 3, 9, 41, 54, 66, 69, 100000])
 (.block 0 (.seq (.reg 2 [⟨some 11, .bin .eql 23 (.t 9) (.c (Value.int IntKind.u8 1)) 23, none, []⟩,
  ⟨some 10, .assign (.t 11), none, [11]⟩] none [0, 3, 9, 10, 41, 54, 66, 69, 100000])
 (.cond [0, 3, 9, 41, 54, 66, 69, 100000] (.t 10) (.seq (.reg 3 [⟨some 12, .move (.t 0), none, []⟩,
  ⟨some 13, .append 22 9 true 1 1 (.t 12) (.c (Value.string { data := #[110, 117, 108, 108] })), none, [0, 12, 41, 54, 66, 69]⟩,
  ⟨some 4, .assign (.t 13), none, []⟩] none [4, 13, 17, 21, 27, 33, 75, 100000])
 .ret) (.seq (.reg 4 [⟨some 15, .bin .eql 23 (.t 9) (.c (Value.int IntKind.u8 2)) 23, none, []⟩,
  ⟨some 14, .assign (.t 15), none, [15]⟩] none [0, 3, 9, 14, 41, 54, 66, 69, 100000])
 (.cond [0, 3, 9, 41, 54, 66, 69, 100000] (.t 14) (.seq (.reg 5 [⟨some 16, .move (.t 0), none, []⟩,
  ⟨some 17, .append 22 9 true 1 1 (.t 16) (.c (Value.string { data := #[102, 97, 108, 115, 101] })), none, [0, 16, 41, 54, 66, 69]⟩,
  ⟨some 4, .assign (.t 17), none, []⟩] none [4, 13, 17, 21, 27, 33, 75, 100000])
 .ret) (.seq (.reg 6 [⟨some 19, .bin .eql 23 (.t 9) (.c (Value.int IntKind.u8 3)) 23, none, []⟩,
  ⟨some 18, .assign (.t 19), none, [19]⟩] none [0, 3, 9, 18, 41, 54, 66, 69, 100000])
 (.cond [0, 3, 9, 41, 54, 66, 69, 100000] (.t 18) (.seq (.reg 7 [⟨some 20, .move (.t 0), none, []⟩,
  ⟨some 21, .append 22 9 true 1 1 (.t 20) (.c (Value.string { data := #[116, 114, 117, 101] })), none, [0, 20, 41, 54, 66, 69]⟩,
  ⟨some 4, .assign (.t 21), none, []⟩] none [4, 13, 17, 21, 27, 33, 75, 100000])
 .ret) (.seq (.reg 8 [⟨some 23, .bin .eql 23 (.t 9) (.c (Value.int IntKind.u8 4)) 23, none, []⟩,
  ⟨some 22, .assign (.t 23), none, [23]⟩] none [0, 3, 9, 22, 41, 54, 66, 69, 100000])
 (.cond [0, 3, 9, 41, 54, 66, 69, 100000] (.t 22) (.seq (.reg 9 [⟨some 24, .move (.t 0), none, []⟩,
  ⟨some 25, .faddr 27 (.t 3) 1 1, none, []⟩,
  ⟨some 26, .load 9 none (.t 25), none, [3, 25]⟩,
  ⟨some 27, .append 22 9 true 1 1 (.t 24) (.t 26), none, [0, 24, 26, 41, 54, 66, 69]⟩,
  ⟨some 4, .assign (.t 27), none, []⟩] none [4, 13, 17, 21, 27, 33, 75, 100000])
 .ret) (.seq (.reg 10 [⟨some 29, .bin .eql 23 (.t 9) (.c (Value.int IntKind.u8 5)) 23, none, [9]⟩,
  ⟨some 28, .assign (.t 29), none, [29]⟩] none [0, 3, 28, 41, 54, 66, 69, 100000])
 (.cond [0, 3, 41, 54, 66, 69, 100000] (.t 28) (.seq (.reg 11 [⟨some 30, .move (.t 0), none, []⟩,
  ⟨some 31, .faddr 27 (.t 3) 1 1, none, []⟩,
  ⟨some 32, .load 9 none (.t 31), none, [3, 31]⟩,
  ⟨some 33, .call n_json_quoted [(.t 30), (.t 32)] [22, 9], none, [0, 30, 32, 41, 54, 66, 69]⟩,
  ⟨some 4, .assign (.t 33), none, []⟩] none [4, 13, 17, 21, 27, 33, 75, 100000])
 .ret) .skip))))))))))))
 k6_json_write))
def a_json_write : AFunc := ⟨76, [.tmp 4], b_json_write⟩

def j0_json_Print : IR :=
 (.seq (.reg 7 [⟨some 16, .move (.t 5), none, []⟩,
  ⟨some 2, .assign (.t 16), none, []⟩,
  ⟨some 3, .assign (.c (Value.int IntKind.i64 0)), none, []⟩] none [2, 3, 5, 12, 16])
 .ret)
def k0_json_Print : IR := .tail [5, 12] j0_json_Print
def j1_json_Print : IR :=
 (.seq (.reg 4 [⟨some 11, .load 27 (some 4) (.t 1), none, []⟩,
  ⟨some 12, .call n_json_write [(.nilS 1), (.t 11)] [22, 27], none, [1, 11]⟩,
  ⟨some 5, .assign (.t 12), none, []⟩] none [5, 12])
 (.seq (.seq (.reg 5 [⟨some 13, .move (.t 5), none, []⟩,
  ⟨some 14, .len 22 false (.t 13), none, [13]⟩,
  ⟨some 15, .bin .gtr 3 (.t 14) (.c (Value.int IntKind.i64 16777216)) 3, none, [14]⟩] none [5, 12, 15])
 (.cond [5, 12] (.t 15) (.seq (.reg 6 [⟨some 2, .assign (.nilS 1), none, []⟩,
  ⟨some 3, .assign (.c (Value.int IntKind.i64 4)), none, []⟩] none [2, 3, 5, 12, 16])
 .ret) .skip))
 k0_json_Print))
def k1_json_Print : IR := .tail [1] j1_json_Print
def b_json_Print : IR :=
 (.seq (.reg 0 [⟨some 1, .box 27 (.t 0), none, [0]⟩,
  ⟨some 2, .assign (.nilS 1), none, [2]⟩,
  ⟨some 3, .assign (.c (Value.int IntKind.i64 0)), none, [3]⟩] none [1])
 (.seq (.seq (.reg 1 [⟨some 6, .load 27 (some 4) (.t 1), none, []⟩,
  ⟨some 7, .call n_json_Check [(.t 6)] [27], none, [6]⟩,
  ⟨some 4, .assign (.t 7), none, [7]⟩] none [1, 4])
 (.seq (.reg 2 [⟨some 8, .move (.t 4), none, []⟩,
  ⟨some 9, .bin .neq 28 (.t 8) (.c (Value.int IntKind.i64 0)) 28, none, [8]⟩] none [1, 4, 9])
 (.cond [1, 4] (.t 9) (.seq (.reg 3 [⟨some 10, .move (.t 4), none, [4]⟩,
  ⟨some 2, .assign (.nilS 1), none, []⟩,
  ⟨some 3, .assign (.t 10), none, [10]⟩] none [2, 3, 5, 12, 16])
 .ret) .skip)))
 k1_json_Print))
def a_json_Print : AFunc := ⟨17, [.tmp 2, .tmp 3], b_json_Print⟩

def j0_thicketref10_deep : IR :=
 (.reg 4 [⟨some 11, .move (.t 4), none, []⟩,
  ⟨some 12, .bin .add 3 (.t 11) (.c (Value.int IntKind.i64 1)) 3, none, [11]⟩,
  ⟨some 4, .assign (.t 12), none, [12]⟩] none [1, 3, 4])
def k0_thicketref10_deep : IR := .tail [1, 3, 4] j0_thicketref10_deep
def j1_thicketref10_deep : IR :=
 (.seq (.block 1 (.seq (.reg 5 [⟨some 13, .faddr 27 (.t 1) 3 3, none, []⟩,
  ⟨some 14, .load 25 none (.t 13), none, []⟩,
  ⟨some 15, .move (.t 4), none, []⟩,
  ⟨some 16, .iaddr 25 (.sl 4) (.t 14) (.t 15), none, []⟩,
  ⟨some 17, .load 27 (some 4) (.t 16), none, []⟩,
  ⟨some 18, .call n_thicketref10_deep [(.t 17)] [27], none, [13, 14, 15, 16, 17]⟩,
  ⟨some 5, .assign (.t 18), none, [18]⟩] none [1, 3, 4, 5])
 (.seq (.reg 6 [⟨some 19, .move (.t 5), none, []⟩,
  ⟨some 20, .move (.t 3), none, []⟩,
  ⟨some 21, .bin .gtr 3 (.t 19) (.t 20) 3, none, [19, 20]⟩] none [1, 3, 4, 5, 21])
 (.cond [1, 3, 4, 5] (.t 21) (.reg 7 [⟨some 22, .move (.t 5), none, [5]⟩,
  ⟨some 3, .assign (.t 22), none, [22]⟩] none [1, 3, 4]) .skip))))
 k0_thicketref10_deep)
def k1_thicketref10_deep : IR := .tail [1, 3, 4] j1_thicketref10_deep
def w0_thicketref10_deep : IR :=
 (.seq (.seq (.reg 3 [⟨some 6, .move (.t 4), none, []⟩,
  ⟨some 7, .faddr 27 (.t 1) 3 3, none, []⟩,
  ⟨some 8, .load 25 none (.t 7), none, []⟩,
  ⟨some 9, .len 25 false (.t 8), none, [7, 8]⟩,
  ⟨some 10, .bin .lss 3 (.t 6) (.t 9) 3, none, [6, 9]⟩] none [1, 3, 4, 10])
 (.cond [1, 3, 4] (.t 10) .skip (.exit 0)))
 k1_thicketref10_deep)
def l0_thicketref10_deep : IR := .loop [1, 3, 4] w0_thicketref10_deep
def j2_thicketref10_deep : IR :=
 (.seq (.reg 10 [⟨some 33, .move (.t 3), none, [3]⟩,
  ⟨some 2, .assign (.t 33), none, [33]⟩] none [2])
 .ret)
def k2_thicketref10_deep : IR := .tail [3] j2_thicketref10_deep
def j3_thicketref10_deep : IR :=
 (.seq (.seq (.reg 8 [⟨some 23, .faddr 27 (.t 1) 0 0, none, []⟩,
  ⟨some 24, .load 23 none (.t 23), none, [23]⟩,
  ⟨some 25, .bin .eql 23 (.t 24) (.c (Value.int IntKind.u8 6)) 23, none, [24]⟩,
  ⟨some 26, .move (.t 25), none, [25]⟩,
  ⟨some 27, .faddr 27 (.t 1) 0 0, some (3, false), []⟩,
  ⟨some 28, .load 23 none (.t 27), some (3, false), [1, 27]⟩,
  ⟨some 29, .bin .eql 23 (.t 28) (.c (Value.int IntKind.u8 7)) 23, some (3, false), [28]⟩,
  ⟨some 30, .pick (.t 26) (.c (Value.bool true)) (.t 29), none, [26, 29]⟩] none [3, 30])
 (.cond [3] (.t 30) (.seq (.reg 9 [⟨some 31, .move (.t 3), none, [3]⟩,
  ⟨some 32, .bin .add 3 (.t 31) (.c (Value.int IntKind.i64 1)) 3, none, [31]⟩,
  ⟨some 2, .assign (.t 32), none, [32]⟩] none [2])
 .ret) .skip))
 k2_thicketref10_deep)
def k3_thicketref10_deep : IR := .tail [1, 3] j3_thicketref10_deep
def b_thicketref10_deep : IR :=
 (.seq (.reg 0 [⟨some 1, .box 27 (.t 0), none, [0]⟩,
  ⟨some 2, .assign (.c (Value.int IntKind.i64 0)), none, [2]⟩] none [1])
 (.seq (.reg 1 [⟨some 3, .assign (.c (Value.int IntKind.i64 0)), none, []⟩] none [1, 3])
 (.seq (.seq (.reg 2 [⟨some 4, .assign (.c (Value.int IntKind.i64 0)), none, []⟩] none [1, 3, 4])
 (.block 0 l0_thicketref10_deep))
 k3_thicketref10_deep)))
def a_thicketref10_deep : AFunc := ⟨34, [.tmp 2], b_thicketref10_deep⟩

def b_thicketref10_reading_ok : IR :=
 (.seq (.reg 0 [⟨some 2, .assign (.c (Value.bool false)), none, [2]⟩] none [0, 100000])
 (.seq (.reg 1 [⟨some 3, .move (.t 0), none, []⟩,
  ⟨some 4, .nilck (.t 3), none, []⟩,
  ⟨some 5, .faddr 54 (.t 4) 2 2, none, []⟩,
  ⟨some 6, .load 28 none (.t 5), none, [0, 3, 4, 5]⟩,
  ⟨some 7, .bin .eql 28 (.t 6) (.c (Value.int IntKind.i64 0)) 28, none, [6]⟩,
  ⟨some 2, .assign (.t 7), none, [7]⟩] none [2, 100000])
 .ret))
def a_thicketref10_reading_ok : AFunc := ⟨8, [.tmp 2], b_thicketref10_reading_ok⟩

def j0_thicketref10_reading_next : IR :=
 (.seq (.reg 3 [⟨some 2, .assign (.c (Value.int IntKind.u8 0)), none, []⟩] none [2, 100000])
 .ret)
def k0_thicketref10_reading_next : IR := .tail [100000] j0_thicketref10_reading_next
def b_thicketref10_reading_next : IR :=
 (.seq (.reg 0 [⟨some 2, .assign (.c (Value.int IntKind.u8 0)), none, [2]⟩] none [0, 100000])
 (.seq (.seq (.reg 1 [⟨some 3, .move (.t 0), none, []⟩,
  ⟨some 4, .nilck (.t 3), none, []⟩,
  ⟨some 5, .faddr 54 (.t 4) 1 1, none, []⟩,
  ⟨some 6, .load 3 none (.t 5), none, [3, 4, 5]⟩,
  ⟨some 7, .move (.t 0), none, []⟩,
  ⟨some 8, .nilck (.t 7), none, []⟩,
  ⟨some 9, .faddr 54 (.t 8) 0 0, none, []⟩,
  ⟨some 10, .load 22 none (.t 9), none, []⟩,
  ⟨some 11, .len 22 false (.t 10), none, [7, 8, 9, 10]⟩,
  ⟨some 12, .bin .lss 3 (.t 6) (.t 11) 3, none, [6, 11]⟩] (some (.cons ⟨0, []⟩ (.cons ⟨1, []⟩ (.cons ⟨2, []⟩ (.cons ⟨4, []⟩ (.cons ⟨5, []⟩ (.cons ⟨6, []⟩ (.cons ⟨3, []⟩ (.cons ⟨7, []⟩ (.cons ⟨8, []⟩ (.cons ⟨9, []⟩ .nil))))))))))) [0, 12, 100000])
 (.cond [0, 100000] (.t 12) (.seq (.reg 2 [⟨some 13, .move (.t 0), none, []⟩,
  ⟨some 14, .nilck (.t 13), none, []⟩,
  ⟨some 15, .faddr 54 (.t 14) 0 0, none, []⟩,
  ⟨some 16, .load 22 none (.t 15), none, []⟩,
  ⟨some 17, .move (.t 0), none, []⟩,
  ⟨some 18, .nilck (.t 17), none, []⟩,
  ⟨some 19, .faddr 54 (.t 18) 1 1, none, []⟩,
  ⟨some 20, .load 3 none (.t 19), none, [17, 18, 19]⟩,
  ⟨some 21, .iaddr 22 (.sl 1) (.t 16) (.t 20), none, []⟩,
  ⟨some 22, .load 5 none (.t 21), none, [0, 13, 14, 15, 16, 20, 21]⟩,
  ⟨some 2, .assign (.t 22), none, [22]⟩] (some (.cons ⟨0, []⟩ (.cons ⟨1, []⟩ (.cons ⟨2, []⟩ (.cons ⟨4, []⟩ (.cons ⟨5, []⟩ (.cons ⟨6, []⟩ (.cons ⟨3, []⟩ (.cons ⟨7, []⟩ (.cons ⟨8, []⟩ (.cons ⟨9, []⟩ (.cons ⟨10, []⟩ .nil)))))))))))) [2, 100000])
 .ret) .skip))
 k0_thicketref10_reading_next))
def a_thicketref10_reading_next : AFunc := ⟨23, [.tmp 2], b_thicketref10_reading_next⟩

def b_thicketref10_reading_fail : IR :=
 (.seq (.reg 0 [⟨some 6, .move (.t 0), none, []⟩,
  ⟨some 7, .nilck (.t 6), none, []⟩,
  ⟨some 8, .faddr 54 (.t 7) 2 2, none, []⟩,
  ⟨some 9, .load 28 none (.t 8), none, [6, 7, 8]⟩,
  ⟨some 10, .bin .eql 28 (.t 9) (.c (Value.int IntKind.i64 0)) 28, none, [9]⟩] none [0, 1, 2, 10, 100000])
 (.cond [0, 1, 2, 100000] (.t 10) (.seq (.reg 1 [⟨some 11, .move (.t 0), none, []⟩,
  ⟨some 12, .move (.t 1), none, [1]⟩,
  ⟨some 13, .nilck (.t 11), none, []⟩,
  ⟨some 14, .faddr 54 (.t 13) 2 2, none, []⟩,
  ⟨none, .store 28 none (.t 14) (.t 12), none, [11, 12, 13, 14]⟩] none [0, 2, 100000])
 (.reg 2 [⟨some 15, .move (.t 0), none, []⟩,
  ⟨some 16, .move (.t 2), none, [2]⟩,
  ⟨some 17, .nilck (.t 15), none, []⟩,
  ⟨some 18, .faddr 54 (.t 17) 3 3, none, []⟩,
  ⟨none, .store 3 none (.t 18) (.t 16), none, [0, 15, 16, 17, 18]⟩] none [100000])) .skip))
def a_thicketref10_reading_fail : AFunc := ⟨19, [], b_thicketref10_reading_fail⟩

def b_thicketref10_isDigit : IR :=
 (.seq (.reg 0 [⟨some 2, .assign (.c (Value.bool false)), none, [2]⟩] none [0])
 (.seq (.reg 1 [⟨some 3, .move (.t 0), none, []⟩,
  ⟨some 4, .bin .geq 5 (.t 3) (.c (Value.int IntKind.u8 48)) 5, none, [3]⟩,
  ⟨some 5, .move (.t 4), none, [4]⟩,
  ⟨some 6, .move (.t 0), some (2, true), [0]⟩,
  ⟨some 7, .bin .leq 5 (.t 6) (.c (Value.int IntKind.u8 57)) 5, some (2, true), [6]⟩,
  ⟨some 8, .pick (.t 5) (.t 7) (.c (Value.bool false)), none, [5, 7]⟩,
  ⟨some 2, .assign (.t 8), none, [8]⟩] none [2])
 .ret))
def a_thicketref10_isDigit : AFunc := ⟨9, [.tmp 2], b_thicketref10_isDigit⟩

def j0_thicketref10_reading_digits : IR :=
 (.block 1 (.reg 3 [⟨some 15, .move (.t 0), none, []⟩,
  ⟨some 16, .nilck (.t 15), none, []⟩,
  ⟨some 17, .faddr 54 (.t 16) 1 1, none, []⟩,
  ⟨some 18, .load 3 none (.t 17), none, [16, 17]⟩,
  ⟨some 19, .bin .add 3 (.t 18) (.c (Value.int IntKind.i64 1)) 3, none, [18]⟩,
  ⟨some 20, .nilck (.t 15), none, []⟩,
  ⟨some 21, .faddr 54 (.t 20) 1 1, none, []⟩,
  ⟨none, .store 3 none (.t 21) (.t 19), none, [15, 19, 20, 21]⟩] none [0, 100000]))
def k0_thicketref10_reading_digits : IR := .tail [0, 100000] j0_thicketref10_reading_digits
def w0_thicketref10_reading_digits : IR :=
 (.seq (.seq (.reg 2 [⟨some 12, .move (.t 0), none, []⟩,
  ⟨some 13, .call n_thicketref10_reading_next [(.t 12)] [52], none, [12]⟩,
  ⟨some 14, .call n_thicketref10_isDigit [(.t 13)] [5], none, [13]⟩] none [0, 14, 100000])
 (.cond [0, 100000] (.t 14) .skip (.exit 0)))
 k0_thicketref10_reading_digits)
def l0_thicketref10_reading_digits : IR := .loop [0, 100000] w0_thicketref10_reading_digits
def j1_thicketref10_reading_digits : IR :=
 (.block 0 l0_thicketref10_reading_digits)
def k1_thicketref10_reading_digits : IR := .tail [0, 100000] j1_thicketref10_reading_digits
def b_thicketref10_reading_digits : IR :=
 (.seq (.seq (.reg 0 [⟨some 2, .move (.t 0), none, []⟩,
  ⟨some 3, .call n_thicketref10_reading_next [(.t 2)] [52], none, [2]⟩,
  ⟨some 4, .call n_thicketref10_isDigit [(.t 3)] [5], none, [3]⟩,
  ⟨some 5, .un .not 4 (.t 4), none, [4]⟩] none [0, 5, 100000])
 (.cond [0, 100000] (.t 5) (.reg 1 [⟨some 6, .move (.t 0), none, []⟩,
  ⟨some 7, .move (.t 0), none, []⟩,
  ⟨some 8, .nilck (.t 7), none, []⟩,
  ⟨some 9, .faddr 54 (.t 8) 1 1, none, []⟩,
  ⟨some 10, .load 3 none (.t 9), none, [7, 8, 9]⟩,
  ⟨some 11, .call n_thicketref10_reading_fail [(.t 6), (.c (Value.int IntKind.i64 100)), (.t 10)] [52, 28, 3], none, [6, 10, 11]⟩] none [0, 100000]) .skip))
 k1_thicketref10_reading_digits)
def a_thicketref10_reading_digits : AFunc := ⟨22, [], b_thicketref10_reading_digits⟩

def j0_thicketref10_reading_number : IR :=
 (.reg 14 [⟨some 80, .move (.t 0), none, []⟩,
  ⟨some 81, .call n_thicketref10_reading_digits [(.t 80)] [52], none, [80, 81]⟩] none [0, 3, 100000])
def k0_thicketref10_reading_number : IR := .tail [0, 3, 100000] j0_thicketref10_reading_number
def j1_thicketref10_reading_number : IR :=
 (.seq (.reg 15 [⟨some 82, .move (.t 0), none, []⟩,
  ⟨some 83, .nilck (.t 82), none, []⟩,
  ⟨some 84, .faddr 54 (.t 83) 0 0, none, []⟩,
  ⟨some 85, .load 22 none (.t 84), none, []⟩,
  ⟨some 86, .move (.t 3), none, [3]⟩,
  ⟨some 87, .move (.t 0), none, []⟩,
  ⟨some 88, .nilck (.t 87), none, []⟩,
  ⟨some 89, .faddr 54 (.t 88) 1 1, none, []⟩,
  ⟨some 90, .load 3 none (.t 89), none, [87, 88, 89]⟩,
  ⟨some 91, .slice 22 (.sl 1) (.t 85) (some (.t 86)) (some (.t 90)) none, none, []⟩,
  ⟨some 92, .conv 22 9 .bytes (.t 91), none, [0, 82, 83, 84, 85, 86, 90, 91]⟩,
  ⟨some 2, .assign (.t 92), none, [92]⟩] (some (.cons ⟨0, []⟩ (.cons ⟨1, []⟩ (.cons ⟨2, []⟩ (.cons ⟨4, []⟩ (.cons ⟨5, []⟩ (.cons ⟨6, []⟩ (.cons ⟨7, []⟩ (.cons ⟨3, []⟩ (.cons ⟨8, []⟩ (.cons ⟨9, []⟩ (.cons ⟨10, []⟩ (.cons ⟨11, []⟩ .nil))))))))))))) [2, 100000])
 .ret)
def k1_thicketref10_reading_number : IR := .tail [0, 3, 100000] j1_thicketref10_reading_number
def j2_thicketref10_reading_number : IR :=
 (.seq (.seq (.reg 10 [⟨some 46, .move (.t 0), none, []⟩,
  ⟨some 47, .call n_thicketref10_reading_ok [(.t 46)] [52], none, [46]⟩,
  ⟨some 48, .move (.t 47), none, [47]⟩,
  ⟨some 49, .move (.t 0), some (2, true), []⟩,
  ⟨some 50, .call n_thicketref10_reading_next [(.t 49)] [52], some (2, true), [49]⟩,
  ⟨some 51, .bin .eql 5 (.t 50) (.c (Value.int IntKind.u8 101)) 5, some (2, true), [50]⟩,
  ⟨some 52, .move (.t 51), some (2, true), [51]⟩,
  ⟨some 53, .move (.t 0), some (6, false), []⟩,
  ⟨some 54, .call n_thicketref10_reading_next [(.t 53)] [52], some (6, false), [53]⟩,
  ⟨some 55, .bin .eql 5 (.t 54) (.c (Value.int IntKind.u8 69)) 5, some (6, false), [54]⟩,
  ⟨some 56, .pick (.t 52) (.c (Value.bool true)) (.t 55), some (2, true), [52, 55]⟩,
  ⟨some 57, .pick (.t 48) (.t 56) (.c (Value.bool false)), none, [48, 56]⟩] none [0, 3, 57, 100000])
 (.cond [0, 3, 100000] (.t 57) (.seq (.reg 11 [⟨some 58, .move (.t 0), none, []⟩,
  ⟨some 59, .nilck (.t 58), none, []⟩,
  ⟨some 60, .faddr 54 (.t 59) 1 1, none, []⟩,
  ⟨some 61, .load 3 none (.t 60), none, [59, 60]⟩,
  ⟨some 62, .bin .add 3 (.t 61) (.c (Value.int IntKind.i64 1)) 3, none, [61]⟩,
  ⟨some 63, .nilck (.t 58), none, []⟩,
  ⟨some 64, .faddr 54 (.t 63) 1 1, none, []⟩,
  ⟨none, .store 3 none (.t 64) (.t 62), none, [58, 62, 63, 64]⟩] none [0, 3, 100000])
 (.seq (.seq (.reg 12 [⟨some 65, .move (.t 0), none, []⟩,
  ⟨some 66, .call n_thicketref10_reading_next [(.t 65)] [52], none, [65]⟩,
  ⟨some 67, .bin .eql 5 (.t 66) (.c (Value.int IntKind.u8 43)) 5, none, [66]⟩,
  ⟨some 68, .move (.t 67), none, [67]⟩,
  ⟨some 69, .move (.t 0), some (3, false), []⟩,
  ⟨some 70, .call n_thicketref10_reading_next [(.t 69)] [52], some (3, false), [69]⟩,
  ⟨some 71, .bin .eql 5 (.t 70) (.c (Value.int IntKind.u8 45)) 5, some (3, false), [70]⟩,
  ⟨some 72, .pick (.t 68) (.c (Value.bool true)) (.t 71), none, [68, 71]⟩] none [0, 3, 72, 100000])
 (.cond [0, 3, 100000] (.t 72) (.reg 13 [⟨some 73, .move (.t 0), none, []⟩,
  ⟨some 74, .nilck (.t 73), none, []⟩,
  ⟨some 75, .faddr 54 (.t 74) 1 1, none, []⟩,
  ⟨some 76, .load 3 none (.t 75), none, [74, 75]⟩,
  ⟨some 77, .bin .add 3 (.t 76) (.c (Value.int IntKind.i64 1)) 3, none, [76]⟩,
  ⟨some 78, .nilck (.t 73), none, []⟩,
  ⟨some 79, .faddr 54 (.t 78) 1 1, none, []⟩,
  ⟨none, .store 3 none (.t 79) (.t 77), none, [73, 77, 78, 79]⟩] none [0, 3, 100000]) .skip))
 k0_thicketref10_reading_number)) .skip))
 k1_thicketref10_reading_number)
def k2_thicketref10_reading_number : IR := .tail [0, 3, 100000] j2_thicketref10_reading_number
def j3_thicketref10_reading_number : IR :=
 (.seq (.seq (.reg 7 [⟨some 30, .move (.t 0), none, []⟩,
  ⟨some 31, .call n_thicketref10_reading_ok [(.t 30)] [52], none, [30]⟩,
  ⟨some 32, .move (.t 31), none, [31]⟩,
  ⟨some 33, .move (.t 0), some (2, true), []⟩,
  ⟨some 34, .call n_thicketref10_reading_next [(.t 33)] [52], some (2, true), [33]⟩,
  ⟨some 35, .bin .eql 5 (.t 34) (.c (Value.int IntKind.u8 46)) 5, some (2, true), [34]⟩,
  ⟨some 36, .pick (.t 32) (.t 35) (.c (Value.bool false)), none, [32, 35]⟩] none [0, 3, 36, 100000])
 (.cond [0, 3, 100000] (.t 36) (.seq (.reg 8 [⟨some 37, .move (.t 0), none, []⟩,
  ⟨some 38, .nilck (.t 37), none, []⟩,
  ⟨some 39, .faddr 54 (.t 38) 1 1, none, []⟩,
  ⟨some 40, .load 3 none (.t 39), none, [38, 39]⟩,
  ⟨some 41, .bin .add 3 (.t 40) (.c (Value.int IntKind.i64 1)) 3, none, [40]⟩,
  ⟨some 42, .nilck (.t 37), none, []⟩,
  ⟨some 43, .faddr 54 (.t 42) 1 1, none, []⟩,
  ⟨none, .store 3 none (.t 43) (.t 41), none, [37, 41, 42, 43]⟩] none [0, 3, 100000])
 (.reg 9 [⟨some 44, .move (.t 0), none, []⟩,
  ⟨some 45, .call n_thicketref10_reading_digits [(.t 44)] [52], none, [44, 45]⟩] none [0, 3, 100000])) .skip))
 k2_thicketref10_reading_number)
def k3_thicketref10_reading_number : IR := .tail [0, 3, 100000] j3_thicketref10_reading_number
def j4_thicketref10_reading_number : IR :=
 (.seq (.seq (.reg 4 [⟨some 18, .move (.t 0), none, []⟩,
  ⟨some 19, .call n_thicketref10_reading_next [(.t 18)] [52], none, [18]⟩,
  ⟨some 20, .bin .eql 5 (.t 19) (.c (Value.int IntKind.u8 48)) 5, none, [19]⟩] none [0, 3, 20, 100000])
 (.cond [0, 3, 100000] (.t 20) (.reg 5 [⟨some 21, .move (.t 0), none, []⟩,
  ⟨some 22, .nilck (.t 21), none, []⟩,
  ⟨some 23, .faddr 54 (.t 22) 1 1, none, []⟩,
  ⟨some 24, .load 3 none (.t 23), none, [22, 23]⟩,
  ⟨some 25, .bin .add 3 (.t 24) (.c (Value.int IntKind.i64 1)) 3, none, [24]⟩,
  ⟨some 26, .nilck (.t 21), none, []⟩,
  ⟨some 27, .faddr 54 (.t 26) 1 1, none, []⟩,
  ⟨none, .store 3 none (.t 27) (.t 25), none, [21, 25, 26, 27]⟩] none [0, 3, 100000]) (.reg 6 [⟨some 28, .move (.t 0), none, []⟩,
  ⟨some 29, .call n_thicketref10_reading_digits [(.t 28)] [52], none, [28, 29]⟩] none [0, 3, 100000])))
 k3_thicketref10_reading_number)
def k4_thicketref10_reading_number : IR := .tail [0, 3, 100000] j4_thicketref10_reading_number
def b_thicketref10_reading_number : IR :=
 (.seq (.reg 0 [⟨some 2, .assign (.c (Value.string { data := #[] })), none, [2]⟩] none [0, 100000])
 (.seq (.reg 1 [⟨some 4, .move (.t 0), none, []⟩,
  ⟨some 5, .nilck (.t 4), none, []⟩,
  ⟨some 6, .faddr 54 (.t 5) 1 1, none, []⟩,
  ⟨some 7, .load 3 none (.t 6), none, [4, 5, 6]⟩,
  ⟨some 3, .assign (.t 7), none, [7]⟩] none [0, 3, 100000])
 (.seq (.seq (.reg 2 [⟨some 8, .move (.t 0), none, []⟩,
  ⟨some 9, .call n_thicketref10_reading_next [(.t 8)] [52], none, [8]⟩,
  ⟨some 10, .bin .eql 5 (.t 9) (.c (Value.int IntKind.u8 45)) 5, none, [9]⟩] none [0, 3, 10, 100000])
 (.cond [0, 3, 100000] (.t 10) (.reg 3 [⟨some 11, .move (.t 0), none, []⟩,
  ⟨some 12, .nilck (.t 11), none, []⟩,
  ⟨some 13, .faddr 54 (.t 12) 1 1, none, []⟩,
  ⟨some 14, .load 3 none (.t 13), none, [12, 13]⟩,
  ⟨some 15, .bin .add 3 (.t 14) (.c (Value.int IntKind.i64 1)) 3, none, [14]⟩,
  ⟨some 16, .nilck (.t 11), none, []⟩,
  ⟨some 17, .faddr 54 (.t 16) 1 1, none, []⟩,
  ⟨none, .store 3 none (.t 17) (.t 15), none, [11, 15, 16, 17]⟩] none [0, 3, 100000]) .skip))
 k4_thicketref10_reading_number)))
def a_thicketref10_reading_number : AFunc := ⟨93, [.tmp 2], b_thicketref10_reading_number⟩

def j0_thicketref10_Char : IR :=
 (.reg 29 [⟨some 60, .move (.t 4), none, []⟩,
  ⟨some 61, .bin .shl 3 (.t 60) (.c (Value.int IntKind.u64 6)) 74, none, [60]⟩,
  ⟨some 62, .move (.t 0), none, []⟩,
  ⟨some 63, .move (.t 7), none, []⟩,
  ⟨some 64, .iaddr 22 (.sl 1) (.t 62) (.t 63), none, []⟩,
  ⟨some 65, .load 5 none (.t 64), none, [62, 63, 64]⟩,
  ⟨some 66, .bin .and 5 (.t 65) (.c (Value.int IntKind.u8 63)) 5, none, [65]⟩,
  ⟨some 67, .conv 5 3 (.int .i64) (.t 66), none, [66]⟩,
  ⟨some 68, .bin .or 3 (.t 61) (.t 67) 3, none, [61, 67]⟩,
  ⟨some 4, .assign (.t 68), none, [68]⟩] none [0, 3, 4, 5, 7])
def k0_thicketref10_Char : IR := .tail [0, 3, 4, 5, 7] j0_thicketref10_Char
def j1_thicketref10_Char : IR :=
 (.reg 26 [⟨some 52, .move (.t 7), none, []⟩,
  ⟨some 53, .bin .add 3 (.t 52) (.c (Value.int IntKind.i64 1)) 3, none, [52]⟩,
  ⟨some 7, .assign (.t 53), none, [53]⟩] none [0, 3, 4, 5, 7])
def k1_thicketref10_Char : IR := .tail [0, 3, 4, 5, 7] j1_thicketref10_Char
def j2_thicketref10_Char : IR :=
 (.seq (.block 2 (.seq (.seq (.reg 27 [⟨some 54, .move (.t 0), none, []⟩,
  ⟨some 55, .move (.t 7), none, []⟩,
  ⟨some 56, .iaddr 22 (.sl 1) (.t 54) (.t 55), none, []⟩,
  ⟨some 57, .load 5 none (.t 56), none, [54, 55, 56]⟩,
  ⟨some 58, .bin .and 5 (.t 57) (.c (Value.int IntKind.u8 192)) 5, none, [57]⟩,
  ⟨some 59, .bin .neq 5 (.t 58) (.c (Value.int IntKind.u8 128)) 5, none, [58]⟩] none [0, 3, 4, 5, 7, 59])
 (.cond [0, 3, 4, 5, 7] (.t 59) (.seq (.reg 28 [⟨some 2, .assign (.c (Value.int IntKind.i64 0)), none, []⟩] none [2])
 .ret) .skip))
 k0_thicketref10_Char))
 k1_thicketref10_Char)
def k2_thicketref10_Char : IR := .tail [0, 3, 4, 5, 7] j2_thicketref10_Char
def w0_thicketref10_Char : IR :=
 (.seq (.seq (.reg 25 [⟨some 49, .move (.t 7), none, []⟩,
  ⟨some 50, .move (.t 3), none, []⟩,
  ⟨some 51, .bin .lss 3 (.t 49) (.t 50) 3, none, [49, 50]⟩] none [0, 3, 4, 5, 7, 51])
 (.cond [0, 3, 4, 5, 7] (.t 51) .skip (.exit 1)))
 k2_thicketref10_Char)
def l0_thicketref10_Char : IR := .loop [0, 3, 4, 5, 7] w0_thicketref10_Char
def j3_thicketref10_Char : IR :=
 (.seq (.reg 32 [⟨some 84, .move (.t 3), none, [3]⟩,
  ⟨some 2, .assign (.t 84), none, [84]⟩] none [2])
 .ret)
def k3_thicketref10_Char : IR := .tail [3] j3_thicketref10_Char
def j4_thicketref10_Char : IR :=
 (.seq (.seq (.reg 30 [⟨some 69, .move (.t 4), none, []⟩,
  ⟨some 70, .move (.t 5), none, [5]⟩,
  ⟨some 71, .bin .lss 3 (.t 69) (.t 70) 3, none, [69, 70]⟩,
  ⟨some 72, .move (.t 71), none, [71]⟩,
  ⟨some 73, .move (.t 4), some (3, false), []⟩,
  ⟨some 74, .bin .gtr 3 (.t 73) (.c (Value.int IntKind.i64 1114111)) 3, some (3, false), [73]⟩,
  ⟨some 75, .pick (.t 72) (.c (Value.bool true)) (.t 74), none, [72, 74]⟩,
  ⟨some 76, .move (.t 75), none, [75]⟩,
  ⟨some 77, .move (.t 4), some (7, false), []⟩,
  ⟨some 78, .bin .geq 3 (.t 77) (.c (Value.int IntKind.i64 55296)) 3, some (7, false), [77]⟩,
  ⟨some 79, .move (.t 78), some (7, false), [78]⟩,
  ⟨some 80, .move (.t 4), some (10, true), [4]⟩,
  ⟨some 81, .bin .lss 3 (.t 80) (.c (Value.int IntKind.i64 57344)) 3, some (10, true), [80]⟩,
  ⟨some 82, .pick (.t 79) (.t 81) (.c (Value.bool false)), some (7, false), [79, 81]⟩,
  ⟨some 83, .pick (.t 76) (.c (Value.bool true)) (.t 82), none, [76, 82]⟩] none [3, 83])
 (.cond [3] (.t 83) (.seq (.reg 31 [⟨some 2, .assign (.c (Value.int IntKind.i64 0)), none, []⟩] none [2])
 .ret) .skip))
 k3_thicketref10_Char)
def k4_thicketref10_Char : IR := .tail [3, 4, 5] j4_thicketref10_Char
def j5_thicketref10_Char : IR :=
 (.seq (.seq (.reg 24 [⟨some 7, .assign (.c (Value.int IntKind.i64 1)), none, []⟩] none [0, 3, 4, 5, 7])
 (.block 1 l0_thicketref10_Char))
 k4_thicketref10_Char)
def k5_thicketref10_Char : IR := .tail [0, 3, 4, 5] j5_thicketref10_Char
def j6_thicketref10_Char : IR :=
 (.seq (.seq (.reg 22 [⟨some 45, .move (.t 0), none, []⟩,
  ⟨some 46, .len 22 false (.t 45), none, [45]⟩,
  ⟨some 47, .move (.t 3), none, []⟩,
  ⟨some 48, .bin .lss 3 (.t 46) (.t 47) 3, none, [46, 47]⟩] none [0, 3, 4, 5, 48])
 (.cond [0, 3, 4, 5] (.t 48) (.seq (.reg 23 [⟨some 2, .assign (.c (Value.int IntKind.i64 0)), none, []⟩] none [2])
 .ret) .skip))
 k5_thicketref10_Char)
def k6_thicketref10_Char : IR := .tail [0, 3, 4, 5] j6_thicketref10_Char
def j7_thicketref10_Char : IR :=
 (.seq (.reg 3 [⟨some 3, .assign (.c (Value.int IntKind.i64 0)), none, [3]⟩] none [0])
 (.seq (.reg 4 [⟨some 4, .assign (.c (Value.int IntKind.i64 0)), none, [4]⟩] none [0])
 (.seq (.reg 5 [⟨some 5, .assign (.c (Value.int IntKind.i64 0)), none, [5]⟩] none [0])
 (.seq (.reg 6 [⟨some 11, .move (.t 0), none, []⟩,
  ⟨some 12, .iaddr 22 (.sl 1) (.t 11) (.c (Value.int IntKind.i64 0)), none, []⟩,
  ⟨some 13, .load 5 none (.t 12), none, [11, 12]⟩,
  ⟨some 14, .conv 5 3 (.int .i64) (.t 13), none, [13]⟩,
  ⟨some 6, .assign (.t 14), none, [14]⟩] none [0, 6])
 (.seq (.block 0 (.seq (.reg 8 [⟨some 16, .move (.t 6), none, []⟩,
  ⟨some 17, .bin .lss 3 (.t 16) (.c (Value.int IntKind.i64 128)) 3, none, [16]⟩,
  ⟨some 15, .assign (.t 17), none, [17]⟩] none [0, 6, 15])
 (.cond [0, 6] (.t 15) (.seq (.reg 9 [⟨some 2, .assign (.c (Value.int IntKind.i64 1)), none, []⟩] none [2])
 .ret) (.seq (.reg 10 [⟨some 19, .move (.t 6), none, []⟩,
  ⟨some 20, .bin .geq 3 (.t 19) (.c (Value.int IntKind.i64 192)) 3, none, [19]⟩,
  ⟨some 21, .move (.t 20), none, [20]⟩,
  ⟨some 22, .move (.t 6), some (2, true), []⟩,
  ⟨some 23, .bin .lss 3 (.t 22) (.c (Value.int IntKind.i64 224)) 3, some (2, true), [22]⟩,
  ⟨some 24, .pick (.t 21) (.t 23) (.c (Value.bool false)), none, [21, 23]⟩,
  ⟨some 18, .assign (.t 24), none, [24]⟩] none [0, 6, 18])
 (.cond [0, 6] (.t 18) (.seq (.reg 11 [⟨some 3, .assign (.c (Value.int IntKind.i64 2)), none, []⟩] none [0, 3, 6])
 (.seq (.reg 12 [⟨some 25, .move (.t 6), none, [6]⟩,
  ⟨some 26, .bin .and 3 (.t 25) (.c (Value.int IntKind.i64 31)) 3, none, [25]⟩,
  ⟨some 4, .assign (.t 26), none, [26]⟩] none [0, 3, 4])
 (.reg 13 [⟨some 5, .assign (.c (Value.int IntKind.i64 128)), none, []⟩] none [0, 3, 4, 5]))) (.seq (.reg 14 [⟨some 28, .move (.t 6), none, []⟩,
  ⟨some 29, .bin .geq 3 (.t 28) (.c (Value.int IntKind.i64 224)) 3, none, [28]⟩,
  ⟨some 30, .move (.t 29), none, [29]⟩,
  ⟨some 31, .move (.t 6), some (2, true), []⟩,
  ⟨some 32, .bin .lss 3 (.t 31) (.c (Value.int IntKind.i64 240)) 3, some (2, true), [31]⟩,
  ⟨some 33, .pick (.t 30) (.t 32) (.c (Value.bool false)), none, [30, 32]⟩,
  ⟨some 27, .assign (.t 33), none, [33]⟩] none [0, 6, 27])
 (.cond [0, 6] (.t 27) (.seq (.reg 15 [⟨some 3, .assign (.c (Value.int IntKind.i64 3)), none, []⟩] none [0, 3, 6])
 (.seq (.reg 16 [⟨some 34, .move (.t 6), none, [6]⟩,
  ⟨some 35, .bin .and 3 (.t 34) (.c (Value.int IntKind.i64 15)) 3, none, [34]⟩,
  ⟨some 4, .assign (.t 35), none, [35]⟩] none [0, 3, 4])
 (.reg 17 [⟨some 5, .assign (.c (Value.int IntKind.i64 2048)), none, []⟩] none [0, 3, 4, 5]))) (.seq (.reg 18 [⟨some 37, .move (.t 6), none, []⟩,
  ⟨some 38, .bin .geq 3 (.t 37) (.c (Value.int IntKind.i64 240)) 3, none, [37]⟩,
  ⟨some 39, .move (.t 38), none, [38]⟩,
  ⟨some 40, .move (.t 6), some (2, true), []⟩,
  ⟨some 41, .bin .lss 3 (.t 40) (.c (Value.int IntKind.i64 248)) 3, some (2, true), [40]⟩,
  ⟨some 42, .pick (.t 39) (.t 41) (.c (Value.bool false)), none, [39, 41]⟩,
  ⟨some 36, .assign (.t 42), none, [42]⟩] none [0, 6, 36])
 (.cond [0, 6] (.t 36) (.seq (.reg 19 [⟨some 3, .assign (.c (Value.int IntKind.i64 4)), none, []⟩] none [0, 3, 6])
 (.seq (.reg 20 [⟨some 43, .move (.t 6), none, [6]⟩,
  ⟨some 44, .bin .and 3 (.t 43) (.c (Value.int IntKind.i64 7)) 3, none, [43]⟩,
  ⟨some 4, .assign (.t 44), none, [44]⟩] none [0, 3, 4])
 (.reg 21 [⟨some 5, .assign (.c (Value.int IntKind.i64 65536)), none, []⟩] none [0, 3, 4, 5]))) (.seq (.reg 7 [⟨some 2, .assign (.c (Value.int IntKind.i64 0)), none, []⟩] none [2])
 .ret))))))))))
 k6_thicketref10_Char)))))
def k7_thicketref10_Char : IR := .tail [0] j7_thicketref10_Char
def b_thicketref10_Char : IR :=
 (.seq (.reg 0 [⟨some 2, .assign (.c (Value.int IntKind.i64 0)), none, [2]⟩] none [0])
 (.seq (.seq (.reg 1 [⟨some 8, .move (.t 0), none, []⟩,
  ⟨some 9, .len 22 false (.t 8), none, [8]⟩,
  ⟨some 10, .bin .eql 3 (.t 9) (.c (Value.int IntKind.i64 0)) 3, none, [9]⟩] none [0, 10])
 (.cond [0] (.t 10) (.seq (.reg 2 [⟨some 2, .assign (.c (Value.int IntKind.i64 0)), none, []⟩] none [2])
 .ret) .skip))
 k7_thicketref10_Char))
def a_thicketref10_Char : AFunc := ⟨85, [.tmp 2], b_thicketref10_Char⟩

def j0_thicketref10_Right : IR :=
 (.reg 6 [⟨some 14, .move (.t 3), none, []⟩,
  ⟨some 15, .move (.t 4), none, [4]⟩,
  ⟨some 16, .slice 22 (.sl 1) (.t 14) (some (.t 15)) none none, none, []⟩,
  ⟨some 3, .assign (.t 16), none, []⟩] none [3, 6, 14, 15, 16])
def k0_thicketref10_Right : IR := .tail [3, 4, 6, 14, 15, 16] j0_thicketref10_Right
def j1_thicketref10_Right : IR :=
 (.block 1 (.seq (.reg 3 [⟨some 10, .move (.t 3), none, []⟩,
  ⟨some 11, .call n_thicketref10_Char [(.t 10)] [22], none, [10]⟩,
  ⟨some 4, .assign (.t 11), none, [11]⟩] none [3, 4, 6, 14, 15, 16])
 (.seq (.seq (.reg 4 [⟨some 12, .move (.t 4), none, []⟩,
  ⟨some 13, .bin .eql 3 (.t 12) (.c (Value.int IntKind.i64 0)) 3, none, [12]⟩] none [3, 4, 6, 13, 14, 15, 16])
 (.cond [3, 4, 6, 14, 15, 16] (.t 13) (.seq (.reg 5 [⟨some 2, .assign (.c (Value.bool false)), none, []⟩] none [2])
 .ret) .skip))
 k0_thicketref10_Right)))
def k1_thicketref10_Right : IR := .tail [3, 6, 14, 15, 16] j1_thicketref10_Right
def w0_thicketref10_Right : IR :=
 (.seq (.seq (.frz [(3, [])] (.reg 2 [⟨some 7, .move (.t 3), none, []⟩,
  ⟨some 8, .len 22 false (.t 7), none, [7]⟩,
  ⟨some 9, .bin .gtr 3 (.t 8) (.c (Value.int IntKind.i64 0)) 3, none, [8]⟩] none [3, 6, 9, 14, 15, 16]))
 (.cond [3, 6, 14, 15, 16] (.t 9) .skip (.exit 0)))
 k1_thicketref10_Right)
def l0_thicketref10_Right : IR := .loop [3, 6, 14, 15, 16] w0_thicketref10_Right
def j2_thicketref10_Right : IR :=
 (.seq (.reg 7 [⟨some 2, .assign (.c (Value.bool true)), none, []⟩] none [2])
 .ret)
def k2_thicketref10_Right : IR := .tail [] j2_thicketref10_Right
def b_thicketref10_Right : IR :=
 (.seq (.reg 0 [⟨some 2, .assign (.c (Value.bool false)), none, [2]⟩] none [0])
 (.seq (.reg 1 [⟨some 5, .move (.t 0), none, [0]⟩,
  ⟨some 6, .conv 9 22 .toBytes (.t 5), none, [5]⟩,
  ⟨some 3, .assign (.t 6), none, []⟩] none [3, 6, 14, 15, 16])
 (.seq (.block 0 l0_thicketref10_Right)
 k2_thicketref10_Right)))
def a_thicketref10_Right : AFunc := ⟨17, [.tmp 2], b_thicketref10_Right⟩

def j0_thicketref10_form : IR :=
 (.reg 14 [⟨some 108, .move (.t 7), none, []⟩,
  ⟨some 109, .bin .add 3 (.t 108) (.c (Value.int IntKind.i64 1)) 3, none, [108]⟩,
  ⟨some 7, .assign (.t 109), none, [109]⟩] none [1, 6, 7])
def k0_thicketref10_form : IR := .tail [1, 6, 7] j0_thicketref10_form
def j1_thicketref10_form : IR :=
 (.seq (.block 1 (.reg 15 [⟨some 110, .faddr 27 (.t 1) 2 2, none, []⟩,
  ⟨some 111, .load 24 none (.t 110), none, []⟩,
  ⟨some 112, .move (.t 7), none, []⟩,
  ⟨some 113, .iaddr 24 (.sl 1) (.t 111) (.t 112), none, []⟩,
  ⟨some 114, .load 9 none (.t 113), none, [110, 111, 112, 113]⟩,
  ⟨some 115, .call n_thicketref10_Right [(.t 114)] [9], none, [114]⟩,
  ⟨some 6, .assign (.t 115), none, [115]⟩] none [1, 6, 7]))
 k0_thicketref10_form)
def k1_thicketref10_form : IR := .tail [1, 7] j1_thicketref10_form
def w0_thicketref10_form : IR :=
 (.seq (.seq (.reg 13 [⟨some 100, .move (.t 7), none, []⟩,
  ⟨some 101, .faddr 27 (.t 1) 2 2, none, []⟩,
  ⟨some 102, .load 24 none (.t 101), none, []⟩,
  ⟨some 103, .len 24 false (.t 102), none, [101, 102]⟩,
  ⟨some 104, .bin .lss 3 (.t 100) (.t 103) 3, none, [100, 103]⟩,
  ⟨some 105, .move (.t 104), none, [104]⟩,
  ⟨some 106, .move (.t 6), some (5, true), []⟩,
  ⟨some 107, .pick (.t 105) (.t 106) (.c (Value.bool false)), none, [105, 106]⟩] none [1, 6, 7, 107])
 (.cond [1, 6, 7] (.t 107) .skip (.exit 0)))
 k1_thicketref10_form)
def l0_thicketref10_form : IR := .loop [1, 6, 7] w0_thicketref10_form
def j2_thicketref10_form : IR :=
 (.reg 18 [⟨some 124, .move (.t 8), none, []⟩,
  ⟨some 125, .bin .add 3 (.t 124) (.c (Value.int IntKind.i64 1)) 3, none, [124]⟩,
  ⟨some 8, .assign (.t 125), none, [125]⟩] none [1, 6, 8])
def k2_thicketref10_form : IR := .tail [1, 6, 8] j2_thicketref10_form
def j3_thicketref10_form : IR :=
 (.seq (.block 3 (.reg 19 [⟨some 126, .faddr 27 (.t 1) 3 3, none, []⟩,
  ⟨some 127, .load 25 none (.t 126), none, []⟩,
  ⟨some 128, .move (.t 8), none, []⟩,
  ⟨some 129, .iaddr 25 (.sl 4) (.t 127) (.t 128), none, []⟩,
  ⟨some 130, .load 27 (some 4) (.t 129), none, []⟩,
  ⟨some 131, .call n_thicketref10_form [(.t 130)] [27], none, [126, 127, 128, 129, 130]⟩,
  ⟨some 6, .assign (.t 131), none, [131]⟩] none [1, 6, 8]))
 k2_thicketref10_form)
def k3_thicketref10_form : IR := .tail [1, 8] j3_thicketref10_form
def w1_thicketref10_form : IR :=
 (.seq (.seq (.reg 17 [⟨some 116, .move (.t 8), none, []⟩,
  ⟨some 117, .faddr 27 (.t 1) 3 3, none, []⟩,
  ⟨some 118, .load 25 none (.t 117), none, []⟩,
  ⟨some 119, .len 25 false (.t 118), none, [117, 118]⟩,
  ⟨some 120, .bin .lss 3 (.t 116) (.t 119) 3, none, [116, 119]⟩,
  ⟨some 121, .move (.t 120), none, [120]⟩,
  ⟨some 122, .move (.t 6), some (5, true), []⟩,
  ⟨some 123, .pick (.t 121) (.t 122) (.c (Value.bool false)), none, [121, 122]⟩] none [1, 6, 8, 123])
 (.cond [1, 6, 8] (.t 123) .skip (.exit 2)))
 k3_thicketref10_form)
def l1_thicketref10_form : IR := .loop [1, 6, 8] w1_thicketref10_form
def j4_thicketref10_form : IR :=
 (.seq (.reg 20 [⟨some 132, .move (.t 6), none, [6]⟩,
  ⟨some 2, .assign (.t 132), none, [132]⟩] none [2])
 .ret)
def k4_thicketref10_form : IR := .tail [6] j4_thicketref10_form
def j5_thicketref10_form : IR :=
 (.seq (.seq (.reg 16 [⟨some 8, .assign (.c (Value.int IntKind.i64 0)), none, []⟩] none [1, 6, 8])
 (.block 2 l1_thicketref10_form))
 k4_thicketref10_form)
def k5_thicketref10_form : IR := .tail [1, 6] j5_thicketref10_form
def j6_thicketref10_form : IR :=
 (.seq (.reg 11 [⟨some 97, .faddr 27 (.t 1) 1 1, none, []⟩,
  ⟨some 98, .load 9 none (.t 97), none, [97]⟩,
  ⟨some 99, .call n_thicketref10_Right [(.t 98)] [9], none, [98]⟩,
  ⟨some 6, .assign (.t 99), none, [99]⟩] none [1, 6])
 (.seq (.seq (.reg 12 [⟨some 7, .assign (.c (Value.int IntKind.i64 0)), none, []⟩] none [1, 6, 7])
 (.block 0 l0_thicketref10_form))
 k5_thicketref10_form))
def k6_thicketref10_form : IR := .tail [1] j6_thicketref10_form
def j7_thicketref10_form : IR :=
 (.seq (.seq (.reg 9 [⟨some 85, .faddr 27 (.t 1) 0 0, none, []⟩,
  ⟨some 86, .load 23 none (.t 85), none, [85]⟩,
  ⟨some 87, .bin .eql 23 (.t 86) (.c (Value.int IntKind.u8 7)) 23, none, [86]⟩,
  ⟨some 88, .move (.t 87), none, [87]⟩,
  ⟨some 89, .faddr 27 (.t 1) 2 2, some (3, true), []⟩,
  ⟨some 90, .load 24 none (.t 89), some (3, true), []⟩,
  ⟨some 91, .len 24 false (.t 90), some (3, true), [89, 90]⟩,
  ⟨some 92, .faddr 27 (.t 1) 3 3, some (3, true), []⟩,
  ⟨some 93, .load 25 none (.t 92), some (3, true), []⟩,
  ⟨some 94, .len 25 false (.t 93), some (3, true), [92, 93]⟩,
  ⟨some 95, .bin .neq 3 (.t 91) (.t 94) 3, some (3, true), [91, 94]⟩,
  ⟨some 96, .pick (.t 88) (.t 95) (.c (Value.bool false)), none, [88, 95]⟩] none [1, 96])
 (.cond [1] (.t 96) (.seq (.reg 10 [⟨some 2, .assign (.c (Value.bool false)), none, []⟩] none [2])
 .ret) .skip))
 k6_thicketref10_form)
def k7_thicketref10_form : IR := .tail [1] j7_thicketref10_form
def j8_thicketref10_form : IR :=
 (.seq (.seq (.reg 5 [⟨some 63, .faddr 27 (.t 1) 0 0, none, []⟩,
  ⟨some 64, .load 23 none (.t 63), none, [63]⟩,
  ⟨some 65, .bin .eql 23 (.t 64) (.c (Value.int IntKind.u8 4)) 23, none, [64]⟩] none [1, 65])
 (.cond [1] (.t 65) (.seq (.reg 6 [⟨some 66, .faddr 27 (.t 1) 1 1, none, []⟩,
  ⟨some 67, .load 9 none (.t 66), none, [66]⟩,
  ⟨some 68, .conv 9 22 .toBytes (.t 67), none, [67]⟩,
  ⟨some 69, .build 54 [(0, 1), (1, 1), (2, 1), (3, 1)] [.nil 1, .v (.int .i64 0), .v (.int .i64 0), .v (.int .i64 0)] [(0, (.t 68))], none, []⟩,
  ⟨some 70, .box 54 (.t 69), none, [68, 69]⟩,
  ⟨some 5, .assign (.t 70), none, []⟩] none [1, 5, 70])
 (.seq (.frz [(5, [0])] (.reg 7 [⟨some 71, .move (.t 5), none, []⟩,
  ⟨some 72, .call n_thicketref10_reading_number [(.t 71)] [52], none, [71, 72]⟩] none [1, 5, 70]))
 (.seq (.reg 8 [⟨some 73, .move (.t 5), none, []⟩,
  ⟨some 74, .call n_thicketref10_reading_ok [(.t 73)] [52], none, [73]⟩,
  ⟨some 75, .move (.t 74), none, [74]⟩,
  ⟨some 76, .move (.t 5), some (2, true), []⟩,
  ⟨some 77, .nilck (.t 76), some (2, true), []⟩,
  ⟨some 78, .faddr 54 (.t 77) 1 1, some (2, true), []⟩,
  ⟨some 79, .load 3 none (.t 78), some (2, true), [5, 70, 76, 77, 78]⟩,
  ⟨some 80, .faddr 27 (.t 1) 1 1, some (2, true), []⟩,
  ⟨some 81, .load 9 none (.t 80), some (2, true), [1, 80]⟩,
  ⟨some 82, .len 9 true (.t 81), some (2, true), [81]⟩,
  ⟨some 83, .bin .eql 3 (.t 79) (.t 82) 3, some (2, true), [79, 82]⟩,
  ⟨some 84, .pick (.t 75) (.t 83) (.c (Value.bool false)), none, [75, 83]⟩,
  ⟨some 2, .assign (.t 84), none, [84]⟩] (some (.cons ⟨0, []⟩ (.cons ⟨1, []⟩ (.cons ⟨2, []⟩ (.cons ⟨3, []⟩ (.cons ⟨4, []⟩ (.cons ⟨5, []⟩ (.cons ⟨7, []⟩ (.cons ⟨6, []⟩ (.cons ⟨8, []⟩ (.cons ⟨9, []⟩ (.cons ⟨10, []⟩ (.cons ⟨11, []⟩ (.cons ⟨12, []⟩ .nil)))))))))))))) [2])
 .ret))) .skip))
 k7_thicketref10_form)
def k8_thicketref10_form : IR := .tail [1] j8_thicketref10_form
def b_thicketref10_form : IR :=
 (.seq (.reg 0 [⟨some 1, .box 27 (.t 0), none, [0]⟩,
  ⟨some 2, .assign (.c (Value.bool false)), none, [2]⟩] none [1])
 (.seq (.reg 1 [⟨some 9, .faddr 27 (.t 1) 0 0, none, []⟩,
  ⟨some 10, .load 23 none (.t 9), none, [9]⟩,
  ⟨some 11, .bin .eql 23 (.t 10) (.c (Value.int IntKind.u8 6)) 23, none, [10]⟩,
  ⟨some 12, .move (.t 11), none, [11]⟩,
  ⟨some 13, .faddr 27 (.t 1) 0 0, some (3, false), []⟩,
  ⟨some 14, .load 23 none (.t 13), some (3, false), [13]⟩,
  ⟨some 15, .bin .eql 23 (.t 14) (.c (Value.int IntKind.u8 7)) 23, some (3, false), [14]⟩,
  ⟨some 16, .pick (.t 12) (.c (Value.bool true)) (.t 15), none, [12, 15]⟩,
  ⟨some 3, .assign (.t 16), none, [16]⟩] none [1, 3])
 (.seq (.reg 2 [⟨some 17, .faddr 27 (.t 1) 0 0, none, []⟩,
  ⟨some 18, .load 23 none (.t 17), none, [17]⟩,
  ⟨some 19, .bin .eql 23 (.t 18) (.c (Value.int IntKind.u8 4)) 23, none, [18]⟩,
  ⟨some 20, .move (.t 19), none, [19]⟩,
  ⟨some 21, .faddr 27 (.t 1) 0 0, some (3, false), []⟩,
  ⟨some 22, .load 23 none (.t 21), some (3, false), [21]⟩,
  ⟨some 23, .bin .eql 23 (.t 22) (.c (Value.int IntKind.u8 5)) 23, some (3, false), [22]⟩,
  ⟨some 24, .pick (.t 20) (.c (Value.bool true)) (.t 23), none, [20, 23]⟩,
  ⟨some 4, .assign (.t 24), none, [24]⟩] none [1, 3, 4])
 (.seq (.seq (.reg 3 [⟨some 25, .faddr 27 (.t 1) 0 0, none, []⟩,
  ⟨some 26, .load 23 none (.t 25), none, [25]⟩,
  ⟨some 27, .bin .lss 23 (.t 26) (.c (Value.int IntKind.u8 1)) 23, none, [26]⟩,
  ⟨some 28, .move (.t 27), none, [27]⟩,
  ⟨some 29, .faddr 27 (.t 1) 0 0, some (3, false), []⟩,
  ⟨some 30, .load 23 none (.t 29), some (3, false), [29]⟩,
  ⟨some 31, .bin .gtr 23 (.t 30) (.c (Value.int IntKind.u8 7)) 23, some (3, false), [30]⟩,
  ⟨some 32, .pick (.t 28) (.c (Value.bool true)) (.t 31), none, [28, 31]⟩,
  ⟨some 33, .move (.t 32), none, [32]⟩,
  ⟨some 34, .move (.t 3), some (8, false), [3]⟩,
  ⟨some 35, .un .not 4 (.t 34), some (8, false), [34]⟩,
  ⟨some 36, .move (.t 35), some (8, false), [35]⟩,
  ⟨some 37, .faddr 27 (.t 1) 3 3, some (11, true), []⟩,
  ⟨some 38, .load 25 none (.t 37), some (11, true), []⟩,
  ⟨some 39, .len 25 false (.t 38), some (11, true), [37, 38]⟩,
  ⟨some 40, .bin .gtr 3 (.t 39) (.c (Value.int IntKind.i64 0)) 3, some (11, true), [39]⟩,
  ⟨some 41, .pick (.t 36) (.t 40) (.c (Value.bool false)), some (8, false), [36, 40]⟩,
  ⟨some 42, .pick (.t 33) (.c (Value.bool true)) (.t 41), none, [33, 41]⟩,
  ⟨some 43, .move (.t 42), none, [42]⟩,
  ⟨some 44, .faddr 27 (.t 1) 0 0, some (18, false), []⟩,
  ⟨some 45, .load 23 none (.t 44), some (18, false), [44]⟩,
  ⟨some 46, .bin .neq 23 (.t 45) (.c (Value.int IntKind.u8 7)) 23, some (18, false), [45]⟩,
  ⟨some 47, .move (.t 46), some (18, false), [46]⟩,
  ⟨some 48, .faddr 27 (.t 1) 2 2, some (22, true), []⟩,
  ⟨some 49, .load 24 none (.t 48), some (22, true), []⟩,
  ⟨some 50, .len 24 false (.t 49), some (22, true), [48, 49]⟩,
  ⟨some 51, .bin .gtr 3 (.t 50) (.c (Value.int IntKind.i64 0)) 3, some (22, true), [50]⟩,
  ⟨some 52, .pick (.t 47) (.t 51) (.c (Value.bool false)), some (18, false), [47, 51]⟩,
  ⟨some 53, .pick (.t 43) (.c (Value.bool true)) (.t 52), none, [43, 52]⟩,
  ⟨some 54, .move (.t 53), none, [53]⟩,
  ⟨some 55, .move (.t 4), some (29, false), [4]⟩,
  ⟨some 56, .un .not 4 (.t 55), some (29, false), [55]⟩,
  ⟨some 57, .move (.t 56), some (29, false), [56]⟩,
  ⟨some 58, .faddr 27 (.t 1) 1 1, some (32, true), []⟩,
  ⟨some 59, .load 9 none (.t 58), some (32, true), [58]⟩,
  ⟨some 60, .bin .neq 9 (.t 59) (.c (Value.string { data := #[] })) 9, some (32, true), [59]⟩,
  ⟨some 61, .pick (.t 57) (.t 60) (.c (Value.bool false)), some (29, false), [57, 60]⟩,
  ⟨some 62, .pick (.t 54) (.c (Value.bool true)) (.t 61), none, [54, 61]⟩] none [1, 62])
 (.cond [1] (.t 62) (.seq (.reg 4 [⟨some 2, .assign (.c (Value.bool false)), none, []⟩] none [2])
 .ret) .skip))
 k8_thicketref10_form))))
def a_thicketref10_form : AFunc := ⟨133, [.tmp 2], b_thicketref10_form⟩

def j0_thicketref10_twins : IR :=
 (.reg 7 [⟨some 22, .move (.t 3), none, []⟩,
  ⟨some 23, .faddr 27 (.t 1) 2 2, none, []⟩,
  ⟨some 24, .load 24 none (.t 23), none, []⟩,
  ⟨some 25, .move (.t 4), none, []⟩,
  ⟨some 26, .iaddr 24 (.sl 1) (.t 24) (.t 25), none, []⟩,
  ⟨some 27, .load 9 none (.t 26), none, [23, 24, 25, 26]⟩,
  ⟨none, .mput false 68 none (.t 22) (.t 27) (.c (Value.int IntKind.i64 1)), none, [22, 27]⟩] none [1, 3, 4, 6])
def k0_thicketref10_twins : IR := .tail [1, 3, 4, 6] j0_thicketref10_twins
def j1_thicketref10_twins : IR :=
 (.reg 4 [⟨some 12, .move (.t 4), none, []⟩,
  ⟨some 13, .bin .add 3 (.t 12) (.c (Value.int IntKind.i64 1)) 3, none, [12]⟩,
  ⟨some 4, .assign (.t 13), none, [13]⟩] none [1, 3, 4, 6])
def k1_thicketref10_twins : IR := .tail [1, 3, 4, 6] j1_thicketref10_twins
def j2_thicketref10_twins : IR :=
 (.seq (.block 1 (.seq (.seq (.reg 5 [⟨some 14, .move (.t 3), none, []⟩,
  ⟨some 15, .faddr 27 (.t 1) 2 2, none, []⟩,
  ⟨some 16, .load 24 none (.t 15), none, []⟩,
  ⟨some 17, .move (.t 4), none, []⟩,
  ⟨some 18, .iaddr 24 (.sl 1) (.t 16) (.t 17), none, []⟩,
  ⟨some 19, .load 9 none (.t 18), none, [15, 16, 17, 18]⟩,
  ⟨some 20, .mlook 68 none (.int .i64 0) (.t 14) (.t 19), none, [14, 19]⟩,
  ⟨some 21, .bin .gtr 3 (.t 20) (.c (Value.int IntKind.i64 0)) 3, none, [20]⟩] none [1, 3, 4, 6, 21])
 (.cond [1, 3, 4, 6] (.t 21) (.seq (.reg 6 [⟨some 2, .assign (.c (Value.bool true)), none, []⟩] none [2])
 .ret) .skip))
 k0_thicketref10_twins))
 k1_thicketref10_twins)
def k2_thicketref10_twins : IR := .tail [1, 3, 4, 6] j2_thicketref10_twins
def w0_thicketref10_twins : IR :=
 (.seq (.seq (.reg 3 [⟨some 7, .move (.t 4), none, []⟩,
  ⟨some 8, .faddr 27 (.t 1) 2 2, none, []⟩,
  ⟨some 9, .load 24 none (.t 8), none, []⟩,
  ⟨some 10, .len 24 false (.t 9), none, [8, 9]⟩,
  ⟨some 11, .bin .lss 3 (.t 7) (.t 10) 3, none, [7, 10]⟩] none [1, 3, 4, 6, 11])
 (.cond [1, 3, 4, 6] (.t 11) .skip (.exit 0)))
 k2_thicketref10_twins)
def l0_thicketref10_twins : IR := .loop [1, 3, 4, 6] w0_thicketref10_twins
def j3_thicketref10_twins : IR :=
 (.reg 10 [⟨some 33, .move (.t 5), none, []⟩,
  ⟨some 34, .bin .add 3 (.t 33) (.c (Value.int IntKind.i64 1)) 3, none, [33]⟩,
  ⟨some 5, .assign (.t 34), none, [34]⟩] none [1, 5])
def k3_thicketref10_twins : IR := .tail [1, 5] j3_thicketref10_twins
def j4_thicketref10_twins : IR :=
 (.seq (.block 3 (.seq (.reg 11 [⟨some 35, .faddr 27 (.t 1) 3 3, none, []⟩,
  ⟨some 36, .load 25 none (.t 35), none, []⟩,
  ⟨some 37, .move (.t 5), none, []⟩,
  ⟨some 38, .iaddr 25 (.sl 4) (.t 36) (.t 37), none, []⟩,
  ⟨some 39, .load 27 (some 4) (.t 38), none, []⟩,
  ⟨some 40, .call n_thicketref10_twins [(.t 39)] [27], none, [35, 36, 37, 38, 39]⟩] none [1, 5, 40])
 (.cond [1, 5] (.t 40) (.seq (.reg 12 [⟨some 2, .assign (.c (Value.bool true)), none, []⟩] none [2])
 .ret) .skip)))
 k3_thicketref10_twins)
def k4_thicketref10_twins : IR := .tail [1, 5] j4_thicketref10_twins
def w1_thicketref10_twins : IR :=
 (.seq (.seq (.reg 9 [⟨some 28, .move (.t 5), none, []⟩,
  ⟨some 29, .faddr 27 (.t 1) 3 3, none, []⟩,
  ⟨some 30, .load 25 none (.t 29), none, []⟩,
  ⟨some 31, .len 25 false (.t 30), none, [29, 30]⟩,
  ⟨some 32, .bin .lss 3 (.t 28) (.t 31) 3, none, [28, 31]⟩] none [1, 5, 32])
 (.cond [1, 5] (.t 32) .skip (.exit 2)))
 k4_thicketref10_twins)
def l1_thicketref10_twins : IR := .loop [1, 5] w1_thicketref10_twins
def j5_thicketref10_twins : IR :=
 (.seq (.reg 13 [⟨some 2, .assign (.c (Value.bool false)), none, []⟩] none [2])
 .ret)
def k5_thicketref10_twins : IR := .tail [] j5_thicketref10_twins
def j6_thicketref10_twins : IR :=
 (.seq (.seq (.reg 8 [⟨some 5, .assign (.c (Value.int IntKind.i64 0)), none, []⟩] none [1, 5])
 (.block 2 l1_thicketref10_twins))
 k5_thicketref10_twins)
def k6_thicketref10_twins : IR := .tail [1] j6_thicketref10_twins
def b_thicketref10_twins : IR :=
 (.seq (.reg 0 [⟨some 1, .box 27 (.t 0), none, [0]⟩,
  ⟨some 2, .assign (.c (Value.bool false)), none, [2]⟩] none [1])
 (.seq (.reg 1 [⟨some 6, .mkmap 68, none, []⟩,
  ⟨some 3, .assign (.t 6), none, []⟩] none [1, 3, 6])
 (.seq (.seq (.reg 2 [⟨some 4, .assign (.c (Value.int IntKind.i64 0)), none, []⟩] none [1, 3, 4, 6])
 (.block 0 l0_thicketref10_twins))
 k6_thicketref10_twins)))
def a_thicketref10_twins : AFunc := ⟨41, [.tmp 2], b_thicketref10_twins⟩

def j0_thicketref10_Check : IR :=
 (.seq (.reg 9 [⟨some 2, .assign (.c (Value.int IntKind.i64 0)), none, []⟩] none [2])
 .ret)
def k0_thicketref10_Check : IR := .tail [] j0_thicketref10_Check
def j1_thicketref10_Check : IR :=
 (.seq (.reg 6 [⟨some 12, .load 27 (some 4) (.t 1), none, []⟩,
  ⟨some 13, .call n_thicketref10_twins [(.t 12)] [27], none, [1, 12]⟩,
  ⟨some 4, .assign (.t 13), none, [13]⟩] none [4])
 (.seq (.seq (.reg 7 [⟨some 14, .move (.t 4), none, [4]⟩] none [14])
 (.cond [] (.t 14) (.seq (.reg 8 [⟨some 2, .assign (.c (Value.int IntKind.i64 102)), none, []⟩] none [2])
 .ret) .skip))
 k0_thicketref10_Check))
def k1_thicketref10_Check : IR := .tail [1] j1_thicketref10_Check
def j2_thicketref10_Check : IR :=
 (.seq (.reg 3 [⟨some 8, .load 27 (some 4) (.t 1), none, []⟩,
  ⟨some 9, .call n_thicketref10_form [(.t 8)] [27], none, [8]⟩,
  ⟨some 3, .assign (.t 9), none, [9]⟩] none [1, 3])
 (.seq (.seq (.reg 4 [⟨some 10, .move (.t 3), none, [3]⟩,
  ⟨some 11, .un .not 4 (.t 10), none, [10]⟩] none [1, 11])
 (.cond [1] (.t 11) (.seq (.reg 5 [⟨some 2, .assign (.c (Value.int IntKind.i64 100)), none, []⟩] none [2])
 .ret) .skip))
 k1_thicketref10_Check))
def k2_thicketref10_Check : IR := .tail [1] j2_thicketref10_Check
def b_thicketref10_Check : IR :=
 (.seq (.reg 0 [⟨some 1, .box 27 (.t 0), none, [0]⟩,
  ⟨some 2, .assign (.c (Value.int IntKind.i64 0)), none, [2]⟩] none [1])
 (.seq (.seq (.reg 1 [⟨some 5, .load 27 (some 4) (.t 1), none, []⟩,
  ⟨some 6, .call n_thicketref10_deep [(.t 5)] [27], none, [5]⟩,
  ⟨some 7, .bin .gtr 3 (.t 6) (.c (Value.int IntKind.i64 256)) 3, none, [6]⟩] none [1, 7])
 (.cond [1] (.t 7) (.seq (.reg 2 [⟨some 2, .assign (.c (Value.int IntKind.i64 101)), none, []⟩] none [2])
 .ret) .skip))
 k2_thicketref10_Check))
def a_thicketref10_Check : AFunc := ⟨15, [.tmp 2], b_thicketref10_Check⟩

def j0_thicketref10_quoted : IR :=
 (.reg 5 [⟨some 14, .move (.t 5), none, []⟩,
  ⟨some 15, .bin .add 3 (.t 14) (.c (Value.int IntKind.i64 1)) 3, none, [14]⟩,
  ⟨some 5, .assign (.t 15), none, [15]⟩] none [0, 3, 4, 5, 7, 8, 9, 22, 33, 45, 48])
def k0_thicketref10_quoted : IR := .tail [0, 3, 4, 5, 7, 8, 9, 22, 33, 45, 48] j0_thicketref10_quoted
def j1_thicketref10_quoted : IR :=
 (.seq (.block 1 (.seq (.reg 6 [⟨some 16, .move (.t 0), none, []⟩,
  ⟨some 17, .move (.t 5), none, []⟩,
  ⟨some 18, .index 9 .str none (.t 16) (.t 17), none, [16, 17]⟩,
  ⟨some 6, .assign (.t 18), none, [18]⟩] none [0, 3, 4, 5, 6, 7, 8, 9, 22, 33, 45, 48])
 (.block 2 (.seq (.reg 8 [⟨some 24, .move (.t 4), none, []⟩,
  ⟨some 25, .move (.t 6), none, []⟩,
  ⟨some 26, .mlook 76 (some .u8) (.int .u8 0) (.t 24) (.t 25), none, [24, 25]⟩,
  ⟨some 27, .bin .neq 5 (.t 26) (.c (Value.int IntKind.u8 0)) 5, none, [26]⟩,
  ⟨some 23, .assign (.t 27), none, [27]⟩] none [0, 3, 4, 5, 6, 7, 8, 9, 22, 23, 33, 45, 48])
 (.cond [0, 3, 4, 5, 6, 7, 8, 9, 22, 33, 45, 48] (.t 23) (.reg 9 [⟨some 28, .move (.t 3), none, []⟩,
  ⟨some 29, .move (.t 4), none, []⟩,
  ⟨some 30, .move (.t 6), none, [6]⟩,
  ⟨some 31, .mlook 76 (some .u8) (.int .u8 0) (.t 29) (.t 30), none, [29, 30]⟩,
  ⟨some 32, .lit 22 1 [(.c (Value.int IntKind.u8 92)), (.t 31)], none, [31]⟩,
  ⟨some 33, .append 22 22 false 1 1 (.t 28) (.t 32), none, [28, 32]⟩,
  ⟨some 3, .assign (.t 33), none, []⟩] none [0, 3, 4, 5, 7, 8, 9, 22, 33, 45, 48]) (.seq (.reg 10 [⟨some 35, .move (.t 6), none, []⟩,
  ⟨some 36, .bin .lss 5 (.t 35) (.c (Value.int IntKind.u8 32)) 5, none, [35]⟩,
  ⟨some 34, .assign (.t 36), none, [36]⟩] none [0, 3, 4, 5, 6, 7, 8, 9, 22, 33, 34, 45, 48])
 (.cond [0, 3, 4, 5, 6, 7, 8, 9, 22, 33, 45, 48] (.t 34) (.reg 11 [⟨some 37, .move (.t 3), none, []⟩,
  ⟨some 38, .move (.t 6), none, []⟩,
  ⟨some 39, .bin .quo 5 (.t 38) (.c (Value.int IntKind.u8 16)) 5, none, [38]⟩,
  ⟨some 40, .index 9 .str none (.c (Value.string { data := #[48, 49, 50, 51, 52, 53, 54, 55, 56, 57, 97, 98, 99, 100, 101, 102] })) (.t 39), none, [39]⟩,
  ⟨some 41, .move (.t 6), none, [6]⟩,
  ⟨some 42, .bin .rem 5 (.t 41) (.c (Value.int IntKind.u8 16)) 5, none, [41]⟩,
  ⟨some 43, .index 9 .str none (.c (Value.string { data := #[48, 49, 50, 51, 52, 53, 54, 55, 56, 57, 97, 98, 99, 100, 101, 102] })) (.t 42), none, [42]⟩,
  ⟨some 44, .lit 22 1 [(.c (Value.int IntKind.u8 92)), (.c (Value.int IntKind.u8 117)), (.c (Value.int IntKind.u8 48)), (.c (Value.int IntKind.u8 48)), (.t 40), (.t 43)], none, [40, 43]⟩,
  ⟨some 45, .append 22 22 false 1 1 (.t 37) (.t 44), none, [37, 44]⟩,
  ⟨some 3, .assign (.t 45), none, []⟩] (some (.cons ⟨0, []⟩ (.cons ⟨1, []⟩ (.cons ⟨2, []⟩ (.cons ⟨3, []⟩ (.cons ⟨4, []⟩ (.cons ⟨5, []⟩ (.cons ⟨6, []⟩ (.cons ⟨7, []⟩ (.cons ⟨8, []⟩ (.cons ⟨9, []⟩ .nil))))))))))) [0, 3, 4, 5, 7, 8, 9, 22, 33, 45, 48]) (.reg 7 [⟨some 19, .move (.t 3), none, []⟩,
  ⟨some 20, .move (.t 6), none, [6]⟩,
  ⟨some 21, .lit 22 1 [(.t 20)], none, [20]⟩,
  ⟨some 22, .append 22 22 false 1 1 (.t 19) (.t 21), none, [19, 21]⟩,
  ⟨some 3, .assign (.t 22), none, []⟩] none [0, 3, 4, 5, 7, 8, 9, 22, 33, 45, 48]))))))))
 k0_thicketref10_quoted)
def k1_thicketref10_quoted : IR := .tail [0, 3, 4, 5, 7, 8, 9, 22, 33, 45, 48] j1_thicketref10_quoted
def w0_thicketref10_quoted : IR :=
 (.seq (.seq (.reg 4 [⟨some 10, .move (.t 5), none, []⟩,
  ⟨some 11, .move (.t 0), none, []⟩,
  ⟨some 12, .len 9 true (.t 11), none, [11]⟩,
  ⟨some 13, .bin .lss 3 (.t 10) (.t 12) 3, none, [10, 12]⟩] none [0, 3, 4, 5, 7, 8, 9, 13, 22, 33, 45, 48])
 (.cond [0, 3, 4, 5, 7, 8, 9, 22, 33, 45, 48] (.t 13) .skip (.exit 0)))
 k1_thicketref10_quoted)
def l0_thicketref10_quoted : IR := .loop [0, 3, 4, 5, 7, 8, 9, 22, 33, 45, 48] w0_thicketref10_quoted
def j2_thicketref10_quoted : IR :=
 (.seq (.reg 12 [⟨some 46, .move (.t 3), none, []⟩,
  ⟨some 47, .lit 22 1 [(.c (Value.int IntKind.u8 34))], none, []⟩,
  ⟨some 48, .append 22 22 false 1 1 (.t 46) (.t 47), none, [46, 47]⟩,
  ⟨some 3, .assign (.t 48), none, []⟩] none [3, 7, 22, 33, 45, 48])
 (.seq (.reg 13 [⟨some 49, .move (.t 3), none, []⟩,
  ⟨some 50, .conv 22 9 .bytes (.t 49), none, [3, 7, 22, 33, 45, 48, 49]⟩,
  ⟨some 2, .assign (.t 50), none, [50]⟩] none [2])
 .ret))
def k2_thicketref10_quoted : IR := .tail [3, 7, 22, 33, 45, 48] j2_thicketref10_quoted
def b_thicketref10_quoted : IR :=
 (.seq (.reg 0 [⟨some 2, .assign (.c (Value.string { data := #[] })), none, [2]⟩] none [0])
 (.seq (.reg 1 [⟨some 7, .lit 22 1 [(.c (Value.int IntKind.u8 34))], none, []⟩,
  ⟨some 3, .assign (.t 7), none, []⟩] none [0, 3, 7, 22, 33, 45, 48])
 (.seq (.reg 2 [⟨some 8, .mkmap 76, none, []⟩,
  ⟨none, .mput true 76 (some .u8) (.t 8) (.c (Value.int IntKind.u8 34)) (.c (Value.int IntKind.u8 34)), none, []⟩,
  ⟨none, .mput true 76 (some .u8) (.t 8) (.c (Value.int IntKind.u8 92)) (.c (Value.int IntKind.u8 92)), none, []⟩,
  ⟨none, .mput true 76 (some .u8) (.t 8) (.c (Value.int IntKind.u8 8)) (.c (Value.int IntKind.u8 98)), none, []⟩,
  ⟨none, .mput true 76 (some .u8) (.t 8) (.c (Value.int IntKind.u8 12)) (.c (Value.int IntKind.u8 102)), none, []⟩,
  ⟨none, .mput true 76 (some .u8) (.t 8) (.c (Value.int IntKind.u8 10)) (.c (Value.int IntKind.u8 110)), none, []⟩,
  ⟨none, .mput true 76 (some .u8) (.t 8) (.c (Value.int IntKind.u8 13)) (.c (Value.int IntKind.u8 114)), none, []⟩,
  ⟨none, .mput true 76 (some .u8) (.t 8) (.c (Value.int IntKind.u8 9)) (.c (Value.int IntKind.u8 116)), none, []⟩,
  ⟨some 9, .move (.t 8), none, []⟩,
  ⟨some 4, .assign (.t 9), none, []⟩] none [0, 3, 4, 7, 8, 9, 22, 33, 45, 48])
 (.seq (.seq (.reg 3 [⟨some 5, .assign (.c (Value.int IntKind.i64 0)), none, []⟩] none [0, 3, 4, 5, 7, 8, 9, 22, 33, 45, 48])
 (.block 0 l0_thicketref10_quoted))
 k2_thicketref10_quoted))))
def a_thicketref10_quoted : AFunc := ⟨51, [.tmp 2], b_thicketref10_quoted⟩

def j0_thicketref10_printed : IR :=
 (.reg 24 [⟨some 49, .move (.t 3), none, []⟩,
  ⟨some 50, .faddr 27 (.t 1) 3 3, none, []⟩,
  ⟨some 51, .load 25 none (.t 50), none, []⟩,
  ⟨some 52, .move (.t 5), none, []⟩,
  ⟨some 53, .iaddr 25 (.sl 4) (.t 51) (.t 52), none, []⟩,
  ⟨some 54, .load 27 (some 4) (.t 53), none, []⟩,
  ⟨some 55, .call n_thicketref10_printed [(.t 54)] [27], none, [50, 51, 52, 53, 54]⟩,
  ⟨some 56, .bin .add 9 (.t 49) (.t 55) 9, none, [49, 55]⟩,
  ⟨some 3, .assign (.t 56), none, [56]⟩] none [1, 3, 4, 5])
def k0_thicketref10_printed : IR := .tail [1, 3, 4, 5] j0_thicketref10_printed
def j1_thicketref10_printed : IR :=
 (.seq (.seq (.reg 22 [⟨some 37, .faddr 27 (.t 1) 0 0, none, []⟩,
  ⟨some 38, .load 23 none (.t 37), none, [37]⟩,
  ⟨some 39, .bin .eql 23 (.t 38) (.c (Value.int IntKind.u8 7)) 23, none, [38]⟩] none [1, 3, 4, 5, 39])
 (.cond [1, 3, 4, 5] (.t 39) (.reg 23 [⟨some 40, .move (.t 3), none, []⟩,
  ⟨some 41, .faddr 27 (.t 1) 2 2, none, []⟩,
  ⟨some 42, .load 24 none (.t 41), none, []⟩,
  ⟨some 43, .move (.t 5), none, []⟩,
  ⟨some 44, .iaddr 24 (.sl 1) (.t 42) (.t 43), none, []⟩,
  ⟨some 45, .load 9 none (.t 44), none, [41, 42, 43, 44]⟩,
  ⟨some 46, .call n_thicketref10_quoted [(.t 45)] [9], none, [45]⟩,
  ⟨some 47, .bin .add 9 (.t 40) (.t 46) 9, none, [40, 46]⟩,
  ⟨some 48, .bin .add 9 (.t 47) (.c (Value.string { data := #[58] })) 9, none, [47]⟩,
  ⟨some 3, .assign (.t 48), none, [48]⟩] none [1, 3, 4, 5]) .skip))
 k0_thicketref10_printed)
def k1_thicketref10_printed : IR := .tail [1, 3, 4, 5] j1_thicketref10_printed
def j2_thicketref10_printed : IR :=
 (.reg 19 [⟨some 31, .move (.t 5), none, []⟩,
  ⟨some 32, .bin .add 3 (.t 31) (.c (Value.int IntKind.i64 1)) 3, none, [31]⟩,
  ⟨some 5, .assign (.t 32), none, [32]⟩] none [1, 3, 4, 5])
def k2_thicketref10_printed : IR := .tail [1, 3, 4, 5] j2_thicketref10_printed
def j3_thicketref10_printed : IR :=
 (.seq (.block 2 (.seq (.seq (.reg 20 [⟨some 33, .move (.t 5), none, []⟩,
  ⟨some 34, .bin .gtr 3 (.t 33) (.c (Value.int IntKind.i64 0)) 3, none, [33]⟩] none [1, 3, 4, 5, 34])
 (.cond [1, 3, 4, 5] (.t 34) (.reg 21 [⟨some 35, .move (.t 3), none, []⟩,
  ⟨some 36, .bin .add 9 (.t 35) (.c (Value.string { data := #[44] })) 9, none, [35]⟩,
  ⟨some 3, .assign (.t 36), none, [36]⟩] none [1, 3, 4, 5]) .skip))
 k1_thicketref10_printed))
 k2_thicketref10_printed)
def k3_thicketref10_printed : IR := .tail [1, 3, 4, 5] j3_thicketref10_printed
def w0_thicketref10_printed : IR :=
 (.seq (.seq (.reg 18 [⟨some 26, .move (.t 5), none, []⟩,
  ⟨some 27, .faddr 27 (.t 1) 3 3, none, []⟩,
  ⟨some 28, .load 25 none (.t 27), none, []⟩,
  ⟨some 29, .len 25 false (.t 28), none, [27, 28]⟩,
  ⟨some 30, .bin .lss 3 (.t 26) (.t 29) 3, none, [26, 29]⟩] none [1, 3, 4, 5, 30])
 (.cond [1, 3, 4, 5] (.t 30) .skip (.exit 1)))
 k3_thicketref10_printed)
def l0_thicketref10_printed : IR := .loop [1, 3, 4, 5] w0_thicketref10_printed
def j4_thicketref10_printed : IR :=
 (.seq (.reg 25 [⟨some 57, .move (.t 3), none, [3]⟩,
  ⟨some 58, .move (.t 4), none, [4]⟩,
  ⟨some 59, .bin .add 9 (.t 57) (.t 58) 9, none, [57, 58]⟩,
  ⟨some 2, .assign (.t 59), none, [59]⟩] none [2])
 .ret)
def k4_thicketref10_printed : IR := .tail [3, 4] j4_thicketref10_printed
def j5_thicketref10_printed : IR :=
 (.seq (.seq (.reg 17 [⟨some 5, .assign (.c (Value.int IntKind.i64 0)), none, []⟩] none [1, 3, 4, 5])
 (.block 1 l0_thicketref10_printed))
 k4_thicketref10_printed)
def k5_thicketref10_printed : IR := .tail [1, 3, 4] j5_thicketref10_printed
def j6_thicketref10_printed : IR :=
 (.seq (.reg 12 [⟨some 3, .assign (.c (Value.string { data := #[91] })), none, []⟩] none [1, 3])
 (.seq (.reg 13 [⟨some 4, .assign (.c (Value.string { data := #[93] })), none, []⟩] none [1, 3, 4])
 (.seq (.seq (.reg 14 [⟨some 23, .faddr 27 (.t 1) 0 0, none, []⟩,
  ⟨some 24, .load 23 none (.t 23), none, [23]⟩,
  ⟨some 25, .bin .eql 23 (.t 24) (.c (Value.int IntKind.u8 7)) 23, none, [24]⟩] none [1, 3, 4, 25])
 (.cond [1, 3, 4] (.t 25) (.seq (.reg 15 [⟨some 3, .assign (.c (Value.string { data := #[123] })), none, []⟩] none [1, 3])
 (.reg 16 [⟨some 4, .assign (.c (Value.string { data := #[125] })), none, []⟩] none [1, 3, 4])) .skip))
 k5_thicketref10_printed)))
def k6_thicketref10_printed : IR := .tail [1] j6_thicketref10_printed
def b_thicketref10_printed : IR :=
 (.seq (.reg 0 [⟨some 1, .box 27 (.t 0), none, [0]⟩,
  ⟨some 2, .assign (.c (Value.string { data := #[] })), none, [2]⟩] none [1])
 (.seq (.seq (.reg 1 [⟨some 6, .faddr 27 (.t 1) 0 0, none, []⟩,
  ⟨some 7, .load 23 none (.t 6), none, [6]⟩] none [1, 7])
 (.block 0 (.seq (.reg 2 [⟨some 9, .bin .eql 23 (.t 7) (.c (Value.int IntKind.u8 1)) 23, none, []⟩,
  ⟨some 8, .assign (.t 9), none, [9]⟩] none [1, 7, 8])
 (.cond [1, 7] (.t 8) (.seq (.reg 3 [⟨some 2, .assign (.c (Value.string { data := #[110, 117, 108, 108] })), none, []⟩] none [2])
 .ret) (.seq (.reg 4 [⟨some 11, .bin .eql 23 (.t 7) (.c (Value.int IntKind.u8 2)) 23, none, []⟩,
  ⟨some 10, .assign (.t 11), none, [11]⟩] none [1, 7, 10])
 (.cond [1, 7] (.t 10) (.seq (.reg 5 [⟨some 2, .assign (.c (Value.string { data := #[102, 97, 108, 115, 101] })), none, []⟩] none [2])
 .ret) (.seq (.reg 6 [⟨some 13, .bin .eql 23 (.t 7) (.c (Value.int IntKind.u8 3)) 23, none, []⟩,
  ⟨some 12, .assign (.t 13), none, [13]⟩] none [1, 7, 12])
 (.cond [1, 7] (.t 12) (.seq (.reg 7 [⟨some 2, .assign (.c (Value.string { data := #[116, 114, 117, 101] })), none, []⟩] none [2])
 .ret) (.seq (.reg 8 [⟨some 15, .bin .eql 23 (.t 7) (.c (Value.int IntKind.u8 4)) 23, none, []⟩,
  ⟨some 14, .assign (.t 15), none, [15]⟩] none [1, 7, 14])
 (.cond [1, 7] (.t 14) (.seq (.reg 9 [⟨some 16, .faddr 27 (.t 1) 1 1, none, []⟩,
  ⟨some 17, .load 9 none (.t 16), none, [1, 16]⟩,
  ⟨some 2, .assign (.t 17), none, [17]⟩] none [2])
 .ret) (.seq (.reg 10 [⟨some 19, .bin .eql 23 (.t 7) (.c (Value.int IntKind.u8 5)) 23, none, [7]⟩,
  ⟨some 18, .assign (.t 19), none, [19]⟩] none [1, 18])
 (.cond [1] (.t 18) (.seq (.reg 11 [⟨some 20, .faddr 27 (.t 1) 1 1, none, []⟩,
  ⟨some 21, .load 9 none (.t 20), none, [1, 20]⟩,
  ⟨some 22, .call n_thicketref10_quoted [(.t 21)] [9], none, [21]⟩,
  ⟨some 2, .assign (.t 22), none, [22]⟩] none [2])
 .ret) .skip))))))))))))
 k6_thicketref10_printed))
def a_thicketref10_printed : AFunc := ⟨60, [.tmp 2], b_thicketref10_printed⟩

def j0_thicketref10_Print : IR :=
 (.seq (.reg 7 [⟨some 16, .move (.t 5), none, [5]⟩,
  ⟨some 17, .conv 9 22 .toBytes (.t 16), none, [16]⟩,
  ⟨some 2, .assign (.t 17), none, []⟩,
  ⟨some 3, .assign (.c (Value.int IntKind.i64 0)), none, []⟩] none [2, 3, 17])
 .ret)
def k0_thicketref10_Print : IR := .tail [5] j0_thicketref10_Print
def j1_thicketref10_Print : IR :=
 (.seq (.reg 4 [⟨some 11, .load 27 (some 4) (.t 1), none, []⟩,
  ⟨some 12, .call n_thicketref10_printed [(.t 11)] [27], none, [1, 11]⟩,
  ⟨some 5, .assign (.t 12), none, [12]⟩] none [5])
 (.seq (.seq (.reg 5 [⟨some 13, .move (.t 5), none, []⟩,
  ⟨some 14, .len 9 true (.t 13), none, [13]⟩,
  ⟨some 15, .bin .gtr 3 (.t 14) (.c (Value.int IntKind.i64 16777216)) 3, none, [14]⟩] none [5, 15])
 (.cond [5] (.t 15) (.seq (.reg 6 [⟨some 2, .assign (.nilS 1), none, []⟩,
  ⟨some 3, .assign (.c (Value.int IntKind.i64 4)), none, []⟩] none [2, 3, 17])
 .ret) .skip))
 k0_thicketref10_Print))
def k1_thicketref10_Print : IR := .tail [1] j1_thicketref10_Print
def b_thicketref10_Print : IR :=
 (.seq (.reg 0 [⟨some 1, .box 27 (.t 0), none, [0]⟩,
  ⟨some 2, .assign (.nilS 1), none, [2]⟩,
  ⟨some 3, .assign (.c (Value.int IntKind.i64 0)), none, [3]⟩] none [1])
 (.seq (.reg 1 [⟨some 6, .load 27 (some 4) (.t 1), none, []⟩,
  ⟨some 7, .call n_thicketref10_Check [(.t 6)] [27], none, [6]⟩,
  ⟨some 4, .assign (.t 7), none, [7]⟩] none [1, 4])
 (.seq (.seq (.reg 2 [⟨some 8, .move (.t 4), none, []⟩,
  ⟨some 9, .bin .neq 28 (.t 8) (.c (Value.int IntKind.i64 0)) 28, none, [8]⟩] none [1, 4, 9])
 (.cond [1, 4] (.t 9) (.seq (.reg 3 [⟨some 10, .move (.t 4), none, [4]⟩,
  ⟨some 2, .assign (.nilS 1), none, []⟩,
  ⟨some 3, .assign (.t 10), none, [10]⟩] none [2, 3, 17])
 .ret) .skip))
 k1_thicketref10_Print)))
def a_thicketref10_Print : AFunc := ⟨18, [.tmp 2, .tmp 3], b_thicketref10_Print⟩

def b_thicketlaw10_JsonPrints : IR :=
 (.seq (.reg 0 [⟨some 1, .box 27 (.t 0), none, [0]⟩,
  ⟨some 2, .assign (.c (Value.bool false)), none, [2]⟩] none [1])
 (.seq (.reg 1 [⟨some 8, .load 27 (some 4) (.t 1), none, []⟩,
  ⟨some 9, .call n_thicketref10_Copy [(.t 8)] [27], none, [8]⟩,
  ⟨some 3, .alloc 27 [.v (.int .u8 0), .v (.string ⟨#[]⟩), .nil 1, .nil 4], none, []⟩,
  ⟨none, .store 27 (some 4) (.t 3) (.t 9), none, [9]⟩] none [1, 3])
 (.seq (.reg 2 [⟨some 11, .load 27 (some 4) (.t 3), none, []⟩,
  ⟨some 12, .call n_json_Print [(.t 11)] [27], none, [11]⟩,
  ⟨some 10, .move (.t 12), none, []⟩,
  ⟨some 13, .extr (.t 10) 0, none, []⟩,
  ⟨some 14, .extr (.t 10) 1, none, []⟩,
  ⟨some 4, .assign (.t 13), none, []⟩,
  ⟨some 5, .assign (.t 14), none, [14]⟩] none [1, 3, 4, 5, 10, 12, 13])
 (.seq (.reg 3 [⟨some 16, .load 27 (some 4) (.t 1), none, []⟩,
  ⟨some 17, .call n_thicketref10_Print [(.t 16)] [27], none, [16]⟩,
  ⟨some 15, .move (.t 17), none, []⟩,
  ⟨some 18, .extr (.t 15) 0, none, []⟩,
  ⟨some 19, .extr (.t 15) 1, none, []⟩,
  ⟨some 6, .assign (.t 18), none, []⟩,
  ⟨some 7, .assign (.t 19), none, [19]⟩] none [1, 3, 4, 5, 6, 7, 10, 12, 13, 15, 17, 18])
 (.seq (.reg 4 [⟨some 20, .load 27 (some 4) (.t 3), none, []⟩,
  ⟨some 21, .call n_json_Check [(.t 20)] [27], none, [20]⟩,
  ⟨some 22, .load 27 (some 4) (.t 1), none, []⟩,
  ⟨some 23, .call n_thicketref10_Check [(.t 22)] [27], none, [22]⟩,
  ⟨some 24, .bin .eql 28 (.t 21) (.t 23) 28, none, [21, 23]⟩,
  ⟨some 25, .move (.t 24), none, [24]⟩,
  ⟨some 26, .move (.t 4), some (5, true), []⟩,
  ⟨some 27, .conv 22 9 .bytes (.t 26), some (5, true), [4, 10, 12, 13, 26]⟩,
  ⟨some 28, .move (.t 6), some (5, true), []⟩,
  ⟨some 29, .conv 22 9 .bytes (.t 28), some (5, true), [6, 15, 17, 18, 28]⟩,
  ⟨some 30, .bin .eql 9 (.t 27) (.t 29) 9, some (5, true), [27, 29]⟩,
  ⟨some 31, .pick (.t 25) (.t 30) (.c (Value.bool false)), none, [25, 30]⟩,
  ⟨some 32, .move (.t 31), none, [31]⟩,
  ⟨some 33, .move (.t 5), some (12, true), [5]⟩,
  ⟨some 34, .move (.t 7), some (12, true), [7]⟩,
  ⟨some 35, .bin .eql 28 (.t 33) (.t 34) 28, some (12, true), [33, 34]⟩,
  ⟨some 36, .pick (.t 32) (.t 35) (.c (Value.bool false)), none, [32, 35]⟩,
  ⟨some 37, .move (.t 36), none, [36]⟩,
  ⟨some 38, .load 27 (some 4) (.t 3), some (17, true), []⟩,
  ⟨some 39, .load 27 (some 4) (.t 1), some (17, true), []⟩,
  ⟨some 40, .call n_thicketref10_Same [(.t 38), (.t 39)] [27, 27], some (17, true), [1, 3, 38, 39]⟩,
  ⟨some 41, .pick (.t 37) (.t 40) (.c (Value.bool false)), none, [37, 40]⟩,
  ⟨some 2, .assign (.t 41), none, [41]⟩] (some (.cons ⟨0, []⟩ (.cons ⟨2, []⟩ (.cons ⟨1, [2]⟩ (.cons ⟨3, []⟩ (.cons ⟨4, []⟩ (.cons ⟨5, []⟩ (.cons ⟨6, []⟩ (.cons ⟨8, []⟩ (.fork [2] (.cons ⟨7, []⟩ (.cons ⟨9, []⟩ (.cons ⟨10, []⟩ (.cons ⟨11, []⟩ (.cons ⟨12, []⟩ (.cons ⟨13, []⟩ (.cons ⟨14, []⟩ (.cons ⟨15, []⟩ (.cons ⟨16, []⟩ (.cons ⟨17, []⟩ (.cons ⟨18, []⟩ (.cons ⟨19, []⟩ (.cons ⟨20, []⟩ (.cons ⟨21, []⟩ (.cons ⟨22, []⟩ .nil))))))))))))))) (.cons ⟨9, []⟩ (.cons ⟨7, []⟩ (.cons ⟨10, []⟩ (.cons ⟨11, []⟩ (.cons ⟨12, []⟩ (.cons ⟨13, []⟩ (.cons ⟨14, []⟩ (.cons ⟨15, []⟩ (.cons ⟨16, []⟩ (.cons ⟨17, []⟩ (.cons ⟨18, []⟩ (.cons ⟨19, []⟩ (.cons ⟨20, []⟩ (.cons ⟨21, []⟩ (.cons ⟨22, []⟩ .nil))))))))))))))))))))))))) [2])
 .ret)))))
def a_thicketlaw10_JsonPrints : AFunc := ⟨42, [.tmp 2], b_thicketlaw10_JsonPrints⟩

def fnTab : List (FuncId × AFunc) := [(n_thicketref10_Same, a_thicketref10_Same), (n_thicketref10_Copy, a_thicketref10_Copy), (n_json_twin, a_json_twin), (n_json_deep_1, a_json_deep_1), (n_api_Json_66, a_api_Json_66), (n_api_Json, a_api_Json), (n_json_deep, a_json_deep), (n_stringslite_IndexByte, a_stringslite_IndexByte), (n_strings_IndexByte, a_strings_IndexByte), (n_json_reader_takes, a_json_reader_takes), (n_json_reader_fail, a_json_reader_fail), (n_json_reader_digit, a_json_reader_digit), (n_json_reader_digits, a_json_reader_digits), (n_json_reader_number, a_json_reader_number), (n_json_number_1, a_json_number_1), (n_json_number, a_json_number), (n_json_right, a_json_right), (n_json_Check, a_json_Check), (n_utf8_ValidRune, a_utf8_ValidRune), (n_bytealg_Cutover, a_bytealg_Cutover), (n_strings_IndexRune, a_strings_IndexRune), (n_utf8_appendRuneNonASCII, a_utf8_appendRuneNonASCII), (n_utf8_AppendRune, a_utf8_AppendRune), (n_json_quoted, a_json_quoted), (n_json_write, a_json_write), (n_json_Print, a_json_Print), (n_thicketref10_deep, a_thicketref10_deep), (n_thicketref10_reading_ok, a_thicketref10_reading_ok), (n_thicketref10_reading_next, a_thicketref10_reading_next), (n_thicketref10_reading_fail, a_thicketref10_reading_fail), (n_thicketref10_isDigit, a_thicketref10_isDigit), (n_thicketref10_reading_digits, a_thicketref10_reading_digits), (n_thicketref10_reading_number, a_thicketref10_reading_number), (n_thicketref10_Char, a_thicketref10_Char), (n_thicketref10_Right, a_thicketref10_Right), (n_thicketref10_form, a_thicketref10_form), (n_thicketref10_twins, a_thicketref10_twins), (n_thicketref10_Check, a_thicketref10_Check), (n_thicketref10_quoted, a_thicketref10_quoted), (n_thicketref10_printed, a_thicketref10_printed), (n_thicketref10_Print, a_thicketref10_Print), (n_thicketlaw10_JsonPrints, a_thicketlaw10_JsonPrints)]
def modeTab : List (FuncId × List Bool) := [(n_json_reader_takes, [true, false]), (n_json_reader_fail, [true]), (n_json_reader_digit, [true]), (n_json_reader_digits, [true]), (n_json_reader_number, [true]), (n_json_number_1, []), (n_utf8_appendRuneNonASCII, [true, false]), (n_utf8_AppendRune, [true, false]), (n_json_quoted, [true, false]), (n_json_write, [true, false]), (n_thicketref10_reading_ok, [true]), (n_thicketref10_reading_next, [true]), (n_thicketref10_reading_fail, [true, false, false]), (n_thicketref10_reading_digits, [true]), (n_thicketref10_reading_number, [true]), (n_utf8_ValidString, [false])]
def G (n : Nat) : List PV := match n with | 0 => glob0 | 1 => glob1 | _ => []
def extT : Oracle := fun f xs => if f = n_utf8_ValidString then xValidString xs else none
def T : Tab := { fns := fun f => fnTab.lookup f, ext := extT, modes := fun f => (modeTab.lookup f).getD [], glob := G }
theorem fn_thicketref10_Same : T.fns n_thicketref10_Same = some a_thicketref10_Same := rfl
@[simp] theorem tl0_thicketref10_Same (e : Env) : Exec T k0_thicketref10_Same e = Exec T j0_thicketref10_Same (e.keep [2, 3, 5]) := Exec_tail _ _ _
@[simp] theorem tl1_thicketref10_Same (e : Env) : Exec T k1_thicketref10_Same e = Exec T j1_thicketref10_Same (e.keep [2, 3, 5]) := Exec_tail _ _ _
@[simp] theorem tl2_thicketref10_Same (e : Env) : Exec T k2_thicketref10_Same e = Exec T j2_thicketref10_Same (e.keep [2, 3, 6]) := Exec_tail _ _ _
@[simp] theorem tl3_thicketref10_Same (e : Env) : Exec T k3_thicketref10_Same e = Exec T j3_thicketref10_Same (e.keep [2, 3, 6]) := Exec_tail _ _ _
@[simp] theorem tl4_thicketref10_Same (e : Env) : Exec T k4_thicketref10_Same e = Exec T j4_thicketref10_Same (e.keep []) := Exec_tail _ _ _
@[simp] theorem tl5_thicketref10_Same (e : Env) : Exec T k5_thicketref10_Same e = Exec T j5_thicketref10_Same (e.keep [2, 3]) := Exec_tail _ _ _
@[simp] theorem tl6_thicketref10_Same (e : Env) : Exec T k6_thicketref10_Same e = Exec T j6_thicketref10_Same (e.keep [2, 3]) := Exec_tail _ _ _
theorem ex0_thicketref10_Same (e : Env) : Exec T l0_thicketref10_Same e = andThen (Exec T w0_thicketref10_Same (e.keep [2, 3, 5])) (Exec T l0_thicketref10_Same) := Exec_loop _ _ _
theorem ex1_thicketref10_Same (e : Env) : Exec T l1_thicketref10_Same e = andThen (Exec T w1_thicketref10_Same (e.keep [2, 3, 6])) (Exec T l1_thicketref10_Same) := Exec_loop _ _ _
theorem run_thicketref10_Same (xs : List PV) : Cinf T n_thicketref10_Same xs = Run T a_thicketref10_Same xs := Cinf_eq rfl fn_thicketref10_Same
@[simp] theorem md_thicketref10_Same : T.modes n_thicketref10_Same = [] := rfl
@[simp] theorem call_thicketref10_Same (C : Oracle) (e : Env) (xs : List PV) : call T C e n_thicketref10_Same xs = callV (callK1 C n_thicketref10_Same xs (moves e [] [] xs)) := call_modes md_thicketref10_Same
@[simp] theorem callP_thicketref10_Same (C : Oracle) (e : Env) (args : List Opd) (ts : List TypeId) : evP T C e (.call n_thicketref10_Same args ts) = callP (callK1 C n_thicketref10_Same (args.map fun a => a.ev e) (moves e [] [] (args.map fun a => a.ev e))) := evP_call_modes md_thicketref10_Same
theorem fn_thicketref10_Copy : T.fns n_thicketref10_Copy = some a_thicketref10_Copy := rfl
@[simp] theorem tl0_thicketref10_Copy (e : Env) : Exec T k0_thicketref10_Copy e = Exec T j0_thicketref10_Copy (e.keep [1, 2, 3, 4]) := Exec_tail _ _ _
@[simp] theorem tl1_thicketref10_Copy (e : Env) : Exec T k1_thicketref10_Copy e = Exec T j1_thicketref10_Copy (e.keep [1, 2, 3, 4]) := Exec_tail _ _ _
@[simp] theorem tl2_thicketref10_Copy (e : Env) : Exec T k2_thicketref10_Copy e = Exec T j2_thicketref10_Copy (e.keep [1, 2, 3, 5]) := Exec_tail _ _ _
@[simp] theorem tl3_thicketref10_Copy (e : Env) : Exec T k3_thicketref10_Copy e = Exec T j3_thicketref10_Copy (e.keep [1, 2, 3, 5]) := Exec_tail _ _ _
@[simp] theorem tl4_thicketref10_Copy (e : Env) : Exec T k4_thicketref10_Copy e = Exec T j4_thicketref10_Copy (e.keep [2, 3]) := Exec_tail _ _ _
@[simp] theorem tl5_thicketref10_Copy (e : Env) : Exec T k5_thicketref10_Copy e = Exec T j5_thicketref10_Copy (e.keep [1, 2, 3]) := Exec_tail _ _ _
theorem ex0_thicketref10_Copy (e : Env) : Exec T l0_thicketref10_Copy e = andThen (Exec T w0_thicketref10_Copy (e.keep [1, 2, 3, 4])) (Exec T l0_thicketref10_Copy) := Exec_loop _ _ _
theorem ex1_thicketref10_Copy (e : Env) : Exec T l1_thicketref10_Copy e = andThen (Exec T w1_thicketref10_Copy (e.keep [1, 2, 3, 5])) (Exec T l1_thicketref10_Copy) := Exec_loop _ _ _
theorem run_thicketref10_Copy (xs : List PV) : Cinf T n_thicketref10_Copy xs = Run T a_thicketref10_Copy xs := Cinf_eq rfl fn_thicketref10_Copy
@[simp] theorem md_thicketref10_Copy : T.modes n_thicketref10_Copy = [] := rfl
@[simp] theorem call_thicketref10_Copy (C : Oracle) (e : Env) (xs : List PV) : call T C e n_thicketref10_Copy xs = callV (callK1 C n_thicketref10_Copy xs (moves e [] [] xs)) := call_modes md_thicketref10_Copy
@[simp] theorem callP_thicketref10_Copy (C : Oracle) (e : Env) (args : List Opd) (ts : List TypeId) : evP T C e (.call n_thicketref10_Copy args ts) = callP (callK1 C n_thicketref10_Copy (args.map fun a => a.ev e) (moves e [] [] (args.map fun a => a.ev e))) := evP_call_modes md_thicketref10_Copy
theorem fn_json_twin : T.fns n_json_twin = some a_json_twin := rfl
@[simp] theorem tl0_json_twin (e : Env) : Exec T k0_json_twin e = Exec T j0_json_twin (e.keep [1, 3, 6, 7, 8, 9, 10]) := Exec_tail _ _ _
@[simp] theorem tl1_json_twin (e : Env) : Exec T k1_json_twin e = Exec T j1_json_twin (e.keep [1, 3, 6, 7, 8, 9, 10]) := Exec_tail _ _ _
@[simp] theorem tl2_json_twin (e : Env) : Exec T k2_json_twin e = Exec T j2_json_twin (e.keep [1]) := Exec_tail _ _ _
theorem ex0_json_twin (e : Env) : Exec T l0_json_twin e = andThen (Exec T w0_json_twin (e.keep [1, 3, 6, 7, 8, 9, 10])) (Exec T l0_json_twin) := Exec_loop _ _ _
theorem run_json_twin (xs : List PV) : Cinf T n_json_twin xs = Run T a_json_twin xs := Cinf_eq rfl fn_json_twin
@[simp] theorem md_json_twin : T.modes n_json_twin = [] := rfl
@[simp] theorem call_json_twin (C : Oracle) (e : Env) (xs : List PV) : call T C e n_json_twin xs = callV (callK1 C n_json_twin xs (moves e [] [] xs)) := call_modes md_json_twin
@[simp] theorem callP_json_twin (C : Oracle) (e : Env) (args : List Opd) (ts : List TypeId) : evP T C e (.call n_json_twin args ts) = callP (callK1 C n_json_twin (args.map fun a => a.ev e) (moves e [] [] (args.map fun a => a.ev e))) := evP_call_modes md_json_twin
theorem fn_json_deep_1 : T.fns n_json_deep_1 = some a_json_deep_1 := rfl
theorem run_json_deep_1 (xs : List PV) : Cinf T n_json_deep_1 xs = Run T a_json_deep_1 xs := Cinf_eq rfl fn_json_deep_1
@[simp] theorem md_json_deep_1 : T.modes n_json_deep_1 = [] := rfl
@[simp] theorem call_json_deep_1 (C : Oracle) (e : Env) (xs : List PV) : call T C e n_json_deep_1 xs = callV (callK1 C n_json_deep_1 xs (moves e [] [] xs)) := call_modes md_json_deep_1
@[simp] theorem callP_json_deep_1 (C : Oracle) (e : Env) (args : List Opd) (ts : List TypeId) : evP T C e (.call n_json_deep_1 args ts) = callP (callK1 C n_json_deep_1 (args.map fun a => a.ev e) (moves e [] [] (args.map fun a => a.ev e))) := evP_call_modes md_json_deep_1
theorem fn_api_Json_66 : T.fns n_api_Json_66 = some a_api_Json_66 := rfl
@[simp] theorem tl0_api_Json_66 (e : Env) : Exec T k0_api_Json_66 e = Exec T j0_api_Json_66 (e.keep [0, 1, 7, 8]) := Exec_tail _ _ _
@[simp] theorem tl1_api_Json_66 (e : Env) : Exec T k1_api_Json_66 e = Exec T j1_api_Json_66 (e.keep [0, 1, 7, 8]) := Exec_tail _ _ _
@[simp] theorem tl2_api_Json_66 (e : Env) : Exec T k2_api_Json_66 e = Exec T j2_api_Json_66 (e.keep []) := Exec_tail _ _ _
theorem ex0_api_Json_66 (e : Env) : Exec T l0_api_Json_66 e = andThen (Exec T w0_api_Json_66 (e.keep [0, 1, 7, 8])) (Exec T l0_api_Json_66) := Exec_loop _ _ _
theorem run_api_Json_66 (xs : List PV) : Cinf T n_api_Json_66 xs = Run T a_api_Json_66 xs := Cinf_eq rfl fn_api_Json_66
@[simp] theorem md_api_Json_66 : T.modes n_api_Json_66 = [] := rfl
@[simp] theorem call_api_Json_66 (C : Oracle) (e : Env) (xs : List PV) : call T C e n_api_Json_66 xs = callV (callK1 C n_api_Json_66 xs (moves e [] [] xs)) := call_modes md_api_Json_66
@[simp] theorem callP_api_Json_66 (C : Oracle) (e : Env) (args : List Opd) (ts : List TypeId) : evP T C e (.call n_api_Json_66 args ts) = callP (callK1 C n_api_Json_66 (args.map fun a => a.ev e) (moves e [] [] (args.map fun a => a.ev e))) := evP_call_modes md_api_Json_66
theorem fn_api_Json : T.fns n_api_Json = some a_api_Json := rfl
theorem run_api_Json (xs : List PV) : Cinf T n_api_Json xs = Run T a_api_Json xs := Cinf_eq rfl fn_api_Json
@[simp] theorem md_api_Json : T.modes n_api_Json = [] := rfl
@[simp] theorem call_api_Json (C : Oracle) (e : Env) (xs : List PV) : call T C e n_api_Json xs = callV (callK1 C n_api_Json xs (moves e [] [] xs)) := call_modes md_api_Json
@[simp] theorem callP_api_Json (C : Oracle) (e : Env) (args : List Opd) (ts : List TypeId) : evP T C e (.call n_api_Json args ts) = callP (callK1 C n_api_Json (args.map fun a => a.ev e) (moves e [] [] (args.map fun a => a.ev e))) := evP_call_modes md_api_Json
theorem fn_json_deep : T.fns n_json_deep = some a_json_deep := rfl
@[simp] theorem tl0_json_deep (e : Env) : Exec T k0_json_deep e = Exec T j0_json_deep (e.keep [2, 3]) := Exec_tail _ _ _
@[simp] theorem tl1_json_deep (e : Env) : Exec T k1_json_deep e = Exec T j1_json_deep (e.keep [2, 3]) := Exec_tail _ _ _
theorem run_json_deep (xs : List PV) : Cinf T n_json_deep xs = Run T a_json_deep xs := Cinf_eq rfl fn_json_deep
@[simp] theorem md_json_deep : T.modes n_json_deep = [] := rfl
@[simp] theorem call_json_deep (C : Oracle) (e : Env) (xs : List PV) : call T C e n_json_deep xs = callV (callK1 C n_json_deep xs (moves e [] [] xs)) := call_modes md_json_deep
@[simp] theorem callP_json_deep (C : Oracle) (e : Env) (args : List Opd) (ts : List TypeId) : evP T C e (.call n_json_deep args ts) = callP (callK1 C n_json_deep (args.map fun a => a.ev e) (moves e [] [] (args.map fun a => a.ev e))) := evP_call_modes md_json_deep
theorem fn_stringslite_IndexByte : T.fns n_stringslite_IndexByte = some a_stringslite_IndexByte := rfl
theorem run_stringslite_IndexByte (xs : List PV) : Cinf T n_stringslite_IndexByte xs = Run T a_stringslite_IndexByte xs := Cinf_eq rfl fn_stringslite_IndexByte
@[simp] theorem md_stringslite_IndexByte : T.modes n_stringslite_IndexByte = [] := rfl
@[simp] theorem call_stringslite_IndexByte (C : Oracle) (e : Env) (xs : List PV) : call T C e n_stringslite_IndexByte xs = callV (callK1 C n_stringslite_IndexByte xs (moves e [] [] xs)) := call_modes md_stringslite_IndexByte
@[simp] theorem callP_stringslite_IndexByte (C : Oracle) (e : Env) (args : List Opd) (ts : List TypeId) : evP T C e (.call n_stringslite_IndexByte args ts) = callP (callK1 C n_stringslite_IndexByte (args.map fun a => a.ev e) (moves e [] [] (args.map fun a => a.ev e))) := evP_call_modes md_stringslite_IndexByte
theorem fn_strings_IndexByte : T.fns n_strings_IndexByte = some a_strings_IndexByte := rfl
theorem run_strings_IndexByte (xs : List PV) : Cinf T n_strings_IndexByte xs = Run T a_strings_IndexByte xs := Cinf_eq rfl fn_strings_IndexByte
@[simp] theorem md_strings_IndexByte : T.modes n_strings_IndexByte = [] := rfl
@[simp] theorem call_strings_IndexByte (C : Oracle) (e : Env) (xs : List PV) : call T C e n_strings_IndexByte xs = callV (callK1 C n_strings_IndexByte xs (moves e [] [] xs)) := call_modes md_strings_IndexByte
@[simp] theorem callP_strings_IndexByte (C : Oracle) (e : Env) (args : List Opd) (ts : List TypeId) : evP T C e (.call n_strings_IndexByte args ts) = callP (callK1 C n_strings_IndexByte (args.map fun a => a.ev e) (moves e [] [] (args.map fun a => a.ev e))) := evP_call_modes md_strings_IndexByte
theorem fn_json_reader_takes : T.fns n_json_reader_takes = some a_json_reader_takes := rfl
@[simp] theorem tl0_json_reader_takes (e : Env) : Exec T k0_json_reader_takes e = Exec T j0_json_reader_takes (e.keep [100000]) := Exec_tail _ _ _
theorem run_json_reader_takes (xs : List PV) : Cinf T n_json_reader_takes xs = Run T a_json_reader_takes xs := Cinf_eq rfl fn_json_reader_takes
@[simp] theorem md_json_reader_takes : T.modes n_json_reader_takes = [true, false] := rfl
@[simp] theorem call_json_reader_takes (C : Oracle) (e : Env) (xs : List PV) : call T C e n_json_reader_takes xs = callV (callK1 C n_json_reader_takes xs (moves e [] [true, false] xs)) := call_modes md_json_reader_takes
@[simp] theorem callP_json_reader_takes (C : Oracle) (e : Env) (args : List Opd) (ts : List TypeId) : evP T C e (.call n_json_reader_takes args ts) = callP (callK1 C n_json_reader_takes (args.map fun a => a.ev e) (moves e [] [true, false] (args.map fun a => a.ev e))) := evP_call_modes md_json_reader_takes
theorem fn_json_reader_fail : T.fns n_json_reader_fail = some a_json_reader_fail := rfl
theorem run_json_reader_fail (xs : List PV) : Cinf T n_json_reader_fail xs = Run T a_json_reader_fail xs := Cinf_eq rfl fn_json_reader_fail
@[simp] theorem md_json_reader_fail : T.modes n_json_reader_fail = [true] := rfl
@[simp] theorem call_json_reader_fail (C : Oracle) (e : Env) (xs : List PV) : call T C e n_json_reader_fail xs = callV (callK1 C n_json_reader_fail xs (moves e [] [true] xs)) := call_modes md_json_reader_fail
@[simp] theorem callP_json_reader_fail (C : Oracle) (e : Env) (args : List Opd) (ts : List TypeId) : evP T C e (.call n_json_reader_fail args ts) = callP (callK1 C n_json_reader_fail (args.map fun a => a.ev e) (moves e [] [true] (args.map fun a => a.ev e))) := evP_call_modes md_json_reader_fail
theorem fn_json_reader_digit : T.fns n_json_reader_digit = some a_json_reader_digit := rfl
theorem run_json_reader_digit (xs : List PV) : Cinf T n_json_reader_digit xs = Run T a_json_reader_digit xs := Cinf_eq rfl fn_json_reader_digit
@[simp] theorem md_json_reader_digit : T.modes n_json_reader_digit = [true] := rfl
@[simp] theorem call_json_reader_digit (C : Oracle) (e : Env) (xs : List PV) : call T C e n_json_reader_digit xs = callV (callK1 C n_json_reader_digit xs (moves e [] [true] xs)) := call_modes md_json_reader_digit
@[simp] theorem callP_json_reader_digit (C : Oracle) (e : Env) (args : List Opd) (ts : List TypeId) : evP T C e (.call n_json_reader_digit args ts) = callP (callK1 C n_json_reader_digit (args.map fun a => a.ev e) (moves e [] [true] (args.map fun a => a.ev e))) := evP_call_modes md_json_reader_digit
theorem fn_json_reader_digits : T.fns n_json_reader_digits = some a_json_reader_digits := rfl
@[simp] theorem tl0_json_reader_digits (e : Env) : Exec T k0_json_reader_digits e = Exec T j0_json_reader_digits (e.keep [0, 100000]) := Exec_tail _ _ _
@[simp] theorem tl1_json_reader_digits (e : Env) : Exec T k1_json_reader_digits e = Exec T j1_json_reader_digits (e.keep [0, 100000]) := Exec_tail _ _ _
theorem ex0_json_reader_digits (e : Env) : Exec T l0_json_reader_digits e = andThen (Exec T w0_json_reader_digits (e.keep [0, 100000])) (Exec T l0_json_reader_digits) := Exec_loop _ _ _
theorem run_json_reader_digits (xs : List PV) : Cinf T n_json_reader_digits xs = Run T a_json_reader_digits xs := Cinf_eq rfl fn_json_reader_digits
@[simp] theorem md_json_reader_digits : T.modes n_json_reader_digits = [true] := rfl
@[simp] theorem call_json_reader_digits (C : Oracle) (e : Env) (xs : List PV) : call T C e n_json_reader_digits xs = callV (callK1 C n_json_reader_digits xs (moves e [] [true] xs)) := call_modes md_json_reader_digits
@[simp] theorem callP_json_reader_digits (C : Oracle) (e : Env) (args : List Opd) (ts : List TypeId) : evP T C e (.call n_json_reader_digits args ts) = callP (callK1 C n_json_reader_digits (args.map fun a => a.ev e) (moves e [] [true] (args.map fun a => a.ev e))) := evP_call_modes md_json_reader_digits
theorem fn_json_reader_number : T.fns n_json_reader_number = some a_json_reader_number := rfl
@[simp] theorem tl0_json_reader_number (e : Env) : Exec T k0_json_reader_number e = Exec T j0_json_reader_number (e.keep [0, 100000]) := Exec_tail _ _ _
@[simp] theorem tl1_json_reader_number (e : Env) : Exec T k1_json_reader_number e = Exec T j1_json_reader_number (e.keep [0, 100000]) := Exec_tail _ _ _
theorem run_json_reader_number (xs : List PV) : Cinf T n_json_reader_number xs = Run T a_json_reader_number xs := Cinf_eq rfl fn_json_reader_number
@[simp] theorem md_json_reader_number : T.modes n_json_reader_number = [true] := rfl
@[simp] theorem call_json_reader_number (C : Oracle) (e : Env) (xs : List PV) : call T C e n_json_reader_number xs = callV (callK1 C n_json_reader_number xs (moves e [] [true] xs)) := call_modes md_json_reader_number
@[simp] theorem callP_json_reader_number (C : Oracle) (e : Env) (args : List Opd) (ts : List TypeId) : evP T C e (.call n_json_reader_number args ts) = callP (callK1 C n_json_reader_number (args.map fun a => a.ev e) (moves e [] [true] (args.map fun a => a.ev e))) := evP_call_modes md_json_reader_number
theorem fn_json_number_1 : T.fns n_json_number_1 = some a_json_number_1 := rfl
theorem run_json_number_1 (xs : List PV) : Cinf T n_json_number_1 xs = Run T a_json_number_1 xs := Cinf_eq rfl fn_json_number_1
@[simp] theorem md_json_number_1 : T.modes n_json_number_1 = [] := rfl
@[simp] theorem call_json_number_1 (C : Oracle) (e : Env) (xs : List PV) : call T C e n_json_number_1 xs = callV (callK1 C n_json_number_1 xs (moves e [] [] xs)) := call_modes md_json_number_1
@[simp] theorem callP_json_number_1 (C : Oracle) (e : Env) (args : List Opd) (ts : List TypeId) : evP T C e (.call n_json_number_1 args ts) = callP (callK1 C n_json_number_1 (args.map fun a => a.ev e) (moves e [] [] (args.map fun a => a.ev e))) := evP_call_modes md_json_number_1
theorem fn_json_number : T.fns n_json_number = some a_json_number := rfl
theorem run_json_number (xs : List PV) : Cinf T n_json_number xs = Run T a_json_number xs := Cinf_eq rfl fn_json_number
@[simp] theorem md_json_number : T.modes n_json_number = [] := rfl
@[simp] theorem call_json_number (C : Oracle) (e : Env) (xs : List PV) : call T C e n_json_number xs = callV (callK1 C n_json_number xs (moves e [] [] xs)) := call_modes md_json_number
@[simp] theorem callP_json_number (C : Oracle) (e : Env) (args : List Opd) (ts : List TypeId) : evP T C e (.call n_json_number args ts) = callP (callK1 C n_json_number (args.map fun a => a.ev e) (moves e [] [] (args.map fun a => a.ev e))) := evP_call_modes md_json_number
theorem fn_json_right : T.fns n_json_right = some a_json_right := rfl
@[simp] theorem tl0_json_right (e : Env) : Exec T k0_json_right e = Exec T j0_json_right (e.keep [1, 87, 88, 89, 90]) := Exec_tail _ _ _
@[simp] theorem tl1_json_right (e : Env) : Exec T k1_json_right e = Exec T j1_json_right (e.keep [1, 87, 88, 89, 90]) := Exec_tail _ _ _
@[simp] theorem tl2_json_right (e : Env) : Exec T k2_json_right e = Exec T j2_json_right (e.keep [1]) := Exec_tail _ _ _
@[simp] theorem tl3_json_right (e : Env) : Exec T k3_json_right e = Exec T j3_json_right (e.keep [1, 8, 9]) := Exec_tail _ _ _
@[simp] theorem tl4_json_right (e : Env) : Exec T k4_json_right e = Exec T j4_json_right (e.keep [1, 98, 99, 100, 101]) := Exec_tail _ _ _
@[simp] theorem tl5_json_right (e : Env) : Exec T k5_json_right e = Exec T j5_json_right (e.keep [1, 98, 99, 100, 101]) := Exec_tail _ _ _
@[simp] theorem tl6_json_right (e : Env) : Exec T k6_json_right e = Exec T j6_json_right (e.keep []) := Exec_tail _ _ _
@[simp] theorem tl7_json_right (e : Env) : Exec T k7_json_right e = Exec T j7_json_right (e.keep [1]) := Exec_tail _ _ _
theorem ex0_json_right (e : Env) : Exec T l0_json_right e = andThen (Exec T w0_json_right (e.keep [1, 87, 88, 89, 90])) (Exec T l0_json_right) := Exec_loop _ _ _
theorem ex1_json_right (e : Env) : Exec T l1_json_right e = andThen (Exec T w1_json_right (e.keep [1, 98, 99, 100, 101])) (Exec T l1_json_right) := Exec_loop _ _ _
theorem run_json_right (xs : List PV) : Cinf T n_json_right xs = Run T a_json_right xs := Cinf_eq rfl fn_json_right
@[simp] theorem md_json_right : T.modes n_json_right = [] := rfl
@[simp] theorem call_json_right (C : Oracle) (e : Env) (xs : List PV) : call T C e n_json_right xs = callV (callK1 C n_json_right xs (moves e [] [] xs)) := call_modes md_json_right
@[simp] theorem callP_json_right (C : Oracle) (e : Env) (args : List Opd) (ts : List TypeId) : evP T C e (.call n_json_right args ts) = callP (callK1 C n_json_right (args.map fun a => a.ev e) (moves e [] [] (args.map fun a => a.ev e))) := evP_call_modes md_json_right
theorem fn_json_Check : T.fns n_json_Check = some a_json_Check := rfl
@[simp] theorem tl0_json_Check (e : Env) : Exec T k0_json_Check e = Exec T j0_json_Check (e.keep []) := Exec_tail _ _ _
theorem run_json_Check (xs : List PV) : Cinf T n_json_Check xs = Run T a_json_Check xs := Cinf_eq rfl fn_json_Check
@[simp] theorem md_json_Check : T.modes n_json_Check = [] := rfl
@[simp] theorem call_json_Check (C : Oracle) (e : Env) (xs : List PV) : call T C e n_json_Check xs = callV (callK1 C n_json_Check xs (moves e [] [] xs)) := call_modes md_json_Check
@[simp] theorem callP_json_Check (C : Oracle) (e : Env) (args : List Opd) (ts : List TypeId) : evP T C e (.call n_json_Check args ts) = callP (callK1 C n_json_Check (args.map fun a => a.ev e) (moves e [] [] (args.map fun a => a.ev e))) := evP_call_modes md_json_Check
theorem fn_utf8_ValidRune : T.fns n_utf8_ValidRune = some a_utf8_ValidRune := rfl
@[simp] theorem tl0_utf8_ValidRune (e : Env) : Exec T k0_utf8_ValidRune e = Exec T j0_utf8_ValidRune (e.keep []) := Exec_tail _ _ _
theorem run_utf8_ValidRune (xs : List PV) : Cinf T n_utf8_ValidRune xs = Run T a_utf8_ValidRune xs := Cinf_eq rfl fn_utf8_ValidRune
@[simp] theorem md_utf8_ValidRune : T.modes n_utf8_ValidRune = [] := rfl
@[simp] theorem call_utf8_ValidRune (C : Oracle) (e : Env) (xs : List PV) : call T C e n_utf8_ValidRune xs = callV (callK1 C n_utf8_ValidRune xs (moves e [] [] xs)) := call_modes md_utf8_ValidRune
@[simp] theorem callP_utf8_ValidRune (C : Oracle) (e : Env) (args : List Opd) (ts : List TypeId) : evP T C e (.call n_utf8_ValidRune args ts) = callP (callK1 C n_utf8_ValidRune (args.map fun a => a.ev e) (moves e [] [] (args.map fun a => a.ev e))) := evP_call_modes md_utf8_ValidRune
theorem fn_bytealg_Cutover : T.fns n_bytealg_Cutover = some a_bytealg_Cutover := rfl
theorem run_bytealg_Cutover (xs : List PV) : Cinf T n_bytealg_Cutover xs = Run T a_bytealg_Cutover xs := Cinf_eq rfl fn_bytealg_Cutover
@[simp] theorem md_bytealg_Cutover : T.modes n_bytealg_Cutover = [] := rfl
@[simp] theorem call_bytealg_Cutover (C : Oracle) (e : Env) (xs : List PV) : call T C e n_bytealg_Cutover xs = callV (callK1 C n_bytealg_Cutover xs (moves e [] [] xs)) := call_modes md_bytealg_Cutover
@[simp] theorem callP_bytealg_Cutover (C : Oracle) (e : Env) (args : List Opd) (ts : List TypeId) : evP T C e (.call n_bytealg_Cutover args ts) = callP (callK1 C n_bytealg_Cutover (args.map fun a => a.ev e) (moves e [] [] (args.map fun a => a.ev e))) := evP_call_modes md_bytealg_Cutover
theorem fn_strings_IndexRune : T.fns n_strings_IndexRune = some a_strings_IndexRune := rfl
@[simp] theorem tl0_strings_IndexRune (e : Env) : Exec T k0_strings_IndexRune e = Exec T j0_strings_IndexRune (e.keep [175, 176]) := Exec_tail _ _ _
@[simp] theorem tl1_strings_IndexRune (e : Env) : Exec T k1_strings_IndexRune e = Exec T j1_strings_IndexRune (e.keep []) := Exec_tail _ _ _
@[simp] theorem tl2_strings_IndexRune (e : Env) : Exec T k2_strings_IndexRune e = Exec T j2_strings_IndexRune (e.keep [0, 7, 8, 9, 11]) := Exec_tail _ _ _
@[simp] theorem tl3_strings_IndexRune (e : Env) : Exec T k3_strings_IndexRune e = Exec T j3_strings_IndexRune (e.keep [0, 7, 8, 9, 12]) := Exec_tail _ _ _
@[simp] theorem tl4_strings_IndexRune (e : Env) : Exec T k4_strings_IndexRune e = Exec T j4_strings_IndexRune (e.keep [0, 7, 8, 9, 12]) := Exec_tail _ _ _
@[simp] theorem tl5_strings_IndexRune (e : Env) : Exec T k5_strings_IndexRune e = Exec T j5_strings_IndexRune (e.keep [8, 9]) := Exec_tail _ _ _
@[simp] theorem tl6_strings_IndexRune (e : Env) : Exec T k6_strings_IndexRune e = Exec T j6_strings_IndexRune (e.keep [0, 7, 8, 9]) := Exec_tail _ _ _
@[simp] theorem tl7_strings_IndexRune (e : Env) : Exec T k7_strings_IndexRune e = Exec T j7_strings_IndexRune (e.keep [0, 7, 8, 9]) := Exec_tail _ _ _
@[simp] theorem tl8_strings_IndexRune (e : Env) : Exec T k8_strings_IndexRune e = Exec T j8_strings_IndexRune (e.keep [0, 7, 8, 9, 14, 15, 16]) := Exec_tail _ _ _
@[simp] theorem tl9_strings_IndexRune (e : Env) : Exec T k9_strings_IndexRune e = Exec T j9_strings_IndexRune (e.keep [0, 7, 8, 9, 14, 15, 16]) := Exec_tail _ _ _
@[simp] theorem tl10_strings_IndexRune (e : Env) : Exec T k10_strings_IndexRune e = Exec T j10_strings_IndexRune (e.keep [8, 9]) := Exec_tail _ _ _
@[simp] theorem tl11_strings_IndexRune (e : Env) : Exec T k11_strings_IndexRune e = Exec T j11_strings_IndexRune (e.keep [0, 7, 8, 9, 14, 15]) := Exec_tail _ _ _
@[simp] theorem tl12_strings_IndexRune (e : Env) : Exec T k12_strings_IndexRune e = Exec T j12_strings_IndexRune (e.keep [0, 7, 8, 9, 14, 15]) := Exec_tail _ _ _
@[simp] theorem tl13_strings_IndexRune (e : Env) : Exec T k13_strings_IndexRune e = Exec T j13_strings_IndexRune (e.keep []) := Exec_tail _ _ _
@[simp] theorem tl14_strings_IndexRune (e : Env) : Exec T k14_strings_IndexRune e = Exec T j14_strings_IndexRune (e.keep []) := Exec_tail _ _ _
theorem ex0_strings_IndexRune (e : Env) : Exec T l0_strings_IndexRune e = andThen (Exec T w0_strings_IndexRune (e.keep [175])) (Exec T l0_strings_IndexRune) := Exec_loop _ _ _
theorem ex2_strings_IndexRune (e : Env) : Exec T l2_strings_IndexRune e = andThen (Exec T w2_strings_IndexRune (e.keep [0, 7, 8, 9, 12])) (Exec T l2_strings_IndexRune) := Exec_loop _ _ _
theorem ex1_strings_IndexRune (e : Env) : Exec T l1_strings_IndexRune e = andThen (Exec T w1_strings_IndexRune (e.keep [0, 7, 8, 9])) (Exec T l1_strings_IndexRune) := Exec_loop _ _ _
theorem ex4_strings_IndexRune (e : Env) : Exec T l4_strings_IndexRune e = andThen (Exec T w4_strings_IndexRune (e.keep [0, 7, 8, 9, 14, 15, 16])) (Exec T l4_strings_IndexRune) := Exec_loop _ _ _
theorem ex3_strings_IndexRune (e : Env) : Exec T l3_strings_IndexRune e = andThen (Exec T w3_strings_IndexRune (e.keep [0, 7, 8, 9, 14, 15])) (Exec T l3_strings_IndexRune) := Exec_loop _ _ _
theorem run_strings_IndexRune (xs : List PV) : Cinf T n_strings_IndexRune xs = Run T a_strings_IndexRune xs := Cinf_eq rfl fn_strings_IndexRune
@[simp] theorem md_strings_IndexRune : T.modes n_strings_IndexRune = [] := rfl
@[simp] theorem call_strings_IndexRune (C : Oracle) (e : Env) (xs : List PV) : call T C e n_strings_IndexRune xs = callV (callK1 C n_strings_IndexRune xs (moves e [] [] xs)) := call_modes md_strings_IndexRune
@[simp] theorem callP_strings_IndexRune (C : Oracle) (e : Env) (args : List Opd) (ts : List TypeId) : evP T C e (.call n_strings_IndexRune args ts) = callP (callK1 C n_strings_IndexRune (args.map fun a => a.ev e) (moves e [] [] (args.map fun a => a.ev e))) := evP_call_modes md_strings_IndexRune
theorem fn_utf8_appendRuneNonASCII : T.fns n_utf8_appendRuneNonASCII = some a_utf8_appendRuneNonASCII := rfl
@[simp] theorem tl0_utf8_appendRuneNonASCII (e : Env) : Exec T k0_utf8_appendRuneNonASCII e = Exec T j0_utf8_appendRuneNonASCII (e.keep [0, 1, 5, 25, 100000]) := Exec_tail _ _ _
theorem run_utf8_appendRuneNonASCII (xs : List PV) : Cinf T n_utf8_appendRuneNonASCII xs = Run T a_utf8_appendRuneNonASCII xs := Cinf_eq rfl fn_utf8_appendRuneNonASCII
@[simp] theorem md_utf8_appendRuneNonASCII : T.modes n_utf8_appendRuneNonASCII = [true, false] := rfl
@[simp] theorem call_utf8_appendRuneNonASCII (C : Oracle) (e : Env) (xs : List PV) : call T C e n_utf8_appendRuneNonASCII xs = callV (callK1 C n_utf8_appendRuneNonASCII xs (moves e [] [true, false] xs)) := call_modes md_utf8_appendRuneNonASCII
@[simp] theorem callP_utf8_appendRuneNonASCII (C : Oracle) (e : Env) (args : List Opd) (ts : List TypeId) : evP T C e (.call n_utf8_appendRuneNonASCII args ts) = callP (callK1 C n_utf8_appendRuneNonASCII (args.map fun a => a.ev e) (moves e [] [true, false] (args.map fun a => a.ev e))) := evP_call_modes md_utf8_appendRuneNonASCII
theorem fn_utf8_AppendRune : T.fns n_utf8_AppendRune = some a_utf8_AppendRune := rfl
@[simp] theorem tl0_utf8_AppendRune (e : Env) : Exec T k0_utf8_AppendRune e = Exec T j0_utf8_AppendRune (e.keep [0, 1, 100000]) := Exec_tail _ _ _
theorem run_utf8_AppendRune (xs : List PV) : Cinf T n_utf8_AppendRune xs = Run T a_utf8_AppendRune xs := Cinf_eq rfl fn_utf8_AppendRune
@[simp] theorem md_utf8_AppendRune : T.modes n_utf8_AppendRune = [true, false] := rfl
@[simp] theorem call_utf8_AppendRune (C : Oracle) (e : Env) (xs : List PV) : call T C e n_utf8_AppendRune xs = callV (callK1 C n_utf8_AppendRune xs (moves e [] [true, false] xs)) := call_modes md_utf8_AppendRune
@[simp] theorem callP_utf8_AppendRune (C : Oracle) (e : Env) (args : List Opd) (ts : List TypeId) : evP T C e (.call n_utf8_AppendRune args ts) = callP (callK1 C n_utf8_AppendRune (args.map fun a => a.ev e) (moves e [] [true, false] (args.map fun a => a.ev e))) := evP_call_modes md_utf8_AppendRune
theorem fn_json_quoted : T.fns n_json_quoted = some a_json_quoted := rfl
@[simp] theorem tl0_json_quoted (e : Env) : Exec T k0_json_quoted e = Exec T j0_json_quoted (e.keep [0, 10, 12, 13, 20, 32, 44, 100000]) := Exec_tail _ _ _
@[simp] theorem tl1_json_quoted (e : Env) : Exec T k1_json_quoted e = Exec T j1_json_quoted (e.keep [0, 10, 20, 32, 44, 100000]) := Exec_tail _ _ _
theorem ex0_json_quoted (e : Env) : Exec T l0_json_quoted e = andThen (Exec T w0_json_quoted (e.keep [0, 10, 12, 20, 32, 44, 100000])) (Exec T l0_json_quoted) := Exec_loop _ _ _
theorem run_json_quoted (xs : List PV) : Cinf T n_json_quoted xs = Run T a_json_quoted xs := Cinf_eq rfl fn_json_quoted
@[simp] theorem md_json_quoted : T.modes n_json_quoted = [true, false] := rfl
@[simp] theorem call_json_quoted (C : Oracle) (e : Env) (xs : List PV) : call T C e n_json_quoted xs = callV (callK1 C n_json_quoted xs (moves e [] [true, false] xs)) := call_modes md_json_quoted
@[simp] theorem callP_json_quoted (C : Oracle) (e : Env) (args : List Opd) (ts : List TypeId) : evP T C e (.call n_json_quoted args ts) = callP (callK1 C n_json_quoted (args.map fun a => a.ev e) (moves e [] [true, false] (args.map fun a => a.ev e))) := evP_call_modes md_json_quoted
theorem fn_json_write : T.fns n_json_write = some a_json_write := rfl
@[simp] theorem tl0_json_write (e : Env) : Exec T k0_json_write e = Exec T j0_json_write (e.keep [0, 3, 5, 7, 41, 42, 43, 44, 45, 54, 66, 69, 100000]) := Exec_tail _ _ _
@[simp] theorem tl1_json_write (e : Env) : Exec T k1_json_write e = Exec T j1_json_write (e.keep [0, 3, 5, 6, 7, 41, 42, 43, 44, 45, 54, 66, 69, 100000]) := Exec_tail _ _ _
@[simp] theorem tl2_json_write (e : Env) : Exec T k2_json_write e = Exec T j2_json_write (e.keep [0, 3, 5, 41, 42, 43, 44, 45, 54, 66, 69, 100000]) := Exec_tail _ _ _
@[simp] theorem tl3_json_write (e : Env) : Exec T k3_json_write e = Exec T j3_json_write (e.keep [0, 3, 5, 41, 42, 43, 44, 45, 54, 66, 69, 100000]) := Exec_tail _ _ _
@[simp] theorem tl4_json_write (e : Env) : Exec T k4_json_write e = Exec T j4_json_write (e.keep [0, 5, 41, 54, 66, 69, 100000]) := Exec_tail _ _ _
@[simp] theorem tl5_json_write (e : Env) : Exec T k5_json_write e = Exec T j5_json_write (e.keep [0, 3, 5, 41, 54, 66, 69, 100000]) := Exec_tail _ _ _
@[simp] theorem tl6_json_write (e : Env) : Exec T k6_json_write e = Exec T j6_json_write (e.keep [0, 3, 41, 54, 66, 69, 100000]) := Exec_tail _ _ _
theorem ex0_json_write (e : Env) : Exec T l0_json_write e = andThen (Exec T w0_json_write (e.keep [0, 3, 5, 41, 42, 43, 44, 45, 54, 66, 69, 100000])) (Exec T l0_json_write) := Exec_loop _ _ _
theorem run_json_write (xs : List PV) : Cinf T n_json_write xs = Run T a_json_write xs := Cinf_eq rfl fn_json_write
@[simp] theorem md_json_write : T.modes n_json_write = [true, false] := rfl
@[simp] theorem call_json_write (C : Oracle) (e : Env) (xs : List PV) : call T C e n_json_write xs = callV (callK1 C n_json_write xs (moves e [] [true, false] xs)) := call_modes md_json_write
@[simp] theorem callP_json_write (C : Oracle) (e : Env) (args : List Opd) (ts : List TypeId) : evP T C e (.call n_json_write args ts) = callP (callK1 C n_json_write (args.map fun a => a.ev e) (moves e [] [true, false] (args.map fun a => a.ev e))) := evP_call_modes md_json_write
theorem fn_json_Print : T.fns n_json_Print = some a_json_Print := rfl
@[simp] theorem tl0_json_Print (e : Env) : Exec T k0_json_Print e = Exec T j0_json_Print (e.keep [5, 12]) := Exec_tail _ _ _
@[simp] theorem tl1_json_Print (e : Env) : Exec T k1_json_Print e = Exec T j1_json_Print (e.keep [1]) := Exec_tail _ _ _
theorem run_json_Print (xs : List PV) : Cinf T n_json_Print xs = Run T a_json_Print xs := Cinf_eq rfl fn_json_Print
@[simp] theorem md_json_Print : T.modes n_json_Print = [] := rfl
@[simp] theorem call_json_Print (C : Oracle) (e : Env) (xs : List PV) : call T C e n_json_Print xs = callV (callK1 C n_json_Print xs (moves e [] [] xs)) := call_modes md_json_Print
@[simp] theorem callP_json_Print (C : Oracle) (e : Env) (args : List Opd) (ts : List TypeId) : evP T C e (.call n_json_Print args ts) = callP (callK1 C n_json_Print (args.map fun a => a.ev e) (moves e [] [] (args.map fun a => a.ev e))) := evP_call_modes md_json_Print
theorem fn_thicketref10_deep : T.fns n_thicketref10_deep = some a_thicketref10_deep := rfl
@[simp] theorem tl0_thicketref10_deep (e : Env) : Exec T k0_thicketref10_deep e = Exec T j0_thicketref10_deep (e.keep [1, 3, 4]) := Exec_tail _ _ _
@[simp] theorem tl1_thicketref10_deep (e : Env) : Exec T k1_thicketref10_deep e = Exec T j1_thicketref10_deep (e.keep [1, 3, 4]) := Exec_tail _ _ _
@[simp] theorem tl2_thicketref10_deep (e : Env) : Exec T k2_thicketref10_deep e = Exec T j2_thicketref10_deep (e.keep [3]) := Exec_tail _ _ _
@[simp] theorem tl3_thicketref10_deep (e : Env) : Exec T k3_thicketref10_deep e = Exec T j3_thicketref10_deep (e.keep [1, 3]) := Exec_tail _ _ _
theorem ex0_thicketref10_deep (e : Env) : Exec T l0_thicketref10_deep e = andThen (Exec T w0_thicketref10_deep (e.keep [1, 3, 4])) (Exec T l0_thicketref10_deep) := Exec_loop _ _ _
theorem run_thicketref10_deep (xs : List PV) : Cinf T n_thicketref10_deep xs = Run T a_thicketref10_deep xs := Cinf_eq rfl fn_thicketref10_deep
@[simp] theorem md_thicketref10_deep : T.modes n_thicketref10_deep = [] := rfl
@[simp] theorem call_thicketref10_deep (C : Oracle) (e : Env) (xs : List PV) : call T C e n_thicketref10_deep xs = callV (callK1 C n_thicketref10_deep xs (moves e [] [] xs)) := call_modes md_thicketref10_deep
@[simp] theorem callP_thicketref10_deep (C : Oracle) (e : Env) (args : List Opd) (ts : List TypeId) : evP T C e (.call n_thicketref10_deep args ts) = callP (callK1 C n_thicketref10_deep (args.map fun a => a.ev e) (moves e [] [] (args.map fun a => a.ev e))) := evP_call_modes md_thicketref10_deep
theorem fn_thicketref10_reading_ok : T.fns n_thicketref10_reading_ok = some a_thicketref10_reading_ok := rfl
theorem run_thicketref10_reading_ok (xs : List PV) : Cinf T n_thicketref10_reading_ok xs = Run T a_thicketref10_reading_ok xs := Cinf_eq rfl fn_thicketref10_reading_ok
@[simp] theorem md_thicketref10_reading_ok : T.modes n_thicketref10_reading_ok = [true] := rfl
@[simp] theorem call_thicketref10_reading_ok (C : Oracle) (e : Env) (xs : List PV) : call T C e n_thicketref10_reading_ok xs = callV (callK1 C n_thicketref10_reading_ok xs (moves e [] [true] xs)) := call_modes md_thicketref10_reading_ok
@[simp] theorem callP_thicketref10_reading_ok (C : Oracle) (e : Env) (args : List Opd) (ts : List TypeId) : evP T C e (.call n_thicketref10_reading_ok args ts) = callP (callK1 C n_thicketref10_reading_ok (args.map fun a => a.ev e) (moves e [] [true] (args.map fun a => a.ev e))) := evP_call_modes md_thicketref10_reading_ok
theorem fn_thicketref10_reading_next : T.fns n_thicketref10_reading_next = some a_thicketref10_reading_next := rfl
@[simp] theorem tl0_thicketref10_reading_next (e : Env) : Exec T k0_thicketref10_reading_next e = Exec T j0_thicketref10_reading_next (e.keep [100000]) := Exec_tail _ _ _
theorem run_thicketref10_reading_next (xs : List PV) : Cinf T n_thicketref10_reading_next xs = Run T a_thicketref10_reading_next xs := Cinf_eq rfl fn_thicketref10_reading_next
@[simp] theorem md_thicketref10_reading_next : T.modes n_thicketref10_reading_next = [true] := rfl
@[simp] theorem call_thicketref10_reading_next (C : Oracle) (e : Env) (xs : List PV) : call T C e n_thicketref10_reading_next xs = callV (callK1 C n_thicketref10_reading_next xs (moves e [] [true] xs)) := call_modes md_thicketref10_reading_next
@[simp] theorem callP_thicketref10_reading_next (C : Oracle) (e : Env) (args : List Opd) (ts : List TypeId) : evP T C e (.call n_thicketref10_reading_next args ts) = callP (callK1 C n_thicketref10_reading_next (args.map fun a => a.ev e) (moves e [] [true] (args.map fun a => a.ev e))) := evP_call_modes md_thicketref10_reading_next
theorem fn_thicketref10_reading_fail : T.fns n_thicketref10_reading_fail = some a_thicketref10_reading_fail := rfl
theorem run_thicketref10_reading_fail (xs : List PV) : Cinf T n_thicketref10_reading_fail xs = Run T a_thicketref10_reading_fail xs := Cinf_eq rfl fn_thicketref10_reading_fail
@[simp] theorem md_thicketref10_reading_fail : T.modes n_thicketref10_reading_fail = [true, false, false] := rfl
@[simp] theorem call_thicketref10_reading_fail (C : Oracle) (e : Env) (xs : List PV) : call T C e n_thicketref10_reading_fail xs = callV (callK1 C n_thicketref10_reading_fail xs (moves e [] [true, false, false] xs)) := call_modes md_thicketref10_reading_fail
@[simp] theorem callP_thicketref10_reading_fail (C : Oracle) (e : Env) (args : List Opd) (ts : List TypeId) : evP T C e (.call n_thicketref10_reading_fail args ts) = callP (callK1 C n_thicketref10_reading_fail (args.map fun a => a.ev e) (moves e [] [true, false, false] (args.map fun a => a.ev e))) := evP_call_modes md_thicketref10_reading_fail
theorem fn_thicketref10_isDigit : T.fns n_thicketref10_isDigit = some a_thicketref10_isDigit := rfl
theorem run_thicketref10_isDigit (xs : List PV) : Cinf T n_thicketref10_isDigit xs = Run T a_thicketref10_isDigit xs := Cinf_eq rfl fn_thicketref10_isDigit
@[simp] theorem md_thicketref10_isDigit : T.modes n_thicketref10_isDigit = [] := rfl
@[simp] theorem call_thicketref10_isDigit (C : Oracle) (e : Env) (xs : List PV) : call T C e n_thicketref10_isDigit xs = callV (callK1 C n_thicketref10_isDigit xs (moves e [] [] xs)) := call_modes md_thicketref10_isDigit
@[simp] theorem callP_thicketref10_isDigit (C : Oracle) (e : Env) (args : List Opd) (ts : List TypeId) : evP T C e (.call n_thicketref10_isDigit args ts) = callP (callK1 C n_thicketref10_isDigit (args.map fun a => a.ev e) (moves e [] [] (args.map fun a => a.ev e))) := evP_call_modes md_thicketref10_isDigit
theorem fn_thicketref10_reading_digits : T.fns n_thicketref10_reading_digits = some a_thicketref10_reading_digits := rfl
@[simp] theorem tl0_thicketref10_reading_digits (e : Env) : Exec T k0_thicketref10_reading_digits e = Exec T j0_thicketref10_reading_digits (e.keep [0, 100000]) := Exec_tail _ _ _
@[simp] theorem tl1_thicketref10_reading_digits (e : Env) : Exec T k1_thicketref10_reading_digits e = Exec T j1_thicketref10_reading_digits (e.keep [0, 100000]) := Exec_tail _ _ _
theorem ex0_thicketref10_reading_digits (e : Env) : Exec T l0_thicketref10_reading_digits e = andThen (Exec T w0_thicketref10_reading_digits (e.keep [0, 100000])) (Exec T l0_thicketref10_reading_digits) := Exec_loop _ _ _
theorem run_thicketref10_reading_digits (xs : List PV) : Cinf T n_thicketref10_reading_digits xs = Run T a_thicketref10_reading_digits xs := Cinf_eq rfl fn_thicketref10_reading_digits
@[simp] theorem md_thicketref10_reading_digits : T.modes n_thicketref10_reading_digits = [true] := rfl
@[simp] theorem call_thicketref10_reading_digits (C : Oracle) (e : Env) (xs : List PV) : call T C e n_thicketref10_reading_digits xs = callV (callK1 C n_thicketref10_reading_digits xs (moves e [] [true] xs)) := call_modes md_thicketref10_reading_digits
@[simp] theorem callP_thicketref10_reading_digits (C : Oracle) (e : Env) (args : List Opd) (ts : List TypeId) : evP T C e (.call n_thicketref10_reading_digits args ts) = callP (callK1 C n_thicketref10_reading_digits (args.map fun a => a.ev e) (moves e [] [true] (args.map fun a => a.ev e))) := evP_call_modes md_thicketref10_reading_digits
theorem fn_thicketref10_reading_number : T.fns n_thicketref10_reading_number = some a_thicketref10_reading_number := rfl
@[simp] theorem tl0_thicketref10_reading_number (e : Env) : Exec T k0_thicketref10_reading_number e = Exec T j0_thicketref10_reading_number (e.keep [0, 3, 100000]) := Exec_tail _ _ _
@[simp] theorem tl1_thicketref10_reading_number (e : Env) : Exec T k1_thicketref10_reading_number e = Exec T j1_thicketref10_reading_number (e.keep [0, 3, 100000]) := Exec_tail _ _ _
@[simp] theorem tl2_thicketref10_reading_number (e : Env) : Exec T k2_thicketref10_reading_number e = Exec T j2_thicketref10_reading_number (e.keep [0, 3, 100000]) := Exec_tail _ _ _
@[simp] theorem tl3_thicketref10_reading_number (e : Env) : Exec T k3_thicketref10_reading_number e = Exec T j3_thicketref10_reading_number (e.keep [0, 3, 100000]) := Exec_tail _ _ _
@[simp] theorem tl4_thicketref10_reading_number (e : Env) : Exec T k4_thicketref10_reading_number e = Exec T j4_thicketref10_reading_number (e.keep [0, 3, 100000]) := Exec_tail _ _ _
theorem run_thicketref10_reading_number (xs : List PV) : Cinf T n_thicketref10_reading_number xs = Run T a_thicketref10_reading_number xs := Cinf_eq rfl fn_thicketref10_reading_number
@[simp] theorem md_thicketref10_reading_number : T.modes n_thicketref10_reading_number = [true] := rfl
@[simp] theorem call_thicketref10_reading_number (C : Oracle) (e : Env) (xs : List PV) : call T C e n_thicketref10_reading_number xs = callV (callK1 C n_thicketref10_reading_number xs (moves e [] [true] xs)) := call_modes md_thicketref10_reading_number
@[simp] theorem callP_thicketref10_reading_number (C : Oracle) (e : Env) (args : List Opd) (ts : List TypeId) : evP T C e (.call n_thicketref10_reading_number args ts) = callP (callK1 C n_thicketref10_reading_number (args.map fun a => a.ev e) (moves e [] [true] (args.map fun a => a.ev e))) := evP_call_modes md_thicketref10_reading_number
theorem fn_thicketref10_Char : T.fns n_thicketref10_Char = some a_thicketref10_Char := rfl
@[simp] theorem tl0_thicketref10_Char (e : Env) : Exec T k0_thicketref10_Char e = Exec T j0_thicketref10_Char (e.keep [0, 3, 4, 5, 7]) := Exec_tail _ _ _
@[simp] theorem tl1_thicketref10_Char (e : Env) : Exec T k1_thicketref10_Char e = Exec T j1_thicketref10_Char (e.keep [0, 3, 4, 5, 7]) := Exec_tail _ _ _
@[simp] theorem tl2_thicketref10_Char (e : Env) : Exec T k2_thicketref10_Char e = Exec T j2_thicketref10_Char (e.keep [0, 3, 4, 5, 7]) := Exec_tail _ _ _
@[simp] theorem tl3_thicketref10_Char (e : Env) : Exec T k3_thicketref10_Char e = Exec T j3_thicketref10_Char (e.keep [3]) := Exec_tail _ _ _
@[simp] theorem tl4_thicketref10_Char (e : Env) : Exec T k4_thicketref10_Char e = Exec T j4_thicketref10_Char (e.keep [3, 4, 5]) := Exec_tail _ _ _
@[simp] theorem tl5_thicketref10_Char (e : Env) : Exec T k5_thicketref10_Char e = Exec T j5_thicketref10_Char (e.keep [0, 3, 4, 5]) := Exec_tail _ _ _
@[simp] theorem tl6_thicketref10_Char (e : Env) : Exec T k6_thicketref10_Char e = Exec T j6_thicketref10_Char (e.keep [0, 3, 4, 5]) := Exec_tail _ _ _
@[simp] theorem tl7_thicketref10_Char (e : Env) : Exec T k7_thicketref10_Char e = Exec T j7_thicketref10_Char (e.keep [0]) := Exec_tail _ _ _
theorem ex0_thicketref10_Char (e : Env) : Exec T l0_thicketref10_Char e = andThen (Exec T w0_thicketref10_Char (e.keep [0, 3, 4, 5, 7])) (Exec T l0_thicketref10_Char) := Exec_loop _ _ _
theorem run_thicketref10_Char (xs : List PV) : Cinf T n_thicketref10_Char xs = Run T a_thicketref10_Char xs := Cinf_eq rfl fn_thicketref10_Char
@[simp] theorem md_thicketref10_Char : T.modes n_thicketref10_Char = [] := rfl
@[simp] theorem call_thicketref10_Char (C : Oracle) (e : Env) (xs : List PV) : call T C e n_thicketref10_Char xs = callV (callK1 C n_thicketref10_Char xs (moves e [] [] xs)) := call_modes md_thicketref10_Char
@[simp] theorem callP_thicketref10_Char (C : Oracle) (e : Env) (args : List Opd) (ts : List TypeId) : evP T C e (.call n_thicketref10_Char args ts) = callP (callK1 C n_thicketref10_Char (args.map fun a => a.ev e) (moves e [] [] (args.map fun a => a.ev e))) := evP_call_modes md_thicketref10_Char
theorem fn_thicketref10_Right : T.fns n_thicketref10_Right = some a_thicketref10_Right := rfl
@[simp] theorem tl0_thicketref10_Right (e : Env) : Exec T k0_thicketref10_Right e = Exec T j0_thicketref10_Right (e.keep [3, 4, 6, 14, 15, 16]) := Exec_tail _ _ _
@[simp] theorem tl1_thicketref10_Right (e : Env) : Exec T k1_thicketref10_Right e = Exec T j1_thicketref10_Right (e.keep [3, 6, 14, 15, 16]) := Exec_tail _ _ _
@[simp] theorem tl2_thicketref10_Right (e : Env) : Exec T k2_thicketref10_Right e = Exec T j2_thicketref10_Right (e.keep []) := Exec_tail _ _ _
theorem ex0_thicketref10_Right (e : Env) : Exec T l0_thicketref10_Right e = andThen (Exec T w0_thicketref10_Right (e.keep [3, 6, 14, 15, 16])) (Exec T l0_thicketref10_Right) := Exec_loop _ _ _
theorem run_thicketref10_Right (xs : List PV) : Cinf T n_thicketref10_Right xs = Run T a_thicketref10_Right xs := Cinf_eq rfl fn_thicketref10_Right
@[simp] theorem md_thicketref10_Right : T.modes n_thicketref10_Right = [] := rfl
@[simp] theorem call_thicketref10_Right (C : Oracle) (e : Env) (xs : List PV) : call T C e n_thicketref10_Right xs = callV (callK1 C n_thicketref10_Right xs (moves e [] [] xs)) := call_modes md_thicketref10_Right
@[simp] theorem callP_thicketref10_Right (C : Oracle) (e : Env) (args : List Opd) (ts : List TypeId) : evP T C e (.call n_thicketref10_Right args ts) = callP (callK1 C n_thicketref10_Right (args.map fun a => a.ev e) (moves e [] [] (args.map fun a => a.ev e))) := evP_call_modes md_thicketref10_Right
theorem fn_thicketref10_form : T.fns n_thicketref10_form = some a_thicketref10_form := rfl
@[simp] theorem tl0_thicketref10_form (e : Env) : Exec T k0_thicketref10_form e = Exec T j0_thicketref10_form (e.keep [1, 6, 7]) := Exec_tail _ _ _
@[simp] theorem tl1_thicketref10_form (e : Env) : Exec T k1_thicketref10_form e = Exec T j1_thicketref10_form (e.keep [1, 7]) := Exec_tail _ _ _
@[simp] theorem tl2_thicketref10_form (e : Env) : Exec T k2_thicketref10_form e = Exec T j2_thicketref10_form (e.keep [1, 6, 8]) := Exec_tail _ _ _
@[simp] theorem tl3_thicketref10_form (e : Env) : Exec T k3_thicketref10_form e = Exec T j3_thicketref10_form (e.keep [1, 8]) := Exec_tail _ _ _
@[simp] theorem tl4_thicketref10_form (e : Env) : Exec T k4_thicketref10_form e = Exec T j4_thicketref10_form (e.keep [6]) := Exec_tail _ _ _
@[simp] theorem tl5_thicketref10_form (e : Env) : Exec T k5_thicketref10_form e = Exec T j5_thicketref10_form (e.keep [1, 6]) := Exec_tail _ _ _
@[simp] theorem tl6_thicketref10_form (e : Env) : Exec T k6_thicketref10_form e = Exec T j6_thicketref10_form (e.keep [1]) := Exec_tail _ _ _
@[simp] theorem tl7_thicketref10_form (e : Env) : Exec T k7_thicketref10_form e = Exec T j7_thicketref10_form (e.keep [1]) := Exec_tail _ _ _
@[simp] theorem tl8_thicketref10_form (e : Env) : Exec T k8_thicketref10_form e = Exec T j8_thicketref10_form (e.keep [1]) := Exec_tail _ _ _
theorem ex0_thicketref10_form (e : Env) : Exec T l0_thicketref10_form e = andThen (Exec T w0_thicketref10_form (e.keep [1, 6, 7])) (Exec T l0_thicketref10_form) := Exec_loop _ _ _
theorem ex1_thicketref10_form (e : Env) : Exec T l1_thicketref10_form e = andThen (Exec T w1_thicketref10_form (e.keep [1, 6, 8])) (Exec T l1_thicketref10_form) := Exec_loop _ _ _
theorem run_thicketref10_form (xs : List PV) : Cinf T n_thicketref10_form xs = Run T a_thicketref10_form xs := Cinf_eq rfl fn_thicketref10_form
@[simp] theorem md_thicketref10_form : T.modes n_thicketref10_form = [] := rfl
@[simp] theorem call_thicketref10_form (C : Oracle) (e : Env) (xs : List PV) : call T C e n_thicketref10_form xs = callV (callK1 C n_thicketref10_form xs (moves e [] [] xs)) := call_modes md_thicketref10_form
@[simp] theorem callP_thicketref10_form (C : Oracle) (e : Env) (args : List Opd) (ts : List TypeId) : evP T C e (.call n_thicketref10_form args ts) = callP (callK1 C n_thicketref10_form (args.map fun a => a.ev e) (moves e [] [] (args.map fun a => a.ev e))) := evP_call_modes md_thicketref10_form
theorem fn_thicketref10_twins : T.fns n_thicketref10_twins = some a_thicketref10_twins := rfl
@[simp] theorem tl0_thicketref10_twins (e : Env) : Exec T k0_thicketref10_twins e = Exec T j0_thicketref10_twins (e.keep [1, 3, 4, 6]) := Exec_tail _ _ _
@[simp] theorem tl1_thicketref10_twins (e : Env) : Exec T k1_thicketref10_twins e = Exec T j1_thicketref10_twins (e.keep [1, 3, 4, 6]) := Exec_tail _ _ _
@[simp] theorem tl2_thicketref10_twins (e : Env) : Exec T k2_thicketref10_twins e = Exec T j2_thicketref10_twins (e.keep [1, 3, 4, 6]) := Exec_tail _ _ _
@[simp] theorem tl3_thicketref10_twins (e : Env) : Exec T k3_thicketref10_twins e = Exec T j3_thicketref10_twins (e.keep [1, 5]) := Exec_tail _ _ _
@[simp] theorem tl4_thicketref10_twins (e : Env) : Exec T k4_thicketref10_twins e = Exec T j4_thicketref10_twins (e.keep [1, 5]) := Exec_tail _ _ _
@[simp] theorem tl5_thicketref10_twins (e : Env) : Exec T k5_thicketref10_twins e = Exec T j5_thicketref10_twins (e.keep []) := Exec_tail _ _ _
@[simp] theorem tl6_thicketref10_twins (e : Env) : Exec T k6_thicketref10_twins e = Exec T j6_thicketref10_twins (e.keep [1]) := Exec_tail _ _ _
theorem ex0_thicketref10_twins (e : Env) : Exec T l0_thicketref10_twins e = andThen (Exec T w0_thicketref10_twins (e.keep [1, 3, 4, 6])) (Exec T l0_thicketref10_twins) := Exec_loop _ _ _
theorem ex1_thicketref10_twins (e : Env) : Exec T l1_thicketref10_twins e = andThen (Exec T w1_thicketref10_twins (e.keep [1, 5])) (Exec T l1_thicketref10_twins) := Exec_loop _ _ _
theorem run_thicketref10_twins (xs : List PV) : Cinf T n_thicketref10_twins xs = Run T a_thicketref10_twins xs := Cinf_eq rfl fn_thicketref10_twins
@[simp] theorem md_thicketref10_twins : T.modes n_thicketref10_twins = [] := rfl
@[simp] theorem call_thicketref10_twins (C : Oracle) (e : Env) (xs : List PV) : call T C e n_thicketref10_twins xs = callV (callK1 C n_thicketref10_twins xs (moves e [] [] xs)) := call_modes md_thicketref10_twins
@[simp] theorem callP_thicketref10_twins (C : Oracle) (e : Env) (args : List Opd) (ts : List TypeId) : evP T C e (.call n_thicketref10_twins args ts) = callP (callK1 C n_thicketref10_twins (args.map fun a => a.ev e) (moves e [] [] (args.map fun a => a.ev e))) := evP_call_modes md_thicketref10_twins
theorem fn_thicketref10_Check : T.fns n_thicketref10_Check = some a_thicketref10_Check := rfl
@[simp] theorem tl0_thicketref10_Check (e : Env) : Exec T k0_thicketref10_Check e = Exec T j0_thicketref10_Check (e.keep []) := Exec_tail _ _ _
@[simp] theorem tl1_thicketref10_Check (e : Env) : Exec T k1_thicketref10_Check e = Exec T j1_thicketref10_Check (e.keep [1]) := Exec_tail _ _ _
@[simp] theorem tl2_thicketref10_Check (e : Env) : Exec T k2_thicketref10_Check e = Exec T j2_thicketref10_Check (e.keep [1]) := Exec_tail _ _ _
theorem run_thicketref10_Check (xs : List PV) : Cinf T n_thicketref10_Check xs = Run T a_thicketref10_Check xs := Cinf_eq rfl fn_thicketref10_Check
@[simp] theorem md_thicketref10_Check : T.modes n_thicketref10_Check = [] := rfl
@[simp] theorem call_thicketref10_Check (C : Oracle) (e : Env) (xs : List PV) : call T C e n_thicketref10_Check xs = callV (callK1 C n_thicketref10_Check xs (moves e [] [] xs)) := call_modes md_thicketref10_Check
@[simp] theorem callP_thicketref10_Check (C : Oracle) (e : Env) (args : List Opd) (ts : List TypeId) : evP T C e (.call n_thicketref10_Check args ts) = callP (callK1 C n_thicketref10_Check (args.map fun a => a.ev e) (moves e [] [] (args.map fun a => a.ev e))) := evP_call_modes md_thicketref10_Check
theorem fn_thicketref10_quoted : T.fns n_thicketref10_quoted = some a_thicketref10_quoted := rfl
@[simp] theorem tl0_thicketref10_quoted (e : Env) : Exec T k0_thicketref10_quoted e = Exec T j0_thicketref10_quoted (e.keep [0, 3, 4, 5, 7, 8, 9, 22, 33, 45, 48]) := Exec_tail _ _ _
@[simp] theorem tl1_thicketref10_quoted (e : Env) : Exec T k1_thicketref10_quoted e = Exec T j1_thicketref10_quoted (e.keep [0, 3, 4, 5, 7, 8, 9, 22, 33, 45, 48]) := Exec_tail _ _ _
@[simp] theorem tl2_thicketref10_quoted (e : Env) : Exec T k2_thicketref10_quoted e = Exec T j2_thicketref10_quoted (e.keep [3, 7, 22, 33, 45, 48]) := Exec_tail _ _ _
theorem ex0_thicketref10_quoted (e : Env) : Exec T l0_thicketref10_quoted e = andThen (Exec T w0_thicketref10_quoted (e.keep [0, 3, 4, 5, 7, 8, 9, 22, 33, 45, 48])) (Exec T l0_thicketref10_quoted) := Exec_loop _ _ _
theorem run_thicketref10_quoted (xs : List PV) : Cinf T n_thicketref10_quoted xs = Run T a_thicketref10_quoted xs := Cinf_eq rfl fn_thicketref10_quoted
@[simp] theorem md_thicketref10_quoted : T.modes n_thicketref10_quoted = [] := rfl
@[simp] theorem call_thicketref10_quoted (C : Oracle) (e : Env) (xs : List PV) : call T C e n_thicketref10_quoted xs = callV (callK1 C n_thicketref10_quoted xs (moves e [] [] xs)) := call_modes md_thicketref10_quoted
@[simp] theorem callP_thicketref10_quoted (C : Oracle) (e : Env) (args : List Opd) (ts : List TypeId) : evP T C e (.call n_thicketref10_quoted args ts) = callP (callK1 C n_thicketref10_quoted (args.map fun a => a.ev e) (moves e [] [] (args.map fun a => a.ev e))) := evP_call_modes md_thicketref10_quoted
theorem fn_thicketref10_printed : T.fns n_thicketref10_printed = some a_thicketref10_printed := rfl
@[simp] theorem tl0_thicketref10_printed (e : Env) : Exec T k0_thicketref10_printed e = Exec T j0_thicketref10_printed (e.keep [1, 3, 4, 5]) := Exec_tail _ _ _
@[simp] theorem tl1_thicketref10_printed (e : Env) : Exec T k1_thicketref10_printed e = Exec T j1_thicketref10_printed (e.keep [1, 3, 4, 5]) := Exec_tail _ _ _
@[simp] theorem tl2_thicketref10_printed (e : Env) : Exec T k2_thicketref10_printed e = Exec T j2_thicketref10_printed (e.keep [1, 3, 4, 5]) := Exec_tail _ _ _
@[simp] theorem tl3_thicketref10_printed (e : Env) : Exec T k3_thicketref10_printed e = Exec T j3_thicketref10_printed (e.keep [1, 3, 4, 5]) := Exec_tail _ _ _
@[simp] theorem tl4_thicketref10_printed (e : Env) : Exec T k4_thicketref10_printed e = Exec T j4_thicketref10_printed (e.keep [3, 4]) := Exec_tail _ _ _
@[simp] theorem tl5_thicketref10_printed (e : Env) : Exec T k5_thicketref10_printed e = Exec T j5_thicketref10_printed (e.keep [1, 3, 4]) := Exec_tail _ _ _
@[simp] theorem tl6_thicketref10_printed (e : Env) : Exec T k6_thicketref10_printed e = Exec T j6_thicketref10_printed (e.keep [1]) := Exec_tail _ _ _
theorem ex0_thicketref10_printed (e : Env) : Exec T l0_thicketref10_printed e = andThen (Exec T w0_thicketref10_printed (e.keep [1, 3, 4, 5])) (Exec T l0_thicketref10_printed) := Exec_loop _ _ _
theorem run_thicketref10_printed (xs : List PV) : Cinf T n_thicketref10_printed xs = Run T a_thicketref10_printed xs := Cinf_eq rfl fn_thicketref10_printed
@[simp] theorem md_thicketref10_printed : T.modes n_thicketref10_printed = [] := rfl
@[simp] theorem call_thicketref10_printed (C : Oracle) (e : Env) (xs : List PV) : call T C e n_thicketref10_printed xs = callV (callK1 C n_thicketref10_printed xs (moves e [] [] xs)) := call_modes md_thicketref10_printed
@[simp] theorem callP_thicketref10_printed (C : Oracle) (e : Env) (args : List Opd) (ts : List TypeId) : evP T C e (.call n_thicketref10_printed args ts) = callP (callK1 C n_thicketref10_printed (args.map fun a => a.ev e) (moves e [] [] (args.map fun a => a.ev e))) := evP_call_modes md_thicketref10_printed
theorem fn_thicketref10_Print : T.fns n_thicketref10_Print = some a_thicketref10_Print := rfl
@[simp] theorem tl0_thicketref10_Print (e : Env) : Exec T k0_thicketref10_Print e = Exec T j0_thicketref10_Print (e.keep [5]) := Exec_tail _ _ _
@[simp] theorem tl1_thicketref10_Print (e : Env) : Exec T k1_thicketref10_Print e = Exec T j1_thicketref10_Print (e.keep [1]) := Exec_tail _ _ _
theorem run_thicketref10_Print (xs : List PV) : Cinf T n_thicketref10_Print xs = Run T a_thicketref10_Print xs := Cinf_eq rfl fn_thicketref10_Print
@[simp] theorem md_thicketref10_Print : T.modes n_thicketref10_Print = [] := rfl
@[simp] theorem call_thicketref10_Print (C : Oracle) (e : Env) (xs : List PV) : call T C e n_thicketref10_Print xs = callV (callK1 C n_thicketref10_Print xs (moves e [] [] xs)) := call_modes md_thicketref10_Print
@[simp] theorem callP_thicketref10_Print (C : Oracle) (e : Env) (args : List Opd) (ts : List TypeId) : evP T C e (.call n_thicketref10_Print args ts) = callP (callK1 C n_thicketref10_Print (args.map fun a => a.ev e) (moves e [] [] (args.map fun a => a.ev e))) := evP_call_modes md_thicketref10_Print
theorem fn_thicketlaw10_JsonPrints : T.fns n_thicketlaw10_JsonPrints = some a_thicketlaw10_JsonPrints := rfl
theorem run_thicketlaw10_JsonPrints (xs : List PV) : Cinf T n_thicketlaw10_JsonPrints xs = Run T a_thicketlaw10_JsonPrints xs := Cinf_eq rfl fn_thicketlaw10_JsonPrints
@[simp] theorem md_thicketlaw10_JsonPrints : T.modes n_thicketlaw10_JsonPrints = [] := rfl
@[simp] theorem call_thicketlaw10_JsonPrints (C : Oracle) (e : Env) (xs : List PV) : call T C e n_thicketlaw10_JsonPrints xs = callV (callK1 C n_thicketlaw10_JsonPrints xs (moves e [] [] xs)) := call_modes md_thicketlaw10_JsonPrints
@[simp] theorem callP_thicketlaw10_JsonPrints (C : Oracle) (e : Env) (args : List Opd) (ts : List TypeId) : evP T C e (.call n_thicketlaw10_JsonPrints args ts) = callP (callK1 C n_thicketlaw10_JsonPrints (args.map fun a => a.ev e) (moves e [] [] (args.map fun a => a.ev e))) := evP_call_modes md_thicketlaw10_JsonPrints
theorem x_utf8_ValidString (xs : List PV) {r : PV × List PV} (h : xValidString xs = some r) : Cinf T n_utf8_ValidString xs = some r := Cinf_iff.2 ⟨1, by show (match xValidString xs with | some r => some r | none => _) = some r; rw [h]⟩
@[simp] theorem md_utf8_ValidString : T.modes n_utf8_ValidString = [false] := rfl
@[simp] theorem call_utf8_ValidString (C : Oracle) (e : Env) (xs : List PV) : call T C e n_utf8_ValidString xs = callV (callK1 C n_utf8_ValidString xs (moves e [] [false] xs)) := call_modes md_utf8_ValidString
end Go.AM.F
