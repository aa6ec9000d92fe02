/- The functions of the program in the abstract machine's form, printed by a program of the session's own (ir.py); Lean checks them against the program. No conditions. -/
import Derived.Test.YtkcnnifgdhabgaaDoorAmVal
namespace Go.AM.F
open Go Go.AM
set_option maxRecDepth 100000

abbrev n_thicketlaw10_JsonBack : FuncId := 5
abbrev n_thicketlaw10_JsonCuts : FuncId := 6
abbrev n_json_Parse : FuncId := 8
abbrev n_thicketref10_Same : FuncId := 10
abbrev n_json_Print : FuncId := 12
abbrev n_json_Check : FuncId := 14
abbrev n_thicketlaw10_begins : FuncId := 16
abbrev n_json_Copy : FuncId := 17
abbrev n_json_Get : FuncId := 18
abbrev n_json_Parse_1 : FuncId := 20
abbrev n_json_reader_blanks : FuncId := 21
abbrev n_json_reader_value : FuncId := 22
abbrev n_json_reader_fail : FuncId := 23
abbrev n_json_write : FuncId := 28
abbrev n_json_deep : FuncId := 30
abbrev n_json_right : FuncId := 31
abbrev n_json_twin : FuncId := 32
abbrev n_slices_Index_string_string : FuncId := 36
abbrev n_json_reader_byte : FuncId := 37
abbrev n_json_reader_want : FuncId := 38
abbrev n_json_reader_text : FuncId := 39
abbrev n_json_reader_list : FuncId := 40
abbrev n_json_reader_object : FuncId := 41
abbrev n_json_reader_number : FuncId := 42
abbrev n_json_quoted : FuncId := 49
abbrev n_api_Json : FuncId := 51
abbrev n_json_deep_1 : FuncId := 52
abbrev n_json_number : FuncId := 53
abbrev n_utf8_ValidString : FuncId := 54
abbrev n_json_reader_escape : FuncId := 56
abbrev n_utf8_DecodeRune : FuncId := 57
abbrev n_json_reader_takes : FuncId := 58
abbrev n_json_reader_digits : FuncId := 59
abbrev n_strings_IndexRune : FuncId := 64
abbrev n_utf8_AppendRune : FuncId := 65
abbrev n_api_Json_66 : FuncId := 66
abbrev n_json_number_1 : FuncId := 67
abbrev n_strings_IndexByte : FuncId := 69
abbrev n_json_reader_four : FuncId := 70
abbrev n_json_reader_cutOff : FuncId := 71
abbrev n_utf8_decodeRuneSlow : FuncId := 72
abbrev n_json_reader_digit : FuncId := 73
abbrev n_utf8_ValidRune : FuncId := 77
abbrev n_bytealg_Cutover : FuncId := 78
abbrev n_bytealg_IndexString : FuncId := 79
abbrev n_utf8_appendRuneNonASCII : FuncId := 80
abbrev n_stringslite_IndexByte : FuncId := 81
abbrev n_bytealg_IndexByteString : FuncId := 83
def glob0 : List PV := ([240, 240, 240, 240, 240, 240, 240, 240, 240, 240, 240, 240, 240, 240, 240, 240, 240, 240, 240, 240, 240, 240, 240, 240, 240, 240, 240, 240, 240, 240, 240, 240, 240, 240, 240, 240, 240, 240, 240, 240, 240, 240, 240, 240, 240, 240, 240, 240, 240, 240, 240, 240, 240, 240, 240, 240, 240, 240, 240, 240, 240, 240, 240, 240, 240, 240, 240, 240, 240, 240, 240, 240, 240, 240, 240, 240, 240, 240, 240, 240, 240, 240, 240, 240, 240, 240, 240, 240, 240, 240, 240, 240, 240, 240, 240, 240, 240, 240, 240, 240, 240, 240, 240, 240, 240, 240, 240, 240, 240, 240, 240, 240, 240, 240, 240, 240, 240, 240, 240, 240, 240, 240, 240, 240, 240, 240, 240, 240, 241, 241, 241, 241, 241, 241, 241, 241, 241, 241, 241, 241, 241, 241, 241, 241, 241, 241, 241, 241, 241, 241, 241, 241, 241, 241, 241, 241, 241, 241, 241, 241, 241, 241, 241, 241, 241, 241, 241, 241, 241, 241, 241, 241, 241, 241, 241, 241, 241, 241, 241, 241, 241, 241, 241, 241, 241, 241, 241, 241, 241, 241, 241, 241, 241, 241, 2, 2, 2, 2, 2, 2, 2, 2, 2, 2, 2, 2, 2, 2, 2, 2, 2, 2, 2, 2, 2, 2, 2, 2, 2, 2, 2, 2, 2, 2, 19, 3, 3, 3, 3, 3, 3, 3, 3, 3, 3, 3, 3, 35, 3, 3, 52, 4, 4, 4, 68, 241, 241, 241, 241, 241, 241, 241, 241, 241, 241, 241] : List Int).map fun z => .v (.int .u8 z)
def glob1 : List PV := ([128, 191, 160, 191, 128, 159, 144, 191, 128, 143, 0, 0, 0, 0, 0, 0, 0, 0, 0, 0, 0, 0, 0, 0, 0, 0, 0, 0, 0, 0, 0, 0] : List Int).map fun z => .v (.int .u8 z)
-- json_Parse_1: builtin recover; operator neq of interface
def j0_json_Parse_1 : IR :=
 (.reg 5 [⟨some 17, .build 27 [(0, 1), (1, 1), (2, 1), (3, 1)] [.v (.int .u8 0), .v (.string ⟨#[]⟩), .v (.slice none 0 0), .v (.slice none 0 0)] [], none, []⟩,
  ⟨some 18, .faddr 46 (.t 4) 0 0, none, []⟩,
  ⟨some 19, .load 28 none (.t 18), none, []⟩,
  ⟨some 20, .faddr 46 (.t 4) 1 1, none, []⟩,
  ⟨some 21, .load 3 none (.t 20), none, []⟩,
  ⟨none, .store 27 (some 4) (.t 0) (.t 17), none, [0, 17, 18]⟩,
  ⟨none, .store 28 none (.t 1) (.t 19), none, [1, 4, 19, 20]⟩,
  ⟨none, .store 3 none (.t 2) (.t 21), none, [2, 21]⟩] (some (.cons ⟨0, []⟩ (.cons ⟨1, []⟩ (.cons ⟨3, []⟩ (.cons ⟨2, []⟩ (.cons ⟨4, []⟩ (.cons ⟨5, [2, 4]⟩ (.cons ⟨6, [4]⟩ (.cons ⟨7, []⟩ .nil))))))))) [100000, 100001, 100002])
def k0_json_Parse_1 : IR := .tail [0, 1, 2, 4, 100000, 100001, 100002] j0_json_Parse_1
def b_json_Parse_1 : IR :=
 (.seq (.reg 0 [⟨some 6, .other (Op.call { callee := (Callee.builtin Builtin.recover), args := #[], argTypes := #[] }), none, []⟩,
  ⟨some 3, .assign (.t 6), none, []⟩] none [0, 1, 2, 3, 6, 100000, 100001, 100002])
 (.seq (.reg 1 [⟨some 7, .move (.t 3), none, []⟩,
  ⟨some 8, .other (Op.binOp BinOp.neq 20 (Operand.tmp 7) (Operand.const Value.nilIface) 20), none, [7]⟩] none [0, 1, 2, 3, 6, 8, 100000, 100001, 100002])
 (.cond [0, 1, 2, 3, 6, 100000, 100001, 100002] (.t 8) (.seq (.reg 2 [⟨some 10, .move (.t 3), none, []⟩,
  ⟨some 11, .tass 20 46 (.t 10), none, [10]⟩,
  ⟨some 9, .move (.t 11), none, [11]⟩,
  ⟨some 12, .extr (.t 9) 0, none, []⟩,
  ⟨some 13, .extr (.t 9) 1, none, [9]⟩,
  ⟨some 4, .alloc 46 [.v (.int .i64 0), .v (.int .i64 0)], none, []⟩,
  ⟨none, .store 46 (some 2) (.t 4) (.t 12), none, [12]⟩,
  ⟨some 5, .assign (.t 13), none, [13]⟩] none [0, 1, 2, 3, 4, 5, 6, 100000, 100001, 100002])
 (.seq (.seq (.reg 3 [⟨some 14, .move (.t 5), none, [5]⟩,
  ⟨some 15, .un .not 4 (.t 14), none, [14]⟩] none [0, 1, 2, 3, 4, 6, 15, 100000, 100001, 100002])
 (.cond [0, 1, 2, 3, 4, 6, 100000, 100001, 100002] (.t 15) (.regp 4 [⟨some 16, .move (.t 3), none, []⟩,
  ⟨none, .throw (.t 16), none, [3, 6, 16]⟩] none [0, 1, 2, 4, 100000, 100001, 100002]) .skip))
 k0_json_Parse_1)) .skip)))
def a_json_Parse_1 : AFunc := ⟨22, [], b_json_Parse_1⟩

def j0_json_reader_blanks : IR :=
 (.block 1 (.reg 1 [⟨some 64, .move (.t 0), none, []⟩,
  ⟨some 65, .nilck (.t 64), none, []⟩,
  ⟨some 66, .faddr 50 (.t 65) 1 1, none, []⟩,
  ⟨some 67, .load 3 none (.t 66), none, [65, 66]⟩,
  ⟨some 68, .bin .add 3 (.t 67) (.c (Value.int IntKind.i64 1)) 3, none, [67]⟩,
  ⟨some 69, .nilck (.t 64), none, []⟩,
  ⟨some 70, .faddr 50 (.t 69) 1 1, none, []⟩,
  ⟨none, .store 3 none (.t 70) (.t 68), none, [64, 68, 69, 70]⟩] none [0, 100000]))
def k0_json_reader_blanks : IR := .tail [0, 100000] j0_json_reader_blanks
def w0_json_reader_blanks : IR :=
 (.seq (.seq (.reg 0 [⟨some 2, .move (.t 0), none, []⟩,
  ⟨some 3, .nilck (.t 2), none, []⟩,
  ⟨some 4, .faddr 50 (.t 3) 1 1, none, []⟩,
  ⟨some 5, .load 3 none (.t 4), none, [2, 3, 4]⟩,
  ⟨some 6, .move (.t 0), none, []⟩,
  ⟨some 7, .nilck (.t 6), none, []⟩,
  ⟨some 8, .faddr 50 (.t 7) 0 0, none, []⟩,
  ⟨some 9, .load 22 none (.t 8), none, []⟩,
  ⟨some 10, .len 22 false (.t 9), none, [6, 7, 8, 9]⟩,
  ⟨some 11, .bin .lss 3 (.t 5) (.t 10) 3, none, [5, 10]⟩,
  ⟨some 12, .move (.t 11), none, [11]⟩,
  ⟨some 13, .move (.t 0), some (10, true), []⟩,
  ⟨some 14, .nilck (.t 13), some (10, true), []⟩,
  ⟨some 15, .faddr 50 (.t 14) 0 0, some (10, true), []⟩,
  ⟨some 16, .load 22 none (.t 15), some (10, true), []⟩,
  ⟨some 17, .move (.t 0), some (10, true), []⟩,
  ⟨some 18, .nilck (.t 17), some (10, true), []⟩,
  ⟨some 19, .faddr 50 (.t 18) 1 1, some (10, true), []⟩,
  ⟨some 20, .load 3 none (.t 19), some (10, true), [17, 18, 19]⟩,
  ⟨some 21, .iaddr 22 (.sl 1) (.t 16) (.t 20), some (10, true), []⟩,
  ⟨some 22, .load 5 none (.t 21), some (10, true), [13, 14, 15, 16, 20, 21]⟩,
  ⟨some 23, .bin .eql 5 (.t 22) (.c (Value.int IntKind.u8 32)) 5, some (10, true), [22]⟩,
  ⟨some 24, .move (.t 23), some (10, true), [23]⟩,
  ⟨some 25, .move (.t 0), some (22, false), []⟩,
  ⟨some 26, .nilck (.t 25), some (22, false), []⟩,
  ⟨some 27, .faddr 50 (.t 26) 0 0, some (22, false), []⟩,
  ⟨some 28, .load 22 none (.t 27), some (22, false), []⟩,
  ⟨some 29, .move (.t 0), some (22, false), []⟩,
  ⟨some 30, .nilck (.t 29), some (22, false), []⟩,
  ⟨some 31, .faddr 50 (.t 30) 1 1, some (22, false), []⟩,
  ⟨some 32, .load 3 none (.t 31), some (22, false), [29, 30, 31]⟩,
  ⟨some 33, .iaddr 22 (.sl 1) (.t 28) (.t 32), some (22, false), []⟩,
  ⟨some 34, .load 5 none (.t 33), some (22, false), [25, 26, 27, 28, 32, 33]⟩,
  ⟨some 35, .bin .eql 5 (.t 34) (.c (Value.int IntKind.u8 9)) 5, some (22, false), [34]⟩,
  ⟨some 36, .pick (.t 24) (.c (Value.bool true)) (.t 35), some (10, true), [24, 35]⟩,
  ⟨some 37, .move (.t 36), some (10, true), [36]⟩,
  ⟨some 38, .move (.t 0), some (35, false), []⟩,
  ⟨some 39, .nilck (.t 38), some (35, false), []⟩,
  ⟨some 40, .faddr 50 (.t 39) 0 0, some (35, false), []⟩,
  ⟨some 41, .load 22 none (.t 40), some (35, false), []⟩,
  ⟨some 42, .move (.t 0), some (35, false), []⟩,
  ⟨some 43, .nilck (.t 42), some (35, false), []⟩,
  ⟨some 44, .faddr 50 (.t 43) 1 1, some (35, false), []⟩,
  ⟨some 45, .load 3 none (.t 44), some (35, false), [42, 43, 44]⟩,
  ⟨some 46, .iaddr 22 (.sl 1) (.t 41) (.t 45), some (35, false), []⟩,
  ⟨some 47, .load 5 none (.t 46), some (35, false), [38, 39, 40, 41, 45, 46]⟩,
  ⟨some 48, .bin .eql 5 (.t 47) (.c (Value.int IntKind.u8 10)) 5, some (35, false), [47]⟩,
  ⟨some 49, .pick (.t 37) (.c (Value.bool true)) (.t 48), some (10, true), [37, 48]⟩,
  ⟨some 50, .move (.t 49), some (10, true), [49]⟩,
  ⟨some 51, .move (.t 0), some (48, false), []⟩,
  ⟨some 52, .nilck (.t 51), some (48, false), []⟩,
  ⟨some 53, .faddr 50 (.t 52) 0 0, some (48, false), []⟩,
  ⟨some 54, .load 22 none (.t 53), some (48, false), []⟩,
  ⟨some 55, .move (.t 0), some (48, false), []⟩,
  ⟨some 56, .nilck (.t 55), some (48, false), []⟩,
  ⟨some 57, .faddr 50 (.t 56) 1 1, some (48, false), []⟩,
  ⟨some 58, .load 3 none (.t 57), some (48, false), [55, 56, 57]⟩,
  ⟨some 59, .iaddr 22 (.sl 1) (.t 54) (.t 58), some (48, false), []⟩,
  ⟨some 60, .load 5 none (.t 59), some (48, false), [51, 52, 53, 54, 58, 59]⟩,
  ⟨some 61, .bin .eql 5 (.t 60) (.c (Value.int IntKind.u8 13)) 5, some (48, false), [60]⟩,
  ⟨some 62, .pick (.t 50) (.c (Value.bool true)) (.t 61), some (10, true), [50, 61]⟩,
  ⟨some 63, .pick (.t 12) (.t 62) (.c (Value.bool false)), none, [12, 62]⟩] (some (.cons ⟨0, []⟩ (.cons ⟨1, []⟩ (.cons ⟨2, []⟩ (.cons ⟨4, []⟩ (.cons ⟨5, []⟩ (.cons ⟨6, []⟩ (.cons ⟨3, []⟩ (.cons ⟨7, []⟩ (.cons ⟨8, []⟩ (.cons ⟨9, []⟩ (.cons ⟨10, []⟩ (.cons ⟨11, []⟩ (.cons ⟨12, []⟩ (.cons ⟨13, []⟩ (.cons ⟨15, []⟩ (.cons ⟨16, []⟩ (.cons ⟨17, []⟩ (.cons ⟨14, []⟩ (.cons ⟨18, []⟩ (.cons ⟨19, []⟩ (.cons ⟨20, []⟩ (.cons ⟨21, []⟩ (.cons ⟨22, []⟩ (.cons ⟨23, []⟩ (.cons ⟨24, []⟩ (.cons ⟨25, []⟩ (.cons ⟨27, []⟩ (.cons ⟨28, []⟩ (.cons ⟨29, []⟩ (.cons ⟨26, []⟩ (.cons ⟨30, []⟩ (.cons ⟨31, []⟩ (.cons ⟨32, []⟩ (.cons ⟨33, []⟩ (.cons ⟨34, []⟩ (.cons ⟨35, []⟩ (.cons ⟨36, []⟩ (.cons ⟨37, []⟩ (.cons ⟨38, []⟩ (.cons ⟨40, []⟩ (.cons ⟨41, []⟩ (.cons ⟨42, []⟩ (.cons ⟨39, []⟩ (.cons ⟨43, []⟩ (.cons ⟨44, []⟩ (.cons ⟨45, []⟩ (.cons ⟨46, []⟩ (.cons ⟨47, []⟩ (.cons ⟨48, []⟩ (.cons ⟨49, []⟩ (.cons ⟨50, []⟩ (.cons ⟨51, []⟩ (.cons ⟨53, []⟩ (.cons ⟨54, []⟩ (.cons ⟨55, []⟩ (.cons ⟨52, []⟩ (.cons ⟨56, []⟩ (.cons ⟨57, []⟩ (.cons ⟨58, []⟩ (.cons ⟨59, []⟩ (.cons ⟨60, []⟩ (.cons ⟨61, []⟩ .nil))))))))))))))))))))))))))))))))))))))))))))))))))))))))))))))) [0, 63, 100000])
 (.cond [0, 100000] (.t 63) .skip (.exit 0)))
 k0_json_reader_blanks)
def l0_json_reader_blanks : IR := .loop [0, 100000] w0_json_reader_blanks
def b_json_reader_blanks : IR :=
 (.block 0 l0_json_reader_blanks)
def a_json_reader_blanks : AFunc := ⟨71, [], b_json_reader_blanks⟩

def b_json_reader_fail : IR :=
 (.regp 0 [⟨some 2, .move (.t 0), none, []⟩,
  ⟨some 3, .nilck (.t 2), none, []⟩,
  ⟨some 4, .faddr 50 (.t 3) 1 1, none, []⟩,
  ⟨some 5, .load 3 none (.t 4), none, [0, 2, 3, 4]⟩,
  ⟨some 6, .build 46 [(0, 1), (1, 1)] [.v (.int .i64 0), .v (.int .i64 0)] [(0, (.c (Value.int IntKind.i64 100))), (1, (.t 5))], none, [5]⟩,
  ⟨some 7, .mkiface 46 (.t 6), none, [6]⟩,
  ⟨none, .throw (.t 7), none, [7]⟩] none [100000])
def a_json_reader_fail : AFunc := ⟨8, [], b_json_reader_fail⟩

def j0_json_reader_byte : IR :=
 (.seq (.reg 3 [⟨some 15, .move (.t 0), none, []⟩,
  ⟨some 16, .nilck (.t 15), none, []⟩,
  ⟨some 17, .faddr 50 (.t 16) 0 0, none, []⟩,
  ⟨some 18, .load 22 none (.t 17), none, []⟩,
  ⟨some 19, .move (.t 0), none, []⟩,
  ⟨some 20, .nilck (.t 19), none, []⟩,
  ⟨some 21, .faddr 50 (.t 20) 1 1, none, []⟩,
  ⟨some 22, .load 3 none (.t 21), none, [19, 20, 21]⟩,
  ⟨some 23, .iaddr 22 (.sl 1) (.t 18) (.t 22), none, []⟩,
  ⟨some 24, .load 5 none (.t 23), none, [0, 15, 16, 17, 18, 22, 23]⟩,
  ⟨some 2, .assign (.t 24), none, [24]⟩] (some (.cons ⟨0, []⟩ (.cons ⟨1, []⟩ (.cons ⟨2, []⟩ (.cons ⟨4, []⟩ (.cons ⟨5, []⟩ (.cons ⟨6, []⟩ (.cons ⟨3, []⟩ (.cons ⟨7, []⟩ (.cons ⟨8, []⟩ (.cons ⟨9, []⟩ (.cons ⟨10, []⟩ .nil)))))))))))) [2, 100000])
 .ret)
def k0_json_reader_byte : IR := .tail [0, 100000] j0_json_reader_byte
def b_json_reader_byte : IR :=
 (.seq (.reg 0 [⟨some 2, .assign (.c (Value.int IntKind.u8 0)), none, [2]⟩] none [0, 100000])
 (.seq (.seq (.reg 1 [⟨some 3, .move (.t 0), none, []⟩,
  ⟨some 4, .nilck (.t 3), none, []⟩,
  ⟨some 5, .faddr 50 (.t 4) 1 1, none, []⟩,
  ⟨some 6, .load 3 none (.t 5), none, [3, 4, 5]⟩,
  ⟨some 7, .move (.t 0), none, []⟩,
  ⟨some 8, .nilck (.t 7), none, []⟩,
  ⟨some 9, .faddr 50 (.t 8) 0 0, none, []⟩,
  ⟨some 10, .load 22 none (.t 9), none, []⟩,
  ⟨some 11, .len 22 false (.t 10), none, [7, 8, 9, 10]⟩,
  ⟨some 12, .bin .geq 3 (.t 6) (.t 11) 3, none, [6, 11]⟩] (some (.cons ⟨0, []⟩ (.cons ⟨1, []⟩ (.cons ⟨2, []⟩ (.cons ⟨4, []⟩ (.cons ⟨5, []⟩ (.cons ⟨6, []⟩ (.cons ⟨3, []⟩ (.cons ⟨7, []⟩ (.cons ⟨8, []⟩ (.cons ⟨9, []⟩ .nil))))))))))) [0, 12, 100000])
 (.cond [0, 100000] (.t 12) (.regp 2 [⟨some 13, .move (.t 0), none, []⟩,
  ⟨some 14, .call n_json_reader_fail [(.t 13)] [48], none, [13, 14]⟩] none [0, 100000]) .skip))
 k0_json_reader_byte))
def a_json_reader_byte : AFunc := ⟨25, [.tmp 2], b_json_reader_byte⟩

def j0_json_reader_want : IR :=
 (.reg 5 [⟨some 18, .move (.t 0), none, []⟩,
  ⟨some 19, .nilck (.t 18), none, []⟩,
  ⟨some 20, .faddr 50 (.t 19) 1 1, none, []⟩,
  ⟨some 21, .load 3 none (.t 20), none, [19, 20]⟩,
  ⟨some 22, .bin .add 3 (.t 21) (.c (Value.int IntKind.i64 1)) 3, none, [21]⟩,
  ⟨some 23, .nilck (.t 18), none, []⟩,
  ⟨some 24, .faddr 50 (.t 23) 1 1, none, []⟩,
  ⟨none, .store 3 none (.t 24) (.t 22), none, [18, 22, 23, 24]⟩] none [0, 1, 6, 7, 100000])
def k0_json_reader_want : IR := .tail [0, 1, 6, 7, 100000] j0_json_reader_want
def j1_json_reader_want : IR :=
 (.reg 6 [⟨some 25, .bin .add 3 (.t 7) (.c (Value.int IntKind.i64 1)) 3, none, []⟩,
  ⟨some 7, .move (.t 25), none, [25]⟩] none [0, 1, 6, 7, 100000])
def k1_json_reader_want : IR := .tail [0, 1, 6, 7, 100000] j1_json_reader_want
def j2_json_reader_want : IR :=
 (.seq (.block 1 (.seq (.reg 2 [⟨some 9, .move (.t 7), none, []⟩,
  ⟨some 4, .assign (.t 9), none, [9]⟩] none [0, 1, 4, 6, 7, 100000])
 (.seq (.seq (.regp 3 [⟨some 10, .move (.t 0), none, []⟩,
  ⟨some 11, .call n_json_reader_byte [(.t 10)] [48], none, [10]⟩,
  ⟨some 12, .move (.t 1), none, []⟩,
  ⟨some 13, .move (.t 4), none, [4]⟩,
  ⟨some 14, .index 9 .str none (.t 12) (.t 13), none, [12, 13]⟩,
  ⟨some 15, .bin .neq 5 (.t 11) (.t 14) 5, none, [11, 14]⟩] (some (.cons ⟨0, []⟩ (.cons ⟨2, []⟩ (.cons ⟨3, []⟩ (.cons ⟨4, []⟩ (.cons ⟨1, []⟩ (.cons ⟨5, []⟩ .nil))))))) [0, 1, 6, 7, 15, 100000])
 (.cond [0, 1, 6, 7, 100000] (.t 15) (.regp 4 [⟨some 16, .move (.t 0), none, []⟩,
  ⟨some 17, .call n_json_reader_fail [(.t 16)] [48], none, [16, 17]⟩] none [0, 1, 6, 7, 100000]) .skip))
 k0_json_reader_want)))
 k1_json_reader_want)
def k2_json_reader_want : IR := .tail [0, 1, 6, 7, 100000] j2_json_reader_want
def w0_json_reader_want : IR :=
 (.seq (.reg 1 [⟨some 8, .bin .lss 3 (.t 7) (.t 6) 3, none, []⟩] none [0, 1, 6, 7, 8, 100000])
 (.seq (.cond [0, 1, 6, 7, 100000] (.t 8) .skip (.exit 0))
 k2_json_reader_want))
def l0_json_reader_want : IR := .loop [0, 1, 6, 7, 100000] w0_json_reader_want
def b_json_reader_want : IR :=
 (.seq (.reg 0 [⟨some 5, .move (.t 1), none, []⟩,
  ⟨some 6, .len 9 true (.t 5), none, [5]⟩,
  ⟨some 7, .move (.c (Value.int IntKind.i64 0)), none, []⟩] none [0, 1, 6, 7, 100000])
 (.block 0 l0_json_reader_want))
def a_json_reader_want : AFunc := ⟨26, [], b_json_reader_want⟩

def b_stringslite_IndexByte : IR :=
 (.seq (.reg 0 [⟨some 4, .assign (.c (Value.int IntKind.i64 0)), none, [4]⟩] none [0, 1])
 (.seq (.reg 1 [⟨some 5, .move (.t 0), none, [0]⟩,
  ⟨some 6, .move (.t 1), none, [1]⟩,
  ⟨some 7, .ext n_bytealg_IndexByteString .idxByteStr [(.t 5), (.t 6)] [9, 5], none, [5, 6]⟩,
  ⟨some 4, .assign (.t 7), none, [7]⟩] none [4])
 .ret))
def a_stringslite_IndexByte : AFunc := ⟨8, [.tmp 4], b_stringslite_IndexByte⟩

def b_strings_IndexByte : IR :=
 (.seq (.reg 0 [⟨some 4, .assign (.c (Value.int IntKind.i64 0)), none, [4]⟩] none [0, 1])
 (.seq (.reg 1 [⟨some 5, .move (.t 0), none, [0]⟩,
  ⟨some 6, .move (.t 1), none, [1]⟩,
  ⟨some 7, .call n_stringslite_IndexByte [(.t 5), (.t 6)] [9, 5], none, [5, 6]⟩,
  ⟨some 4, .assign (.t 7), none, [7]⟩] none [4])
 .ret))
def a_strings_IndexByte : AFunc := ⟨8, [.tmp 4], b_strings_IndexByte⟩

def j0_json_reader_four : IR :=
 (.reg 12 [⟨some 52, .move (.t 0), none, []⟩,
  ⟨some 53, .nilck (.t 52), none, []⟩,
  ⟨some 54, .faddr 50 (.t 53) 1 1, none, []⟩,
  ⟨some 55, .load 3 none (.t 54), none, [53, 54]⟩,
  ⟨some 56, .bin .add 3 (.t 55) (.c (Value.int IntKind.i64 1)) 3, none, [55]⟩,
  ⟨some 57, .nilck (.t 52), none, []⟩,
  ⟨some 58, .faddr 50 (.t 57) 1 1, none, []⟩,
  ⟨none, .store 3 none (.t 58) (.t 56), none, [52, 56, 57, 58]⟩] none [0, 3, 5, 100000])
def k0_json_reader_four : IR := .tail [0, 3, 5, 100000] j0_json_reader_four
def j1_json_reader_four : IR :=
 (.reg 13 [⟨some 59, .bin .add 3 (.t 5) (.c (Value.int IntKind.i64 1)) 3, none, []⟩,
  ⟨some 5, .move (.t 59), none, [59]⟩] none [0, 3, 5, 100000])
def k1_json_reader_four : IR := .tail [0, 3, 5, 100000] j1_json_reader_four
def j2_json_reader_four : IR :=
 (.seq (.block 1 (.seq (.regp 4 [⟨some 7, .move (.t 0), none, []⟩,
  ⟨some 8, .call n_json_reader_byte [(.t 7)] [48], none, [7]⟩,
  ⟨some 4, .assign (.t 8), none, [8]⟩] none [0, 3, 4, 5, 100000])
 (.seq (.block 2 (.seq (.reg 6 [⟨some 12, .move (.t 4), none, []⟩,
  ⟨some 13, .bin .geq 5 (.t 12) (.c (Value.int IntKind.u8 48)) 5, none, [12]⟩,
  ⟨some 14, .move (.t 13), none, [13]⟩,
  ⟨some 15, .move (.t 4), some (2, true), []⟩,
  ⟨some 16, .bin .leq 5 (.t 15) (.c (Value.int IntKind.u8 57)) 5, some (2, true), [15]⟩,
  ⟨some 17, .pick (.t 14) (.t 16) (.c (Value.bool false)), none, [14, 16]⟩,
  ⟨some 11, .assign (.t 17), none, [17]⟩] none [0, 3, 4, 5, 11, 100000])
 (.cond [0, 3, 4, 5, 100000] (.t 11) (.reg 7 [⟨some 18, .move (.t 3), none, []⟩,
  ⟨some 19, .bin .mul 21 (.c (Value.int IntKind.i32 16)) (.t 18) 21, none, [18]⟩,
  ⟨some 20, .move (.t 4), none, [4]⟩,
  ⟨some 21, .bin .sub 5 (.t 20) (.c (Value.int IntKind.u8 48)) 5, none, [20]⟩,
  ⟨some 22, .conv 5 21 (.int .i32) (.t 21), none, [21]⟩,
  ⟨some 23, .bin .add 21 (.t 19) (.t 22) 21, none, [19, 22]⟩,
  ⟨some 3, .assign (.t 23), none, [23]⟩] none [0, 3, 5, 100000]) (.seq (.reg 8 [⟨some 25, .move (.t 4), none, []⟩,
  ⟨some 26, .bin .geq 5 (.t 25) (.c (Value.int IntKind.u8 97)) 5, none, [25]⟩,
  ⟨some 27, .move (.t 26), none, [26]⟩,
  ⟨some 28, .move (.t 4), some (2, true), []⟩,
  ⟨some 29, .bin .leq 5 (.t 28) (.c (Value.int IntKind.u8 102)) 5, some (2, true), [28]⟩,
  ⟨some 30, .pick (.t 27) (.t 29) (.c (Value.bool false)), none, [27, 29]⟩,
  ⟨some 24, .assign (.t 30), none, [30]⟩] none [0, 3, 4, 5, 24, 100000])
 (.cond [0, 3, 4, 5, 100000] (.t 24) (.reg 9 [⟨some 31, .move (.t 3), none, []⟩,
  ⟨some 32, .bin .mul 21 (.c (Value.int IntKind.i32 16)) (.t 31) 21, none, [31]⟩,
  ⟨some 33, .move (.t 4), none, [4]⟩,
  ⟨some 34, .bin .sub 5 (.t 33) (.c (Value.int IntKind.u8 97)) 5, none, [33]⟩,
  ⟨some 35, .conv 5 21 (.int .i32) (.t 34), none, [34]⟩,
  ⟨some 36, .bin .add 21 (.t 32) (.t 35) 21, none, [32, 35]⟩,
  ⟨some 37, .bin .add 21 (.t 36) (.c (Value.int IntKind.i32 10)) 21, none, [36]⟩,
  ⟨some 3, .assign (.t 37), none, [37]⟩] none [0, 3, 5, 100000]) (.seq (.reg 10 [⟨some 39, .move (.t 4), none, []⟩,
  ⟨some 40, .bin .geq 5 (.t 39) (.c (Value.int IntKind.u8 65)) 5, none, [39]⟩,
  ⟨some 41, .move (.t 40), none, [40]⟩,
  ⟨some 42, .move (.t 4), some (2, true), []⟩,
  ⟨some 43, .bin .leq 5 (.t 42) (.c (Value.int IntKind.u8 70)) 5, some (2, true), [42]⟩,
  ⟨some 44, .pick (.t 41) (.t 43) (.c (Value.bool false)), none, [41, 43]⟩,
  ⟨some 38, .assign (.t 44), none, [44]⟩] none [0, 3, 4, 5, 38, 100000])
 (.cond [0, 3, 4, 5, 100000] (.t 38) (.reg 11 [⟨some 45, .move (.t 3), none, []⟩,
  ⟨some 46, .bin .mul 21 (.c (Value.int IntKind.i32 16)) (.t 45) 21, none, [45]⟩,
  ⟨some 47, .move (.t 4), none, [4]⟩,
  ⟨some 48, .bin .sub 5 (.t 47) (.c (Value.int IntKind.u8 65)) 5, none, [47]⟩,
  ⟨some 49, .conv 5 21 (.int .i32) (.t 48), none, [48]⟩,
  ⟨some 50, .bin .add 21 (.t 46) (.t 49) 21, none, [46, 49]⟩,
  ⟨some 51, .bin .add 21 (.t 50) (.c (Value.int IntKind.i32 10)) 21, none, [50]⟩,
  ⟨some 3, .assign (.t 51), none, [51]⟩] none [0, 3, 5, 100000]) (.regp 5 [⟨some 9, .move (.t 0), none, []⟩,
  ⟨some 10, .call n_json_reader_fail [(.t 9)] [48], none, [9, 10]⟩] none [0, 3, 5, 100000]))))))))
 k0_json_reader_four)))
 k1_json_reader_four)
def k2_json_reader_four : IR := .tail [0, 3, 5, 100000] j2_json_reader_four
def w0_json_reader_four : IR :=
 (.seq (.reg 3 [⟨some 6, .bin .lss 3 (.t 5) (.c (Value.int IntKind.i64 4)) 3, none, []⟩] none [0, 3, 5, 6, 100000])
 (.seq (.cond [0, 3, 5, 100000] (.t 6) .skip (.exit 0))
 k2_json_reader_four))
def l0_json_reader_four : IR := .loop [0, 3, 5, 100000] w0_json_reader_four
def j3_json_reader_four : IR :=
 (.seq (.reg 14 [⟨some 60, .move (.t 3), none, [3]⟩,
  ⟨some 2, .assign (.t 60), none, [60]⟩] none [2, 100000])
 .ret)
def k3_json_reader_four : IR := .tail [3, 100000] j3_json_reader_four
def b_json_reader_four : IR :=
 (.seq (.reg 0 [⟨some 2, .assign (.c (Value.int IntKind.i32 0)), none, [2]⟩] none [0, 100000])
 (.seq (.reg 1 [⟨some 3, .assign (.c (Value.int IntKind.i32 0)), none, []⟩] none [0, 3, 100000])
 (.seq (.seq (.reg 2 [⟨some 5, .move (.c (Value.int IntKind.i64 0)), none, []⟩] none [0, 3, 5, 100000])
 (.block 0 l0_json_reader_four))
 k3_json_reader_four)))
def a_json_reader_four : AFunc := ⟨61, [.tmp 2], b_json_reader_four⟩

def j0_json_reader_cutOff : IR :=
 (.regp 3 [⟨some 28, .move (.t 1), none, [1]⟩,
  ⟨some 29, .build 46 [(0, 1), (1, 1)] [.v (.int .i64 0), .v (.int .i64 0)] [(0, (.c (Value.int IntKind.i64 100))), (1, (.t 28))], none, [28]⟩,
  ⟨some 30, .mkiface 46 (.t 29), none, [29]⟩,
  ⟨none, .throw (.t 30), none, [30]⟩] none [100000])
def k0_json_reader_cutOff : IR := .tail [1, 100000] j0_json_reader_cutOff
def b_json_reader_cutOff : IR :=
 (.seq (.reg 0 [⟨some 5, .move (.t 0), none, []⟩,
  ⟨some 6, .nilck (.t 5), none, []⟩,
  ⟨some 7, .faddr 50 (.t 6) 0 0, none, []⟩,
  ⟨some 8, .load 22 none (.t 7), none, []⟩,
  ⟨some 9, .move (.t 0), none, []⟩,
  ⟨some 10, .nilck (.t 9), none, []⟩,
  ⟨some 11, .faddr 50 (.t 10) 1 1, none, []⟩,
  ⟨some 12, .load 3 none (.t 11), none, [9, 10, 11]⟩,
  ⟨some 13, .slice 22 (.sl 1) (.t 8) (some (.t 12)) none none, none, []⟩,
  ⟨some 14, .conv 22 9 .bytes (.t 13), none, [5, 6, 7, 8, 12, 13]⟩,
  ⟨some 4, .assign (.t 14), none, [14]⟩] (some (.cons ⟨0, []⟩ (.cons ⟨1, []⟩ (.cons ⟨2, []⟩ (.cons ⟨4, []⟩ (.cons ⟨5, []⟩ (.cons ⟨6, []⟩ (.cons ⟨3, []⟩ (.cons ⟨7, []⟩ (.cons ⟨8, []⟩ (.cons ⟨9, []⟩ (.cons ⟨10, []⟩ .nil)))))))))))) [0, 1, 4, 100000])
 (.seq (.seq (.reg 1 [⟨some 15, .move (.t 4), none, []⟩,
  ⟨some 16, .bin .eql 9 (.t 15) (.c (Value.string { data := #[] })) 9, none, [15]⟩,
  ⟨some 17, .move (.t 16), none, [16]⟩,
  ⟨some 18, .move (.t 4), some (2, false), [4]⟩,
  ⟨some 19, .bin .eql 9 (.t 18) (.c (Value.string { data := #[92] })) 9, some (2, false), [18]⟩,
  ⟨some 20, .pick (.t 17) (.c (Value.bool true)) (.t 19), none, [17, 19]⟩] none [0, 1, 20, 100000])
 (.cond [0, 1, 100000] (.t 20) (.regp 2 [⟨some 21, .move (.t 0), none, []⟩,
  ⟨some 22, .nilck (.t 21), none, []⟩,
  ⟨some 23, .faddr 50 (.t 22) 0 0, none, []⟩,
  ⟨some 24, .load 22 none (.t 23), none, []⟩,
  ⟨some 25, .len 22 false (.t 24), none, [0, 21, 22, 23, 24]⟩,
  ⟨some 26, .build 46 [(0, 1), (1, 1)] [.v (.int .i64 0), .v (.int .i64 0)] [(0, (.c (Value.int IntKind.i64 100))), (1, (.t 25))], none, [25]⟩,
  ⟨some 27, .mkiface 46 (.t 26), none, [26]⟩,
  ⟨none, .throw (.t 27), none, [27]⟩] none [1, 100000]) .skip))
 k0_json_reader_cutOff))
def a_json_reader_cutOff : AFunc := ⟨31, [], b_json_reader_cutOff⟩

def j0_json_reader_escape : IR :=
 (.seq (.reg 22 [⟨some 127, .move (.t 6), none, [6]⟩,
  ⟨some 128, .bin .sub 21 (.t 127) (.c (Value.int IntKind.i32 55296)) 21, none, [127]⟩,
  ⟨some 129, .bin .shl 21 (.t 128) (.c (Value.int IntKind.u64 10)) 74, none, [128]⟩,
  ⟨some 130, .bin .add 21 (.c (Value.int IntKind.i32 65536)) (.t 129) 21, none, [129]⟩,
  ⟨some 131, .move (.t 7), none, [7]⟩,
  ⟨some 132, .bin .sub 21 (.t 131) (.c (Value.int IntKind.i32 56320)) 21, none, [131]⟩,
  ⟨some 133, .bin .add 21 (.t 130) (.t 132) 21, none, [130, 132]⟩,
  ⟨some 134, .conv 21 9 .rune (.t 133), none, [133]⟩,
  ⟨some 2, .assign (.t 134), none, [134]⟩] none [2, 100000])
 .ret)
def k0_json_reader_escape : IR := .tail [6, 7, 100000] j0_json_reader_escape
def j1_json_reader_escape : IR :=
 (.seq (.reg 18 [⟨some 109, .move (.t 0), none, []⟩,
  ⟨some 110, .nilck (.t 109), none, []⟩,
  ⟨some 111, .faddr 50 (.t 110) 1 1, none, []⟩,
  ⟨some 112, .load 3 none (.t 111), none, [110, 111]⟩,
  ⟨some 113, .bin .add 3 (.t 112) (.c (Value.int IntKind.i64 2)) 3, none, [112]⟩,
  ⟨some 114, .nilck (.t 109), none, []⟩,
  ⟨some 115, .faddr 50 (.t 114) 1 1, none, []⟩,
  ⟨none, .store 3 none (.t 115) (.t 113), none, [109, 113, 114, 115]⟩] none [0, 3, 6, 100000])
 (.seq (.regp 19 [⟨some 116, .move (.t 0), none, []⟩,
  ⟨some 117, .call n_json_reader_four [(.t 116)] [48], none, [0, 116]⟩,
  ⟨some 7, .assign (.t 117), none, [117]⟩] none [3, 6, 7, 100000])
 (.seq (.seq (.reg 20 [⟨some 118, .move (.t 7), none, []⟩,
  ⟨some 119, .bin .lss 21 (.t 118) (.c (Value.int IntKind.i32 56320)) 21, none, [118]⟩,
  ⟨some 120, .move (.t 119), none, [119]⟩,
  ⟨some 121, .move (.t 7), some (2, false), []⟩,
  ⟨some 122, .bin .gtr 21 (.t 121) (.c (Value.int IntKind.i32 57343)) 21, some (2, false), [121]⟩,
  ⟨some 123, .pick (.t 120) (.c (Value.bool true)) (.t 122), none, [120, 122]⟩] none [3, 6, 7, 123, 100000])
 (.cond [3, 6, 7, 100000] (.t 123) (.regp 21 [⟨some 124, .move (.t 3), none, [3]⟩,
  ⟨some 125, .build 46 [(0, 1), (1, 1)] [.v (.int .i64 0), .v (.int .i64 0)] [(0, (.c (Value.int IntKind.i64 100))), (1, (.t 124))], none, [124]⟩,
  ⟨some 126, .mkiface 46 (.t 125), none, [125]⟩,
  ⟨none, .throw (.t 126), none, [126]⟩] none [6, 7, 100000]) .skip))
 k0_json_reader_escape)))
def k1_json_reader_escape : IR := .tail [0, 3, 6, 100000] j1_json_reader_escape
def j2_json_reader_escape : IR :=
 (.seq (.seq (.reg 16 [⟨some 68, .move (.t 0), none, []⟩,
  ⟨some 69, .nilck (.t 68), none, []⟩,
  ⟨some 70, .faddr 50 (.t 69) 1 1, none, []⟩,
  ⟨some 71, .load 3 none (.t 70), none, [68, 69, 70]⟩,
  ⟨some 72, .bin .add 3 (.t 71) (.c (Value.int IntKind.i64 1)) 3, none, [71]⟩,
  ⟨some 73, .move (.t 0), none, []⟩,
  ⟨some 74, .nilck (.t 73), none, []⟩,
  ⟨some 75, .faddr 50 (.t 74) 0 0, none, []⟩,
  ⟨some 76, .load 22 none (.t 75), none, []⟩,
  ⟨some 77, .len 22 false (.t 76), none, [73, 74, 75, 76]⟩,
  ⟨some 78, .bin .geq 3 (.t 72) (.t 77) 3, none, [72, 77]⟩,
  ⟨some 79, .move (.t 78), none, [78]⟩,
  ⟨some 80, .move (.t 0), some (11, false), []⟩,
  ⟨some 81, .nilck (.t 80), some (11, false), []⟩,
  ⟨some 82, .faddr 50 (.t 81) 0 0, some (11, false), []⟩,
  ⟨some 83, .load 22 none (.t 82), some (11, false), []⟩,
  ⟨some 84, .move (.t 0), some (11, false), []⟩,
  ⟨some 85, .nilck (.t 84), some (11, false), []⟩,
  ⟨some 86, .faddr 50 (.t 85) 1 1, some (11, false), []⟩,
  ⟨some 87, .load 3 none (.t 86), some (11, false), [84, 85, 86]⟩,
  ⟨some 88, .iaddr 22 (.sl 1) (.t 83) (.t 87), some (11, false), []⟩,
  ⟨some 89, .load 5 none (.t 88), some (11, false), [80, 81, 82, 83, 87, 88]⟩,
  ⟨some 90, .bin .neq 5 (.t 89) (.c (Value.int IntKind.u8 92)) 5, some (11, false), [89]⟩,
  ⟨some 91, .pick (.t 79) (.c (Value.bool true)) (.t 90), none, [79, 90]⟩,
  ⟨some 92, .move (.t 91), none, [91]⟩,
  ⟨some 93, .move (.t 0), some (24, false), []⟩,
  ⟨some 94, .nilck (.t 93), some (24, false), []⟩,
  ⟨some 95, .faddr 50 (.t 94) 0 0, some (24, false), []⟩,
  ⟨some 96, .load 22 none (.t 95), some (24, false), []⟩,
  ⟨some 97, .move (.t 0), some (24, false), []⟩,
  ⟨some 98, .nilck (.t 97), some (24, false), []⟩,
  ⟨some 99, .faddr 50 (.t 98) 1 1, some (24, false), []⟩,
  ⟨some 100, .load 3 none (.t 99), some (24, false), [97, 98, 99]⟩,
  ⟨some 101, .bin .add 3 (.t 100) (.c (Value.int IntKind.i64 1)) 3, some (24, false), [100]⟩,
  ⟨some 102, .iaddr 22 (.sl 1) (.t 96) (.t 101), some (24, false), []⟩,
  ⟨some 103, .load 5 none (.t 102), some (24, false), [93, 94, 95, 96, 101, 102]⟩,
  ⟨some 104, .bin .neq 5 (.t 103) (.c (Value.int IntKind.u8 117)) 5, some (24, false), [103]⟩,
  ⟨some 105, .pick (.t 92) (.c (Value.bool true)) (.t 104), none, [92, 104]⟩] (some (.cons ⟨0, []⟩ (.cons ⟨1, []⟩ (.cons ⟨2, []⟩ (.cons ⟨5, []⟩ (.cons ⟨6, []⟩ (.cons ⟨7, []⟩ (.cons ⟨3, []⟩ (.cons ⟨4, []⟩ (.cons ⟨8, []⟩ (.cons ⟨9, []⟩ (.cons ⟨10, []⟩ (.cons ⟨11, []⟩ (.cons ⟨12, []⟩ (.cons ⟨13, []⟩ (.cons ⟨14, []⟩ (.cons ⟨16, []⟩ (.cons ⟨17, []⟩ (.cons ⟨18, []⟩ (.cons ⟨15, []⟩ (.cons ⟨19, []⟩ (.cons ⟨20, []⟩ (.cons ⟨21, []⟩ (.cons ⟨22, []⟩ (.cons ⟨23, []⟩ (.cons ⟨24, []⟩ (.cons ⟨25, []⟩ (.cons ⟨26, []⟩ (.cons ⟨27, []⟩ (.cons ⟨29, []⟩ (.cons ⟨30, []⟩ (.cons ⟨31, []⟩ (.cons ⟨28, []⟩ (.cons ⟨32, []⟩ (.cons ⟨33, []⟩ (.cons ⟨34, []⟩ (.cons ⟨35, []⟩ (.cons ⟨36, []⟩ (.cons ⟨37, []⟩ .nil))))))))))))))))))))))))))))))))))))))) [0, 3, 6, 105, 100000])
 (.cond [0, 3, 6, 100000] (.t 105) (.regp 17 [⟨some 106, .move (.t 0), none, []⟩,
  ⟨some 107, .move (.t 3), none, []⟩,
  ⟨some 108, .call n_json_reader_cutOff [(.t 106), (.t 107)] [48, 3], none, [106, 107, 108]⟩] none [0, 3, 6, 100000]) .skip))
 k1_json_reader_escape)
def k2_json_reader_escape : IR := .tail [0, 3, 6, 100000] j2_json_reader_escape
def j3_json_reader_escape : IR :=
 (.seq (.reg 10 [⟨some 40, .move (.t 0), none, []⟩,
  ⟨some 41, .nilck (.t 40), none, []⟩,
  ⟨some 42, .faddr 50 (.t 41) 1 1, none, []⟩,
  ⟨some 43, .load 3 none (.t 42), none, [41, 42]⟩,
  ⟨some 44, .bin .add 3 (.t 43) (.c (Value.int IntKind.i64 1)) 3, none, [43]⟩,
  ⟨some 45, .nilck (.t 40), none, []⟩,
  ⟨some 46, .faddr 50 (.t 45) 1 1, none, []⟩,
  ⟨none, .store 3 none (.t 46) (.t 44), none, [40, 44, 45, 46]⟩] none [0, 3, 100000])
 (.seq (.regp 11 [⟨some 47, .move (.t 0), none, []⟩,
  ⟨some 48, .call n_json_reader_four [(.t 47)] [48], none, [47]⟩,
  ⟨some 6, .assign (.t 48), none, [48]⟩] none [0, 3, 6, 100000])
 (.seq (.block 0 (.seq (.reg 12 [⟨some 50, .move (.t 6), none, []⟩,
  ⟨some 51, .bin .geq 21 (.t 50) (.c (Value.int IntKind.i32 56320)) 21, none, [50]⟩,
  ⟨some 52, .move (.t 51), none, [51]⟩,
  ⟨some 53, .move (.t 6), some (2, true), []⟩,
  ⟨some 54, .bin .leq 21 (.t 53) (.c (Value.int IntKind.i32 57343)) 21, some (2, true), [53]⟩,
  ⟨some 55, .pick (.t 52) (.t 54) (.c (Value.bool false)), none, [52, 54]⟩,
  ⟨some 49, .assign (.t 55), none, [55]⟩] none [0, 3, 6, 49, 100000])
 (.cond [0, 3, 6, 100000] (.t 49) (.regp 13 [⟨some 56, .move (.t 3), none, []⟩,
  ⟨some 57, .build 46 [(0, 1), (1, 1)] [.v (.int .i64 0), .v (.int .i64 0)] [(0, (.c (Value.int IntKind.i64 100))), (1, (.t 56))], none, [56]⟩,
  ⟨some 58, .mkiface 46 (.t 57), none, [57]⟩,
  ⟨none, .throw (.t 58), none, [58]⟩] none [0, 3, 6, 100000]) (.seq (.reg 14 [⟨some 60, .move (.t 6), none, []⟩,
  ⟨some 61, .bin .lss 21 (.t 60) (.c (Value.int IntKind.i32 55296)) 21, none, [60]⟩,
  ⟨some 62, .move (.t 61), none, [61]⟩,
  ⟨some 63, .move (.t 6), some (2, false), []⟩,
  ⟨some 64, .bin .gtr 21 (.t 63) (.c (Value.int IntKind.i32 56319)) 21, some (2, false), [63]⟩,
  ⟨some 65, .pick (.t 62) (.c (Value.bool true)) (.t 64), none, [62, 64]⟩,
  ⟨some 59, .assign (.t 65), none, [65]⟩] none [0, 3, 6, 59, 100000])
 (.cond [0, 3, 6, 100000] (.t 59) (.seq (.reg 15 [⟨some 66, .move (.t 6), none, [6]⟩,
  ⟨some 67, .conv 21 9 .rune (.t 66), none, [66]⟩,
  ⟨some 2, .assign (.t 67), none, [67]⟩] none [2, 100000])
 .ret) .skip)))))
 k2_json_reader_escape)))
def k3_json_reader_escape : IR := .tail [0, 3, 100000] j3_json_reader_escape
def j4_json_reader_escape : IR :=
 (.seq (.seq (.reg 8 [⟨some 36, .move (.t 4), none, [4]⟩,
  ⟨some 37, .bin .neq 5 (.t 36) (.c (Value.int IntKind.u8 117)) 5, none, [36]⟩] none [0, 3, 37, 100000])
 (.cond [0, 3, 100000] (.t 37) (.regp 9 [⟨some 38, .move (.t 0), none, []⟩,
  ⟨some 39, .call n_json_reader_fail [(.t 38)] [48], none, [38, 39]⟩] none [0, 3, 100000]) .skip))
 k3_json_reader_escape)
def k4_json_reader_escape : IR := .tail [0, 3, 4, 100000] j4_json_reader_escape
def b_json_reader_escape : IR :=
 (.seq (.reg 0 [⟨some 2, .assign (.c (Value.string { data := #[] })), none, [2]⟩] none [0, 100000])
 (.seq (.reg 1 [⟨some 8, .move (.t 0), none, []⟩,
  ⟨some 9, .nilck (.t 8), none, []⟩,
  ⟨some 10, .faddr 50 (.t 9) 1 1, none, []⟩,
  ⟨some 11, .load 3 none (.t 10), none, [8, 9, 10]⟩,
  ⟨some 3, .assign (.t 11), none, [11]⟩] none [0, 3, 100000])
 (.seq (.reg 2 [⟨some 12, .move (.t 0), none, []⟩,
  ⟨some 13, .nilck (.t 12), none, []⟩,
  ⟨some 14, .faddr 50 (.t 13) 1 1, none, []⟩,
  ⟨some 15, .load 3 none (.t 14), none, [13, 14]⟩,
  ⟨some 16, .bin .add 3 (.t 15) (.c (Value.int IntKind.i64 1)) 3, none, [15]⟩,
  ⟨some 17, .nilck (.t 12), none, []⟩,
  ⟨some 18, .faddr 50 (.t 17) 1 1, none, []⟩,
  ⟨none, .store 3 none (.t 18) (.t 16), none, [12, 16, 17, 18]⟩] none [0, 3, 100000])
 (.seq (.regp 3 [⟨some 19, .move (.t 0), none, []⟩,
  ⟨some 20, .call n_json_reader_byte [(.t 19)] [48], none, [19]⟩,
  ⟨some 4, .assign (.t 20), none, [20]⟩] none [0, 3, 4, 100000])
 (.seq (.seq (.reg 4 [⟨some 21, .move (.t 4), none, []⟩,
  ⟨some 22, .call n_strings_IndexByte [(.c (Value.string { data := #[34, 92, 47, 98, 102, 110, 114, 116] })), (.t 21)] [9, 5], none, [21]⟩,
  ⟨some 5, .assign (.t 22), none, [22]⟩] none [0, 3, 4, 5, 100000])
 (.seq (.reg 5 [⟨some 23, .move (.t 5), none, []⟩,
  ⟨some 24, .bin .geq 3 (.t 23) (.c (Value.int IntKind.i64 0)) 3, none, [23]⟩] none [0, 3, 4, 5, 24, 100000])
 (.cond [0, 3, 4, 5, 100000] (.t 24) (.seq (.reg 6 [⟨some 25, .move (.t 0), none, []⟩,
  ⟨some 26, .nilck (.t 25), none, []⟩,
  ⟨some 27, .faddr 50 (.t 26) 1 1, none, []⟩,
  ⟨some 28, .load 3 none (.t 27), none, [26, 27]⟩,
  ⟨some 29, .bin .add 3 (.t 28) (.c (Value.int IntKind.i64 1)) 3, none, [28]⟩,
  ⟨some 30, .nilck (.t 25), none, []⟩,
  ⟨some 31, .faddr 50 (.t 30) 1 1, none, []⟩,
  ⟨none, .store 3 none (.t 31) (.t 29), none, [0, 25, 29, 30, 31]⟩] none [5, 100000])
 (.seq (.reg 7 [⟨some 32, .move (.t 5), none, []⟩,
  ⟨some 33, .move (.t 5), none, [5]⟩,
  ⟨some 34, .bin .add 3 (.t 33) (.c (Value.int IntKind.i64 1)) 3, none, [33]⟩,
  ⟨some 35, .slice 9 .str (.c (Value.string { data := #[34, 92, 47, 8, 12, 10, 13, 9] })) (some (.t 32)) (some (.t 34)) none, none, [32, 34]⟩,
  ⟨some 2, .assign (.t 35), none, [35]⟩] none [2, 100000])
 .ret)) .skip)))
 k4_json_reader_escape)))))
def a_json_reader_escape : AFunc := ⟨135, [.tmp 2], b_json_reader_escape⟩

def j0_utf8_decodeRuneSlow : IR :=
 (.seq (.reg 26 [⟨some 104, .move (.t 5), none, [5]⟩,
  ⟨some 105, .bin .and 5 (.t 104) (.c (Value.int IntKind.u8 7)) 5, none, [104]⟩,
  ⟨some 106, .conv 5 21 (.int .i32) (.t 105), none, [105]⟩,
  ⟨some 107, .bin .shl 21 (.t 106) (.c (Value.int IntKind.u64 18)) 74, none, [106]⟩,
  ⟨some 108, .move (.t 10), none, [10]⟩,
  ⟨some 109, .bin .and 5 (.t 108) (.c (Value.int IntKind.u8 63)) 5, none, [108]⟩,
  ⟨some 110, .conv 5 21 (.int .i32) (.t 109), none, [109]⟩,
  ⟨some 111, .bin .shl 21 (.t 110) (.c (Value.int IntKind.u64 12)) 74, none, [110]⟩,
  ⟨some 112, .bin .or 21 (.t 107) (.t 111) 21, none, [107, 111]⟩,
  ⟨some 113, .move (.t 11), none, [11]⟩,
  ⟨some 114, .bin .and 5 (.t 113) (.c (Value.int IntKind.u8 63)) 5, none, [113]⟩,
  ⟨some 115, .conv 5 21 (.int .i32) (.t 114), none, [114]⟩,
  ⟨some 116, .bin .shl 21 (.t 115) (.c (Value.int IntKind.u64 6)) 74, none, [115]⟩,
  ⟨some 117, .bin .or 21 (.t 112) (.t 116) 21, none, [112, 116]⟩,
  ⟨some 118, .move (.t 12), none, [12]⟩,
  ⟨some 119, .bin .and 5 (.t 118) (.c (Value.int IntKind.u8 63)) 5, none, [118]⟩,
  ⟨some 120, .conv 5 21 (.int .i32) (.t 119), none, [119]⟩,
  ⟨some 121, .bin .or 21 (.t 117) (.t 120) 21, none, [117, 120]⟩,
  ⟨some 2, .assign (.t 121), none, [121]⟩,
  ⟨some 3, .assign (.c (Value.int IntKind.i64 4)), none, []⟩] none [2, 3])
 .ret)
def k0_utf8_decodeRuneSlow : IR := .tail [5, 10, 11, 12] j0_utf8_decodeRuneSlow
def j1_utf8_decodeRuneSlow : IR :=
 (.seq (.reg 23 [⟨some 95, .move (.t 0), none, []⟩,
  ⟨some 96, .iaddr 22 (.sl 1) (.t 95) (.c (Value.int IntKind.i64 3)), none, []⟩,
  ⟨some 97, .load 5 none (.t 96), none, [0, 95, 96]⟩,
  ⟨some 12, .assign (.t 97), none, [97]⟩] none [5, 10, 11, 12])
 (.seq (.seq (.reg 24 [⟨some 98, .move (.t 12), none, []⟩,
  ⟨some 99, .bin .lss 5 (.t 98) (.c (Value.int IntKind.u8 128)) 5, none, [98]⟩,
  ⟨some 100, .move (.t 99), none, [99]⟩,
  ⟨some 101, .move (.t 12), some (2, false), []⟩,
  ⟨some 102, .bin .lss 5 (.c (Value.int IntKind.u8 191)) (.t 101) 5, some (2, false), [101]⟩,
  ⟨some 103, .pick (.t 100) (.c (Value.bool true)) (.t 102), none, [100, 102]⟩] none [5, 10, 11, 12, 103])
 (.cond [5, 10, 11, 12] (.t 103) (.seq (.reg 25 [⟨some 2, .assign (.c (Value.int IntKind.i32 65533)), none, []⟩,
  ⟨some 3, .assign (.c (Value.int IntKind.i64 1)), none, []⟩] none [2, 3])
 .ret) .skip))
 k0_utf8_decodeRuneSlow))
def k1_utf8_decodeRuneSlow : IR := .tail [0, 5, 10, 11] j1_utf8_decodeRuneSlow
def j2_utf8_decodeRuneSlow : IR :=
 (.seq (.seq (.reg 21 [⟨some 80, .move (.t 8), none, [8]⟩,
  ⟨some 81, .bin .leq 3 (.t 80) (.c (Value.int IntKind.i64 3)) 3, none, [80]⟩] none [0, 5, 10, 11, 81])
 (.cond [0, 5, 10, 11] (.t 81) (.seq (.reg 22 [⟨some 82, .move (.t 5), none, [5]⟩,
  ⟨some 83, .bin .and 5 (.t 82) (.c (Value.int IntKind.u8 15)) 5, none, [82]⟩,
  ⟨some 84, .conv 5 21 (.int .i32) (.t 83), none, [83]⟩,
  ⟨some 85, .bin .shl 21 (.t 84) (.c (Value.int IntKind.u64 12)) 74, none, [84]⟩,
  ⟨some 86, .move (.t 10), none, [10]⟩,
  ⟨some 87, .bin .and 5 (.t 86) (.c (Value.int IntKind.u8 63)) 5, none, [86]⟩,
  ⟨some 88, .conv 5 21 (.int .i32) (.t 87), none, [87]⟩,
  ⟨some 89, .bin .shl 21 (.t 88) (.c (Value.int IntKind.u64 6)) 74, none, [88]⟩,
  ⟨some 90, .bin .or 21 (.t 85) (.t 89) 21, none, [85, 89]⟩,
  ⟨some 91, .move (.t 11), none, [11]⟩,
  ⟨some 92, .bin .and 5 (.t 91) (.c (Value.int IntKind.u8 63)) 5, none, [91]⟩,
  ⟨some 93, .conv 5 21 (.int .i32) (.t 92), none, [92]⟩,
  ⟨some 94, .bin .or 21 (.t 90) (.t 93) 21, none, [90, 93]⟩,
  ⟨some 2, .assign (.t 94), none, [94]⟩,
  ⟨some 3, .assign (.c (Value.int IntKind.i64 3)), none, []⟩] none [2, 3])
 .ret) .skip))
 k1_utf8_decodeRuneSlow)
def k2_utf8_decodeRuneSlow : IR := .tail [0, 5, 8, 10, 11] j2_utf8_decodeRuneSlow
def j3_utf8_decodeRuneSlow : IR :=
 (.seq (.reg 18 [⟨some 71, .move (.t 0), none, []⟩,
  ⟨some 72, .iaddr 22 (.sl 1) (.t 71) (.c (Value.int IntKind.i64 2)), none, []⟩,
  ⟨some 73, .load 5 none (.t 72), none, [71, 72]⟩,
  ⟨some 11, .assign (.t 73), none, [73]⟩] none [0, 5, 8, 10, 11])
 (.seq (.seq (.reg 19 [⟨some 74, .move (.t 11), none, []⟩,
  ⟨some 75, .bin .lss 5 (.t 74) (.c (Value.int IntKind.u8 128)) 5, none, [74]⟩,
  ⟨some 76, .move (.t 75), none, [75]⟩,
  ⟨some 77, .move (.t 11), some (2, false), []⟩,
  ⟨some 78, .bin .lss 5 (.c (Value.int IntKind.u8 191)) (.t 77) 5, some (2, false), [77]⟩,
  ⟨some 79, .pick (.t 76) (.c (Value.bool true)) (.t 78), none, [76, 78]⟩] none [0, 5, 8, 10, 11, 79])
 (.cond [0, 5, 8, 10, 11] (.t 79) (.seq (.reg 20 [⟨some 2, .assign (.c (Value.int IntKind.i32 65533)), none, []⟩,
  ⟨some 3, .assign (.c (Value.int IntKind.i64 1)), none, []⟩] none [2, 3])
 .ret) .skip))
 k2_utf8_decodeRuneSlow))
def k3_utf8_decodeRuneSlow : IR := .tail [0, 5, 8, 10] j3_utf8_decodeRuneSlow
def j4_utf8_decodeRuneSlow : IR :=
 (.seq (.seq (.reg 16 [⟨some 61, .move (.t 8), none, []⟩,
  ⟨some 62, .bin .leq 3 (.t 61) (.c (Value.int IntKind.i64 2)) 3, none, [61]⟩] none [0, 5, 8, 10, 62])
 (.cond [0, 5, 8, 10] (.t 62) (.seq (.reg 17 [⟨some 63, .move (.t 5), none, [5]⟩,
  ⟨some 64, .bin .and 5 (.t 63) (.c (Value.int IntKind.u8 31)) 5, none, [63]⟩,
  ⟨some 65, .conv 5 21 (.int .i32) (.t 64), none, [64]⟩,
  ⟨some 66, .bin .shl 21 (.t 65) (.c (Value.int IntKind.u64 6)) 74, none, [65]⟩,
  ⟨some 67, .move (.t 10), none, [10]⟩,
  ⟨some 68, .bin .and 5 (.t 67) (.c (Value.int IntKind.u8 63)) 5, none, [67]⟩,
  ⟨some 69, .conv 5 21 (.int .i32) (.t 68), none, [68]⟩,
  ⟨some 70, .bin .or 21 (.t 66) (.t 69) 21, none, [66, 69]⟩,
  ⟨some 2, .assign (.t 70), none, [70]⟩,
  ⟨some 3, .assign (.c (Value.int IntKind.i64 2)), none, []⟩] none [2, 3])
 .ret) .skip))
 k3_utf8_decodeRuneSlow)
def k4_utf8_decodeRuneSlow : IR := .tail [0, 5, 8, 10] j4_utf8_decodeRuneSlow
def j5_utf8_decodeRuneSlow : IR :=
 (.seq (.reg 13 [⟨some 48, .move (.t 0), none, []⟩,
  ⟨some 49, .iaddr 22 (.sl 1) (.t 48) (.c (Value.int IntKind.i64 1)), none, []⟩,
  ⟨some 50, .load 5 none (.t 49), none, [48, 49]⟩,
  ⟨some 10, .assign (.t 50), none, [50]⟩] none [0, 5, 8, 9, 10])
 (.seq (.seq (.reg 14 [⟨some 51, .move (.t 10), none, []⟩,
  ⟨some 52, .faddr 81 (.t 9) 0 0, none, []⟩,
  ⟨some 53, .load 5 none (.t 52), none, [52]⟩,
  ⟨some 54, .bin .lss 5 (.t 51) (.t 53) 5, none, [51, 53]⟩,
  ⟨some 55, .move (.t 54), none, [54]⟩,
  ⟨some 56, .faddr 81 (.t 9) 1 1, some (4, false), []⟩,
  ⟨some 57, .load 5 none (.t 56), some (4, false), [9, 56]⟩,
  ⟨some 58, .move (.t 10), some (4, false), []⟩,
  ⟨some 59, .bin .lss 5 (.t 57) (.t 58) 5, some (4, false), [57, 58]⟩,
  ⟨some 60, .pick (.t 55) (.c (Value.bool true)) (.t 59), none, [55, 59]⟩] none [0, 5, 8, 10, 60])
 (.cond [0, 5, 8, 10] (.t 60) (.seq (.reg 15 [⟨some 2, .assign (.c (Value.int IntKind.i32 65533)), none, []⟩,
  ⟨some 3, .assign (.c (Value.int IntKind.i64 1)), none, []⟩] none [2, 3])
 .ret) .skip))
 k4_utf8_decodeRuneSlow))
def k5_utf8_decodeRuneSlow : IR := .tail [0, 5, 8, 9] j5_utf8_decodeRuneSlow
def j6_utf8_decodeRuneSlow : IR :=
 (.seq (.reg 9 [⟨some 38, .move (.t 6), none, []⟩,
  ⟨some 39, .bin .and 5 (.t 38) (.c (Value.int IntKind.u8 7)) 5, none, [38]⟩,
  ⟨some 40, .conv 5 3 (.int .i64) (.t 39), none, [39]⟩,
  ⟨some 8, .assign (.t 40), none, [40]⟩] none [0, 4, 5, 6, 8])
 (.seq (.reg 10 [⟨some 41, .move (.t 6), none, [6]⟩,
  ⟨some 42, .bin .shr 5 (.t 41) (.c (Value.int IntKind.u64 4)) 74, none, [41]⟩,
  ⟨some 43, .iaddr 82 (.arr 16 2) (.g 1 glob1) (.t 42), none, []⟩,
  ⟨some 44, .load 81 (some 2) (.t 43), none, [42, 43]⟩,
  ⟨some 9, .alloc 81 [.v (.int .u8 0), .v (.int .u8 0)], none, []⟩,
  ⟨none, .store 81 (some 2) (.t 9) (.t 44), none, [44]⟩] none [0, 4, 5, 8, 9])
 (.seq (.seq (.reg 11 [⟨some 45, .move (.t 4), none, [4]⟩,
  ⟨some 46, .move (.t 8), none, []⟩,
  ⟨some 47, .bin .lss 3 (.t 45) (.t 46) 3, none, [45, 46]⟩] none [0, 5, 8, 9, 47])
 (.cond [0, 5, 8, 9] (.t 47) (.seq (.reg 12 [⟨some 2, .assign (.c (Value.int IntKind.i32 65533)), none, []⟩,
  ⟨some 3, .assign (.c (Value.int IntKind.i64 1)), none, []⟩] none [2, 3])
 .ret) .skip))
 k5_utf8_decodeRuneSlow)))
def k6_utf8_decodeRuneSlow : IR := .tail [0, 4, 5, 6] j6_utf8_decodeRuneSlow
def j7_utf8_decodeRuneSlow : IR :=
 (.seq (.reg 4 [⟨some 17, .move (.t 0), none, []⟩,
  ⟨some 18, .iaddr 22 (.sl 1) (.t 17) (.c (Value.int IntKind.i64 0)), none, []⟩,
  ⟨some 19, .load 5 none (.t 18), none, [17, 18]⟩,
  ⟨some 5, .assign (.t 19), none, [19]⟩] none [0, 4, 5])
 (.seq (.reg 5 [⟨some 20, .move (.t 5), none, []⟩,
  ⟨some 21, .iaddr 79 (.arr 256 1) (.g 0 glob0) (.t 20), none, []⟩,
  ⟨some 22, .load 5 none (.t 21), none, [20, 21]⟩,
  ⟨some 6, .assign (.t 22), none, [22]⟩] none [0, 4, 5, 6])
 (.seq (.seq (.reg 6 [⟨some 23, .move (.t 6), none, []⟩,
  ⟨some 24, .bin .geq 5 (.t 23) (.c (Value.int IntKind.u8 240)) 5, none, [23]⟩] none [0, 4, 5, 6, 24])
 (.cond [0, 4, 5, 6] (.t 24) (.seq (.reg 7 [⟨some 25, .move (.t 6), none, [6]⟩,
  ⟨some 26, .conv 5 21 (.int .i32) (.t 25), none, [25]⟩,
  ⟨some 27, .bin .shl 21 (.t 26) (.c (Value.int IntKind.u64 31)) 74, none, [26]⟩,
  ⟨some 28, .bin .shr 21 (.t 27) (.c (Value.int IntKind.u64 31)) 74, none, [27]⟩,
  ⟨some 7, .assign (.t 28), none, [28]⟩] none [0, 7])
 (.seq (.reg 8 [⟨some 29, .move (.t 0), none, []⟩,
  ⟨some 30, .iaddr 22 (.sl 1) (.t 29) (.c (Value.int IntKind.i64 0)), none, []⟩,
  ⟨some 31, .load 5 none (.t 30), none, [0, 29, 30]⟩,
  ⟨some 32, .conv 5 21 (.int .i32) (.t 31), none, [31]⟩,
  ⟨some 33, .move (.t 7), none, []⟩,
  ⟨some 34, .bin .andNot 21 (.t 32) (.t 33) 21, none, [32, 33]⟩,
  ⟨some 35, .move (.t 7), none, [7]⟩,
  ⟨some 36, .bin .and 21 (.c (Value.int IntKind.i32 65533)) (.t 35) 21, none, [35]⟩,
  ⟨some 37, .bin .or 21 (.t 34) (.t 36) 21, none, [34, 36]⟩,
  ⟨some 2, .assign (.t 37), none, [37]⟩,
  ⟨some 3, .assign (.c (Value.int IntKind.i64 1)), none, []⟩] none [2, 3])
 .ret)) .skip))
 k6_utf8_decodeRuneSlow)))
def k7_utf8_decodeRuneSlow : IR := .tail [0, 4] j7_utf8_decodeRuneSlow
def b_utf8_decodeRuneSlow : IR :=
 (.seq (.reg 0 [⟨some 2, .assign (.c (Value.int IntKind.i32 0)), none, [2]⟩,
  ⟨some 3, .assign (.c (Value.int IntKind.i64 0)), none, [3]⟩] none [0])
 (.seq (.reg 1 [⟨some 13, .move (.t 0), none, []⟩,
  ⟨some 14, .len 22 false (.t 13), none, [13]⟩,
  ⟨some 4, .assign (.t 14), none, [14]⟩] none [0, 4])
 (.seq (.seq (.reg 2 [⟨some 15, .move (.t 4), none, []⟩,
  ⟨some 16, .bin .lss 3 (.t 15) (.c (Value.int IntKind.i64 1)) 3, none, [15]⟩] none [0, 4, 16])
 (.cond [0, 4] (.t 16) (.seq (.reg 3 [⟨some 2, .assign (.c (Value.int IntKind.i32 65533)), none, []⟩,
  ⟨some 3, .assign (.c (Value.int IntKind.i64 0)), none, []⟩] none [2, 3])
 .ret) .skip))
 k7_utf8_decodeRuneSlow)))
def a_utf8_decodeRuneSlow : AFunc := ⟨122, [.tmp 2, .tmp 3], b_utf8_decodeRuneSlow⟩

def j0_utf8_DecodeRune : IR :=
 (.reg 6 [⟨some 16, .bin .add 3 (.t 8) (.c (Value.int IntKind.i64 1)) 3, none, []⟩,
  ⟨some 8, .move (.t 16), none, [16]⟩] none [0, 6, 7, 8])
def k0_utf8_DecodeRune : IR := .tail [0, 6, 7, 8] j0_utf8_DecodeRune
def j1_utf8_DecodeRune : IR :=
 (.seq (.block 1 (.seq (.reg 3 [⟨some 10, .iaddr 22 (.sl 1) (.t 6) (.t 8), none, []⟩,
  ⟨some 11, .load 5 none (.t 10), none, [6, 8, 10]⟩,
  ⟨some 5, .assign (.t 11), none, [11]⟩] none [0, 5])
 (.seq (.seq (.reg 4 [⟨some 12, .move (.t 5), none, []⟩,
  ⟨some 13, .bin .lss 5 (.t 12) (.c (Value.int IntKind.u8 128)) 5, none, [12]⟩] none [0, 5, 13])
 (.cond [0, 5] (.t 13) (.seq (.reg 5 [⟨some 14, .move (.t 5), none, [5]⟩,
  ⟨some 15, .conv 5 21 (.int .i32) (.t 14), none, [14]⟩,
  ⟨some 2, .assign (.t 15), none, [15]⟩,
  ⟨some 3, .assign (.c (Value.int IntKind.i64 1)), none, []⟩] none [2, 3])
 .ret) .skip))
 (.exit 0))))
 k0_utf8_DecodeRune)
def k1_utf8_DecodeRune : IR := .tail [0, 6, 8] j1_utf8_DecodeRune
def w0_utf8_DecodeRune : IR :=
 (.seq (.reg 2 [⟨some 9, .bin .lss 3 (.t 8) (.t 7) 3, none, [7]⟩] none [0, 6, 8, 9])
 (.seq (.cond [0, 6, 8] (.t 9) .skip (.exit 0))
 k1_utf8_DecodeRune))
def l0_utf8_DecodeRune : IR := .loop [0, 6, 7, 8] w0_utf8_DecodeRune
def j2_utf8_DecodeRune : IR :=
 (.seq (.reg 7 [⟨some 18, .move (.t 0), none, []⟩,
  ⟨some 19, .call n_utf8_decodeRuneSlow [(.t 18)] [22], none, [0, 18]⟩,
  ⟨some 17, .move (.t 19), none, [19]⟩,
  ⟨some 20, .extr (.t 17) 0, none, []⟩,
  ⟨some 21, .extr (.t 17) 1, none, [17]⟩,
  ⟨some 2, .assign (.t 20), none, [20]⟩,
  ⟨some 3, .assign (.t 21), none, [21]⟩] none [2, 3])
 .ret)
def k2_utf8_DecodeRune : IR := .tail [0] j2_utf8_DecodeRune
def b_utf8_DecodeRune : IR :=
 (.seq (.reg 0 [⟨some 2, .assign (.c (Value.int IntKind.i32 0)), none, [2]⟩,
  ⟨some 3, .assign (.c (Value.int IntKind.i64 0)), none, [3]⟩] none [0])
 (.seq (.seq (.reg 1 [⟨some 6, .move (.t 0), none, []⟩,
  ⟨some 7, .len 22 false (.t 6), none, []⟩,
  ⟨some 8, .move (.c (Value.int IntKind.i64 0)), none, []⟩] none [0, 6, 7, 8])
 (.block 0 l0_utf8_DecodeRune))
 k2_utf8_DecodeRune))
def a_utf8_DecodeRune : AFunc := ⟨22, [.tmp 2, .tmp 3], b_utf8_DecodeRune⟩

def j0_json_reader_text : IR :=
 (.seq (.reg 7 [⟨some 37, .move (.t 3), none, []⟩,
  ⟨some 38, .move (.t 0), none, []⟩,
  ⟨some 39, .nilck (.t 38), none, []⟩,
  ⟨some 40, .faddr 50 (.t 39) 0 0, none, []⟩,
  ⟨some 41, .load 22 none (.t 40), none, []⟩,
  ⟨some 42, .move (.t 0), none, []⟩,
  ⟨some 43, .nilck (.t 42), none, []⟩,
  ⟨some 44, .faddr 50 (.t 43) 1 1, none, []⟩,
  ⟨some 45, .load 3 none (.t 44), none, [42, 43, 44]⟩,
  ⟨some 46, .move (.t 0), none, []⟩,
  ⟨some 47, .nilck (.t 46), none, []⟩,
  ⟨some 48, .faddr 50 (.t 47) 1 1, none, []⟩,
  ⟨some 49, .load 3 none (.t 48), none, [46, 47, 48]⟩,
  ⟨some 50, .move (.t 6), none, []⟩,
  ⟨some 51, .bin .add 3 (.t 49) (.t 50) 3, none, [49, 50]⟩,
  ⟨some 52, .slice 22 (.sl 1) (.t 41) (some (.t 45)) (some (.t 51)) none, none, []⟩,
  ⟨some 53, .append 22 22 false 1 1 (.t 37) (.t 52), none, [37, 38, 39, 40, 41, 45, 51, 52]⟩,
  ⟨some 3, .assign (.t 53), none, []⟩] (some (.cons ⟨0, []⟩ (.cons ⟨1, []⟩ (.cons ⟨2, []⟩ (.cons ⟨3, []⟩ (.cons ⟨5, []⟩ (.cons ⟨6, []⟩ (.cons ⟨7, []⟩ (.cons ⟨9, []⟩ (.cons ⟨10, []⟩ (.cons ⟨11, []⟩ (.cons ⟨13, []⟩ (.cons ⟨4, []⟩ (.cons ⟨8, []⟩ (.cons ⟨12, []⟩ (.cons ⟨14, []⟩ (.cons ⟨15, []⟩ (.cons ⟨16, []⟩ (.cons ⟨17, []⟩ .nil))))))))))))))))))) [0, 3, 6, 53, 80, 100000])
 (.reg 8 [⟨some 54, .move (.t 0), none, []⟩,
  ⟨some 55, .nilck (.t 54), none, []⟩,
  ⟨some 56, .faddr 50 (.t 55) 1 1, none, []⟩,
  ⟨some 57, .load 3 none (.t 56), none, [55, 56]⟩,
  ⟨some 58, .move (.t 6), none, [6]⟩,
  ⟨some 59, .bin .add 3 (.t 57) (.t 58) 3, none, [57, 58]⟩,
  ⟨some 60, .nilck (.t 54), none, []⟩,
  ⟨some 61, .faddr 50 (.t 60) 1 1, none, []⟩,
  ⟨none, .store 3 none (.t 61) (.t 59), none, [54, 59, 60, 61]⟩] none [0, 3, 53, 80, 100000]))
def k0_json_reader_text : IR := .tail [0, 3, 6, 53, 80, 100000] j0_json_reader_text
def w0_json_reader_text : IR :=
 (.block 1 (.seq (.regp 3 [⟨some 14, .move (.t 0), none, []⟩,
  ⟨some 15, .call n_json_reader_byte [(.t 14)] [48], none, [14]⟩,
  ⟨some 4, .assign (.t 15), none, [15]⟩] none [0, 3, 4, 53, 80, 100000])
 (.block 2 (.seq (.reg 9 [⟨some 63, .move (.t 4), none, []⟩,
  ⟨some 64, .bin .eql 5 (.t 63) (.c (Value.int IntKind.u8 34)) 5, none, [63]⟩,
  ⟨some 62, .assign (.t 64), none, [64]⟩] none [0, 3, 4, 53, 62, 80, 100000])
 (.cond [0, 3, 4, 53, 80, 100000] (.t 62) (.seq (.reg 10 [⟨some 65, .move (.t 0), none, []⟩,
  ⟨some 66, .nilck (.t 65), none, []⟩,
  ⟨some 67, .faddr 50 (.t 66) 1 1, none, []⟩,
  ⟨some 68, .load 3 none (.t 67), none, [66, 67]⟩,
  ⟨some 69, .bin .add 3 (.t 68) (.c (Value.int IntKind.i64 1)) 3, none, [68]⟩,
  ⟨some 70, .nilck (.t 65), none, []⟩,
  ⟨some 71, .faddr 50 (.t 70) 1 1, none, []⟩,
  ⟨none, .store 3 none (.t 71) (.t 69), none, [0, 65, 69, 70, 71]⟩] none [3, 53, 80, 100000])
 (.seq (.reg 11 [⟨some 72, .move (.t 3), none, []⟩,
  ⟨some 73, .conv 22 9 .bytes (.t 72), none, [3, 53, 72, 80]⟩,
  ⟨some 2, .assign (.t 73), none, [73]⟩] none [2, 100000])
 .ret)) (.seq (.reg 12 [⟨some 75, .move (.t 4), none, []⟩,
  ⟨some 76, .bin .eql 5 (.t 75) (.c (Value.int IntKind.u8 92)) 5, none, [75]⟩,
  ⟨some 74, .assign (.t 76), none, [76]⟩] none [0, 3, 4, 53, 74, 80, 100000])
 (.cond [0, 3, 4, 53, 80, 100000] (.t 74) (.regp 13 [⟨some 77, .move (.t 3), none, []⟩,
  ⟨some 78, .move (.t 0), none, []⟩,
  ⟨some 79, .call n_json_reader_escape [(.t 78)] [48], none, [78]⟩,
  ⟨some 80, .append 22 9 true 1 1 (.t 77) (.t 79), none, [77, 79]⟩,
  ⟨some 3, .assign (.t 80), none, []⟩] none [0, 3, 53, 80, 100000]) (.seq (.reg 14 [⟨some 82, .move (.t 4), none, [4]⟩,
  ⟨some 83, .bin .lss 5 (.t 82) (.c (Value.int IntKind.u8 32)) 5, none, [82]⟩,
  ⟨some 81, .assign (.t 83), none, [83]⟩] none [0, 3, 53, 80, 81, 100000])
 (.cond [0, 3, 53, 80, 100000] (.t 81) (.regp 15 [⟨some 84, .move (.t 0), none, []⟩,
  ⟨some 85, .call n_json_reader_fail [(.t 84)] [48], none, [84, 85]⟩] none [0, 3, 53, 80, 100000]) (.seq (.reg 4 [⟨some 17, .move (.t 0), none, []⟩,
  ⟨some 18, .nilck (.t 17), none, []⟩,
  ⟨some 19, .faddr 50 (.t 18) 0 0, none, []⟩,
  ⟨some 20, .load 22 none (.t 19), none, []⟩,
  ⟨some 21, .move (.t 0), none, []⟩,
  ⟨some 22, .nilck (.t 21), none, []⟩,
  ⟨some 23, .faddr 50 (.t 22) 1 1, none, []⟩,
  ⟨some 24, .load 3 none (.t 23), none, [21, 22, 23]⟩,
  ⟨some 25, .slice 22 (.sl 1) (.t 20) (some (.t 24)) none none, none, []⟩,
  ⟨some 26, .call n_utf8_DecodeRune [(.t 25)] [22], none, [17, 18, 19, 20, 24, 25]⟩,
  ⟨some 16, .move (.t 26), none, [26]⟩,
  ⟨some 27, .extr (.t 16) 0, none, []⟩,
  ⟨some 28, .extr (.t 16) 1, none, [16]⟩,
  ⟨some 5, .assign (.t 27), none, [27]⟩,
  ⟨some 6, .assign (.t 28), none, [28]⟩] (some (.cons ⟨0, []⟩ (.cons ⟨1, []⟩ (.cons ⟨2, []⟩ (.cons ⟨4, []⟩ (.cons ⟨5, []⟩ (.cons ⟨6, []⟩ (.cons ⟨3, []⟩ (.cons ⟨7, []⟩ (.cons ⟨8, []⟩ (.cons ⟨9, []⟩ (.cons ⟨10, []⟩ (.cons ⟨11, []⟩ (.cons ⟨12, []⟩ (.cons ⟨13, []⟩ (.cons ⟨14, []⟩ .nil)))))))))))))))) [0, 3, 5, 6, 53, 80, 100000])
 (.seq (.seq (.reg 5 [⟨some 29, .move (.t 5), none, [5]⟩,
  ⟨some 30, .bin .eql 21 (.t 29) (.c (Value.int IntKind.i32 65533)) 21, none, [29]⟩,
  ⟨some 31, .move (.t 30), none, [30]⟩,
  ⟨some 32, .move (.t 6), some (2, true), []⟩,
  ⟨some 33, .bin .leq 3 (.t 32) (.c (Value.int IntKind.i64 1)) 3, some (2, true), [32]⟩,
  ⟨some 34, .pick (.t 31) (.t 33) (.c (Value.bool false)), none, [31, 33]⟩] none [0, 3, 6, 34, 53, 80, 100000])
 (.cond [0, 3, 6, 53, 80, 100000] (.t 34) (.regp 6 [⟨some 35, .move (.t 0), none, []⟩,
  ⟨some 36, .call n_json_reader_fail [(.t 35)] [48], none, [35, 36]⟩] none [0, 3, 6, 53, 80, 100000]) .skip))
 k0_json_reader_text)))))))))))
def l0_json_reader_text : IR := .loop [0, 3, 53, 80, 100000] w0_json_reader_text
def b_json_reader_text : IR :=
 (.seq (.reg 0 [⟨some 2, .assign (.c (Value.string { data := #[] })), none, [2]⟩] none [0, 100000])
 (.seq (.reg 1 [⟨some 7, .move (.t 0), none, []⟩,
  ⟨some 8, .nilck (.t 7), none, []⟩,
  ⟨some 9, .faddr 50 (.t 8) 1 1, none, []⟩,
  ⟨some 10, .load 3 none (.t 9), none, [8, 9]⟩,
  ⟨some 11, .bin .add 3 (.t 10) (.c (Value.int IntKind.i64 1)) 3, none, [10]⟩,
  ⟨some 12, .nilck (.t 7), none, []⟩,
  ⟨some 13, .faddr 50 (.t 12) 1 1, none, []⟩,
  ⟨none, .store 3 none (.t 13) (.t 11), none, [7, 11, 12, 13]⟩] none [0, 100000])
 (.seq (.reg 2 [⟨some 3, .assign (.nilS 1), none, []⟩] none [0, 3, 53, 80, 100000])
 (.block 0 l0_json_reader_text))))
def a_json_reader_text : AFunc := ⟨86, [.tmp 2], b_json_reader_text⟩

def j0_json_reader_takes : IR :=
 (.seq (.reg 4 [⟨some 4, .assign (.c (Value.bool false)), none, []⟩] none [4, 100000])
 .ret)
def k0_json_reader_takes : IR := .tail [100000] j0_json_reader_takes
def b_json_reader_takes : IR :=
 (.seq (.reg 0 [⟨some 4, .assign (.c (Value.bool false)), none, [4]⟩] none [0, 1, 100000])
 (.seq (.seq (.reg 1 [⟨some 5, .move (.t 0), none, []⟩,
  ⟨some 6, .nilck (.t 5), none, []⟩,
  ⟨some 7, .faddr 50 (.t 6) 1 1, none, []⟩,
  ⟨some 8, .load 3 none (.t 7), none, [5, 6, 7]⟩,
  ⟨some 9, .move (.t 0), none, []⟩,
  ⟨some 10, .nilck (.t 9), none, []⟩,
  ⟨some 11, .faddr 50 (.t 10) 0 0, none, []⟩,
  ⟨some 12, .load 22 none (.t 11), none, []⟩,
  ⟨some 13, .len 22 false (.t 12), none, [9, 10, 11, 12]⟩,
  ⟨some 14, .bin .lss 3 (.t 8) (.t 13) 3, none, [8, 13]⟩,
  ⟨some 15, .move (.t 14), none, [14]⟩,
  ⟨some 16, .move (.t 1), some (10, true), [1]⟩,
  ⟨some 17, .move (.t 0), some (10, true), []⟩,
  ⟨some 18, .nilck (.t 17), some (10, true), []⟩,
  ⟨some 19, .faddr 50 (.t 18) 0 0, some (10, true), []⟩,
  ⟨some 20, .load 22 none (.t 19), some (10, true), []⟩,
  ⟨some 21, .move (.t 0), some (10, true), []⟩,
  ⟨some 22, .nilck (.t 21), some (10, true), []⟩,
  ⟨some 23, .faddr 50 (.t 22) 1 1, some (10, true), []⟩,
  ⟨some 24, .load 3 none (.t 23), some (10, true), [21, 22, 23]⟩,
  ⟨some 25, .iaddr 22 (.sl 1) (.t 20) (.t 24), some (10, true), []⟩,
  ⟨some 26, .load 5 none (.t 25), some (10, true), [17, 18, 19, 20, 24, 25]⟩,
  ⟨some 27, .call n_strings_IndexByte [(.t 16), (.t 26)] [9, 5], some (10, true), [16, 26]⟩,
  ⟨some 28, .bin .geq 3 (.t 27) (.c (Value.int IntKind.i64 0)) 3, some (10, true), [27]⟩,
  ⟨some 29, .pick (.t 15) (.t 28) (.c (Value.bool false)), none, [15, 28]⟩] (some (.cons ⟨0, []⟩ (.cons ⟨1, []⟩ (.cons ⟨2, []⟩ (.cons ⟨4, []⟩ (.cons ⟨5, []⟩ (.cons ⟨6, []⟩ (.cons ⟨3, []⟩ (.cons ⟨7, []⟩ (.cons ⟨8, []⟩ (.cons ⟨9, []⟩ (.cons ⟨10, []⟩ (.cons ⟨11, []⟩ (.cons ⟨12, []⟩ (.cons ⟨13, []⟩ (.cons ⟨14, []⟩ (.cons ⟨16, []⟩ (.cons ⟨17, []⟩ (.cons ⟨18, []⟩ (.cons ⟨15, []⟩ (.cons ⟨19, []⟩ (.cons ⟨20, []⟩ (.cons ⟨21, []⟩ (.cons ⟨22, []⟩ (.cons ⟨23, []⟩ (.cons ⟨24, []⟩ .nil)))))))))))))))))))))))))) [0, 29, 100000])
 (.cond [0, 100000] (.t 29) (.seq (.reg 2 [⟨some 30, .move (.t 0), none, []⟩,
  ⟨some 31, .nilck (.t 30), none, []⟩,
  ⟨some 32, .faddr 50 (.t 31) 1 1, none, []⟩,
  ⟨some 33, .load 3 none (.t 32), none, [31, 32]⟩,
  ⟨some 34, .bin .add 3 (.t 33) (.c (Value.int IntKind.i64 1)) 3, none, [33]⟩,
  ⟨some 35, .nilck (.t 30), none, []⟩,
  ⟨some 36, .faddr 50 (.t 35) 1 1, none, []⟩,
  ⟨none, .store 3 none (.t 36) (.t 34), none, [0, 30, 34, 35, 36]⟩] none [100000])
 (.seq (.reg 3 [⟨some 4, .assign (.c (Value.bool true)), none, []⟩] none [4, 100000])
 .ret)) .skip))
 k0_json_reader_takes))
def a_json_reader_takes : AFunc := ⟨37, [.tmp 4], b_json_reader_takes⟩

def j0_json_reader_list : IR :=
 (.regp 10 [⟨some 27, .move (.t 0), none, []⟩,
  ⟨some 28, .call n_json_reader_want [(.t 27), (.c (Value.string { data := #[44] }))] [48, 9], none, [27, 28]⟩] none [0, 1, 4, 5, 100000])
def k0_json_reader_list : IR := .tail [0, 1, 4, 5, 100000] j0_json_reader_list
def w0_json_reader_list : IR :=
 (.block 1 (.seq (.reg 5 [⟨some 12, .move (.t 0), none, []⟩,
  ⟨some 13, .call n_json_reader_blanks [(.t 12)] [48], none, [12, 13]⟩] none [0, 1, 4, 5, 100000])
 (.seq (.regp 6 [⟨some 14, .faddr 27 (.t 5) 3 3, none, []⟩,
  ⟨some 15, .load 25 none (.t 14), none, []⟩,
  ⟨some 16, .move (.t 0), none, []⟩,
  ⟨some 17, .move (.t 1), none, []⟩,
  ⟨some 18, .call n_json_reader_value [(.t 16), (.t 17)] [48, 3], none, [16, 17]⟩,
  ⟨some 19, .lit 25 4 [(.t 18)], none, [18]⟩,
  ⟨some 20, .append 25 25 false 4 72 (.t 15) (.t 19), none, [14, 15, 19]⟩,
  ⟨some 21, .faddr 27 (.t 5) 3 3, none, []⟩,
  ⟨none, .store 25 none (.t 21) (.t 20), none, [20, 21]⟩] (some (.cons ⟨0, []⟩ (.cons ⟨2, []⟩ (.cons ⟨3, []⟩ (.cons ⟨1, []⟩ (.cons ⟨4, [1]⟩ (.cons ⟨5, [1]⟩ (.cons ⟨6, []⟩ (.cons ⟨7, []⟩ (.cons ⟨8, []⟩ .nil)))))))))) [0, 1, 4, 5, 100000])
 (.seq (.reg 7 [⟨some 22, .move (.t 0), none, []⟩,
  ⟨some 23, .call n_json_reader_blanks [(.t 22)] [48], none, [22, 23]⟩] none [0, 1, 4, 5, 100000])
 (.seq (.seq (.reg 8 [⟨some 24, .move (.t 0), none, []⟩,
  ⟨some 25, .call n_json_reader_takes [(.t 24), (.c (Value.string { data := #[93] }))] [48, 9], none, [24]⟩] none [0, 1, 4, 5, 25, 100000])
 (.cond [0, 1, 4, 5, 100000] (.t 25) (.seq (.reg 9 [⟨some 26, .load 27 (some 4) (.t 5), none, []⟩,
  ⟨none, .store 27 (some 4) (.t 4) (.t 26), none, [5, 26]⟩] none [4, 100000])
 .ret) .skip))
 k0_json_reader_list)))))
def l0_json_reader_list : IR := .loop [0, 1, 4, 5, 100000] w0_json_reader_list
def b_json_reader_list : IR :=
 (.seq (.reg 0 [⟨some 4, .alloc 27 [.v (.int .u8 0), .v (.string ⟨#[]⟩), .nil 1, .nil 4], none, []⟩] none [0, 1, 4, 100000])
 (.seq (.reg 1 [⟨some 6, .build 27 [(0, 1), (1, 1), (2, 1), (3, 1)] [.v (.int .u8 0), .v (.string ⟨#[]⟩), .nil 1, .nil 4] [(0, (.c (Value.int IntKind.u8 6)))], none, []⟩,
  ⟨some 5, .alloc 27 [.v (.int .u8 0), .v (.string ⟨#[]⟩), .nil 1, .nil 4], none, []⟩,
  ⟨none, .store 27 (some 4) (.t 5) (.t 6), none, [6]⟩] none [0, 1, 4, 5, 100000])
 (.seq (.reg 2 [⟨some 7, .move (.t 0), none, []⟩,
  ⟨some 8, .call n_json_reader_blanks [(.t 7)] [48], none, [7, 8]⟩] none [0, 1, 4, 5, 100000])
 (.seq (.seq (.reg 3 [⟨some 9, .move (.t 0), none, []⟩,
  ⟨some 10, .call n_json_reader_takes [(.t 9), (.c (Value.string { data := #[93] }))] [48, 9], none, [9]⟩] none [0, 1, 4, 5, 10, 100000])
 (.cond [0, 1, 4, 5, 100000] (.t 10) (.seq (.reg 4 [⟨some 11, .load 27 (some 4) (.t 5), none, []⟩,
  ⟨none, .store 27 (some 4) (.t 4) (.t 11), none, [5, 11]⟩] none [4, 100000])
 .ret) .skip))
 (.block 0 l0_json_reader_list)))))
def a_json_reader_list : AFunc := ⟨29, [.cell 4 27 (some 4)], b_json_reader_list⟩

def j0_json_reader_object : IR :=
 (.regp 22 [⟨some 65, .move (.t 0), none, []⟩,
  ⟨some 66, .call n_json_reader_want [(.t 65), (.c (Value.string { data := #[44] }))] [48, 9], none, [65, 66]⟩] none [0, 1, 4, 5, 6, 10, 100000])
def k0_json_reader_object : IR := .tail [0, 1, 4, 5, 6, 10, 100000] j0_json_reader_object
def j1_json_reader_object : IR :=
 (.seq (.reg 14 [⟨some 40, .move (.t 0), none, []⟩,
  ⟨some 41, .call n_json_reader_blanks [(.t 40)] [48], none, [40, 41]⟩] none [0, 1, 4, 5, 6, 8, 10, 100000])
 (.seq (.regp 15 [⟨some 42, .move (.t 0), none, []⟩,
  ⟨some 43, .call n_json_reader_want [(.t 42), (.c (Value.string { data := #[58] }))] [48, 9], none, [42, 43]⟩] none [0, 1, 4, 5, 6, 8, 10, 100000])
 (.seq (.reg 16 [⟨some 44, .move (.t 0), none, []⟩,
  ⟨some 45, .call n_json_reader_blanks [(.t 44)] [48], none, [44, 45]⟩] none [0, 1, 4, 5, 6, 8, 10, 100000])
 (.seq (.reg 17 [⟨some 46, .faddr 27 (.t 5) 2 2, none, []⟩,
  ⟨some 47, .load 24 none (.t 46), none, []⟩,
  ⟨some 48, .move (.t 8), none, [8]⟩,
  ⟨some 49, .lit 24 1 [(.t 48)], none, [48]⟩,
  ⟨some 50, .append 24 24 false 1 16 (.t 47) (.t 49), none, [46, 47, 49]⟩,
  ⟨some 51, .faddr 27 (.t 5) 2 2, none, []⟩,
  ⟨none, .store 24 none (.t 51) (.t 50), none, [50, 51]⟩] none [0, 1, 4, 5, 6, 10, 100000])
 (.seq (.regp 18 [⟨some 52, .faddr 27 (.t 5) 3 3, none, []⟩,
  ⟨some 53, .load 25 none (.t 52), none, []⟩,
  ⟨some 54, .move (.t 0), none, []⟩,
  ⟨some 55, .move (.t 1), none, []⟩,
  ⟨some 56, .call n_json_reader_value [(.t 54), (.t 55)] [48, 3], none, [54, 55]⟩,
  ⟨some 57, .lit 25 4 [(.t 56)], none, [56]⟩,
  ⟨some 58, .append 25 25 false 4 72 (.t 53) (.t 57), none, [52, 53, 57]⟩,
  ⟨some 59, .faddr 27 (.t 5) 3 3, none, []⟩,
  ⟨none, .store 25 none (.t 59) (.t 58), none, [58, 59]⟩] (some (.cons ⟨0, []⟩ (.cons ⟨2, []⟩ (.cons ⟨3, []⟩ (.cons ⟨1, []⟩ (.cons ⟨4, [1]⟩ (.cons ⟨5, [1]⟩ (.cons ⟨6, []⟩ (.cons ⟨7, []⟩ (.cons ⟨8, []⟩ .nil)))))))))) [0, 1, 4, 5, 6, 10, 100000])
 (.seq (.reg 19 [⟨some 60, .move (.t 0), none, []⟩,
  ⟨some 61, .call n_json_reader_blanks [(.t 60)] [48], none, [60, 61]⟩] none [0, 1, 4, 5, 6, 10, 100000])
 (.seq (.seq (.reg 20 [⟨some 62, .move (.t 0), none, []⟩,
  ⟨some 63, .call n_json_reader_takes [(.t 62), (.c (Value.string { data := #[125] }))] [48, 9], none, [62]⟩] none [0, 1, 4, 5, 6, 10, 63, 100000])
 (.cond [0, 1, 4, 5, 6, 10, 100000] (.t 63) (.seq (.reg 21 [⟨some 64, .load 27 (some 4) (.t 5), none, []⟩,
  ⟨none, .store 27 (some 4) (.t 4) (.t 64), none, [5, 64]⟩] none [4, 100000])
 .ret) .skip))
 k0_json_reader_object)))))))
def k1_json_reader_object : IR := .tail [0, 1, 4, 5, 6, 8, 10, 100000] j1_json_reader_object
def j2_json_reader_object : IR :=
 (.seq (.regp 10 [⟨some 27, .move (.t 0), none, []⟩,
  ⟨some 28, .call n_json_reader_text [(.t 27)] [48], none, [27]⟩,
  ⟨some 8, .assign (.t 28), none, [28]⟩] none [0, 1, 4, 5, 6, 7, 8, 10, 100000])
 (.seq (.seq (.reg 11 [⟨some 29, .move (.t 6), none, []⟩,
  ⟨some 30, .move (.t 8), none, []⟩,
  ⟨some 31, .mlook 68 none (.int .i64 0) (.t 29) (.t 30), none, []⟩,
  ⟨some 32, .bin .add 3 (.t 31) (.c (Value.int IntKind.i64 1)) 3, none, [31]⟩,
  ⟨none, .mput false 68 none (.t 29) (.t 30) (.t 32), none, [29, 30, 32]⟩] none [0, 1, 4, 5, 6, 7, 8, 10, 100000])
 (.seq (.reg 12 [⟨some 33, .move (.t 6), none, []⟩,
  ⟨some 34, .move (.t 8), none, []⟩,
  ⟨some 35, .mlook 68 none (.int .i64 0) (.t 33) (.t 34), none, [33, 34]⟩,
  ⟨some 36, .bin .gtr 3 (.t 35) (.c (Value.int IntKind.i64 1)) 3, none, [35]⟩] none [0, 1, 4, 5, 6, 7, 8, 10, 36, 100000])
 (.cond [0, 1, 4, 5, 6, 7, 8, 10, 100000] (.t 36) (.regp 13 [⟨some 37, .move (.t 7), none, [7]⟩,
  ⟨some 38, .build 46 [(0, 1), (1, 1)] [.v (.int .i64 0), .v (.int .i64 0)] [(0, (.c (Value.int IntKind.i64 102))), (1, (.t 37))], none, [37]⟩,
  ⟨some 39, .mkiface 46 (.t 38), none, [38]⟩,
  ⟨none, .throw (.t 39), none, [39]⟩] none [0, 1, 4, 5, 6, 8, 10, 100000]) .skip)))
 k1_json_reader_object))
def k2_json_reader_object : IR := .tail [0, 1, 4, 5, 6, 7, 10, 100000] j2_json_reader_object
def w0_json_reader_object : IR :=
 (.block 1 (.seq (.reg 6 [⟨some 16, .move (.t 0), none, []⟩,
  ⟨some 17, .call n_json_reader_blanks [(.t 16)] [48], none, [16, 17]⟩] none [0, 1, 4, 5, 6, 10, 100000])
 (.seq (.reg 7 [⟨some 18, .move (.t 0), none, []⟩,
  ⟨some 19, .nilck (.t 18), none, []⟩,
  ⟨some 20, .faddr 50 (.t 19) 1 1, none, []⟩,
  ⟨some 21, .load 3 none (.t 20), none, [18, 19, 20]⟩,
  ⟨some 7, .assign (.t 21), none, [21]⟩] none [0, 1, 4, 5, 6, 7, 10, 100000])
 (.seq (.seq (.regp 8 [⟨some 22, .move (.t 0), none, []⟩,
  ⟨some 23, .call n_json_reader_byte [(.t 22)] [48], none, [22]⟩,
  ⟨some 24, .bin .neq 5 (.t 23) (.c (Value.int IntKind.u8 34)) 5, none, [23]⟩] none [0, 1, 4, 5, 6, 7, 10, 24, 100000])
 (.cond [0, 1, 4, 5, 6, 7, 10, 100000] (.t 24) (.regp 9 [⟨some 25, .move (.t 0), none, []⟩,
  ⟨some 26, .call n_json_reader_fail [(.t 25)] [48], none, [25, 26]⟩] none [0, 1, 4, 5, 6, 7, 10, 100000]) .skip))
 k2_json_reader_object))))
def l0_json_reader_object : IR := .loop [0, 1, 4, 5, 6, 10, 100000] w0_json_reader_object
def j3_json_reader_object : IR :=
 (.block 0 l0_json_reader_object)
def k3_json_reader_object : IR := .tail [0, 1, 4, 5, 6, 10, 100000] j3_json_reader_object
def b_json_reader_object : IR :=
 (.seq (.reg 0 [⟨some 4, .alloc 27 [.v (.int .u8 0), .v (.string ⟨#[]⟩), .nil 1, .nil 4], none, []⟩] none [0, 1, 4, 100000])
 (.seq (.reg 1 [⟨some 9, .build 27 [(0, 1), (1, 1), (2, 1), (3, 1)] [.v (.int .u8 0), .v (.string ⟨#[]⟩), .nil 1, .nil 4] [(0, (.c (Value.int IntKind.u8 7)))], none, []⟩,
  ⟨some 5, .alloc 27 [.v (.int .u8 0), .v (.string ⟨#[]⟩), .nil 1, .nil 4], none, []⟩,
  ⟨none, .store 27 (some 4) (.t 5) (.t 9), none, [9]⟩] none [0, 1, 4, 5, 100000])
 (.seq (.reg 2 [⟨some 10, .mkmap 68, none, []⟩,
  ⟨some 6, .assign (.t 10), none, []⟩] none [0, 1, 4, 5, 6, 10, 100000])
 (.seq (.reg 3 [⟨some 11, .move (.t 0), none, []⟩,
  ⟨some 12, .call n_json_reader_blanks [(.t 11)] [48], none, [11, 12]⟩] none [0, 1, 4, 5, 6, 10, 100000])
 (.seq (.seq (.reg 4 [⟨some 13, .move (.t 0), none, []⟩,
  ⟨some 14, .call n_json_reader_takes [(.t 13), (.c (Value.string { data := #[125] }))] [48, 9], none, [13]⟩] none [0, 1, 4, 5, 6, 10, 14, 100000])
 (.cond [0, 1, 4, 5, 6, 10, 100000] (.t 14) (.seq (.reg 5 [⟨some 15, .load 27 (some 4) (.t 5), none, []⟩,
  ⟨none, .store 27 (some 4) (.t 4) (.t 15), none, [5, 15]⟩] none [4, 100000])
 .ret) .skip))
 k3_json_reader_object)))))
def a_json_reader_object : AFunc := ⟨67, [.cell 4 27 (some 4)], b_json_reader_object⟩

def b_json_reader_digit : IR :=
 (.seq (.reg 0 [⟨some 2, .assign (.c (Value.bool false)), none, [2]⟩] none [0, 100000])
 (.seq (.reg 1 [⟨some 3, .move (.t 0), none, []⟩,
  ⟨some 4, .nilck (.t 3), none, []⟩,
  ⟨some 5, .faddr 50 (.t 4) 1 1, none, []⟩,
  ⟨some 6, .load 3 none (.t 5), none, [3, 4, 5]⟩,
  ⟨some 7, .move (.t 0), none, []⟩,
  ⟨some 8, .nilck (.t 7), none, []⟩,
  ⟨some 9, .faddr 50 (.t 8) 0 0, none, []⟩,
  ⟨some 10, .load 22 none (.t 9), none, []⟩,
  ⟨some 11, .len 22 false (.t 10), none, [7, 8, 9, 10]⟩,
  ⟨some 12, .bin .lss 3 (.t 6) (.t 11) 3, none, [6, 11]⟩,
  ⟨some 13, .move (.t 12), none, [12]⟩,
  ⟨some 14, .move (.t 0), some (10, true), []⟩,
  ⟨some 15, .nilck (.t 14), some (10, true), []⟩,
  ⟨some 16, .faddr 50 (.t 15) 0 0, some (10, true), []⟩,
  ⟨some 17, .load 22 none (.t 16), some (10, true), []⟩,
  ⟨some 18, .move (.t 0), some (10, true), []⟩,
  ⟨some 19, .nilck (.t 18), some (10, true), []⟩,
  ⟨some 20, .faddr 50 (.t 19) 1 1, some (10, true), []⟩,
  ⟨some 21, .load 3 none (.t 20), some (10, true), [18, 19, 20]⟩,
  ⟨some 22, .iaddr 22 (.sl 1) (.t 17) (.t 21), some (10, true), []⟩,
  ⟨some 23, .load 5 none (.t 22), some (10, true), [14, 15, 16, 17, 21, 22]⟩,
  ⟨some 24, .bin .geq 5 (.t 23) (.c (Value.int IntKind.u8 48)) 5, some (10, true), [23]⟩,
  ⟨some 25, .pick (.t 13) (.t 24) (.c (Value.bool false)), none, [13, 24]⟩,
  ⟨some 26, .move (.t 25), none, [25]⟩,
  ⟨some 27, .move (.t 0), some (23, true), []⟩,
  ⟨some 28, .nilck (.t 27), some (23, true), []⟩,
  ⟨some 29, .faddr 50 (.t 28) 0 0, some (23, true), []⟩,
  ⟨some 30, .load 22 none (.t 29), some (23, true), []⟩,
  ⟨some 31, .move (.t 0), some (23, true), []⟩,
  ⟨some 32, .nilck (.t 31), some (23, true), []⟩,
  ⟨some 33, .faddr 50 (.t 32) 1 1, some (23, true), []⟩,
  ⟨some 34, .load 3 none (.t 33), some (23, true), [31, 32, 33]⟩,
  ⟨some 35, .iaddr 22 (.sl 1) (.t 30) (.t 34), some (23, true), []⟩,
  ⟨some 36, .load 5 none (.t 35), some (23, true), [0, 27, 28, 29, 30, 34, 35]⟩,
  ⟨some 37, .bin .leq 5 (.t 36) (.c (Value.int IntKind.u8 57)) 5, some (23, true), [36]⟩,
  ⟨some 38, .pick (.t 26) (.t 37) (.c (Value.bool false)), none, [26, 37]⟩,
  ⟨some 2, .assign (.t 38), none, [38]⟩] (some (.cons ⟨0, []⟩ (.cons ⟨1, []⟩ (.cons ⟨2, []⟩ (.cons ⟨4, []⟩ (.cons ⟨5, []⟩ (.cons ⟨6, []⟩ (.cons ⟨3, []⟩ (.cons ⟨7, []⟩ (.cons ⟨8, []⟩ (.cons ⟨9, []⟩ (.cons ⟨10, []⟩ (.cons ⟨11, []⟩ (.cons ⟨12, []⟩ (.cons ⟨13, []⟩ (.cons ⟨15, []⟩ (.cons ⟨16, []⟩ (.cons ⟨17, []⟩ (.cons ⟨14, []⟩ (.cons ⟨18, []⟩ (.cons ⟨19, []⟩ (.cons ⟨20, []⟩ (.cons ⟨21, []⟩ (.cons ⟨22, []⟩ (.cons ⟨23, []⟩ (.cons ⟨24, []⟩ (.cons ⟨25, []⟩ (.cons ⟨26, []⟩ (.cons ⟨28, []⟩ (.cons ⟨29, []⟩ (.cons ⟨30, []⟩ (.cons ⟨27, []⟩ (.cons ⟨31, []⟩ (.cons ⟨32, []⟩ (.cons ⟨33, []⟩ (.cons ⟨34, []⟩ (.cons ⟨35, []⟩ (.cons ⟨36, []⟩ .nil)))))))))))))))))))))))))))))))))))))) [2, 100000])
 .ret))
def a_json_reader_digit : AFunc := ⟨39, [.tmp 2], b_json_reader_digit⟩

def j0_json_reader_digits : IR :=
 (.block 1 (.reg 3 [⟨some 9, .move (.t 0), none, []⟩,
  ⟨some 10, .nilck (.t 9), none, []⟩,
  ⟨some 11, .faddr 50 (.t 10) 1 1, none, []⟩,
  ⟨some 12, .load 3 none (.t 11), none, [10, 11]⟩,
  ⟨some 13, .bin .add 3 (.t 12) (.c (Value.int IntKind.i64 1)) 3, none, [12]⟩,
  ⟨some 14, .nilck (.t 9), none, []⟩,
  ⟨some 15, .faddr 50 (.t 14) 1 1, none, []⟩,
  ⟨none, .store 3 none (.t 15) (.t 13), none, [9, 13, 14, 15]⟩] none [0, 100000]))
def k0_json_reader_digits : IR := .tail [0, 100000] j0_json_reader_digits
def w0_json_reader_digits : IR :=
 (.seq (.seq (.reg 2 [⟨some 7, .move (.t 0), none, []⟩,
  ⟨some 8, .call n_json_reader_digit [(.t 7)] [48], none, [7]⟩] none [0, 8, 100000])
 (.cond [0, 100000] (.t 8) .skip (.exit 0)))
 k0_json_reader_digits)
def l0_json_reader_digits : IR := .loop [0, 100000] w0_json_reader_digits
def j1_json_reader_digits : IR :=
 (.block 0 l0_json_reader_digits)
def k1_json_reader_digits : IR := .tail [0, 100000] j1_json_reader_digits
def b_json_reader_digits : IR :=
 (.seq (.seq (.reg 0 [⟨some 2, .move (.t 0), none, []⟩,
  ⟨some 3, .call n_json_reader_digit [(.t 2)] [48], none, [2]⟩,
  ⟨some 4, .un .not 4 (.t 3), none, [3]⟩] none [0, 4, 100000])
 (.cond [0, 100000] (.t 4) (.regp 1 [⟨some 5, .move (.t 0), none, []⟩,
  ⟨some 6, .call n_json_reader_fail [(.t 5)] [48], none, [5, 6]⟩] none [0, 100000]) .skip))
 k1_json_reader_digits)
def a_json_reader_digits : AFunc := ⟨16, [], b_json_reader_digits⟩

def j0_json_reader_number : IR :=
 (.seq (.reg 5 [⟨some 13, .move (.t 0), none, []⟩,
  ⟨some 14, .call n_json_reader_takes [(.t 13), (.c (Value.string { data := #[101, 69] }))] [48, 9], none, [13]⟩] none [0, 14, 100000])
 (.cond [0, 100000] (.t 14) (.seq (.reg 6 [⟨some 15, .move (.t 0), none, []⟩,
  ⟨some 16, .call n_json_reader_takes [(.t 15), (.c (Value.string { data := #[43, 45] }))] [48, 9], none, [15, 16]⟩] none [0, 100000])
 (.regp 7 [⟨some 17, .move (.t 0), none, []⟩,
  ⟨some 18, .call n_json_reader_digits [(.t 17)] [48], none, [0, 17, 18]⟩] none [100000])) .skip))
def k0_json_reader_number : IR := .tail [0, 100000] j0_json_reader_number
def j1_json_reader_number : IR :=
 (.seq (.seq (.reg 3 [⟨some 9, .move (.t 0), none, []⟩,
  ⟨some 10, .call n_json_reader_takes [(.t 9), (.c (Value.string { data := #[46] }))] [48, 9], none, [9]⟩] none [0, 10, 100000])
 (.cond [0, 100000] (.t 10) (.regp 4 [⟨some 11, .move (.t 0), none, []⟩,
  ⟨some 12, .call n_json_reader_digits [(.t 11)] [48], none, [11, 12]⟩] none [0, 100000]) .skip))
 k0_json_reader_number)
def k1_json_reader_number : IR := .tail [0, 100000] j1_json_reader_number
def b_json_reader_number : IR :=
 (.seq (.reg 0 [⟨some 2, .move (.t 0), none, []⟩,
  ⟨some 3, .call n_json_reader_takes [(.t 2), (.c (Value.string { data := #[45] }))] [48, 9], none, [2, 3]⟩] none [0, 100000])
 (.seq (.seq (.reg 1 [⟨some 4, .move (.t 0), none, []⟩,
  ⟨some 5, .call n_json_reader_takes [(.t 4), (.c (Value.string { data := #[48] }))] [48, 9], none, [4]⟩,
  ⟨some 6, .un .not 4 (.t 5), none, [5]⟩] none [0, 6, 100000])
 (.cond [0, 100000] (.t 6) (.regp 2 [⟨some 7, .move (.t 0), none, []⟩,
  ⟨some 8, .call n_json_reader_digits [(.t 7)] [48], none, [7, 8]⟩] none [0, 100000]) .skip))
 k1_json_reader_number))
def a_json_reader_number : AFunc := ⟨19, [], b_json_reader_number⟩

def j0_json_reader_value : IR :=
 (.seq (.regp 19 [⟨some 61, .move (.t 0), none, []⟩,
  ⟨some 62, .move (.t 1), none, [1]⟩,
  ⟨some 63, .bin .add 3 (.t 62) (.c (Value.int IntKind.i64 1)) 3, none, [62]⟩,
  ⟨some 64, .call n_json_reader_object [(.t 61), (.t 63)] [48, 3], none, [0, 61, 63]⟩,
  ⟨none, .store 27 (some 4) (.t 4) (.t 64), none, [64]⟩] none [4, 100000])
 .ret)
def k0_json_reader_value : IR := .tail [0, 1, 4, 100000] j0_json_reader_value
def j1_json_reader_value : IR :=
 (.seq (.reg 16 [⟨some 48, .move (.t 0), none, []⟩,
  ⟨some 49, .nilck (.t 48), none, []⟩,
  ⟨some 50, .faddr 50 (.t 49) 1 1, none, []⟩,
  ⟨some 51, .load 3 none (.t 50), none, [49, 50]⟩,
  ⟨some 52, .bin .add 3 (.t 51) (.c (Value.int IntKind.i64 1)) 3, none, [51]⟩,
  ⟨some 53, .nilck (.t 48), none, []⟩,
  ⟨some 54, .faddr 50 (.t 53) 1 1, none, []⟩,
  ⟨none, .store 3 none (.t 54) (.t 52), none, [48, 52, 53, 54]⟩] none [0, 1, 4, 5, 100000])
 (.seq (.seq (.reg 17 [⟨some 55, .move (.t 5), none, [5]⟩,
  ⟨some 56, .bin .eql 5 (.t 55) (.c (Value.int IntKind.u8 91)) 5, none, [55]⟩] none [0, 1, 4, 56, 100000])
 (.cond [0, 1, 4, 100000] (.t 56) (.seq (.regp 18 [⟨some 57, .move (.t 0), none, []⟩,
  ⟨some 58, .move (.t 1), none, [1]⟩,
  ⟨some 59, .bin .add 3 (.t 58) (.c (Value.int IntKind.i64 1)) 3, none, [58]⟩,
  ⟨some 60, .call n_json_reader_list [(.t 57), (.t 59)] [48, 3], none, [0, 57, 59]⟩,
  ⟨none, .store 27 (some 4) (.t 4) (.t 60), none, [60]⟩] none [4, 100000])
 .ret) .skip))
 k0_json_reader_value))
def k1_json_reader_value : IR := .tail [0, 1, 4, 5, 100000] j1_json_reader_value
def j2_json_reader_value : IR :=
 (.seq (.regp 24 [⟨some 94, .move (.t 0), none, []⟩,
  ⟨some 95, .call n_json_reader_fail [(.t 94)] [48], none, [0, 94, 95]⟩] none [4, 100000])
 (.seq (.reg 25 [⟨some 96, .build 27 [(0, 1), (1, 1), (2, 1), (3, 1)] [.v (.int .u8 0), .v (.string ⟨#[]⟩), .nil 1, .nil 4] [], none, []⟩,
  ⟨none, .store 27 (some 4) (.t 4) (.t 96), none, [96]⟩] none [4, 100000])
 .ret))
def k2_json_reader_value : IR := .tail [0, 4, 100000] j2_json_reader_value
def b_json_reader_value : IR :=
 (.seq (.reg 0 [⟨some 4, .alloc 27 [.v (.int .u8 0), .v (.string ⟨#[]⟩), .nil 1, .nil 4], none, []⟩] none [0, 1, 4, 100000])
 (.seq (.seq (.regp 1 [⟨some 7, .move (.t 0), none, []⟩,
  ⟨some 8, .call n_json_reader_byte [(.t 7)] [48], none, [7]⟩,
  ⟨some 5, .assign (.t 8), none, [8]⟩] none [0, 1, 4, 5, 100000])
 (.block 0 (.seq (.reg 2 [⟨some 10, .move (.t 5), none, []⟩,
  ⟨some 11, .bin .eql 5 (.t 10) (.c (Value.int IntKind.u8 110)) 5, none, [10]⟩,
  ⟨some 9, .assign (.t 11), none, [11]⟩] none [0, 1, 4, 5, 9, 100000])
 (.cond [0, 1, 4, 5, 100000] (.t 9) (.seq (.regp 3 [⟨some 12, .move (.t 0), none, []⟩,
  ⟨some 13, .call n_json_reader_want [(.t 12), (.c (Value.string { data := #[110, 117, 108, 108] }))] [48, 9], none, [0, 12, 13]⟩] none [4, 100000])
 (.seq (.reg 4 [⟨some 14, .build 27 [(0, 1), (1, 1), (2, 1), (3, 1)] [.v (.int .u8 0), .v (.string ⟨#[]⟩), .nil 1, .nil 4] [(0, (.c (Value.int IntKind.u8 1)))], none, []⟩,
  ⟨none, .store 27 (some 4) (.t 4) (.t 14), none, [14]⟩] none [4, 100000])
 .ret)) (.seq (.reg 5 [⟨some 16, .move (.t 5), none, []⟩,
  ⟨some 17, .bin .eql 5 (.t 16) (.c (Value.int IntKind.u8 102)) 5, none, [16]⟩,
  ⟨some 15, .assign (.t 17), none, [17]⟩] none [0, 1, 4, 5, 15, 100000])
 (.cond [0, 1, 4, 5, 100000] (.t 15) (.seq (.regp 6 [⟨some 18, .move (.t 0), none, []⟩,
  ⟨some 19, .call n_json_reader_want [(.t 18), (.c (Value.string { data := #[102, 97, 108, 115, 101] }))] [48, 9], none, [0, 18, 19]⟩] none [4, 100000])
 (.seq (.reg 7 [⟨some 20, .build 27 [(0, 1), (1, 1), (2, 1), (3, 1)] [.v (.int .u8 0), .v (.string ⟨#[]⟩), .nil 1, .nil 4] [(0, (.c (Value.int IntKind.u8 2)))], none, []⟩,
  ⟨none, .store 27 (some 4) (.t 4) (.t 20), none, [20]⟩] none [4, 100000])
 .ret)) (.seq (.reg 8 [⟨some 22, .move (.t 5), none, []⟩,
  ⟨some 23, .bin .eql 5 (.t 22) (.c (Value.int IntKind.u8 116)) 5, none, [22]⟩,
  ⟨some 21, .assign (.t 23), none, [23]⟩] none [0, 1, 4, 5, 21, 100000])
 (.cond [0, 1, 4, 5, 100000] (.t 21) (.seq (.regp 9 [⟨some 24, .move (.t 0), none, []⟩,
  ⟨some 25, .call n_json_reader_want [(.t 24), (.c (Value.string { data := #[116, 114, 117, 101] }))] [48, 9], none, [0, 24, 25]⟩] none [4, 100000])
 (.seq (.reg 10 [⟨some 26, .build 27 [(0, 1), (1, 1), (2, 1), (3, 1)] [.v (.int .u8 0), .v (.string ⟨#[]⟩), .nil 1, .nil 4] [(0, (.c (Value.int IntKind.u8 3)))], none, []⟩,
  ⟨none, .store 27 (some 4) (.t 4) (.t 26), none, [26]⟩] none [4, 100000])
 .ret)) (.seq (.reg 11 [⟨some 28, .move (.t 5), none, []⟩,
  ⟨some 29, .bin .eql 5 (.t 28) (.c (Value.int IntKind.u8 34)) 5, none, [28]⟩,
  ⟨some 27, .assign (.t 29), none, [29]⟩] none [0, 1, 4, 5, 27, 100000])
 (.cond [0, 1, 4, 5, 100000] (.t 27) (.seq (.regp 12 [⟨some 30, .move (.t 0), none, []⟩,
  ⟨some 31, .call n_json_reader_text [(.t 30)] [48], none, [0, 30]⟩,
  ⟨some 32, .build 27 [(0, 1), (1, 1), (2, 1), (3, 1)] [.v (.int .u8 0), .v (.string ⟨#[]⟩), .nil 1, .nil 4] [(0, (.c (Value.int IntKind.u8 5))), (1, (.t 31))], none, []⟩,
  ⟨none, .store 27 (some 4) (.t 4) (.t 32), none, [31, 32]⟩] none [4, 100000])
 .ret) (.seq (.reg 13 [⟨some 34, .move (.t 5), none, []⟩,
  ⟨some 35, .bin .eql 5 (.t 34) (.c (Value.int IntKind.u8 91)) 5, none, [34]⟩,
  ⟨some 36, .move (.t 35), none, [35]⟩,
  ⟨some 37, .move (.t 5), some (2, false), []⟩,
  ⟨some 38, .bin .eql 5 (.t 37) (.c (Value.int IntKind.u8 123)) 5, some (2, false), [37]⟩,
  ⟨some 39, .pick (.t 36) (.c (Value.bool true)) (.t 38), none, [36, 38]⟩,
  ⟨some 33, .assign (.t 39), none, [39]⟩] none [0, 1, 4, 5, 33, 100000])
 (.cond [0, 1, 4, 5, 100000] (.t 33) (.seq (.seq (.reg 14 [⟨some 40, .move (.t 1), none, []⟩,
  ⟨some 41, .bin .eql 3 (.t 40) (.c (Value.int IntKind.i64 256)) 3, none, [40]⟩] none [0, 1, 4, 5, 41, 100000])
 (.cond [0, 1, 4, 5, 100000] (.t 41) (.regp 15 [⟨some 42, .move (.t 0), none, []⟩,
  ⟨some 43, .nilck (.t 42), none, []⟩,
  ⟨some 44, .faddr 50 (.t 43) 1 1, none, []⟩,
  ⟨some 45, .load 3 none (.t 44), none, [42, 43, 44]⟩,
  ⟨some 46, .build 46 [(0, 1), (1, 1)] [.v (.int .i64 0), .v (.int .i64 0)] [(0, (.c (Value.int IntKind.i64 101))), (1, (.t 45))], none, [45]⟩,
  ⟨some 47, .mkiface 46 (.t 46), none, [46]⟩,
  ⟨none, .throw (.t 47), none, [47]⟩] none [0, 1, 4, 5, 100000]) .skip))
 k1_json_reader_value) (.seq (.reg 20 [⟨some 66, .move (.t 5), none, []⟩,
  ⟨some 67, .bin .eql 5 (.t 66) (.c (Value.int IntKind.u8 45)) 5, none, [66]⟩,
  ⟨some 68, .move (.t 67), none, [67]⟩,
  ⟨some 69, .move (.t 5), some (2, false), []⟩,
  ⟨some 70, .bin .geq 5 (.t 69) (.c (Value.int IntKind.u8 48)) 5, some (2, false), [69]⟩,
  ⟨some 71, .move (.t 70), some (2, false), [70]⟩,
  ⟨some 72, .move (.t 5), some (5, true), [5]⟩,
  ⟨some 73, .bin .leq 5 (.t 72) (.c (Value.int IntKind.u8 57)) 5, some (5, true), [72]⟩,
  ⟨some 74, .pick (.t 71) (.t 73) (.c (Value.bool false)), some (2, false), [71, 73]⟩,
  ⟨some 75, .pick (.t 68) (.c (Value.bool true)) (.t 74), none, [68, 74]⟩,
  ⟨some 65, .assign (.t 75), none, [75]⟩] none [0, 4, 65, 100000])
 (.cond [0, 4, 100000] (.t 65) (.seq (.reg 21 [⟨some 76, .move (.t 0), none, []⟩,
  ⟨some 77, .nilck (.t 76), none, []⟩,
  ⟨some 78, .faddr 50 (.t 77) 1 1, none, []⟩,
  ⟨some 79, .load 3 none (.t 78), none, [76, 77, 78]⟩,
  ⟨some 6, .assign (.t 79), none, [79]⟩] none [0, 4, 6, 100000])
 (.seq (.regp 22 [⟨some 80, .move (.t 0), none, []⟩,
  ⟨some 81, .call n_json_reader_number [(.t 80)] [48], none, [80, 81]⟩] none [0, 4, 6, 100000])
 (.seq (.reg 23 [⟨some 82, .move (.t 0), none, []⟩,
  ⟨some 83, .nilck (.t 82), none, []⟩,
  ⟨some 84, .faddr 50 (.t 83) 0 0, none, []⟩,
  ⟨some 85, .load 22 none (.t 84), none, []⟩,
  ⟨some 86, .move (.t 6), none, [6]⟩,
  ⟨some 87, .move (.t 0), none, []⟩,
  ⟨some 88, .nilck (.t 87), none, []⟩,
  ⟨some 89, .faddr 50 (.t 88) 1 1, none, []⟩,
  ⟨some 90, .load 3 none (.t 89), none, [87, 88, 89]⟩,
  ⟨some 91, .slice 22 (.sl 1) (.t 85) (some (.t 86)) (some (.t 90)) none, none, []⟩,
  ⟨some 92, .conv 22 9 .bytes (.t 91), none, [0, 82, 83, 84, 85, 86, 90, 91]⟩,
  ⟨some 93, .build 27 [(0, 1), (1, 1), (2, 1), (3, 1)] [.v (.int .u8 0), .v (.string ⟨#[]⟩), .nil 1, .nil 4] [(0, (.c (Value.int IntKind.u8 4))), (1, (.t 92))], none, []⟩,
  ⟨none, .store 27 (some 4) (.t 4) (.t 93), none, [92, 93]⟩] (some (.cons ⟨0, []⟩ (.cons ⟨1, []⟩ (.cons ⟨2, []⟩ (.cons ⟨4, []⟩ (.cons ⟨5, []⟩ (.cons ⟨6, []⟩ (.cons ⟨7, []⟩ (.cons ⟨3, []⟩ (.cons ⟨8, []⟩ (.cons ⟨9, []⟩ (.cons ⟨10, []⟩ (.cons ⟨11, []⟩ (.cons ⟨12, []⟩ .nil)))))))))))))) [4, 100000])
 .ret))) .skip))))))))))))))
 k2_json_reader_value))
def a_json_reader_value : AFunc := ⟨97, [.cell 4 27 (some 4)], b_json_reader_value⟩

def j0_json_Parse : IR :=
 (.seq (.reg 10 [⟨some 29, .load 27 (some 4) (.t 2), none, []⟩,
  ⟨none, .store 27 (some 4) (.t 2) (.t 29), none, [29]⟩,
  ⟨none, .store 28 none (.t 3) (.c (Value.int IntKind.i64 0)), none, []⟩,
  ⟨none, .store 3 none (.t 4) (.c (Value.int IntKind.i64 0)), none, []⟩] none [2, 3, 4, 200000, 200001, 200002])
 .ret)
def k0_json_Parse : IR := .tail [2, 3, 4, 200000, 200001, 200002] j0_json_Parse
def j1_json_Parse : IR :=
 (.seq (.reg 4 [⟨some 11, .move (.t 0), none, []⟩,
  ⟨some 12, .build 50 [(0, 1), (1, 1)] [.nil 1, .v (.int .i64 0)] [(0, (.t 11))], none, []⟩,
  ⟨some 13, .box 50 (.t 12), none, [11, 12]⟩,
  ⟨some 5, .assign (.t 13), none, []⟩] none [0, 2, 3, 4, 5, 13, 200000, 200001, 200002])
 (.seq (.reg 5 [⟨some 14, .move (.t 5), none, []⟩,
  ⟨some 15, .call n_json_reader_blanks [(.t 14)] [48], none, [14, 15]⟩] none [0, 2, 3, 4, 5, 13, 200000, 200001, 200002])
 (.seq (.regp 6 [⟨some 16, .move (.t 5), none, []⟩,
  ⟨some 17, .call n_json_reader_value [(.t 16), (.c (Value.int IntKind.i64 0))] [48, 3], none, [16]⟩,
  ⟨none, .store 27 (some 4) (.t 2) (.t 17), none, [17]⟩] none [0, 2, 3, 4, 5, 13, 200000, 200001, 200002])
 (.seq (.reg 7 [⟨some 18, .move (.t 5), none, []⟩,
  ⟨some 19, .call n_json_reader_blanks [(.t 18)] [48], none, [18, 19]⟩] none [0, 2, 3, 4, 5, 13, 200000, 200001, 200002])
 (.seq (.seq (.reg 8 [⟨some 20, .move (.t 5), none, []⟩,
  ⟨some 21, .nilck (.t 20), none, []⟩,
  ⟨some 22, .faddr 50 (.t 21) 1 1, none, []⟩,
  ⟨some 23, .load 3 none (.t 22), none, [20, 21, 22]⟩,
  ⟨some 24, .move (.t 0), none, []⟩,
  ⟨some 25, .len 22 false (.t 24), none, [0, 24]⟩,
  ⟨some 26, .bin .lss 3 (.t 23) (.t 25) 3, none, [23, 25]⟩] none [2, 3, 4, 5, 13, 26, 200000, 200001, 200002])
 (.cond [2, 3, 4, 5, 13, 200000, 200001, 200002] (.t 26) (.regp 9 [⟨some 27, .move (.t 5), none, []⟩,
  ⟨some 28, .call n_json_reader_fail [(.t 27)] [48], none, [5, 13, 27, 28]⟩] none [2, 3, 4, 200000, 200001, 200002]) .skip))
 k0_json_Parse)))))
def hnd_json_Parse : Value → Option (List (List PV)) := fun x => match x with
  | .iface 46 (.agg vs) => match vs.toList with
    | [.int .i64 a, .int .i64 b] => some [[.v (.int .u8 0), .v (.string ⟨#[]⟩), .nil 1, .nil 4], [.v (.int .i64 a)], [.v (.int .i64 b)]]
    | _ => none
  | _ => none
def j2_json_Parse : IR :=
 (.gd 3 10 n_json_Parse_1 [2, 3, 4] hnd_json_Parse j1_json_Parse)
def k2_json_Parse : IR := .tail [0, 2, 3, 4, 200000, 200001, 200002] j2_json_Parse
def b_json_Parse : IR :=
 (.seq (.reg 0 [⟨some 2, .alloc 27 [.v (.int .u8 0), .v (.string ⟨#[]⟩), .nil 1, .nil 4], none, []⟩,
  ⟨some 3, .alloc 28 [.v (.int .i64 0)], none, []⟩,
  ⟨some 4, .alloc 3 [.v (.int .i64 0)], none, []⟩] none [0, 2, 3, 4])
 (.seq (.seq (.reg 1 [⟨some 6, .move (.t 0), none, []⟩,
  ⟨some 7, .len 22 false (.t 6), none, [6]⟩,
  ⟨some 8, .bin .gtr 3 (.t 7) (.c (Value.int IntKind.i64 16777216)) 3, none, [7]⟩] none [0, 2, 3, 4, 8])
 (.cond [0, 2, 3, 4] (.t 8) (.seq (.reg 2 [⟨some 9, .build 27 [(0, 1), (1, 1), (2, 1), (3, 1)] [.v (.int .u8 0), .v (.string ⟨#[]⟩), .nil 1, .nil 4] [], none, []⟩,
  ⟨none, .store 27 (some 4) (.t 2) (.t 9), none, [9]⟩,
  ⟨none, .store 28 none (.t 3) (.c (Value.int IntKind.i64 4)), none, []⟩,
  ⟨none, .store 3 none (.t 4) (.c (Value.int IntKind.i64 0)), none, []⟩] none [2, 3, 4])
 .ret) .skip))
 k2_json_Parse))
def a_json_Parse : AFunc := ⟨30, [.cell 2 27 (some 4), .cell 3 28 none, .cell 4 3 none], b_json_Parse⟩

def j0_thicketref10_Same : IR :=
 (.reg 5 [⟨some 42, .move (.t 5), none, []⟩,
  ⟨some 43, .bin .add 3 (.t 42) (.c (Value.int IntKind.i64 1)) 3, none, [42]⟩,
  ⟨some 5, .assign (.t 43), none, [43]⟩] none [2, 3, 5])
def k0_thicketref10_Same : IR := .tail [2, 3, 5] j0_thicketref10_Same
def j1_thicketref10_Same : IR :=
 (.seq (.block 1 (.seq (.reg 6 [⟨some 44, .faddr 27 (.t 2) 2 2, none, []⟩,
  ⟨some 45, .load 24 none (.t 44), none, []⟩,
  ⟨some 46, .move (.t 5), none, []⟩,
  ⟨some 47, .iaddr 24 (.sl 1) (.t 45) (.t 46), none, []⟩,
  ⟨some 48, .load 9 none (.t 47), none, [44, 45, 46, 47]⟩,
  ⟨some 49, .faddr 27 (.t 3) 2 2, none, []⟩,
  ⟨some 50, .load 24 none (.t 49), none, []⟩,
  ⟨some 51, .move (.t 5), none, []⟩,
  ⟨some 52, .iaddr 24 (.sl 1) (.t 50) (.t 51), none, []⟩,
  ⟨some 53, .load 9 none (.t 52), none, [49, 50, 51, 52]⟩,
  ⟨some 54, .bin .neq 9 (.t 48) (.t 53) 9, none, [48, 53]⟩] (some (.cons ⟨0, []⟩ (.cons ⟨2, []⟩ (.cons ⟨5, []⟩ (.cons ⟨7, []⟩ (.cons ⟨1, []⟩ (.cons ⟨3, []⟩ (.cons ⟨4, []⟩ (.cons ⟨6, []⟩ (.cons ⟨8, []⟩ (.cons ⟨9, []⟩ (.cons ⟨10, []⟩ .nil)))))))))))) [2, 3, 5, 54])
 (.cond [2, 3, 5] (.t 54) (.seq (.reg 7 [⟨some 4, .assign (.c (Value.bool false)), none, []⟩] none [4])
 .ret) .skip)))
 k0_thicketref10_Same)
def k1_thicketref10_Same : IR := .tail [2, 3, 5] j1_thicketref10_Same
def w0_thicketref10_Same : IR :=
 (.seq (.seq (.reg 4 [⟨some 37, .move (.t 5), none, []⟩,
  ⟨some 38, .faddr 27 (.t 2) 2 2, none, []⟩,
  ⟨some 39, .load 24 none (.t 38), none, []⟩,
  ⟨some 40, .len 24 false (.t 39), none, [38, 39]⟩,
  ⟨some 41, .bin .lss 3 (.t 37) (.t 40) 3, none, [37, 40]⟩] none [2, 3, 5, 41])
 (.cond [2, 3, 5] (.t 41) .skip (.exit 0)))
 k1_thicketref10_Same)
def l0_thicketref10_Same : IR := .loop [2, 3, 5] w0_thicketref10_Same
def j2_thicketref10_Same : IR :=
 (.reg 10 [⟨some 60, .move (.t 6), none, []⟩,
  ⟨some 61, .bin .add 3 (.t 60) (.c (Value.int IntKind.i64 1)) 3, none, [60]⟩,
  ⟨some 6, .assign (.t 61), none, [61]⟩] none [2, 3, 6])
def k2_thicketref10_Same : IR := .tail [2, 3, 6] j2_thicketref10_Same
def j3_thicketref10_Same : IR :=
 (.seq (.block 3 (.seq (.reg 11 [⟨some 62, .faddr 27 (.t 2) 3 3, none, []⟩,
  ⟨some 63, .load 25 none (.t 62), none, []⟩,
  ⟨some 64, .move (.t 6), none, []⟩,
  ⟨some 65, .iaddr 25 (.sl 4) (.t 63) (.t 64), none, []⟩,
  ⟨some 66, .load 27 (some 4) (.t 65), none, []⟩,
  ⟨some 67, .faddr 27 (.t 3) 3 3, none, []⟩,
  ⟨some 68, .load 25 none (.t 67), none, []⟩,
  ⟨some 69, .move (.t 6), none, []⟩,
  ⟨some 70, .iaddr 25 (.sl 4) (.t 68) (.t 69), none, []⟩,
  ⟨some 71, .load 27 (some 4) (.t 70), none, []⟩,
  ⟨some 72, .call n_thicketref10_Same [(.t 66), (.t 71)] [27, 27], none, [62, 63, 64, 65, 66, 67, 68, 69, 70, 71]⟩,
  ⟨some 73, .un .not 4 (.t 72), none, [72]⟩] (some (.cons ⟨0, []⟩ (.cons ⟨2, []⟩ (.cons ⟨5, []⟩ (.cons ⟨7, []⟩ (.cons ⟨1, []⟩ (.cons ⟨3, []⟩ (.cons ⟨4, []⟩ (.cons ⟨6, []⟩ (.cons ⟨8, []⟩ (.cons ⟨9, []⟩ (.cons ⟨10, []⟩ (.cons ⟨11, []⟩ .nil))))))))))))) [2, 3, 6, 73])
 (.cond [2, 3, 6] (.t 73) (.seq (.reg 12 [⟨some 4, .assign (.c (Value.bool false)), none, []⟩] none [4])
 .ret) .skip)))
 k2_thicketref10_Same)
def k3_thicketref10_Same : IR := .tail [2, 3, 6] j3_thicketref10_Same
def w1_thicketref10_Same : IR :=
 (.seq (.seq (.reg 9 [⟨some 55, .move (.t 6), none, []⟩,
  ⟨some 56, .faddr 27 (.t 2) 3 3, none, []⟩,
  ⟨some 57, .load 25 none (.t 56), none, []⟩,
  ⟨some 58, .len 25 false (.t 57), none, [56, 57]⟩,
  ⟨some 59, .bin .lss 3 (.t 55) (.t 58) 3, none, [55, 58]⟩] none [2, 3, 6, 59])
 (.cond [2, 3, 6] (.t 59) .skip (.exit 2)))
 k3_thicketref10_Same)
def l1_thicketref10_Same : IR := .loop [2, 3, 6] w1_thicketref10_Same
def j4_thicketref10_Same : IR :=
 (.seq (.reg 13 [⟨some 4, .assign (.c (Value.bool true)), none, []⟩] none [4])
 .ret)
def k4_thicketref10_Same : IR := .tail [] j4_thicketref10_Same
def j5_thicketref10_Same : IR :=
 (.seq (.seq (.reg 8 [⟨some 6, .assign (.c (Value.int IntKind.i64 0)), none, []⟩] none [2, 3, 6])
 (.block 2 l1_thicketref10_Same))
 k4_thicketref10_Same)
def k5_thicketref10_Same : IR := .tail [2, 3] j5_thicketref10_Same
def j6_thicketref10_Same : IR :=
 (.seq (.seq (.reg 3 [⟨some 5, .assign (.c (Value.int IntKind.i64 0)), none, []⟩] none [2, 3, 5])
 (.block 0 l0_thicketref10_Same))
 k5_thicketref10_Same)
def k6_thicketref10_Same : IR := .tail [2, 3] j6_thicketref10_Same
def b_thicketref10_Same : IR :=
 (.seq (.reg 0 [⟨some 2, .box 27 (.t 0), none, [0]⟩,
  ⟨some 3, .box 27 (.t 1), none, [1]⟩,
  ⟨some 4, .assign (.c (Value.bool false)), none, [4]⟩] none [2, 3])
 (.seq (.seq (.reg 1 [⟨some 7, .faddr 27 (.t 2) 0 0, none, []⟩,
  ⟨some 8, .load 23 none (.t 7), none, [7]⟩,
  ⟨some 9, .faddr 27 (.t 3) 0 0, none, []⟩,
  ⟨some 10, .load 23 none (.t 9), none, [9]⟩,
  ⟨some 11, .bin .neq 23 (.t 8) (.t 10) 23, none, [8, 10]⟩,
  ⟨some 12, .move (.t 11), none, [11]⟩,
  ⟨some 13, .faddr 27 (.t 2) 1 1, some (5, false), []⟩,
  ⟨some 14, .load 9 none (.t 13), some (5, false), [13]⟩,
  ⟨some 15, .faddr 27 (.t 3) 1 1, some (5, false), []⟩,
  ⟨some 16, .load 9 none (.t 15), some (5, false), [15]⟩,
  ⟨some 17, .bin .neq 9 (.t 14) (.t 16) 9, some (5, false), [14, 16]⟩,
  ⟨some 18, .pick (.t 12) (.c (Value.bool true)) (.t 17), none, [12, 17]⟩,
  ⟨some 19, .move (.t 18), none, [18]⟩,
  ⟨some 20, .faddr 27 (.t 2) 2 2, some (12, false), []⟩,
  ⟨some 21, .load 24 none (.t 20), some (12, false), []⟩,
  ⟨some 22, .len 24 false (.t 21), some (12, false), [20, 21]⟩,
  ⟨some 23, .faddr 27 (.t 3) 2 2, some (12, false), []⟩,
  ⟨some 24, .load 24 none (.t 23), some (12, false), []⟩,
  ⟨some 25, .len 24 false (.t 24), some (12, false), [23, 24]⟩,
  ⟨some 26, .bin .neq 3 (.t 22) (.t 25) 3, some (12, false), [22, 25]⟩,
  ⟨some 27, .pick (.t 19) (.c (Value.bool true)) (.t 26), none, [19, 26]⟩,
  ⟨some 28, .move (.t 27), none, [27]⟩,
  ⟨some 29, .faddr 27 (.t 2) 3 3, some (21, false), []⟩,
  ⟨some 30, .load 25 none (.t 29), some (21, false), []⟩,
  ⟨some 31, .len 25 false (.t 30), some (21, false), [29, 30]⟩,
  ⟨some 32, .faddr 27 (.t 3) 3 3, some (21, false), []⟩,
  ⟨some 33, .load 25 none (.t 32), some (21, false), []⟩,
  ⟨some 34, .len 25 false (.t 33), some (21, false), [32, 33]⟩,
  ⟨some 35, .bin .neq 3 (.t 31) (.t 34) 3, some (21, false), [31, 34]⟩,
  ⟨some 36, .pick (.t 28) (.c (Value.bool true)) (.t 35), none, [28, 35]⟩] none [2, 3, 36])
 (.cond [2, 3] (.t 36) (.seq (.reg 2 [⟨some 4, .assign (.c (Value.bool false)), none, []⟩] none [4])
 .ret) .skip))
 k6_thicketref10_Same))
def a_thicketref10_Same : AFunc := ⟨74, [.tmp 4], b_thicketref10_Same⟩

def j0_json_twin : IR :=
 (.reg 8 [⟨some 22, .bin .add 3 (.t 10) (.c (Value.int IntKind.i64 1)) 3, none, []⟩,
  ⟨some 10, .move (.t 22), none, [22]⟩] none [1, 3, 6, 7, 8, 9, 10])
def k0_json_twin : IR := .tail [1, 3, 6, 7, 8, 9, 10] j0_json_twin
def j1_json_twin : IR :=
 (.seq (.block 1 (.seq (.reg 4 [⟨some 12, .iaddr 24 (.sl 1) (.t 8) (.t 10), none, []⟩,
  ⟨some 13, .load 9 none (.t 12), none, [12]⟩,
  ⟨some 5, .assign (.t 13), none, [13]⟩] none [1, 3, 5, 6, 7, 8, 9, 10])
 (.seq (.reg 5 [⟨some 14, .move (.t 3), none, []⟩,
  ⟨some 15, .move (.t 5), none, []⟩,
  ⟨some 16, .mlook 68 none (.int .i64 0) (.t 14) (.t 15), none, []⟩,
  ⟨some 17, .bin .add 3 (.t 16) (.c (Value.int IntKind.i64 1)) 3, none, [16]⟩,
  ⟨none, .mput false 68 none (.t 14) (.t 15) (.t 17), none, [14, 15, 17]⟩] none [1, 3, 5, 6, 7, 8, 9, 10])
 (.seq (.reg 6 [⟨some 18, .move (.t 3), none, []⟩,
  ⟨some 19, .move (.t 5), none, [5]⟩,
  ⟨some 20, .mlook 68 none (.int .i64 0) (.t 18) (.t 19), none, [18, 19]⟩,
  ⟨some 21, .bin .gtr 3 (.t 20) (.c (Value.int IntKind.i64 1)) 3, none, [20]⟩] none [1, 3, 6, 7, 8, 9, 10, 21])
 (.cond [1, 3, 6, 7, 8, 9, 10] (.t 21) (.seq (.reg 7 [⟨some 2, .assign (.c (Value.bool true)), none, []⟩] none [2])
 .ret) .skip)))))
 k0_json_twin)
def k1_json_twin : IR := .tail [1, 3, 6, 7, 8, 9, 10] j1_json_twin
def w0_json_twin : IR :=
 (.seq (.reg 3 [⟨some 11, .bin .lss 3 (.t 10) (.t 9) 3, none, []⟩] none [1, 3, 6, 7, 8, 9, 10, 11])
 (.seq (.cond [1, 3, 6, 7, 8, 9, 10] (.t 11) .skip (.exit 0))
 k1_json_twin))
def l0_json_twin : IR := .loop [1, 3, 6, 7, 8, 9, 10] w0_json_twin
def j2_json_twin : IR :=
 (.seq (.reg 9 [⟨some 23, .faddr 27 (.t 1) 3 3, none, []⟩,
  ⟨some 24, .load 25 none (.t 23), none, []⟩,
  ⟨some 25, .call n_api_Json [(.t 24), (.f n_json_twin)] [25, 37], none, [1, 23, 24]⟩,
  ⟨some 2, .assign (.t 25), none, [25]⟩] none [2])
 .ret)
def k2_json_twin : IR := .tail [1] j2_json_twin
def b_json_twin : IR :=
 (.seq (.reg 0 [⟨some 1, .box 27 (.t 0), none, [0]⟩,
  ⟨some 2, .assign (.c (Value.bool false)), none, [2]⟩] none [1])
 (.seq (.reg 1 [⟨some 6, .mkmap 68, none, []⟩,
  ⟨some 3, .assign (.t 6), none, []⟩] none [1, 3, 6])
 (.seq (.seq (.reg 2 [⟨some 7, .faddr 27 (.t 1) 2 2, none, []⟩,
  ⟨some 8, .load 24 none (.t 7), none, []⟩,
  ⟨some 9, .len 24 false (.t 8), none, []⟩,
  ⟨some 10, .move (.c (Value.int IntKind.i64 0)), none, []⟩] none [1, 3, 6, 7, 8, 9, 10])
 (.block 0 l0_json_twin))
 k2_json_twin)))
def a_json_twin : AFunc := ⟨26, [.tmp 2], b_json_twin⟩

def b_json_deep_1 : IR :=
 (.seq (.reg 0 [⟨some 2, .box 27 (.t 0), none, [0]⟩,
  ⟨some 3, .assign (.c (Value.bool false)), none, [3]⟩] none [1, 2])
 (.seq (.reg 1 [⟨some 4, .load 27 (some 4) (.t 2), none, []⟩,
  ⟨some 5, .load 3 none (.t 1), none, [1]⟩,
  ⟨some 6, .call n_json_deep [(.t 4), (.t 5)] [27, 3], none, [2, 4, 5]⟩,
  ⟨some 3, .assign (.t 6), none, [6]⟩] none [3])
 .ret))
def a_json_deep_1 : AFunc := ⟨7, [.tmp 3], b_json_deep_1⟩

def j0_api_Json_66 : IR :=
 (.reg 6 [⟨some 18, .bin .add 3 (.t 8) (.c (Value.int IntKind.i64 1)) 3, none, []⟩,
  ⟨some 8, .move (.t 18), none, [18]⟩] none [0, 1, 7, 8])
def k0_api_Json_66 : IR := .tail [0, 1, 7, 8] j0_api_Json_66
def j1_api_Json_66 : IR :=
 (.seq (.block 1 (.seq (.reg 3 [⟨some 10, .move (.t 8), none, []⟩,
  ⟨some 5, .assign (.t 10), none, [10]⟩] none [0, 1, 5, 7, 8])
 (.seq (.reg 4 [⟨some 11, .move (.t 1), none, []⟩,
  ⟨some 12, .move (.t 0), none, []⟩,
  ⟨some 13, .move (.t 5), none, []⟩,
  ⟨some 14, .iaddr 25 (.sl 4) (.t 12) (.t 13), none, []⟩,
  ⟨some 15, .load 27 (some 4) (.t 14), none, []⟩,
  ⟨some 16, .callv [n_json_twin, n_json_deep_1] (.t 11) [(.t 15)] [27], none, [11, 12, 13, 14, 15]⟩] none [0, 1, 5, 7, 8, 16])
 (.cond [0, 1, 5, 7, 8] (.t 16) (.seq (.reg 5 [⟨some 17, .move (.t 5), none, [5]⟩,
  ⟨some 4, .assign (.t 17), none, [17]⟩] none [4])
 .ret) .skip))))
 k0_api_Json_66)
def k1_api_Json_66 : IR := .tail [0, 1, 7, 8] j1_api_Json_66
def w0_api_Json_66 : IR :=
 (.seq (.reg 2 [⟨some 9, .bin .lss 3 (.t 8) (.t 7) 3, none, []⟩] none [0, 1, 7, 8, 9])
 (.seq (.cond [0, 1, 7, 8] (.t 9) .skip (.exit 0))
 k1_api_Json_66))
def l0_api_Json_66 : IR := .loop [0, 1, 7, 8] w0_api_Json_66
def j2_api_Json_66 : IR :=
 (.seq (.reg 7 [⟨some 4, .assign (.c (Value.int IntKind.i64 (-1))), none, []⟩] none [4])
 .ret)
def k2_api_Json_66 : IR := .tail [] j2_api_Json_66
def b_api_Json_66 : IR :=
 (.seq (.reg 0 [⟨some 4, .assign (.c (Value.int IntKind.i64 0)), none, [4]⟩] none [0, 1])
 (.seq (.seq (.reg 1 [⟨some 6, .move (.t 0), none, []⟩,
  ⟨some 7, .len 25 false (.t 6), none, [6]⟩,
  ⟨some 8, .move (.c (Value.int IntKind.i64 0)), none, []⟩] none [0, 1, 7, 8])
 (.block 0 l0_api_Json_66))
 k2_api_Json_66))
def a_api_Json_66 : AFunc := ⟨19, [.tmp 4], b_api_Json_66⟩

def b_api_Json : IR :=
 (.seq (.reg 0 [⟨some 4, .assign (.c (Value.bool false)), none, [4]⟩] none [0, 1])
 (.seq (.reg 1 [⟨some 5, .move (.t 0), none, []⟩,
  ⟨some 6, .move (.t 1), none, []⟩,
  ⟨some 7, .call n_api_Json_66 [(.t 5), (.t 6)] [25, 37], none, [0, 1, 5, 6]⟩,
  ⟨some 8, .bin .geq 3 (.t 7) (.c (Value.int IntKind.i64 0)) 3, none, [7]⟩,
  ⟨some 4, .assign (.t 8), none, [8]⟩] none [4])
 .ret))
def a_api_Json : AFunc := ⟨9, [.tmp 4], b_api_Json⟩

def j0_json_deep : IR :=
 (.reg 4 [⟨some 15, .load 3 none (.t 3), none, []⟩,
  ⟨some 16, .bin .sub 3 (.t 15) (.c (Value.int IntKind.i64 1)) 3, none, [15]⟩,
  ⟨none, .store 3 none (.t 3) (.t 16), none, [16]⟩] none [2, 3])
def k0_json_deep : IR := .tail [2, 3] j0_json_deep
def j1_json_deep : IR :=
 (.seq (.reg 5 [⟨some 17, .faddr 27 (.t 2) 3 3, none, []⟩,
  ⟨some 18, .load 25 none (.t 17), none, []⟩,
  ⟨some 19, .mkclo n_json_deep_1 (.t 3), none, [3]⟩,
  ⟨some 20, .call n_api_Json [(.t 18), (.t 19)] [25, 37], none, [2, 17, 18, 19]⟩,
  ⟨some 4, .assign (.t 20), none, [20]⟩] none [4])
 .ret)
def k1_json_deep : IR := .tail [2, 3] j1_json_deep
def b_json_deep : IR :=
 (.seq (.reg 0 [⟨some 2, .box 27 (.t 0), none, [0]⟩,
  ⟨some 3, .box 3 (.t 1), none, [1]⟩,
  ⟨some 4, .assign (.c (Value.bool false)), none, [4]⟩] none [2, 3])
 (.seq (.seq (.reg 1 [⟨some 5, .faddr 27 (.t 2) 0 0, none, []⟩,
  ⟨some 6, .load 23 none (.t 5), none, [5]⟩,
  ⟨some 7, .bin .eql 23 (.t 6) (.c (Value.int IntKind.u8 6)) 23, none, [6]⟩,
  ⟨some 8, .move (.t 7), none, [7]⟩,
  ⟨some 9, .faddr 27 (.t 2) 0 0, some (3, false), []⟩,
  ⟨some 10, .load 23 none (.t 9), some (3, false), [9]⟩,
  ⟨some 11, .bin .eql 23 (.t 10) (.c (Value.int IntKind.u8 7)) 23, some (3, false), [10]⟩,
  ⟨some 12, .pick (.t 8) (.c (Value.bool true)) (.t 11), none, [8, 11]⟩] none [2, 3, 12])
 (.cond [2, 3] (.t 12) (.seq (.seq (.reg 2 [⟨some 13, .load 3 none (.t 3), none, []⟩,
  ⟨some 14, .bin .eql 3 (.t 13) (.c (Value.int IntKind.i64 0)) 3, none, [13]⟩] none [2, 3, 14])
 (.cond [2, 3] (.t 14) (.seq (.reg 3 [⟨some 4, .assign (.c (Value.bool true)), none, []⟩] none [4])
 .ret) .skip))
 k0_json_deep) .skip))
 k1_json_deep))
def a_json_deep : AFunc := ⟨21, [.tmp 4], b_json_deep⟩

-- json_number_1: builtin recover; operator neq of interface
def b_json_number_1 : IR :=
 (.seq (.reg 0 [⟨some 2, .other (Op.call { callee := (Callee.builtin Builtin.recover), args := #[], argTypes := #[] }), none, []⟩,
  ⟨some 1, .assign (.t 2), none, []⟩] none [0, 1, 2, 100000])
 (.seq (.reg 1 [⟨some 3, .move (.t 1), none, []⟩,
  ⟨some 4, .other (Op.binOp BinOp.neq 20 (Operand.tmp 3) (Operand.const Value.nilIface) 20), none, [1, 2, 3]⟩] none [0, 4, 100000])
 (.cond [0, 100000] (.t 4) (.reg 2 [⟨none, .store 4 none (.t 0) (.c (Value.bool false)), none, [0]⟩] none [100000]) .skip)))
def a_json_number_1 : AFunc := ⟨5, [], b_json_number_1⟩

def j0_json_number : IR :=
 (.seq (.reg 2 [⟨some 5, .move (.t 0), none, []⟩,
  ⟨some 6, .conv 9 22 .toBytes (.t 5), none, [5]⟩,
  ⟨some 7, .build 50 [(0, 1), (1, 1)] [.nil 1, .v (.int .i64 0)] [(0, (.t 6))], none, []⟩,
  ⟨some 8, .box 50 (.t 7), none, [6, 7]⟩,
  ⟨some 3, .assign (.t 8), none, []⟩] none [0, 2, 3, 8, 200000])
 (.seq (.frz [(3, [0])] (.regp 3 [⟨some 9, .move (.t 3), none, []⟩,
  ⟨some 10, .call n_json_reader_number [(.t 9)] [48], none, [9, 10]⟩] none [0, 2, 3, 8, 200000]))
 (.seq (.reg 4 [⟨some 11, .move (.t 3), none, []⟩,
  ⟨some 12, .nilck (.t 11), none, []⟩,
  ⟨some 13, .faddr 50 (.t 12) 1 1, none, []⟩,
  ⟨some 14, .load 3 none (.t 13), none, [3, 8, 11, 12, 13]⟩,
  ⟨some 15, .move (.t 0), none, [0]⟩,
  ⟨some 16, .len 9 true (.t 15), none, [15]⟩,
  ⟨some 17, .bin .eql 3 (.t 14) (.t 16) 3, none, [14, 16]⟩,
  ⟨none, .store 4 none (.t 2) (.t 17), none, [17]⟩] none [2, 200000])
 .ret)))
def hnd_json_number : Value → Option (List (List PV)) := fun x => match x with
  | .iface _ _ => some [[.v (.bool false)]]
  | _ => none
def b_json_number : IR :=
 (.seq (.reg 0 [⟨some 2, .alloc 4 [.v (.bool false)], none, []⟩] none [0, 2])
 (.gd 1 4 n_json_number_1 [2] hnd_json_number j0_json_number))
def a_json_number : AFunc := ⟨18, [.cell 2 4 none], b_json_number⟩

def j0_json_right : IR :=
 (.reg 22 [⟨some 97, .bin .add 3 (.t 90) (.c (Value.int IntKind.i64 1)) 3, none, []⟩,
  ⟨some 90, .move (.t 97), none, [97]⟩] none [1, 87, 88, 89, 90])
def k0_json_right : IR := .tail [1, 87, 88, 89, 90] j0_json_right
def j1_json_right : IR :=
 (.seq (.block 2 (.seq (.reg 19 [⟨some 92, .iaddr 24 (.sl 1) (.t 88) (.t 90), none, []⟩,
  ⟨some 93, .load 9 none (.t 92), none, [92]⟩,
  ⟨some 4, .assign (.t 93), none, [93]⟩] none [1, 4, 87, 88, 89, 90])
 (.seq (.reg 20 [⟨some 94, .move (.t 4), none, [4]⟩,
  ⟨some 95, .call n_utf8_ValidString [(.t 94)] [9], none, [94]⟩,
  ⟨some 96, .un .not 4 (.t 95), none, [95]⟩] none [1, 87, 88, 89, 90, 96])
 (.cond [1, 87, 88, 89, 90] (.t 96) (.seq (.reg 21 [⟨some 2, .assign (.c (Value.bool false)), none, []⟩] none [2])
 .ret) .skip))))
 k0_json_right)
def k1_json_right : IR := .tail [1, 87, 88, 89, 90] j1_json_right
def w0_json_right : IR :=
 (.seq (.reg 18 [⟨some 91, .bin .lss 3 (.t 90) (.t 89) 3, none, []⟩] none [1, 87, 88, 89, 90, 91])
 (.seq (.cond [1, 87, 88, 89, 90] (.t 91) .skip (.exit 1))
 k1_json_right))
def l0_json_right : IR := .loop [1, 87, 88, 89, 90] w0_json_right
def j2_json_right : IR :=
 (.seq (.reg 17 [⟨some 87, .faddr 27 (.t 1) 2 2, none, []⟩,
  ⟨some 88, .load 24 none (.t 87), none, []⟩,
  ⟨some 89, .len 24 false (.t 88), none, []⟩,
  ⟨some 90, .move (.c (Value.int IntKind.i64 0)), none, []⟩] none [1, 87, 88, 89, 90])
 (.block 1 l0_json_right))
def k2_json_right : IR := .tail [1] j2_json_right
def j3_json_right : IR :=
 (.cond [1, 8] (.t 9) (.seq (.reg 6 [⟨some 13, .faddr 27 (.t 1) 1 1, none, []⟩,
  ⟨some 14, .load 9 none (.t 13), none, [13]⟩,
  ⟨some 15, .bin .eql 9 (.t 14) (.c (Value.string { data := #[] })) 9, none, [14]⟩,
  ⟨some 16, .move (.t 15), none, [15]⟩,
  ⟨some 17, .faddr 27 (.t 1) 2 2, some (3, true), []⟩,
  ⟨some 18, .load 24 none (.t 17), some (3, true), []⟩,
  ⟨some 19, .len 24 false (.t 18), some (3, true), [17, 18]⟩,
  ⟨some 20, .bin .eql 3 (.t 19) (.c (Value.int IntKind.i64 0)) 3, some (3, true), [19]⟩,
  ⟨some 21, .pick (.t 16) (.t 20) (.c (Value.bool false)), none, [16, 20]⟩,
  ⟨some 22, .move (.t 21), none, [21]⟩,
  ⟨some 23, .faddr 27 (.t 1) 3 3, some (9, true), []⟩,
  ⟨some 24, .load 25 none (.t 23), some (9, true), []⟩,
  ⟨some 25, .len 25 false (.t 24), some (9, true), [1, 23, 24]⟩,
  ⟨some 26, .bin .eql 3 (.t 25) (.c (Value.int IntKind.i64 0)) 3, some (9, true), [25]⟩,
  ⟨some 27, .pick (.t 22) (.t 26) (.c (Value.bool false)), none, [22, 26]⟩,
  ⟨some 2, .assign (.t 27), none, [27]⟩] none [2])
 .ret) (.seq (.reg 7 [⟨some 29, .bin .eql 23 (.t 8) (.c (Value.int IntKind.u8 4)) 23, none, []⟩,
  ⟨some 28, .assign (.t 29), none, [29]⟩] none [1, 8, 28])
 (.cond [1, 8] (.t 28) (.seq (.reg 8 [⟨some 30, .faddr 27 (.t 1) 1 1, none, []⟩,
  ⟨some 31, .load 9 none (.t 30), none, [30]⟩,
  ⟨some 32, .call n_json_number [(.t 31)] [9], none, [31]⟩,
  ⟨some 33, .move (.t 32), none, [32]⟩,
  ⟨some 34, .faddr 27 (.t 1) 2 2, some (3, true), []⟩,
  ⟨some 35, .load 24 none (.t 34), some (3, true), []⟩,
  ⟨some 36, .len 24 false (.t 35), some (3, true), [34, 35]⟩,
  ⟨some 37, .bin .eql 3 (.t 36) (.c (Value.int IntKind.i64 0)) 3, some (3, true), [36]⟩,
  ⟨some 38, .pick (.t 33) (.t 37) (.c (Value.bool false)), none, [33, 37]⟩,
  ⟨some 39, .move (.t 38), none, [38]⟩,
  ⟨some 40, .faddr 27 (.t 1) 3 3, some (9, true), []⟩,
  ⟨some 41, .load 25 none (.t 40), some (9, true), []⟩,
  ⟨some 42, .len 25 false (.t 41), some (9, true), [1, 40, 41]⟩,
  ⟨some 43, .bin .eql 3 (.t 42) (.c (Value.int IntKind.i64 0)) 3, some (9, true), [42]⟩,
  ⟨some 44, .pick (.t 39) (.t 43) (.c (Value.bool false)), none, [39, 43]⟩,
  ⟨some 2, .assign (.t 44), none, [44]⟩] none [2])
 .ret) (.seq (.reg 9 [⟨some 46, .bin .eql 23 (.t 8) (.c (Value.int IntKind.u8 5)) 23, none, []⟩,
  ⟨some 45, .assign (.t 46), none, [46]⟩] none [1, 8, 45])
 (.cond [1, 8] (.t 45) (.seq (.reg 10 [⟨some 47, .faddr 27 (.t 1) 1 1, none, []⟩,
  ⟨some 48, .load 9 none (.t 47), none, [47]⟩,
  ⟨some 49, .call n_utf8_ValidString [(.t 48)] [9], none, [48]⟩,
  ⟨some 50, .move (.t 49), none, [49]⟩,
  ⟨some 51, .faddr 27 (.t 1) 2 2, some (3, true), []⟩,
  ⟨some 52, .load 24 none (.t 51), some (3, true), []⟩,
  ⟨some 53, .len 24 false (.t 52), some (3, true), [51, 52]⟩,
  ⟨some 54, .bin .eql 3 (.t 53) (.c (Value.int IntKind.i64 0)) 3, some (3, true), [53]⟩,
  ⟨some 55, .pick (.t 50) (.t 54) (.c (Value.bool false)), none, [50, 54]⟩,
  ⟨some 56, .move (.t 55), none, [55]⟩,
  ⟨some 57, .faddr 27 (.t 1) 3 3, some (9, true), []⟩,
  ⟨some 58, .load 25 none (.t 57), some (9, true), []⟩,
  ⟨some 59, .len 25 false (.t 58), some (9, true), [1, 57, 58]⟩,
  ⟨some 60, .bin .eql 3 (.t 59) (.c (Value.int IntKind.i64 0)) 3, some (9, true), [59]⟩,
  ⟨some 61, .pick (.t 56) (.t 60) (.c (Value.bool false)), none, [56, 60]⟩,
  ⟨some 2, .assign (.t 61), none, [61]⟩] none [2])
 .ret) (.seq (.reg 11 [⟨some 63, .bin .eql 23 (.t 8) (.c (Value.int IntKind.u8 6)) 23, none, []⟩,
  ⟨some 62, .assign (.t 63), none, [63]⟩] none [1, 8, 62])
 (.cond [1, 8] (.t 62) (.seq (.reg 12 [⟨some 64, .faddr 27 (.t 1) 1 1, none, []⟩,
  ⟨some 65, .load 9 none (.t 64), none, [64]⟩,
  ⟨some 66, .bin .neq 9 (.t 65) (.c (Value.string { data := #[] })) 9, none, [65]⟩,
  ⟨some 67, .move (.t 66), none, [66]⟩,
  ⟨some 68, .faddr 27 (.t 1) 2 2, some (3, false), []⟩,
  ⟨some 69, .load 24 none (.t 68), some (3, false), []⟩,
  ⟨some 70, .len 24 false (.t 69), some (3, false), [68, 69]⟩,
  ⟨some 71, .bin .gtr 3 (.t 70) (.c (Value.int IntKind.i64 0)) 3, some (3, false), [70]⟩,
  ⟨some 72, .pick (.t 67) (.c (Value.bool true)) (.t 71), none, [67, 71]⟩] none [1, 72])
 (.cond [1] (.t 72) (.seq (.reg 13 [⟨some 2, .assign (.c (Value.bool false)), none, []⟩] none [2])
 .ret) .skip)) (.seq (.reg 14 [⟨some 74, .bin .eql 23 (.t 8) (.c (Value.int IntKind.u8 7)) 23, none, [8]⟩,
  ⟨some 73, .assign (.t 74), none, [74]⟩] none [1, 73])
 (.cond [1] (.t 73) (.seq (.seq (.reg 15 [⟨some 75, .faddr 27 (.t 1) 1 1, none, []⟩,
  ⟨some 76, .load 9 none (.t 75), none, [75]⟩,
  ⟨some 77, .bin .neq 9 (.t 76) (.c (Value.string { data := #[] })) 9, none, [76]⟩,
  ⟨some 78, .move (.t 77), none, [77]⟩,
  ⟨some 79, .faddr 27 (.t 1) 2 2, some (3, false), []⟩,
  ⟨some 80, .load 24 none (.t 79), some (3, false), []⟩,
  ⟨some 81, .len 24 false (.t 80), some (3, false), [79, 80]⟩,
  ⟨some 82, .faddr 27 (.t 1) 3 3, some (3, false), []⟩,
  ⟨some 83, .load 25 none (.t 82), some (3, false), []⟩,
  ⟨some 84, .len 25 false (.t 83), some (3, false), [82, 83]⟩,
  ⟨some 85, .bin .neq 3 (.t 81) (.t 84) 3, some (3, false), [81, 84]⟩,
  ⟨some 86, .pick (.t 78) (.c (Value.bool true)) (.t 85), none, [78, 85]⟩] none [1, 86])
 (.cond [1] (.t 86) (.seq (.reg 16 [⟨some 2, .assign (.c (Value.bool false)), none, []⟩] none [2])
 .ret) .skip))
 k2_json_right) (.seq (.reg 2 [⟨some 2, .assign (.c (Value.bool false)), none, []⟩] none [2])
 .ret))))))))))
def k3_json_right : IR := .tail [1, 8, 9] j3_json_right
def j4_json_right : IR :=
 (.reg 28 [⟨some 108, .bin .add 3 (.t 101) (.c (Value.int IntKind.i64 1)) 3, none, []⟩,
  ⟨some 101, .move (.t 108), none, [108]⟩] none [1, 98, 99, 100, 101])
def k4_json_right : IR := .tail [1, 98, 99, 100, 101] j4_json_right
def j5_json_right : IR :=
 (.seq (.block 4 (.seq (.reg 25 [⟨some 103, .iaddr 25 (.sl 4) (.t 99) (.t 101), none, []⟩,
  ⟨some 104, .load 27 (some 4) (.t 103), none, []⟩,
  ⟨some 6, .alloc 27 [.v (.int .u8 0), .v (.string ⟨#[]⟩), .nil 1, .nil 4], none, []⟩,
  ⟨none, .store 27 (some 4) (.t 6) (.t 104), none, [103, 104]⟩] none [1, 6, 98, 99, 100, 101])
 (.seq (.reg 26 [⟨some 105, .load 27 (some 4) (.t 6), none, []⟩,
  ⟨some 106, .call n_json_right [(.t 105)] [27], none, [6, 105]⟩,
  ⟨some 107, .un .not 4 (.t 106), none, [106]⟩] none [1, 98, 99, 100, 101, 107])
 (.cond [1, 98, 99, 100, 101] (.t 107) (.seq (.reg 27 [⟨some 2, .assign (.c (Value.bool false)), none, []⟩] none [2])
 .ret) .skip))))
 k4_json_right)
def k5_json_right : IR := .tail [1, 98, 99, 100, 101] j5_json_right
def w1_json_right : IR :=
 (.seq (.reg 24 [⟨some 102, .bin .lss 3 (.t 101) (.t 100) 3, none, []⟩] none [1, 98, 99, 100, 101, 102])
 (.seq (.cond [1, 98, 99, 100, 101] (.t 102) .skip (.exit 3))
 k5_json_right))
def l1_json_right : IR := .loop [1, 98, 99, 100, 101] w1_json_right
def j6_json_right : IR :=
 (.seq (.reg 29 [⟨some 2, .assign (.c (Value.bool true)), none, []⟩] none [2])
 .ret)
def k6_json_right : IR := .tail [] j6_json_right
def j7_json_right : IR :=
 (.seq (.seq (.reg 23 [⟨some 98, .faddr 27 (.t 1) 3 3, none, []⟩,
  ⟨some 99, .load 25 none (.t 98), none, []⟩,
  ⟨some 100, .len 25 false (.t 99), none, []⟩,
  ⟨some 101, .move (.c (Value.int IntKind.i64 0)), none, []⟩] none [1, 98, 99, 100, 101])
 (.block 3 l1_json_right))
 k6_json_right)
def k7_json_right : IR := .tail [1] j7_json_right
def b_json_right : IR :=
 (.seq (.reg 0 [⟨some 1, .box 27 (.t 0), none, [0]⟩,
  ⟨some 2, .assign (.c (Value.bool false)), none, [2]⟩] none [1])
 (.seq (.seq (.reg 1 [⟨some 7, .faddr 27 (.t 1) 0 0, none, []⟩,
  ⟨some 8, .load 23 none (.t 7), none, [7]⟩] none [1, 8])
 (.block 0 (.seq (.seq (.reg 3 [⟨some 10, .bin .eql 23 (.t 8) (.c (Value.int IntKind.u8 1)) 23, none, []⟩,
  ⟨some 9, .assign (.t 10), none, [10]⟩] none [1, 8, 9])
 (.cond [1, 8, 9] (.t 9) .skip (.seq (.reg 4 [⟨some 11, .bin .eql 23 (.t 8) (.c (Value.int IntKind.u8 2)) 23, none, []⟩,
  ⟨some 9, .assign (.t 11), none, [11]⟩] none [1, 8, 9])
 (.cond [1, 8, 9] (.t 9) .skip (.reg 5 [⟨some 12, .bin .eql 23 (.t 8) (.c (Value.int IntKind.u8 3)) 23, none, []⟩,
  ⟨some 9, .assign (.t 12), none, [12]⟩] none [1, 8, 9])))))
 k3_json_right)))
 k7_json_right))
def a_json_right : AFunc := ⟨109, [.tmp 2], b_json_right⟩

def j0_json_Check : IR :=
 (.seq (.reg 7 [⟨some 2, .assign (.c (Value.int IntKind.i64 0)), none, []⟩] none [2])
 .ret)
def k0_json_Check : IR := .tail [] j0_json_Check
def b_json_Check : IR :=
 (.seq (.reg 0 [⟨some 1, .box 27 (.t 0), none, [0]⟩,
  ⟨some 2, .assign (.c (Value.int IntKind.i64 0)), none, [2]⟩] none [1])
 (.seq (.block 0 (.seq (.reg 1 [⟨some 4, .load 27 (some 4) (.t 1), none, []⟩,
  ⟨some 5, .call n_json_deep [(.t 4), (.c (Value.int IntKind.i64 256))] [27, 3], none, [4]⟩,
  ⟨some 3, .assign (.t 5), none, [5]⟩] none [1, 3])
 (.cond [1] (.t 3) (.seq (.reg 2 [⟨some 2, .assign (.c (Value.int IntKind.i64 101)), none, []⟩] none [2])
 .ret) (.seq (.reg 3 [⟨some 7, .load 27 (some 4) (.t 1), none, []⟩,
  ⟨some 8, .call n_json_right [(.t 7)] [27], none, [7]⟩,
  ⟨some 9, .un .not 4 (.t 8), none, [8]⟩,
  ⟨some 6, .assign (.t 9), none, [9]⟩] none [1, 6])
 (.cond [1] (.t 6) (.seq (.reg 4 [⟨some 2, .assign (.c (Value.int IntKind.i64 100)), none, []⟩] none [2])
 .ret) (.seq (.reg 5 [⟨some 11, .load 27 (some 4) (.t 1), none, []⟩,
  ⟨some 12, .call n_json_twin [(.t 11)] [27], none, [1, 11]⟩,
  ⟨some 10, .assign (.t 12), none, [12]⟩] none [10])
 (.cond [] (.t 10) (.seq (.reg 6 [⟨some 2, .assign (.c (Value.int IntKind.i64 102)), none, []⟩] none [2])
 .ret) .skip)))))))
 k0_json_Check))
def a_json_Check : AFunc := ⟨13, [.tmp 2], b_json_Check⟩

def j0_utf8_ValidRune : IR :=
 (.seq (.reg 5 [⟨some 2, .assign (.c (Value.bool false)), none, []⟩] none [2])
 .ret)
def k0_utf8_ValidRune : IR := .tail [] j0_utf8_ValidRune
def b_utf8_ValidRune : IR :=
 (.seq (.reg 0 [⟨some 2, .assign (.c (Value.bool false)), none, [2]⟩] none [0])
 (.seq (.block 0 (.seq (.reg 1 [⟨some 4, .move (.t 0), none, []⟩,
  ⟨some 5, .bin .leq 21 (.c (Value.int IntKind.i32 0)) (.t 4) 21, none, [4]⟩,
  ⟨some 6, .move (.t 5), none, [5]⟩,
  ⟨some 7, .move (.t 0), some (2, true), []⟩,
  ⟨some 8, .bin .lss 21 (.t 7) (.c (Value.int IntKind.i32 55296)) 21, some (2, true), [7]⟩,
  ⟨some 9, .pick (.t 6) (.t 8) (.c (Value.bool false)), none, [6, 8]⟩,
  ⟨some 3, .assign (.t 9), none, [9]⟩] none [0, 3])
 (.cond [0] (.t 3) (.seq (.reg 2 [⟨some 2, .assign (.c (Value.bool true)), none, []⟩] none [2])
 .ret) (.seq (.reg 3 [⟨some 11, .move (.t 0), none, []⟩,
  ⟨some 12, .bin .lss 21 (.c (Value.int IntKind.i32 57343)) (.t 11) 21, none, [11]⟩,
  ⟨some 13, .move (.t 12), none, [12]⟩,
  ⟨some 14, .move (.t 0), some (2, true), [0]⟩,
  ⟨some 15, .bin .leq 21 (.t 14) (.c (Value.int IntKind.i32 1114111)) 21, some (2, true), [14]⟩,
  ⟨some 16, .pick (.t 13) (.t 15) (.c (Value.bool false)), none, [13, 15]⟩,
  ⟨some 10, .assign (.t 16), none, [16]⟩] none [10])
 (.cond [] (.t 10) (.seq (.reg 4 [⟨some 2, .assign (.c (Value.bool true)), none, []⟩] none [2])
 .ret) .skip)))))
 k0_utf8_ValidRune))
def a_utf8_ValidRune : AFunc := ⟨17, [.tmp 2], b_utf8_ValidRune⟩

def b_bytealg_Cutover : IR :=
 (.seq (.reg 0 [⟨some 2, .assign (.c (Value.int IntKind.i64 0)), none, [2]⟩] none [0])
 (.seq (.reg 1 [⟨some 3, .move (.t 0), none, [0]⟩,
  ⟨some 4, .bin .add 3 (.t 3) (.c (Value.int IntKind.i64 16)) 3, none, [3]⟩,
  ⟨some 5, .bin .quo 3 (.t 4) (.c (Value.int IntKind.i64 8)) 3, none, [4]⟩,
  ⟨some 2, .assign (.t 5), none, [5]⟩] none [2])
 .ret))
def a_bytealg_Cutover : AFunc := ⟨6, [.tmp 2], b_bytealg_Cutover⟩

-- strings_IndexRune: code Code.goto; code Code.goto; no body: "internal/bytealg.IndexString"
def j0_strings_IndexRune : IR :=
 (.block 10 (.seq (.reg 39 [⟨some 178, .extr (.t 176) 1, none, []⟩,
  ⟨some 179, .extr (.t 176) 2, none, [176]⟩,
  ⟨some 5, .assign (.t 178), none, [178]⟩,
  ⟨some 6, .assign (.t 179), none, [179]⟩] none [5, 6, 175])
 (.seq (.reg 40 [⟨some 180, .move (.t 6), none, [6]⟩,
  ⟨some 181, .bin .eql 21 (.t 180) (.c (Value.int IntKind.i32 65533)) 21, none, [180]⟩] none [5, 175, 181])
 (.cond [5, 175] (.t 181) (.seq (.reg 41 [⟨some 182, .move (.t 5), none, [5]⟩,
  ⟨some 4, .assign (.t 182), none, [182]⟩] none [4])
 .ret) .skip))))
def k0_strings_IndexRune : IR := .tail [175, 176] j0_strings_IndexRune
def w0_strings_IndexRune : IR :=
 (.seq (.reg 38 [⟨some 176, .next (.t 175), none, []⟩,
  ⟨some 177, .extr (.t 176) 0, none, []⟩] none [175, 176, 177])
 (.seq (.cond [175, 176] (.t 177) .skip (.exit 9))
 k0_strings_IndexRune))
def l0_strings_IndexRune : IR := .loop [175] w0_strings_IndexRune
def j1_strings_IndexRune : IR :=
 (.seq (.reg 42 [⟨some 4, .assign (.c (Value.int IntKind.i64 (-1))), none, []⟩] none [4])
 .ret)
def k1_strings_IndexRune : IR := .tail [] j1_strings_IndexRune
def j2_strings_IndexRune : IR :=
 (.reg 10 [⟨some 44, .move (.t 9), none, []⟩,
  ⟨some 45, .move (.t 11), none, [11]⟩,
  ⟨some 46, .bin .add 3 (.t 45) (.c (Value.int IntKind.i64 1)) 3, none, [45]⟩,
  ⟨some 47, .bin .add 3 (.t 44) (.t 46) 3, none, [44, 46]⟩,
  ⟨some 9, .assign (.t 47), none, [47]⟩] none [0, 7, 8, 9])
def k2_strings_IndexRune : IR := .tail [0, 7, 8, 9, 11] j2_strings_IndexRune
def j3_strings_IndexRune : IR :=
 (.reg 13 [⟨some 52, .move (.t 12), none, []⟩,
  ⟨some 53, .bin .add 3 (.t 52) (.c (Value.int IntKind.i64 1)) 3, none, [52]⟩,
  ⟨some 12, .assign (.t 53), none, [53]⟩] none [0, 7, 8, 9, 12])
def k3_strings_IndexRune : IR := .tail [0, 7, 8, 9, 12] j3_strings_IndexRune
def j4_strings_IndexRune : IR :=
 (.seq (.block 4 (.seq (.reg 14 [⟨some 54, .move (.t 0), none, []⟩,
  ⟨some 55, .move (.t 9), none, []⟩,
  ⟨some 56, .move (.t 12), none, []⟩,
  ⟨some 57, .bin .sub 3 (.t 55) (.t 56) 3, none, [55, 56]⟩,
  ⟨some 58, .index 9 .str none (.t 54) (.t 57), none, [54, 57]⟩,
  ⟨some 59, .move (.t 7), none, []⟩,
  ⟨some 60, .move (.t 8), none, []⟩,
  ⟨some 61, .move (.t 12), none, []⟩,
  ⟨some 62, .bin .sub 3 (.t 60) (.t 61) 3, none, [60, 61]⟩,
  ⟨some 63, .index 9 .str none (.t 59) (.t 62), none, [59, 62]⟩,
  ⟨some 64, .bin .neq 5 (.t 58) (.t 63) 5, none, [58, 63]⟩] (some (.cons ⟨0, []⟩ (.cons ⟨1, []⟩ (.cons ⟨2, []⟩ (.cons ⟨3, []⟩ (.cons ⟨4, []⟩ (.cons ⟨5, []⟩ (.cons ⟨6, []⟩ (.cons ⟨7, []⟩ (.cons ⟨8, []⟩ (.cons ⟨9, []⟩ (.cons ⟨10, []⟩ .nil)))))))))))) [0, 7, 8, 9, 12, 64])
 (.cond [0, 7, 8, 9, 12] (.t 64) .other .skip)))
 k3_strings_IndexRune)
def k4_strings_IndexRune : IR := .tail [0, 7, 8, 9, 12] j4_strings_IndexRune
def w2_strings_IndexRune : IR :=
 (.seq (.seq (.reg 12 [⟨some 48, .move (.t 12), none, []⟩,
  ⟨some 49, .move (.t 7), none, []⟩,
  ⟨some 50, .len 9 true (.t 49), none, [49]⟩,
  ⟨some 51, .bin .lss 3 (.t 48) (.t 50) 3, none, [48, 50]⟩] none [0, 7, 8, 9, 12, 51])
 (.cond [0, 7, 8, 9, 12] (.t 51) .skip (.exit 3)))
 k4_strings_IndexRune)
def l2_strings_IndexRune : IR := .loop [0, 7, 8, 9, 12] w2_strings_IndexRune
def j5_strings_IndexRune : IR :=
 (.seq (.seq (.reg 15 [⟨some 65, .move (.t 9), none, [9]⟩,
  ⟨some 66, .move (.t 8), none, [8]⟩,
  ⟨some 67, .bin .sub 3 (.t 65) (.t 66) 3, none, [65, 66]⟩,
  ⟨some 4, .assign (.t 67), none, [67]⟩] none [4])
 .ret)
 (.seq (.label 0)
 (.seq (.reg 16 [⟨some 68, .move (.t 10), none, []⟩,
  ⟨some 69, .bin .add 3 (.t 68) (.c (Value.int IntKind.i64 1)) 3, none, [68]⟩,
  ⟨some 10, .assign (.t 69), none, [69]⟩] none [0, 7, 8, 9, 10])
 (.seq (.reg 17 [⟨some 70, .move (.t 9), none, []⟩,
  ⟨some 71, .bin .add 3 (.t 70) (.c (Value.int IntKind.i64 1)) 3, none, [70]⟩,
  ⟨some 9, .assign (.t 71), none, [71]⟩] none [0, 7, 8, 9, 10])
 (.seq (.reg 18 [⟨some 72, .move (.c (Value.bool true)), none, []⟩,
  ⟨some 73, .move (.t 10), some (0, true), []⟩,
  ⟨some 74, .move (.t 9), some (0, true), []⟩,
  ⟨some 75, .call n_bytealg_Cutover [(.t 74)] [3], some (0, true), [74]⟩,
  ⟨some 76, .bin .gtr 3 (.t 73) (.t 75) 3, some (0, true), [73, 75]⟩,
  ⟨some 77, .pick (.t 72) (.t 76) (.c (Value.bool false)), none, [72, 76]⟩,
  ⟨some 78, .move (.t 77), none, [77]⟩,
  ⟨some 79, .move (.t 9), some (6, true), []⟩,
  ⟨some 80, .move (.t 0), some (6, true), []⟩,
  ⟨some 81, .len 9 true (.t 80), some (6, true), [80]⟩,
  ⟨some 82, .bin .lss 3 (.t 79) (.t 81) 3, some (6, true), [79, 81]⟩,
  ⟨some 83, .pick (.t 78) (.t 82) (.c (Value.bool false)), none, [78, 82]⟩,
  ⟨some 84, .move (.t 83), none, [83]⟩,
  ⟨some 85, .move (.c (Value.bool false)), some (12, false), []⟩,
  ⟨some 86, .move (.t 10), some (13, true), [10]⟩,
  ⟨some 87, .move (.t 9), some (13, true), []⟩,
  ⟨some 88, .bin .shr 3 (.t 87) (.c (Value.int IntKind.u64 4)) 74, some (13, true), [87]⟩,
  ⟨some 89, .bin .add 3 (.c (Value.int IntKind.i64 4)) (.t 88) 3, some (13, true), [88]⟩,
  ⟨some 90, .bin .geq 3 (.t 86) (.t 89) 3, some (13, true), [86, 89]⟩,
  ⟨some 91, .pick (.t 85) (.t 90) (.c (Value.bool false)), some (12, false), [85, 90]⟩,
  ⟨some 92, .move (.t 91), some (12, false), [91]⟩,
  ⟨some 93, .move (.t 9), some (20, true), []⟩,
  ⟨some 94, .move (.t 0), some (20, true), []⟩,
  ⟨some 95, .len 9 true (.t 94), some (20, true), [94]⟩,
  ⟨some 96, .bin .lss 3 (.t 93) (.t 95) 3, some (20, true), [93, 95]⟩,
  ⟨some 97, .pick (.t 92) (.t 96) (.c (Value.bool false)), some (12, false), [92, 96]⟩,
  ⟨some 98, .pick (.t 84) (.c (Value.bool true)) (.t 97), none, [84, 97]⟩] none [0, 7, 8, 9, 98])
 (.cond [0, 7, 8, 9] (.t 98) .other .skip))))))
def k5_strings_IndexRune : IR := .tail [8, 9] j5_strings_IndexRune
def j6_strings_IndexRune : IR :=
 (.seq (.seq (.reg 11 [⟨some 12, .assign (.c (Value.int IntKind.i64 1)), none, []⟩] none [0, 7, 8, 9, 12])
 (.block 3 l2_strings_IndexRune))
 k5_strings_IndexRune)
def k6_strings_IndexRune : IR := .tail [0, 7, 8, 9] j6_strings_IndexRune
def j7_strings_IndexRune : IR :=
 (.block 2 (.scope (.seq (.seq (.reg 6 [⟨some 27, .move (.t 0), none, []⟩,
  ⟨some 28, .move (.t 9), none, []⟩,
  ⟨some 29, .index 9 .str none (.t 27) (.t 28), none, [27, 28]⟩,
  ⟨some 30, .move (.t 7), none, []⟩,
  ⟨some 31, .move (.t 8), none, []⟩,
  ⟨some 32, .index 9 .str none (.t 30) (.t 31), none, [30, 31]⟩,
  ⟨some 33, .bin .neq 5 (.t 29) (.t 32) 5, none, [29, 32]⟩] (some (.cons ⟨0, []⟩ (.cons ⟨1, []⟩ (.cons ⟨2, []⟩ (.cons ⟨3, []⟩ (.cons ⟨4, []⟩ (.cons ⟨5, []⟩ (.cons ⟨6, []⟩ .nil)))))))) [0, 7, 8, 9, 33])
 (.cond [0, 7, 8, 9] (.t 33) (.seq (.reg 7 [⟨some 34, .move (.t 0), none, []⟩,
  ⟨some 35, .move (.t 9), none, []⟩,
  ⟨some 36, .bin .add 3 (.t 35) (.c (Value.int IntKind.i64 1)) 3, none, [35]⟩,
  ⟨some 37, .slice 9 .str (.t 34) (some (.t 36)) none none, none, [34, 36]⟩,
  ⟨some 38, .move (.t 7), none, []⟩,
  ⟨some 39, .move (.t 8), none, []⟩,
  ⟨some 40, .index 9 .str none (.t 38) (.t 39), none, [38, 39]⟩,
  ⟨some 41, .call n_strings_IndexByte [(.t 37), (.t 40)] [9, 5], none, [37, 40]⟩,
  ⟨some 11, .assign (.t 41), none, [41]⟩] (some (.cons ⟨0, []⟩ (.cons ⟨1, []⟩ (.cons ⟨2, []⟩ (.cons ⟨3, []⟩ (.cons ⟨4, []⟩ (.cons ⟨5, []⟩ (.cons ⟨6, []⟩ (.cons ⟨7, []⟩ (.cons ⟨8, []⟩ .nil)))))))))) [0, 7, 8, 9, 11])
 (.seq (.seq (.reg 8 [⟨some 42, .move (.t 11), none, []⟩,
  ⟨some 43, .bin .lss 3 (.t 42) (.c (Value.int IntKind.i64 0)) 3, none, [42]⟩] none [0, 7, 8, 9, 11, 43])
 (.cond [0, 7, 8, 9, 11] (.t 43) (.seq (.reg 9 [⟨some 4, .assign (.c (Value.int IntKind.i64 (-1))), none, []⟩] none [4])
 .ret) .skip))
 k2_strings_IndexRune)) .skip))
 k6_strings_IndexRune)))
def k7_strings_IndexRune : IR := .tail [0, 7, 8, 9] j7_strings_IndexRune
def w1_strings_IndexRune : IR :=
 (.seq (.seq (.reg 5 [⟨some 23, .move (.t 9), none, []⟩,
  ⟨some 24, .move (.t 0), none, []⟩,
  ⟨some 25, .len 9 true (.t 24), none, [24]⟩,
  ⟨some 26, .bin .lss 3 (.t 23) (.t 25) 3, none, [23, 25]⟩] none [0, 7, 8, 9, 26])
 (.cond [0, 7, 8, 9] (.t 26) .skip (.exit 1)))
 k7_strings_IndexRune)
def l1_strings_IndexRune : IR := .loop [0, 7, 8, 9] w1_strings_IndexRune
def j8_strings_IndexRune : IR :=
 (.reg 30 [⟨some 144, .move (.t 16), none, []⟩,
  ⟨some 145, .bin .add 3 (.t 144) (.c (Value.int IntKind.i64 1)) 3, none, [144]⟩,
  ⟨some 16, .assign (.t 145), none, [145]⟩] none [0, 7, 8, 9, 14, 15, 16])
def k8_strings_IndexRune : IR := .tail [0, 7, 8, 9, 14, 15, 16] j8_strings_IndexRune
def j9_strings_IndexRune : IR :=
 (.seq (.block 8 (.seq (.reg 31 [⟨some 146, .move (.t 0), none, []⟩,
  ⟨some 147, .move (.t 9), none, []⟩,
  ⟨some 148, .move (.t 16), none, []⟩,
  ⟨some 149, .bin .sub 3 (.t 147) (.t 148) 3, none, [147, 148]⟩,
  ⟨some 150, .index 9 .str none (.t 146) (.t 149), none, [146, 149]⟩,
  ⟨some 151, .move (.t 7), none, []⟩,
  ⟨some 152, .move (.t 8), none, []⟩,
  ⟨some 153, .move (.t 16), none, []⟩,
  ⟨some 154, .bin .sub 3 (.t 152) (.t 153) 3, none, [152, 153]⟩,
  ⟨some 155, .index 9 .str none (.t 151) (.t 154), none, [151, 154]⟩,
  ⟨some 156, .bin .neq 5 (.t 150) (.t 155) 5, none, [150, 155]⟩] (some (.cons ⟨0, []⟩ (.cons ⟨1, []⟩ (.cons ⟨2, []⟩ (.cons ⟨3, []⟩ (.cons ⟨4, []⟩ (.cons ⟨5, []⟩ (.cons ⟨6, []⟩ (.cons ⟨7, []⟩ (.cons ⟨8, []⟩ (.cons ⟨9, []⟩ (.cons ⟨10, []⟩ .nil)))))))))))) [0, 7, 8, 9, 14, 15, 16, 156])
 (.cond [0, 7, 8, 9, 14, 15, 16] (.t 156) (.exit 6) .skip)))
 k8_strings_IndexRune)
def k9_strings_IndexRune : IR := .tail [0, 7, 8, 9, 14, 15, 16] j9_strings_IndexRune
def w4_strings_IndexRune : IR :=
 (.seq (.seq (.reg 29 [⟨some 140, .move (.t 16), none, []⟩,
  ⟨some 141, .move (.t 7), none, []⟩,
  ⟨some 142, .len 9 true (.t 141), none, [141]⟩,
  ⟨some 143, .bin .lss 3 (.t 140) (.t 142) 3, none, [140, 142]⟩] none [0, 7, 8, 9, 14, 15, 16, 143])
 (.cond [0, 7, 8, 9, 14, 15, 16] (.t 143) .skip (.exit 7)))
 k9_strings_IndexRune)
def l4_strings_IndexRune : IR := .loop [0, 7, 8, 9, 14, 15, 16] w4_strings_IndexRune
def j10_strings_IndexRune : IR :=
 (.seq (.reg 32 [⟨some 157, .move (.t 9), none, [9]⟩,
  ⟨some 158, .move (.t 8), none, [8]⟩,
  ⟨some 159, .bin .sub 3 (.t 157) (.t 158) 3, none, [157, 158]⟩,
  ⟨some 4, .assign (.t 159), none, [159]⟩] none [4])
 .ret)
def k10_strings_IndexRune : IR := .tail [8, 9] j10_strings_IndexRune
def j11_strings_IndexRune : IR :=
 (.reg 26 [⟨some 125, .move (.t 9), none, []⟩,
  ⟨some 126, .bin .add 3 (.t 125) (.c (Value.int IntKind.i64 1)) 3, none, [125]⟩,
  ⟨some 9, .assign (.t 126), none, [126]⟩] none [0, 7, 8, 9, 14, 15])
def k11_strings_IndexRune : IR := .tail [0, 7, 8, 9, 14, 15] j11_strings_IndexRune
def j12_strings_IndexRune : IR :=
 (.seq (.block 6 (.seq (.reg 27 [⟨some 127, .move (.t 0), none, []⟩,
  ⟨some 128, .move (.t 9), none, []⟩,
  ⟨some 129, .index 9 .str none (.t 127) (.t 128), none, [127, 128]⟩,
  ⟨some 130, .move (.t 14), none, []⟩,
  ⟨some 131, .bin .eql 5 (.t 129) (.t 130) 5, none, [129, 130]⟩,
  ⟨some 132, .move (.t 131), none, [131]⟩,
  ⟨some 133, .move (.t 0), some (5, true), []⟩,
  ⟨some 134, .move (.t 9), some (5, true), []⟩,
  ⟨some 135, .bin .sub 3 (.t 134) (.c (Value.int IntKind.i64 1)) 3, some (5, true), [134]⟩,
  ⟨some 136, .index 9 .str none (.t 133) (.t 135), some (5, true), [133, 135]⟩,
  ⟨some 137, .move (.t 15), some (5, true), []⟩,
  ⟨some 138, .bin .eql 5 (.t 136) (.t 137) 5, some (5, true), [136, 137]⟩,
  ⟨some 139, .pick (.t 132) (.t 138) (.c (Value.bool false)), none, [132, 138]⟩] none [0, 7, 8, 9, 14, 15, 139])
 (.cond [0, 7, 8, 9, 14, 15] (.t 139) (.seq (.seq (.reg 28 [⟨some 16, .assign (.c (Value.int IntKind.i64 2)), none, []⟩] none [0, 7, 8, 9, 14, 15, 16])
 (.block 7 l4_strings_IndexRune))
 k10_strings_IndexRune) .skip)))
 k11_strings_IndexRune)
def k12_strings_IndexRune : IR := .tail [0, 7, 8, 9, 14, 15] j12_strings_IndexRune
def w3_strings_IndexRune : IR :=
 (.seq (.seq (.reg 25 [⟨some 121, .move (.t 9), none, []⟩,
  ⟨some 122, .move (.t 0), none, []⟩,
  ⟨some 123, .len 9 true (.t 122), none, [122]⟩,
  ⟨some 124, .bin .lss 3 (.t 121) (.t 123) 3, none, [121, 123]⟩] none [0, 7, 8, 9, 14, 15, 124])
 (.cond [0, 7, 8, 9, 14, 15] (.t 124) .skip (.exit 5)))
 k12_strings_IndexRune)
def l3_strings_IndexRune : IR := .loop [0, 7, 8, 9, 14, 15] w3_strings_IndexRune
def j13_strings_IndexRune : IR :=
 (.seq (.reg 33 [⟨some 4, .assign (.c (Value.int IntKind.i64 (-1))), none, []⟩] none [4])
 .ret)
def k13_strings_IndexRune : IR := .tail [] j13_strings_IndexRune
def j14_strings_IndexRune : IR :=
 (.seq (.seq (.reg 19 [⟨some 4, .assign (.c (Value.int IntKind.i64 (-1))), none, []⟩] none [4])
 .ret)
 (.seq (.label 1)
 (.seq (.cond [0, 1, 7, 8, 9] (.c (Value.bool true)) (.seq (.reg 20 [⟨some 99, .move (.t 0), none, [0]⟩,
  ⟨some 100, .move (.t 9), none, []⟩,
  ⟨some 101, .move (.t 8), none, []⟩,
  ⟨some 102, .bin .sub 3 (.t 100) (.t 101) 3, none, [100, 101]⟩,
  ⟨some 103, .slice 9 .str (.t 99) (some (.t 102)) none none, none, [99, 102]⟩,
  ⟨some 104, .move (.t 1), none, [1]⟩,
  ⟨some 105, .conv 21 9 .rune (.t 104), none, [104]⟩,
  ⟨some 106, .other (Op.call { callee := (Callee.value (Operand.func 79)), args := #[(Operand.tmp 103), (Operand.tmp 105)], argTypes := #[9, 9] }), none, [103, 105]⟩,
  ⟨some 13, .assign (.t 106), none, [106]⟩] none [8, 9, 13])
 (.seq (.reg 21 [⟨some 107, .move (.t 13), none, []⟩,
  ⟨some 108, .bin .geq 3 (.t 107) (.c (Value.int IntKind.i64 0)) 3, none, [107]⟩] none [8, 9, 13, 108])
 (.cond [8, 9, 13] (.t 108) (.seq (.reg 22 [⟨some 109, .move (.t 9), none, [9]⟩,
  ⟨some 110, .move (.t 13), none, [13]⟩,
  ⟨some 111, .bin .add 3 (.t 109) (.t 110) 3, none, [109, 110]⟩,
  ⟨some 112, .move (.t 8), none, [8]⟩,
  ⟨some 113, .bin .sub 3 (.t 111) (.t 112) 3, none, [111, 112]⟩,
  ⟨some 4, .assign (.t 113), none, [113]⟩] none [4])
 .ret) .skip))) (.scope (.seq (.reg 23 [⟨some 114, .move (.t 7), none, []⟩,
  ⟨some 115, .move (.t 8), none, []⟩,
  ⟨some 116, .index 9 .str none (.t 114) (.t 115), none, [114, 115]⟩,
  ⟨some 14, .assign (.t 116), none, [116]⟩] none [0, 7, 8, 9, 14])
 (.seq (.reg 24 [⟨some 117, .move (.t 7), none, []⟩,
  ⟨some 118, .move (.t 8), none, []⟩,
  ⟨some 119, .bin .sub 3 (.t 118) (.c (Value.int IntKind.i64 1)) 3, none, [118]⟩,
  ⟨some 120, .index 9 .str none (.t 117) (.t 119), none, [117, 119]⟩,
  ⟨some 15, .assign (.t 120), none, [120]⟩] none [0, 7, 8, 9, 14, 15])
 (.seq (.label 2)
 (.block 5 l3_strings_IndexRune))))))
 k13_strings_IndexRune)))
def k14_strings_IndexRune : IR := .tail [] j14_strings_IndexRune
def b_strings_IndexRune : IR :=
 (.seq (.reg 0 [⟨some 4, .assign (.c (Value.int IntKind.i64 0)), none, [4]⟩] none [0, 1])
 (.block 0 (.seq (.reg 34 [⟨some 161, .move (.t 1), none, []⟩,
  ⟨some 162, .bin .leq 21 (.c (Value.int IntKind.i32 0)) (.t 161) 21, none, [161]⟩,
  ⟨some 163, .move (.t 162), none, [162]⟩,
  ⟨some 164, .move (.t 1), some (2, true), []⟩,
  ⟨some 165, .bin .lss 21 (.t 164) (.c (Value.int IntKind.i32 128)) 21, some (2, true), [164]⟩,
  ⟨some 166, .pick (.t 163) (.t 165) (.c (Value.bool false)), none, [163, 165]⟩,
  ⟨some 160, .assign (.t 166), none, [166]⟩] none [0, 1, 160])
 (.cond [0, 1] (.t 160) (.seq (.reg 35 [⟨some 167, .move (.t 0), none, [0]⟩,
  ⟨some 168, .move (.t 1), none, [1]⟩,
  ⟨some 169, .conv 21 5 (.int .u8) (.t 168), none, [168]⟩,
  ⟨some 170, .call n_strings_IndexByte [(.t 167), (.t 169)] [9, 5], none, [167, 169]⟩,
  ⟨some 4, .assign (.t 170), none, [170]⟩] none [4])
 .ret) (.seq (.reg 36 [⟨some 172, .move (.t 1), none, []⟩,
  ⟨some 173, .bin .eql 21 (.t 172) (.c (Value.int IntKind.i32 65533)) 21, none, [172]⟩,
  ⟨some 171, .assign (.t 173), none, [173]⟩] none [0, 1, 171])
 (.cond [0, 1] (.t 171) (.seq (.seq (.reg 37 [⟨some 174, .move (.t 0), none, [0]⟩,
  ⟨some 175, .range 9 (.t 174), none, [174]⟩] none [175])
 (.block 9 l0_strings_IndexRune))
 k1_strings_IndexRune) (.seq (.reg 43 [⟨some 184, .move (.t 1), none, []⟩,
  ⟨some 185, .call n_utf8_ValidRune [(.t 184)] [21], none, [184]⟩,
  ⟨some 186, .un .not 4 (.t 185), none, [185]⟩,
  ⟨some 183, .assign (.t 186), none, [186]⟩] none [0, 1, 183])
 (.cond [0, 1] (.t 183) (.seq (.reg 44 [⟨some 4, .assign (.c (Value.int IntKind.i64 (-1))), none, []⟩] none [4])
 .ret) (.scope (.seq (.reg 1 [⟨some 17, .move (.t 1), none, [1]⟩,
  ⟨some 18, .conv 21 9 .rune (.t 17), none, [17]⟩,
  ⟨some 7, .assign (.t 18), none, [18]⟩] none [0, 7])
 (.seq (.reg 2 [⟨some 19, .move (.t 7), none, []⟩,
  ⟨some 20, .len 9 true (.t 19), none, [19]⟩,
  ⟨some 21, .bin .sub 3 (.t 20) (.c (Value.int IntKind.i64 1)) 3, none, [20]⟩,
  ⟨some 8, .assign (.t 21), none, [21]⟩] none [0, 7, 8])
 (.seq (.reg 3 [⟨some 22, .move (.t 8), none, []⟩,
  ⟨some 9, .assign (.t 22), none, [22]⟩] none [0, 7, 8, 9])
 (.seq (.reg 4 [⟨some 10, .assign (.c (Value.int IntKind.i64 0)), none, [10]⟩] none [0, 7, 8, 9])
 (.seq (.block 1 l1_strings_IndexRune)
 k14_strings_IndexRune))))))))))))))
def a_strings_IndexRune : AFunc := ⟨187, [.tmp 4], b_strings_IndexRune⟩

def j0_utf8_appendRuneNonASCII : IR :=
 (.cond [0, 1, 5, 100000] (.t 25) (.seq (.reg 7 [⟨some 34, .move (.t 0), none, []⟩,
  ⟨some 35, .move (.t 1), none, []⟩,
  ⟨some 36, .bin .shr 21 (.t 35) (.c (Value.int IntKind.u64 12)) 74, none, [35]⟩,
  ⟨some 37, .conv 21 5 (.int .u8) (.t 36), none, [36]⟩,
  ⟨some 38, .bin .or 5 (.c (Value.int IntKind.u8 224)) (.t 37) 5, none, [37]⟩,
  ⟨some 39, .move (.t 1), none, []⟩,
  ⟨some 40, .bin .shr 21 (.t 39) (.c (Value.int IntKind.u64 6)) 74, none, [39]⟩,
  ⟨some 41, .conv 21 5 (.int .u8) (.t 40), none, [40]⟩,
  ⟨some 42, .bin .and 5 (.t 41) (.c (Value.int IntKind.u8 63)) 5, none, [41]⟩,
  ⟨some 43, .bin .or 5 (.c (Value.int IntKind.u8 128)) (.t 42) 5, none, [42]⟩,
  ⟨some 44, .move (.t 1), none, [1]⟩,
  ⟨some 45, .conv 21 5 (.int .u8) (.t 44), none, [44]⟩,
  ⟨some 46, .bin .and 5 (.t 45) (.c (Value.int IntKind.u8 63)) 5, none, [45]⟩,
  ⟨some 47, .bin .or 5 (.c (Value.int IntKind.u8 128)) (.t 46) 5, none, [46]⟩,
  ⟨some 48, .lit 22 1 [(.t 38), (.t 43), (.t 47)], none, [38, 43, 47]⟩,
  ⟨some 49, .append 22 22 false 1 1 (.t 34) (.t 48), none, [0, 34, 48]⟩,
  ⟨some 4, .assign (.t 49), none, []⟩] none [4, 10, 24, 49, 77, 100000])
 .ret) (.seq (.reg 8 [⟨some 51, .move (.t 5), none, []⟩,
  ⟨some 52, .bin .gtr 92 (.t 51) (.c (Value.int IntKind.u32 65535)) 92, none, [51]⟩,
  ⟨some 53, .move (.t 52), none, [52]⟩,
  ⟨some 54, .move (.t 5), some (2, true), [5]⟩,
  ⟨some 55, .bin .leq 92 (.t 54) (.c (Value.int IntKind.u32 1114111)) 92, some (2, true), [54]⟩,
  ⟨some 56, .pick (.t 53) (.t 55) (.c (Value.bool false)), none, [53, 55]⟩,
  ⟨some 50, .assign (.t 56), none, [56]⟩] none [0, 1, 50, 100000])
 (.cond [0, 1, 100000] (.t 50) (.seq (.reg 9 [⟨some 57, .move (.t 0), none, []⟩,
  ⟨some 58, .move (.t 1), none, []⟩,
  ⟨some 59, .bin .shr 21 (.t 58) (.c (Value.int IntKind.u64 18)) 74, none, [58]⟩,
  ⟨some 60, .conv 21 5 (.int .u8) (.t 59), none, [59]⟩,
  ⟨some 61, .bin .or 5 (.c (Value.int IntKind.u8 240)) (.t 60) 5, none, [60]⟩,
  ⟨some 62, .move (.t 1), none, []⟩,
  ⟨some 63, .bin .shr 21 (.t 62) (.c (Value.int IntKind.u64 12)) 74, none, [62]⟩,
  ⟨some 64, .conv 21 5 (.int .u8) (.t 63), none, [63]⟩,
  ⟨some 65, .bin .and 5 (.t 64) (.c (Value.int IntKind.u8 63)) 5, none, [64]⟩,
  ⟨some 66, .bin .or 5 (.c (Value.int IntKind.u8 128)) (.t 65) 5, none, [65]⟩,
  ⟨some 67, .move (.t 1), none, []⟩,
  ⟨some 68, .bin .shr 21 (.t 67) (.c (Value.int IntKind.u64 6)) 74, none, [67]⟩,
  ⟨some 69, .conv 21 5 (.int .u8) (.t 68), none, [68]⟩,
  ⟨some 70, .bin .and 5 (.t 69) (.c (Value.int IntKind.u8 63)) 5, none, [69]⟩,
  ⟨some 71, .bin .or 5 (.c (Value.int IntKind.u8 128)) (.t 70) 5, none, [70]⟩,
  ⟨some 72, .move (.t 1), none, [1]⟩,
  ⟨some 73, .conv 21 5 (.int .u8) (.t 72), none, [72]⟩,
  ⟨some 74, .bin .and 5 (.t 73) (.c (Value.int IntKind.u8 63)) 5, none, [73]⟩,
  ⟨some 75, .bin .or 5 (.c (Value.int IntKind.u8 128)) (.t 74) 5, none, [74]⟩,
  ⟨some 76, .lit 22 1 [(.t 61), (.t 66), (.t 71), (.t 75)], none, [61, 66, 71, 75]⟩,
  ⟨some 77, .append 22 22 false 1 1 (.t 57) (.t 76), none, [0, 57, 76]⟩,
  ⟨some 4, .assign (.t 77), none, []⟩] none [4, 10, 24, 49, 77, 100000])
 .ret) (.seq (.reg 2 [⟨some 8, .move (.t 0), none, []⟩,
  ⟨some 9, .lit 22 1 [(.c (Value.int IntKind.u8 239)), (.c (Value.int IntKind.u8 191)), (.c (Value.int IntKind.u8 189))], none, []⟩,
  ⟨some 10, .append 22 22 false 1 1 (.t 8) (.t 9), none, [0, 8, 9]⟩,
  ⟨some 4, .assign (.t 10), none, []⟩] none [4, 10, 24, 49, 77, 100000])
 .ret))))
def k0_utf8_appendRuneNonASCII : IR := .tail [0, 1, 5, 25, 100000] j0_utf8_appendRuneNonASCII
def b_utf8_appendRuneNonASCII : IR :=
 (.seq (.reg 0 [⟨some 4, .assign (.nilS 1), none, [4]⟩] none [0, 1, 100000])
 (.seq (.reg 1 [⟨some 6, .move (.t 1), none, []⟩,
  ⟨some 7, .conv 21 92 (.int .u32) (.t 6), none, [6]⟩,
  ⟨some 5, .assign (.t 7), none, [7]⟩] none [0, 1, 5, 100000])
 (.block 0 (.seq (.reg 3 [⟨some 12, .move (.t 5), none, []⟩,
  ⟨some 13, .bin .leq 92 (.t 12) (.c (Value.int IntKind.u32 2047)) 92, none, [12]⟩,
  ⟨some 11, .assign (.t 13), none, [13]⟩] none [0, 1, 5, 11, 100000])
 (.cond [0, 1, 5, 100000] (.t 11) (.seq (.reg 4 [⟨some 14, .move (.t 0), none, []⟩,
  ⟨some 15, .move (.t 1), none, []⟩,
  ⟨some 16, .bin .shr 21 (.t 15) (.c (Value.int IntKind.u64 6)) 74, none, [15]⟩,
  ⟨some 17, .conv 21 5 (.int .u8) (.t 16), none, [16]⟩,
  ⟨some 18, .bin .or 5 (.c (Value.int IntKind.u8 192)) (.t 17) 5, none, [17]⟩,
  ⟨some 19, .move (.t 1), none, [1]⟩,
  ⟨some 20, .conv 21 5 (.int .u8) (.t 19), none, [19]⟩,
  ⟨some 21, .bin .and 5 (.t 20) (.c (Value.int IntKind.u8 63)) 5, none, [20]⟩,
  ⟨some 22, .bin .or 5 (.c (Value.int IntKind.u8 128)) (.t 21) 5, none, [21]⟩,
  ⟨some 23, .lit 22 1 [(.t 18), (.t 22)], none, [18, 22]⟩,
  ⟨some 24, .append 22 22 false 1 1 (.t 14) (.t 23), none, [0, 14, 23]⟩,
  ⟨some 4, .assign (.t 24), none, []⟩] none [4, 10, 24, 49, 77, 100000])
 .ret) (.seq (.seq (.reg 5 [⟨some 26, .move (.t 5), none, []⟩,
  ⟨some 27, .bin .lss 92 (.t 26) (.c (Value.int IntKind.u32 55296)) 92, none, [26]⟩,
  ⟨some 25, .assign (.t 27), none, [27]⟩] none [0, 1, 5, 25, 100000])
 (.cond [0, 1, 5, 25, 100000] (.t 25) .skip (.reg 6 [⟨some 28, .move (.t 5), none, []⟩,
  ⟨some 29, .bin .lss 92 (.c (Value.int IntKind.u32 57343)) (.t 28) 92, none, [28]⟩,
  ⟨some 30, .move (.t 29), none, [29]⟩,
  ⟨some 31, .move (.t 5), some (2, true), []⟩,
  ⟨some 32, .bin .leq 92 (.t 31) (.c (Value.int IntKind.u32 65535)) 92, some (2, true), [31]⟩,
  ⟨some 33, .pick (.t 30) (.t 32) (.c (Value.bool false)), none, [30, 32]⟩,
  ⟨some 25, .assign (.t 33), none, [33]⟩] none [0, 1, 5, 25, 100000])))
 k0_utf8_appendRuneNonASCII))))))
def a_utf8_appendRuneNonASCII : AFunc := ⟨78, [.tmp 4], b_utf8_appendRuneNonASCII⟩

def j0_utf8_AppendRune : IR :=
 (.seq (.reg 3 [⟨some 13, .move (.t 0), none, []⟩,
  ⟨some 14, .move (.t 1), none, [1]⟩,
  ⟨some 15, .call n_utf8_appendRuneNonASCII [(.t 13), (.t 14)] [22, 21], none, [0, 13, 14]⟩,
  ⟨some 4, .assign (.t 15), none, []⟩] none [4, 12, 15, 100000])
 .ret)
def k0_utf8_AppendRune : IR := .tail [0, 1, 100000] j0_utf8_AppendRune
def b_utf8_AppendRune : IR :=
 (.seq (.reg 0 [⟨some 4, .assign (.nilS 1), none, [4]⟩] none [0, 1, 100000])
 (.seq (.seq (.reg 1 [⟨some 5, .move (.t 1), none, []⟩,
  ⟨some 6, .conv 21 92 (.int .u32) (.t 5), none, [5]⟩,
  ⟨some 7, .bin .leq 92 (.t 6) (.c (Value.int IntKind.u32 127)) 92, none, [6]⟩] none [0, 1, 7, 100000])
 (.cond [0, 1, 100000] (.t 7) (.seq (.reg 2 [⟨some 8, .move (.t 0), none, []⟩,
  ⟨some 9, .move (.t 1), none, [1]⟩,
  ⟨some 10, .conv 21 5 (.int .u8) (.t 9), none, [9]⟩,
  ⟨some 11, .lit 22 1 [(.t 10)], none, [10]⟩,
  ⟨some 12, .append 22 22 false 1 1 (.t 8) (.t 11), none, [0, 8, 11]⟩,
  ⟨some 4, .assign (.t 12), none, []⟩] none [4, 12, 15, 100000])
 .ret) .skip))
 k0_utf8_AppendRune))
def a_utf8_AppendRune : AFunc := ⟨16, [.tmp 4], b_utf8_AppendRune⟩

def j0_json_quoted : IR :=
 (.block 1 (.seq (.reg 4 [⟨some 15, .extr (.t 13) 2, none, [13]⟩,
  ⟨some 6, .assign (.t 15), none, [15]⟩] none [0, 6, 10, 12, 20, 32, 44, 100000])
 (.seq (.reg 5 [⟨some 16, .move (.t 6), none, []⟩,
  ⟨some 17, .call n_strings_IndexRune [(.c (Value.string { data := #[34, 92, 47, 8, 12, 10, 13, 9] })), (.t 16)] [9, 21], none, [16]⟩,
  ⟨some 7, .assign (.t 17), none, [17]⟩] none [0, 6, 7, 10, 12, 20, 32, 44, 100000])
 (.block 2 (.seq (.reg 7 [⟨some 22, .move (.t 6), none, []⟩,
  ⟨some 23, .bin .neq 21 (.t 22) (.c (Value.int IntKind.i32 47)) 21, none, [22]⟩,
  ⟨some 24, .move (.t 23), none, [23]⟩,
  ⟨some 25, .move (.t 7), some (2, true), []⟩,
  ⟨some 26, .bin .geq 3 (.t 25) (.c (Value.int IntKind.i64 0)) 3, some (2, true), [25]⟩,
  ⟨some 27, .pick (.t 24) (.t 26) (.c (Value.bool false)), none, [24, 26]⟩,
  ⟨some 21, .assign (.t 27), none, [27]⟩] none [0, 6, 7, 10, 12, 20, 21, 32, 44, 100000])
 (.cond [0, 6, 7, 10, 12, 20, 32, 44, 100000] (.t 21) (.reg 8 [⟨some 28, .move (.t 0), none, []⟩,
  ⟨some 29, .move (.t 7), none, [7]⟩,
  ⟨some 30, .index 9 .str none (.c (Value.string { data := #[34, 92, 47, 98, 102, 110, 114, 116] })) (.t 29), none, [29]⟩,
  ⟨some 31, .lit 22 1 [(.c (Value.int IntKind.u8 92)), (.t 30)], none, [30]⟩,
  ⟨some 32, .append 22 22 false 1 1 (.t 28) (.t 31), none, [28, 31]⟩,
  ⟨some 0, .assign (.t 32), none, []⟩] none [0, 10, 12, 20, 32, 44, 100000]) (.seq (.reg 9 [⟨some 34, .move (.t 6), none, []⟩,
  ⟨some 35, .bin .lss 21 (.t 34) (.c (Value.int IntKind.i32 32)) 21, none, [34]⟩,
  ⟨some 33, .assign (.t 35), none, [35]⟩] none [0, 6, 10, 12, 20, 32, 33, 44, 100000])
 (.cond [0, 6, 10, 12, 20, 32, 44, 100000] (.t 33) (.reg 10 [⟨some 36, .move (.t 0), none, []⟩,
  ⟨some 37, .move (.t 6), none, []⟩,
  ⟨some 38, .bin .shr 21 (.t 37) (.c (Value.int IntKind.u64 4)) 74, none, [37]⟩,
  ⟨some 39, .index 9 .str none (.c (Value.string { data := #[48, 49, 50, 51, 52, 53, 54, 55, 56, 57, 97, 98, 99, 100, 101, 102] })) (.t 38), none, [38]⟩,
  ⟨some 40, .move (.t 6), none, [6]⟩,
  ⟨some 41, .bin .and 21 (.t 40) (.c (Value.int IntKind.i32 15)) 21, none, [40]⟩,
  ⟨some 42, .index 9 .str none (.c (Value.string { data := #[48, 49, 50, 51, 52, 53, 54, 55, 56, 57, 97, 98, 99, 100, 101, 102] })) (.t 41), none, [41]⟩,
  ⟨some 43, .lit 22 1 [(.c (Value.int IntKind.u8 92)), (.c (Value.int IntKind.u8 117)), (.c (Value.int IntKind.u8 48)), (.c (Value.int IntKind.u8 48)), (.t 39), (.t 42)], none, [39, 42]⟩,
  ⟨some 44, .append 22 22 false 1 1 (.t 36) (.t 43), none, [36, 43]⟩,
  ⟨some 0, .assign (.t 44), none, []⟩] (some (.cons ⟨0, []⟩ (.cons ⟨1, []⟩ (.cons ⟨2, []⟩ (.cons ⟨3, []⟩ (.cons ⟨4, []⟩ (.cons ⟨5, []⟩ (.cons ⟨6, []⟩ (.cons ⟨7, []⟩ (.cons ⟨8, []⟩ (.cons ⟨9, []⟩ .nil))))))))))) [0, 10, 12, 20, 32, 44, 100000]) (.reg 6 [⟨some 18, .move (.t 0), none, []⟩,
  ⟨some 19, .move (.t 6), none, [6]⟩,
  ⟨some 20, .call n_utf8_AppendRune [(.t 18), (.t 19)] [22, 21], none, [18, 19]⟩,
  ⟨some 0, .assign (.t 20), none, []⟩] none [0, 10, 12, 20, 32, 44, 100000])))))))))
def k0_json_quoted : IR := .tail [0, 10, 12, 13, 20, 32, 44, 100000] j0_json_quoted
def w0_json_quoted : IR :=
 (.seq (.reg 3 [⟨some 13, .next (.t 12), none, []⟩,
  ⟨some 14, .extr (.t 13) 0, none, []⟩] none [0, 10, 12, 13, 14, 20, 32, 44, 100000])
 (.seq (.cond [0, 10, 12, 13, 20, 32, 44, 100000] (.t 14) .skip (.exit 0))
 k0_json_quoted))
def l0_json_quoted : IR := .loop [0, 10, 12, 20, 32, 44, 100000] w0_json_quoted
def j1_json_quoted : IR :=
 (.seq (.reg 11 [⟨some 45, .move (.t 0), none, []⟩,
  ⟨some 46, .lit 22 1 [(.c (Value.int IntKind.u8 34))], none, []⟩,
  ⟨some 47, .append 22 22 false 1 1 (.t 45) (.t 46), none, [0, 10, 20, 32, 44, 45, 46]⟩,
  ⟨some 4, .assign (.t 47), none, []⟩] none [4, 47, 100000])
 .ret)
def k1_json_quoted : IR := .tail [0, 10, 20, 32, 44, 100000] j1_json_quoted
def b_json_quoted : IR :=
 (.seq (.reg 0 [⟨some 4, .assign (.nilS 1), none, [4]⟩] none [0, 1, 10, 20, 32, 44, 100000])
 (.seq (.reg 1 [⟨some 8, .move (.t 0), none, []⟩,
  ⟨some 9, .lit 22 1 [(.c (Value.int IntKind.u8 34))], none, []⟩,
  ⟨some 10, .append 22 22 false 1 1 (.t 8) (.t 9), none, [8, 9]⟩,
  ⟨some 0, .assign (.t 10), none, []⟩] none [0, 1, 10, 20, 32, 44, 100000])
 (.seq (.seq (.reg 2 [⟨some 11, .move (.t 1), none, [1]⟩,
  ⟨some 12, .range 9 (.t 11), none, [11]⟩] none [0, 10, 12, 20, 32, 44, 100000])
 (.block 0 l0_json_quoted))
 k1_json_quoted)))
def a_json_quoted : AFunc := ⟨48, [.tmp 4], b_json_quoted⟩

def j0_json_write : IR :=
 (.reg 23 [⟨some 67, .move (.t 0), none, []⟩,
  ⟨some 68, .load 27 (some 4) (.t 7), none, []⟩,
  ⟨some 69, .call n_json_write [(.t 67), (.t 68)] [22, 27], none, [7, 67, 68]⟩,
  ⟨some 0, .assign (.t 69), none, []⟩] none [0, 3, 5, 41, 42, 43, 44, 45, 54, 66, 69, 100000])
def k0_json_write : IR := .tail [0, 3, 5, 7, 41, 42, 43, 44, 45, 54, 66, 69, 100000] j0_json_write
def j1_json_write : IR :=
 (.seq (.seq (.reg 21 [⟨some 55, .faddr 27 (.t 3) 0 0, none, []⟩,
  ⟨some 56, .load 23 none (.t 55), none, [55]⟩,
  ⟨some 57, .bin .eql 23 (.t 56) (.c (Value.int IntKind.u8 7)) 23, none, [56]⟩] none [0, 3, 5, 6, 7, 41, 42, 43, 44, 45, 54, 57, 66, 69, 100000])
 (.cond [0, 3, 5, 6, 7, 41, 42, 43, 44, 45, 54, 66, 69, 100000] (.t 57) (.reg 22 [⟨some 58, .move (.t 0), none, []⟩,
  ⟨some 59, .faddr 27 (.t 3) 2 2, none, []⟩,
  ⟨some 60, .load 24 none (.t 59), none, []⟩,
  ⟨some 61, .move (.t 6), none, [6]⟩,
  ⟨some 62, .iaddr 24 (.sl 1) (.t 60) (.t 61), none, []⟩,
  ⟨some 63, .load 9 none (.t 62), none, [59, 60, 61, 62]⟩,
  ⟨some 64, .call n_json_quoted [(.t 58), (.t 63)] [22, 9], none, [58, 63]⟩,
  ⟨some 65, .lit 22 1 [(.c (Value.int IntKind.u8 58))], none, []⟩,
  ⟨some 66, .append 22 22 false 1 1 (.t 64) (.t 65), none, [64, 65]⟩,
  ⟨some 0, .assign (.t 66), none, []⟩] none [0, 3, 5, 7, 41, 42, 43, 44, 45, 54, 66, 69, 100000]) .skip))
 k0_json_write)
def k1_json_write : IR := .tail [0, 3, 5, 6, 7, 41, 42, 43, 44, 45, 54, 66, 69, 100000] j1_json_write
def j2_json_write : IR :=
 (.reg 24 [⟨some 70, .bin .add 3 (.t 45) (.c (Value.int IntKind.i64 1)) 3, none, []⟩,
  ⟨some 45, .move (.t 70), none, [70]⟩] none [0, 3, 5, 41, 42, 43, 44, 45, 54, 66, 69, 100000])
def k2_json_write : IR := .tail [0, 3, 5, 41, 42, 43, 44, 45, 54, 66, 69, 100000] j2_json_write
def j3_json_write : IR :=
 (.seq (.block 2 (.seq (.reg 18 [⟨some 47, .move (.t 45), none, []⟩,
  ⟨some 48, .iaddr 25 (.sl 4) (.t 43) (.t 45), none, []⟩,
  ⟨some 49, .load 27 (some 4) (.t 48), none, []⟩,
  ⟨some 7, .alloc 27 [.v (.int .u8 0), .v (.string ⟨#[]⟩), .nil 1, .nil 4], none, []⟩,
  ⟨some 6, .assign (.t 47), none, [47]⟩,
  ⟨none, .store 27 (some 4) (.t 7) (.t 49), none, [48, 49]⟩] none [0, 3, 5, 6, 7, 41, 42, 43, 44, 45, 54, 66, 69, 100000])
 (.seq (.seq (.reg 19 [⟨some 50, .move (.t 6), none, []⟩,
  ⟨some 51, .bin .gtr 3 (.t 50) (.c (Value.int IntKind.i64 0)) 3, none, [50]⟩] none [0, 3, 5, 6, 7, 41, 42, 43, 44, 45, 51, 54, 66, 69, 100000])
 (.cond [0, 3, 5, 6, 7, 41, 42, 43, 44, 45, 54, 66, 69, 100000] (.t 51) (.reg 20 [⟨some 52, .move (.t 0), none, []⟩,
  ⟨some 53, .lit 22 1 [(.c (Value.int IntKind.u8 44))], none, []⟩,
  ⟨some 54, .append 22 22 false 1 1 (.t 52) (.t 53), none, [52, 53]⟩,
  ⟨some 0, .assign (.t 54), none, []⟩] none [0, 3, 5, 6, 7, 41, 42, 43, 44, 45, 54, 66, 69, 100000]) .skip))
 k1_json_write)))
 k2_json_write)
def k3_json_write : IR := .tail [0, 3, 5, 41, 42, 43, 44, 45, 54, 66, 69, 100000] j3_json_write
def w0_json_write : IR :=
 (.seq (.reg 17 [⟨some 46, .bin .lss 3 (.t 45) (.t 44) 3, none, []⟩] none [0, 3, 5, 41, 42, 43, 44, 45, 46, 54, 66, 69, 100000])
 (.seq (.cond [0, 3, 5, 41, 42, 43, 44, 45, 54, 66, 69, 100000] (.t 46) .skip (.exit 1))
 k3_json_write))
def l0_json_write : IR := .loop [0, 3, 5, 41, 42, 43, 44, 45, 54, 66, 69, 100000] w0_json_write
def j4_json_write : IR :=
 (.seq (.reg 25 [⟨some 71, .move (.t 0), none, []⟩,
  ⟨some 72, .move (.t 5), none, [5]⟩,
  ⟨some 73, .index 9 .str none (.t 72) (.c (Value.int IntKind.i64 1)), none, [72]⟩,
  ⟨some 74, .lit 22 1 [(.t 73)], none, [73]⟩,
  ⟨some 75, .append 22 22 false 1 1 (.t 71) (.t 74), none, [0, 41, 54, 66, 69, 71, 74]⟩,
  ⟨some 4, .assign (.t 75), none, []⟩] none [4, 13, 17, 21, 27, 33, 75, 100000])
 .ret)
def k4_json_write : IR := .tail [0, 5, 41, 54, 66, 69, 100000] j4_json_write
def j5_json_write : IR :=
 (.seq (.reg 15 [⟨some 37, .move (.t 0), none, []⟩,
  ⟨some 38, .move (.t 5), none, []⟩,
  ⟨some 39, .index 9 .str none (.t 38) (.c (Value.int IntKind.i64 0)), none, [38]⟩,
  ⟨some 40, .lit 22 1 [(.t 39)], none, [39]⟩,
  ⟨some 41, .append 22 22 false 1 1 (.t 37) (.t 40), none, [37, 40]⟩,
  ⟨some 0, .assign (.t 41), none, []⟩] none [0, 3, 5, 41, 54, 66, 69, 100000])
 (.seq (.seq (.reg 16 [⟨some 42, .faddr 27 (.t 3) 3 3, none, []⟩,
  ⟨some 43, .load 25 none (.t 42), none, []⟩,
  ⟨some 44, .len 25 false (.t 43), none, []⟩,
  ⟨some 45, .move (.c (Value.int IntKind.i64 0)), none, []⟩] none [0, 3, 5, 41, 42, 43, 44, 45, 54, 66, 69, 100000])
 (.block 1 l0_json_write))
 k4_json_write))
def k5_json_write : IR := .tail [0, 3, 5, 41, 54, 66, 69, 100000] j5_json_write
def j6_json_write : IR :=
 (.seq (.reg 12 [⟨some 5, .assign (.c (Value.string { data := #[91, 93] })), none, []⟩] none [0, 3, 5, 41, 54, 66, 69, 100000])
 (.seq (.seq (.reg 13 [⟨some 34, .faddr 27 (.t 3) 0 0, none, []⟩,
  ⟨some 35, .load 23 none (.t 34), none, [34]⟩,
  ⟨some 36, .bin .eql 23 (.t 35) (.c (Value.int IntKind.u8 7)) 23, none, [35]⟩] none [0, 3, 5, 36, 41, 54, 66, 69, 100000])
 (.cond [0, 3, 5, 41, 54, 66, 69, 100000] (.t 36) (.reg 14 [⟨some 5, .assign (.c (Value.string { data := #[123, 125] })), none, []⟩] none [0, 3, 5, 41, 54, 66, 69, 100000]) .skip))
 k5_json_write))
def k6_json_write : IR := .tail [0, 3, 41, 54, 66, 69, 100000] j6_json_write
def b_json_write : IR :=
 (.seq (.reg 0 [⟨some 3, .box 27 (.t 1), none, [1]⟩,
  ⟨some 4, .assign (.nilS 1), none, [4]⟩] none [0, 3, 41, 54, 66, 69, 100000])
 (.seq (.seq (.reg 1 [⟨some 8, .faddr 27 (.t 3) 0 0, none, []⟩,
  ⟨some 9, .load 23 none (.t 8), none, [8]⟩] none [0, 3, 9, 41, 54, 66, 69, 100000])
 (.block 0 (.seq (.reg 2 [⟨some 11, .bin .eql 23 (.t 9) (.c (Value.int IntKind.u8 1)) 23, none, []⟩,
  ⟨some 10, .assign (.t 11), none, [11]⟩] none [0, 3, 9, 10, 41, 54, 66, 69, 100000])
 (.cond [0, 3, 9, 41, 54, 66, 69, 100000] (.t 10) (.seq (.reg 3 [⟨some 12, .move (.t 0), none, []⟩,
  ⟨some 13, .append 22 9 true 1 1 (.t 12) (.c (Value.string { data := #[110, 117, 108, 108] })), none, [0, 12, 41, 54, 66, 69]⟩,
  ⟨some 4, .assign (.t 13), none, []⟩] none [4, 13, 17, 21, 27, 33, 75, 100000])
 .ret) (.seq (.reg 4 [⟨some 15, .bin .eql 23 (.t 9) (.c (Value.int IntKind.u8 2)) 23, none, []⟩,
  ⟨some 14, .assign (.t 15), none, [15]⟩] none [0, 3, 9, 14, 41, 54, 66, 69, 100000])
 (.cond [0, 3, 9, 41, 54, 66, 69, 100000] (.t 14) (.seq (.reg 5 [⟨some 16, .move (.t 0), none, []⟩,
  ⟨some 17, .append 22 9 true 1 1 (.t 16) (.c (Value.string { data := #[102, 97, 108, 115, 101] })), none, [0, 16, 41, 54, 66, 69]⟩,
  ⟨some 4, .assign (.t 17), none, []⟩] none [4, 13, 17, 21, 27, 33, 75, 100000])
 .ret) (.seq (.reg 6 [⟨some 19, .bin .eql 23 (.t 9) (.c (Value.int IntKind.u8 3)) 23, none, []⟩,
  ⟨some 18, .assign (.t 19), none, [19]⟩] none [0, 3, 9, 18, 41, 54, 66, 69, 100000])
 (.cond [0, 3, 9, 41, 54, 66, 69, 100000] (.t 18) (.seq (.reg 7 [⟨some 20, .move (.t 0), none, []⟩,
  ⟨some 21, .append 22 9 true 1 1 (.t 20) (.c (Value.string { data := #[116, 114, 117, 101] })), none, [0, 20, 41, 54, 66, 69]⟩,
  ⟨some 4, .assign (.t 21), none, []⟩] none [4, 13, 17, 21, 27, 33, 75, 100000])
 .ret) (.seq (.reg 8 [⟨some 23, .bin .eql 23 (.t 9) (.c (Value.int IntKind.u8 4)) 23, none, []⟩,
  ⟨some 22, .assign (.t 23), none, [23]⟩] none [0, 3, 9, 22, 41, 54, 66, 69, 100000])
 (.cond [0, 3, 9, 41, 54, 66, 69, 100000] (.t 22) (.seq (.reg 9 [⟨some 24, .move (.t 0), none, []⟩,
  ⟨some 25, .faddr 27 (.t 3) 1 1, none, []⟩,
  ⟨some 26, .load 9 none (.t 25), none, [3, 25]⟩,
  ⟨some 27, .append 22 9 true 1 1 (.t 24) (.t 26), none, [0, 24, 26, 41, 54, 66, 69]⟩,
  ⟨some 4, .assign (.t 27), none, []⟩] none [4, 13, 17, 21, 27, 33, 75, 100000])
 .ret) (.seq (.reg 10 [⟨some 29, .bin .eql 23 (.t 9) (.c (Value.int IntKind.u8 5)) 23, none, [9]⟩,
  ⟨some 28, .assign (.t 29), none, [29]⟩] none [0, 3, 28, 41, 54, 66, 69, 100000])
 (.cond [0, 3, 41, 54, 66, 69, 100000] (.t 28) (.seq (.reg 11 [⟨some 30, .move (.t 0), none, []⟩,
  ⟨some 31, .faddr 27 (.t 3) 1 1, none, []⟩,
  ⟨some 32, .load 9 none (.t 31), none, [3, 31]⟩,
  ⟨some 33, .call n_json_quoted [(.t 30), (.t 32)] [22, 9], none, [0, 30, 32, 41, 54, 66, 69]⟩,
  ⟨some 4, .assign (.t 33), none, []⟩] none [4, 13, 17, 21, 27, 33, 75, 100000])
 .ret) .skip))))))))))))
 k6_json_write))
def a_json_write : AFunc := ⟨76, [.tmp 4], b_json_write⟩

def j0_json_Print : IR :=
 (.seq (.reg 7 [⟨some 16, .move (.t 5), none, []⟩,
  ⟨some 2, .assign (.t 16), none, []⟩,
  ⟨some 3, .assign (.c (Value.int IntKind.i64 0)), none, []⟩] none [2, 3, 5, 12, 16])
 .ret)
def k0_json_Print : IR := .tail [5, 12] j0_json_Print
def j1_json_Print : IR :=
 (.seq (.reg 4 [⟨some 11, .load 27 (some 4) (.t 1), none, []⟩,
  ⟨some 12, .call n_json_write [(.nilS 1), (.t 11)] [22, 27], none, [1, 11]⟩,
  ⟨some 5, .assign (.t 12), none, []⟩] none [5, 12])
 (.seq (.seq (.reg 5 [⟨some 13, .move (.t 5), none, []⟩,
  ⟨some 14, .len 22 false (.t 13), none, [13]⟩,
  ⟨some 15, .bin .gtr 3 (.t 14) (.c (Value.int IntKind.i64 16777216)) 3, none, [14]⟩] none [5, 12, 15])
 (.cond [5, 12] (.t 15) (.seq (.reg 6 [⟨some 2, .assign (.nilS 1), none, []⟩,
  ⟨some 3, .assign (.c (Value.int IntKind.i64 4)), none, []⟩] none [2, 3, 5, 12, 16])
 .ret) .skip))
 k0_json_Print))
def k1_json_Print : IR := .tail [1] j1_json_Print
def b_json_Print : IR :=
 (.seq (.reg 0 [⟨some 1, .box 27 (.t 0), none, [0]⟩,
  ⟨some 2, .assign (.nilS 1), none, [2]⟩,
  ⟨some 3, .assign (.c (Value.int IntKind.i64 0)), none, [3]⟩] none [1])
 (.seq (.seq (.reg 1 [⟨some 6, .load 27 (some 4) (.t 1), none, []⟩,
  ⟨some 7, .call n_json_Check [(.t 6)] [27], none, [6]⟩,
  ⟨some 4, .assign (.t 7), none, [7]⟩] none [1, 4])
 (.seq (.reg 2 [⟨some 8, .move (.t 4), none, []⟩,
  ⟨some 9, .bin .neq 28 (.t 8) (.c (Value.int IntKind.i64 0)) 28, none, [8]⟩] none [1, 4, 9])
 (.cond [1, 4] (.t 9) (.seq (.reg 3 [⟨some 10, .move (.t 4), none, [4]⟩,
  ⟨some 2, .assign (.nilS 1), none, []⟩,
  ⟨some 3, .assign (.t 10), none, [10]⟩] none [2, 3, 5, 12, 16])
 .ret) .skip)))
 k1_json_Print))
def a_json_Print : AFunc := ⟨17, [.tmp 2, .tmp 3], b_json_Print⟩

def j0_json_Copy : IR :=
 (.reg 7 [⟨some 31, .bin .add 3 (.t 20) (.c (Value.int IntKind.i64 1)) 3, none, []⟩,
  ⟨some 20, .move (.t 31), none, [31]⟩] none [1, 2, 3, 17, 18, 19, 20])
def k0_json_Copy : IR := .tail [1, 2, 3, 17, 18, 19, 20] j0_json_Copy
def j1_json_Copy : IR :=
 (.seq (.block 1 (.seq (.reg 5 [⟨some 22, .iaddr 25 (.sl 4) (.t 18) (.t 20), none, []⟩,
  ⟨some 23, .load 27 (some 4) (.t 22), none, []⟩,
  ⟨some 5, .alloc 27 [.v (.int .u8 0), .v (.string ⟨#[]⟩), .nil 1, .nil 4], none, []⟩,
  ⟨none, .store 27 (some 4) (.t 5) (.t 23), none, [22, 23]⟩] none [1, 2, 3, 5, 17, 18, 19, 20])
 (.reg 6 [⟨some 24, .faddr 27 (.t 3) 3 3, none, []⟩,
  ⟨some 25, .load 25 none (.t 24), none, []⟩,
  ⟨some 26, .load 27 (some 4) (.t 5), none, []⟩,
  ⟨some 27, .call n_json_Copy [(.t 26)] [27], none, [5, 26]⟩,
  ⟨some 28, .lit 25 4 [(.t 27)], none, [27]⟩,
  ⟨some 29, .append 25 25 false 4 72 (.t 25) (.t 28), none, [24, 25, 28]⟩,
  ⟨some 30, .faddr 27 (.t 3) 3 3, none, []⟩,
  ⟨none, .store 25 none (.t 30) (.t 29), none, [29, 30]⟩] (some (.cons ⟨0, []⟩ (.cons ⟨1, []⟩ (.cons ⟨2, []⟩ (.cons ⟨3, [1]⟩ (.cons ⟨4, [1]⟩ (.cons ⟨5, []⟩ (.cons ⟨6, []⟩ (.cons ⟨7, []⟩ .nil))))))))) [1, 2, 3, 17, 18, 19, 20])))
 k0_json_Copy)
def k1_json_Copy : IR := .tail [1, 2, 3, 17, 18, 19, 20] j1_json_Copy
def w0_json_Copy : IR :=
 (.seq (.reg 4 [⟨some 21, .bin .lss 3 (.t 20) (.t 19) 3, none, []⟩] none [1, 2, 3, 17, 18, 19, 20, 21])
 (.seq (.cond [1, 2, 3, 17, 18, 19, 20] (.t 21) .skip (.exit 0))
 k1_json_Copy))
def l0_json_Copy : IR := .loop [1, 2, 3, 17, 18, 19, 20] w0_json_Copy
def j2_json_Copy : IR :=
 (.seq (.reg 8 [⟨some 32, .load 27 (some 4) (.t 3), none, []⟩,
  ⟨none, .store 27 (some 4) (.t 2) (.t 32), none, [3, 32]⟩] none [2])
 .ret)
def k2_json_Copy : IR := .tail [2, 3] j2_json_Copy
def b_json_Copy : IR :=
 (.seq (.reg 0 [⟨some 1, .box 27 (.t 0), none, [0]⟩,
  ⟨some 2, .alloc 27 [.v (.int .u8 0), .v (.string ⟨#[]⟩), .nil 1, .nil 4], none, []⟩] none [1, 2])
 (.seq (.reg 1 [⟨some 6, .faddr 27 (.t 1) 0 0, none, []⟩,
  ⟨some 7, .load 23 none (.t 6), none, [6]⟩,
  ⟨some 8, .faddr 27 (.t 1) 1 1, none, []⟩,
  ⟨some 9, .load 9 none (.t 8), none, [8]⟩,
  ⟨some 10, .build 27 [(0, 1), (1, 1), (2, 1), (3, 1)] [.v (.int .u8 0), .v (.string ⟨#[]⟩), .nil 1, .nil 4] [(0, (.t 7)), (1, (.t 9))], none, []⟩,
  ⟨some 3, .alloc 27 [.v (.int .u8 0), .v (.string ⟨#[]⟩), .nil 1, .nil 4], none, []⟩,
  ⟨none, .store 27 (some 4) (.t 3) (.t 10), none, [7, 9, 10]⟩] none [1, 2, 3])
 (.seq (.reg 2 [⟨some 11, .faddr 27 (.t 3) 2 2, none, []⟩,
  ⟨some 12, .load 24 none (.t 11), none, []⟩,
  ⟨some 13, .faddr 27 (.t 1) 2 2, none, []⟩,
  ⟨some 14, .load 24 none (.t 13), none, []⟩,
  ⟨some 15, .append 24 24 false 1 16 (.t 12) (.t 14), none, [11, 12, 13, 14]⟩,
  ⟨some 16, .faddr 27 (.t 3) 2 2, none, []⟩,
  ⟨none, .store 24 none (.t 16) (.t 15), none, [15, 16]⟩] none [1, 2, 3])
 (.seq (.seq (.reg 3 [⟨some 17, .faddr 27 (.t 1) 3 3, none, []⟩,
  ⟨some 18, .load 25 none (.t 17), none, []⟩,
  ⟨some 19, .len 25 false (.t 18), none, []⟩,
  ⟨some 20, .move (.c (Value.int IntKind.i64 0)), none, []⟩] none [1, 2, 3, 17, 18, 19, 20])
 (.block 0 l0_json_Copy))
 k2_json_Copy))))
def a_json_Copy : AFunc := ⟨33, [.cell 2 27 (some 4)], b_json_Copy⟩

def j0_slices_Index_string_string : IR :=
 (.reg 6 [⟨some 18, .bin .add 3 (.t 8) (.c (Value.int IntKind.i64 1)) 3, none, []⟩,
  ⟨some 8, .move (.t 18), none, [18]⟩] none [0, 1, 7, 8])
def k0_slices_Index_string_string : IR := .tail [0, 1, 7, 8] j0_slices_Index_string_string
def j1_slices_Index_string_string : IR :=
 (.seq (.block 1 (.seq (.reg 3 [⟨some 10, .move (.t 8), none, []⟩,
  ⟨some 5, .assign (.t 10), none, [10]⟩] none [0, 1, 5, 7, 8])
 (.seq (.reg 4 [⟨some 11, .move (.t 1), none, []⟩,
  ⟨some 12, .move (.t 0), none, []⟩,
  ⟨some 13, .move (.t 5), none, []⟩,
  ⟨some 14, .iaddr 24 (.sl 1) (.t 12) (.t 13), none, []⟩,
  ⟨some 15, .load 9 none (.t 14), none, [12, 13, 14]⟩,
  ⟨some 16, .bin .eql 9 (.t 11) (.t 15) 9, none, [11, 15]⟩] none [0, 1, 5, 7, 8, 16])
 (.cond [0, 1, 5, 7, 8] (.t 16) (.seq (.reg 5 [⟨some 17, .move (.t 5), none, [5]⟩,
  ⟨some 4, .assign (.t 17), none, [17]⟩] none [4])
 .ret) .skip))))
 k0_slices_Index_string_string)
def k1_slices_Index_string_string : IR := .tail [0, 1, 7, 8] j1_slices_Index_string_string
def w0_slices_Index_string_string : IR :=
 (.seq (.reg 2 [⟨some 9, .bin .lss 3 (.t 8) (.t 7) 3, none, []⟩] none [0, 1, 7, 8, 9])
 (.seq (.cond [0, 1, 7, 8] (.t 9) .skip (.exit 0))
 k1_slices_Index_string_string))
def l0_slices_Index_string_string : IR := .loop [0, 1, 7, 8] w0_slices_Index_string_string
def j2_slices_Index_string_string : IR :=
 (.seq (.reg 7 [⟨some 4, .assign (.c (Value.int IntKind.i64 (-1))), none, []⟩] none [4])
 .ret)
def k2_slices_Index_string_string : IR := .tail [] j2_slices_Index_string_string
def b_slices_Index_string_string : IR :=
 (.seq (.reg 0 [⟨some 4, .assign (.c (Value.int IntKind.i64 0)), none, [4]⟩] none [0, 1])
 (.seq (.seq (.reg 1 [⟨some 6, .move (.t 0), none, []⟩,
  ⟨some 7, .len 24 false (.t 6), none, [6]⟩,
  ⟨some 8, .move (.c (Value.int IntKind.i64 0)), none, []⟩] none [0, 1, 7, 8])
 (.block 0 l0_slices_Index_string_string))
 k2_slices_Index_string_string))
def a_slices_Index_string_string : AFunc := ⟨19, [.tmp 4], b_slices_Index_string_string⟩

def j0_json_Get : IR :=
 (.seq (.reg 6 [⟨some 30, .build 27 [(0, 1), (1, 1), (2, 1), (3, 1)] [.v (.int .u8 0), .v (.string ⟨#[]⟩), .nil 1, .nil 4] [], none, []⟩,
  ⟨none, .store 27 (some 4) (.t 4) (.t 30), none, [30]⟩,
  ⟨some 5, .assign (.c (Value.bool false)), none, []⟩] none [4, 5])
 .ret)
def k0_json_Get : IR := .tail [4] j0_json_Get
def j1_json_Get : IR :=
 (.seq (.seq (.reg 3 [⟨some 11, .faddr 27 (.t 2) 2 2, none, []⟩,
  ⟨some 12, .load 24 none (.t 11), none, []⟩,
  ⟨some 13, .move (.t 1), none, [1]⟩,
  ⟨some 14, .call n_slices_Index_string_string [(.t 12), (.t 13)] [24, 9], none, [11, 12, 13]⟩,
  ⟨some 6, .assign (.t 14), none, [14]⟩] none [2, 4, 6])
 (.seq (.reg 4 [⟨some 15, .move (.t 6), none, []⟩,
  ⟨some 16, .bin .geq 3 (.t 15) (.c (Value.int IntKind.i64 0)) 3, none, [15]⟩,
  ⟨some 17, .move (.t 16), none, [16]⟩,
  ⟨some 18, .move (.t 6), some (2, true), []⟩,
  ⟨some 19, .faddr 27 (.t 2) 3 3, some (2, true), []⟩,
  ⟨some 20, .load 25 none (.t 19), some (2, true), []⟩,
  ⟨some 21, .len 25 false (.t 20), some (2, true), [19, 20]⟩,
  ⟨some 22, .bin .lss 3 (.t 18) (.t 21) 3, some (2, true), [18, 21]⟩,
  ⟨some 23, .pick (.t 17) (.t 22) (.c (Value.bool false)), none, [17, 22]⟩] none [2, 4, 6, 23])
 (.cond [2, 4, 6] (.t 23) (.seq (.reg 5 [⟨some 24, .faddr 27 (.t 2) 3 3, none, []⟩,
  ⟨some 25, .load 25 none (.t 24), none, []⟩,
  ⟨some 26, .move (.t 6), none, [6]⟩,
  ⟨some 27, .iaddr 25 (.sl 4) (.t 25) (.t 26), none, []⟩,
  ⟨some 28, .load 27 (some 4) (.t 27), none, []⟩,
  ⟨some 29, .call n_json_Copy [(.t 28)] [27], none, [2, 24, 25, 26, 27, 28]⟩,
  ⟨none, .store 27 (some 4) (.t 4) (.t 29), none, [29]⟩,
  ⟨some 5, .assign (.c (Value.bool true)), none, []⟩] none [4, 5])
 .ret) .skip)))
 k0_json_Get)
def k1_json_Get : IR := .tail [1, 2, 4] j1_json_Get
def b_json_Get : IR :=
 (.seq (.reg 0 [⟨some 2, .box 27 (.t 0), none, [0]⟩,
  ⟨some 4, .alloc 27 [.v (.int .u8 0), .v (.string ⟨#[]⟩), .nil 1, .nil 4], none, []⟩,
  ⟨some 5, .assign (.c (Value.bool false)), none, [5]⟩] none [1, 2, 4])
 (.seq (.seq (.reg 1 [⟨some 7, .faddr 27 (.t 2) 0 0, none, []⟩,
  ⟨some 8, .load 23 none (.t 7), none, [7]⟩,
  ⟨some 9, .bin .neq 23 (.t 8) (.c (Value.int IntKind.u8 7)) 23, none, [8]⟩] none [1, 2, 4, 9])
 (.cond [1, 2, 4] (.t 9) (.seq (.reg 2 [⟨some 10, .build 27 [(0, 1), (1, 1), (2, 1), (3, 1)] [.v (.int .u8 0), .v (.string ⟨#[]⟩), .nil 1, .nil 4] [], none, []⟩,
  ⟨none, .store 27 (some 4) (.t 4) (.t 10), none, [10]⟩,
  ⟨some 5, .assign (.c (Value.bool false)), none, []⟩] none [4, 5])
 .ret) .skip))
 k1_json_Get))
def a_json_Get : AFunc := ⟨31, [.cell 4 27 (some 4), .tmp 5], b_json_Get⟩

def b_thicketlaw10_begins : IR :=
 (.seq (.reg 0 [⟨some 0, .assign (.c (Value.bool false)), none, [0]⟩] none [])
 (.seq (.reg 1 [⟨some 9, .lit 22 1 [(.c (Value.int IntKind.u8 32)), (.c (Value.int IntKind.u8 123)), (.c (Value.int IntKind.u8 34)), (.c (Value.int IntKind.u8 97)), (.c (Value.int IntKind.u8 34)), (.c (Value.int IntKind.u8 32)), (.c (Value.int IntKind.u8 58)), (.c (Value.int IntKind.u8 32)), (.c (Value.int IntKind.u8 91)), (.c (Value.int IntKind.u8 49)), (.c (Value.int IntKind.u8 44)), (.c (Value.int IntKind.u8 32)), (.c (Value.int IntKind.u8 110)), (.c (Value.int IntKind.u8 117)), (.c (Value.int IntKind.u8 108)), (.c (Value.int IntKind.u8 108)), (.c (Value.int IntKind.u8 93)), (.c (Value.int IntKind.u8 125)), (.c (Value.int IntKind.u8 32))], none, []⟩,
  ⟨some 10, .mark 22 (.t 9), none, [9]⟩,
  ⟨some 11, .call n_json_Parse [(.t 10)] [22], none, [10]⟩,
  ⟨some 8, .move (.t 11), none, []⟩,
  ⟨some 12, .extr (.t 8) 0, none, []⟩,
  ⟨some 13, .extr (.t 8) 1, none, []⟩,
  ⟨some 14, .extr (.t 8) 2, none, []⟩,
  ⟨some 1, .alloc 27 [.v (.int .u8 0), .v (.string ⟨#[]⟩), .nil 1, .nil 4], none, []⟩,
  ⟨none, .store 27 (some 4) (.t 1) (.t 12), none, [8, 11, 12]⟩,
  ⟨some 2, .assign (.t 13), none, [13]⟩,
  ⟨some 3, .assign (.t 14), none, [14]⟩] none [1, 2, 3])
 (.seq (.reg 2 [⟨some 16, .load 27 (some 4) (.t 1), none, []⟩,
  ⟨some 17, .call n_json_Print [(.t 16)] [27], none, [16]⟩,
  ⟨some 15, .move (.t 17), none, []⟩,
  ⟨some 18, .extr (.t 15) 0, none, []⟩,
  ⟨some 19, .extr (.t 15) 1, none, []⟩,
  ⟨some 4, .assign (.t 18), none, []⟩,
  ⟨some 5, .assign (.t 19), none, [19]⟩] none [1, 2, 3, 4, 5, 15, 17, 18])
 (.seq (.reg 3 [⟨some 21, .load 27 (some 4) (.t 1), none, []⟩,
  ⟨some 22, .call n_json_Get [(.t 21), (.c (Value.string { data := #[97] }))] [27, 9], none, [1, 21]⟩,
  ⟨some 20, .move (.t 22), none, []⟩,
  ⟨some 23, .extr (.t 20) 0, none, []⟩,
  ⟨some 24, .extr (.t 20) 1, none, []⟩,
  ⟨some 6, .alloc 27 [.v (.int .u8 0), .v (.string ⟨#[]⟩), .nil 1, .nil 4], none, []⟩,
  ⟨none, .store 27 (some 4) (.t 6) (.t 23), none, [20, 22, 23]⟩,
  ⟨some 7, .assign (.t 24), none, [24]⟩] none [2, 3, 4, 5, 6, 7, 15, 17, 18])
 (.seq (.reg 4 [⟨some 25, .move (.t 2), none, [2]⟩,
  ⟨some 26, .bin .eql 28 (.t 25) (.c (Value.int IntKind.i64 0)) 28, none, [25]⟩,
  ⟨some 27, .move (.t 26), none, [26]⟩,
  ⟨some 28, .move (.t 3), some (2, true), [3]⟩,
  ⟨some 29, .bin .eql 3 (.t 28) (.c (Value.int IntKind.i64 0)) 3, some (2, true), [28]⟩,
  ⟨some 30, .pick (.t 27) (.t 29) (.c (Value.bool false)), none, [27, 29]⟩,
  ⟨some 31, .move (.t 30), none, [30]⟩,
  ⟨some 32, .move (.t 5), some (6, true), [5]⟩,
  ⟨some 33, .bin .eql 28 (.t 32) (.c (Value.int IntKind.i64 0)) 28, some (6, true), [32]⟩,
  ⟨some 34, .pick (.t 31) (.t 33) (.c (Value.bool false)), none, [31, 33]⟩,
  ⟨some 35, .move (.t 34), none, [34]⟩,
  ⟨some 36, .move (.t 4), some (10, true), []⟩,
  ⟨some 37, .conv 22 9 .bytes (.t 36), some (10, true), [4, 15, 17, 18, 36]⟩,
  ⟨some 38, .bin .eql 9 (.t 37) (.c (Value.string { data := #[123, 34, 97, 34, 58, 91, 49, 44, 110, 117, 108, 108, 93, 125] })) 9, some (10, true), [37]⟩,
  ⟨some 39, .pick (.t 35) (.t 38) (.c (Value.bool false)), none, [35, 38]⟩,
  ⟨some 40, .move (.t 39), none, [39]⟩,
  ⟨some 41, .move (.t 7), some (15, true), [7]⟩,
  ⟨some 42, .pick (.t 40) (.t 41) (.c (Value.bool false)), none, [40, 41]⟩,
  ⟨some 43, .move (.t 42), none, [42]⟩,
  ⟨some 44, .faddr 27 (.t 6) 3 3, some (18, true), []⟩,
  ⟨some 45, .load 25 none (.t 44), some (18, true), []⟩,
  ⟨some 46, .len 25 false (.t 45), some (18, true), [44, 45]⟩,
  ⟨some 47, .bin .eql 3 (.t 46) (.c (Value.int IntKind.i64 2)) 3, some (18, true), [46]⟩,
  ⟨some 48, .pick (.t 43) (.t 47) (.c (Value.bool false)), none, [43, 47]⟩,
  ⟨some 49, .move (.t 48), none, [48]⟩,
  ⟨some 50, .faddr 27 (.t 6) 3 3, some (24, true), []⟩,
  ⟨some 51, .load 25 none (.t 50), some (24, true), []⟩,
  ⟨some 52, .iaddr 25 (.sl 4) (.t 51) (.c (Value.int IntKind.i64 0)), some (24, true), []⟩,
  ⟨some 53, .faddr 27 (.t 52) 1 1, some (24, true), []⟩,
  ⟨some 54, .load 9 none (.t 53), some (24, true), [6, 50, 51, 52, 53]⟩,
  ⟨some 55, .bin .eql 9 (.t 54) (.c (Value.string { data := #[49] })) 9, some (24, true), [54]⟩,
  ⟨some 56, .pick (.t 49) (.t 55) (.c (Value.bool false)), none, [49, 55]⟩,
  ⟨some 0, .assign (.t 56), none, [56]⟩] none [0])
 .ret)))))
def a_thicketlaw10_begins : AFunc := ⟨57, [.tmp 0], b_thicketlaw10_begins⟩

def j0_thicketlaw10_JsonBack : IR :=
 (.seq (.reg 14 [⟨some 86, .move (.t 12), none, []⟩,
  ⟨some 87, .call n_json_Parse [(.t 86)] [22], none, [12, 66, 68, 69, 86]⟩,
  ⟨some 85, .move (.t 87), none, []⟩,
  ⟨some 88, .extr (.t 85) 0, none, []⟩,
  ⟨some 89, .extr (.t 85) 1, none, []⟩,
  ⟨some 90, .extr (.t 85) 2, none, []⟩,
  ⟨some 14, .alloc 27 [.v (.int .u8 0), .v (.string ⟨#[]⟩), .nil 1, .nil 4], none, []⟩,
  ⟨none, .store 27 (some 4) (.t 14) (.t 88), none, [85, 87, 88]⟩,
  ⟨some 15, .assign (.t 89), none, [89]⟩,
  ⟨some 16, .assign (.t 90), none, [16, 90]⟩] none [10, 14, 15])
 (.seq (.reg 15 [⟨some 91, .move (.t 15), none, [15]⟩,
  ⟨some 92, .bin .eql 28 (.t 91) (.c (Value.int IntKind.i64 0)) 28, none, [91]⟩,
  ⟨some 93, .move (.t 92), none, [92]⟩,
  ⟨some 94, .load 27 (some 4) (.t 10), some (2, true), []⟩,
  ⟨some 95, .load 27 (some 4) (.t 14), some (2, true), []⟩,
  ⟨some 96, .call n_thicketref10_Same [(.t 94), (.t 95)] [27, 27], some (2, true), [10, 14, 94, 95]⟩,
  ⟨some 97, .pick (.t 93) (.t 96) (.c (Value.bool false)), none, [93, 96]⟩,
  ⟨some 4, .assign (.t 97), none, [97]⟩] none [4])
 .ret))
def k0_thicketlaw10_JsonBack : IR := .tail [10, 12, 66, 68, 69] j0_thicketlaw10_JsonBack
def j1_thicketlaw10_JsonBack : IR :=
 (.seq (.reg 11 [⟨some 67, .load 27 (some 4) (.t 10), none, []⟩,
  ⟨some 68, .call n_json_Print [(.t 67)] [27], none, [67]⟩,
  ⟨some 66, .move (.t 68), none, []⟩,
  ⟨some 69, .extr (.t 66) 0, none, []⟩,
  ⟨some 70, .extr (.t 66) 1, none, []⟩,
  ⟨some 12, .assign (.t 69), none, []⟩,
  ⟨some 13, .assign (.t 70), none, [70]⟩] none [1, 10, 12, 13, 66, 68, 69])
 (.seq (.seq (.reg 12 [⟨some 71, .move (.t 13), none, [13]⟩,
  ⟨some 72, .bin .neq 28 (.t 71) (.c (Value.int IntKind.i64 0)) 28, none, [71]⟩,
  ⟨some 73, .move (.t 72), none, [72]⟩,
  ⟨some 74, .load 27 (some 4) (.t 10), some (2, false), []⟩,
  ⟨some 75, .call n_json_Check [(.t 74)] [27], some (2, false), [74]⟩,
  ⟨some 76, .bin .neq 28 (.t 75) (.c (Value.int IntKind.i64 0)) 28, some (2, false), [75]⟩,
  ⟨some 77, .pick (.t 73) (.c (Value.bool true)) (.t 76), none, [73, 76]⟩,
  ⟨some 78, .move (.t 77), none, [77]⟩,
  ⟨some 79, .move (.t 12), some (7, false), []⟩,
  ⟨some 80, .len 22 false (.t 79), some (7, false), [79]⟩,
  ⟨some 81, .move (.t 1), some (7, false), []⟩,
  ⟨some 82, .len 22 false (.t 81), some (7, false), [1, 81]⟩,
  ⟨some 83, .bin .gtr 3 (.t 80) (.t 82) 3, some (7, false), [80, 82]⟩,
  ⟨some 84, .pick (.t 78) (.c (Value.bool true)) (.t 83), none, [78, 83]⟩] none [10, 12, 66, 68, 69, 84])
 (.cond [10, 12, 66, 68, 69] (.t 84) (.seq (.reg 13 [⟨some 4, .assign (.c (Value.bool false)), none, []⟩] none [4])
 .ret) .skip))
 k0_thicketlaw10_JsonBack))
def k1_thicketlaw10_JsonBack : IR := .tail [1, 10] j1_thicketlaw10_JsonBack
def j2_thicketlaw10_JsonBack : IR :=
 (.seq (.reg 8 [⟨some 46, .move (.t 1), none, []⟩,
  ⟨some 47, .call n_json_Parse [(.t 46)] [22], none, [46]⟩,
  ⟨some 45, .move (.t 47), none, []⟩,
  ⟨some 48, .extr (.t 45) 0, none, []⟩,
  ⟨some 49, .extr (.t 45) 1, none, []⟩,
  ⟨some 50, .extr (.t 45) 2, none, []⟩,
  ⟨some 10, .alloc 27 [.v (.int .u8 0), .v (.string ⟨#[]⟩), .nil 1, .nil 4], none, []⟩,
  ⟨none, .store 27 (some 4) (.t 10) (.t 48), none, [45, 47, 48]⟩,
  ⟨some 6, .assign (.t 49), none, [49]⟩,
  ⟨some 11, .assign (.t 50), none, [50]⟩] none [1, 6, 10, 11])
 (.seq (.seq (.reg 9 [⟨some 51, .move (.t 6), none, [6]⟩,
  ⟨some 52, .bin .neq 28 (.t 51) (.c (Value.int IntKind.i64 0)) 28, none, [51]⟩] none [1, 10, 11, 52])
 (.cond [1, 10, 11] (.t 52) (.seq (.reg 10 [⟨some 53, .load 27 (some 4) (.t 10), none, []⟩,
  ⟨some 54, .build 27 [(0, 1), (1, 1), (2, 1), (3, 1)] [.v (.int .u8 0), .v (.string ⟨#[]⟩), .nil 1, .nil 4] [], none, []⟩,
  ⟨some 55, .call n_thicketref10_Same [(.t 53), (.t 54)] [27, 27], none, [10, 53, 54]⟩,
  ⟨some 56, .move (.t 55), none, [55]⟩,
  ⟨some 57, .move (.t 11), some (3, true), []⟩,
  ⟨some 58, .bin .geq 3 (.t 57) (.c (Value.int IntKind.i64 0)) 3, some (3, true), [57]⟩,
  ⟨some 59, .pick (.t 56) (.t 58) (.c (Value.bool false)), none, [56, 58]⟩,
  ⟨some 60, .move (.t 59), none, [59]⟩,
  ⟨some 61, .move (.t 11), some (7, true), [11]⟩,
  ⟨some 62, .move (.t 1), some (7, true), []⟩,
  ⟨some 63, .len 22 false (.t 62), some (7, true), [1, 62]⟩,
  ⟨some 64, .bin .leq 3 (.t 61) (.t 63) 3, some (7, true), [61, 63]⟩,
  ⟨some 65, .pick (.t 60) (.t 64) (.c (Value.bool false)), none, [60, 64]⟩,
  ⟨some 4, .assign (.t 65), none, [65]⟩] none [4])
 .ret) .skip))
 k1_thicketlaw10_JsonBack))
def k2_thicketlaw10_JsonBack : IR := .tail [1] j2_thicketlaw10_JsonBack
def j3_thicketlaw10_JsonBack : IR :=
 (.seq (.reg 3 [⟨some 20, .load 27 (some 4) (.t 2), none, []⟩,
  ⟨some 21, .call n_json_Print [(.t 20)] [27], none, [20]⟩,
  ⟨some 19, .move (.t 21), none, []⟩,
  ⟨some 22, .extr (.t 19) 0, none, []⟩,
  ⟨some 23, .extr (.t 19) 1, none, []⟩,
  ⟨some 5, .assign (.t 22), none, []⟩,
  ⟨some 6, .assign (.t 23), none, [23]⟩] none [1, 2, 5, 6, 19, 21, 22])
 (.seq (.seq (.reg 4 [⟨some 24, .move (.t 6), none, [6]⟩,
  ⟨some 25, .bin .eql 28 (.t 24) (.c (Value.int IntKind.i64 0)) 28, none, [24]⟩] none [1, 2, 5, 19, 21, 22, 25])
 (.cond [1, 2, 5, 19, 21, 22] (.t 25) (.seq (.reg 5 [⟨some 27, .move (.t 5), none, []⟩,
  ⟨some 28, .call n_json_Parse [(.t 27)] [22], none, [5, 19, 21, 22, 27]⟩,
  ⟨some 26, .move (.t 28), none, []⟩,
  ⟨some 29, .extr (.t 26) 0, none, []⟩,
  ⟨some 30, .extr (.t 26) 1, none, []⟩,
  ⟨some 31, .extr (.t 26) 2, none, []⟩,
  ⟨some 7, .alloc 27 [.v (.int .u8 0), .v (.string ⟨#[]⟩), .nil 1, .nil 4], none, []⟩,
  ⟨none, .store 27 (some 4) (.t 7) (.t 29), none, [26, 28, 29]⟩,
  ⟨some 8, .assign (.t 30), none, [30]⟩,
  ⟨some 9, .assign (.t 31), none, [9, 31]⟩] none [1, 2, 7, 8])
 (.seq (.reg 6 [⟨some 32, .move (.t 8), none, [8]⟩,
  ⟨some 33, .bin .neq 28 (.t 32) (.c (Value.int IntKind.i64 0)) 28, none, [32]⟩,
  ⟨some 34, .move (.t 33), none, [33]⟩,
  ⟨some 35, .load 27 (some 4) (.t 2), some (2, false), []⟩,
  ⟨some 36, .load 27 (some 4) (.t 7), some (2, false), []⟩,
  ⟨some 37, .call n_thicketref10_Same [(.t 35), (.t 36)] [27, 27], some (2, false), [7, 35, 36]⟩,
  ⟨some 38, .un .not 4 (.t 37), some (2, false), [37]⟩,
  ⟨some 39, .pick (.t 34) (.c (Value.bool true)) (.t 38), none, [34, 38]⟩,
  ⟨some 40, .move (.t 39), none, [39]⟩,
  ⟨some 41, .load 27 (some 4) (.t 2), some (8, false), []⟩,
  ⟨some 42, .call n_json_Check [(.t 41)] [27], some (8, false), [2, 41]⟩,
  ⟨some 43, .bin .neq 28 (.t 42) (.c (Value.int IntKind.i64 0)) 28, some (8, false), [42]⟩,
  ⟨some 44, .pick (.t 40) (.c (Value.bool true)) (.t 43), none, [40, 43]⟩] none [1, 44])
 (.cond [1] (.t 44) (.seq (.reg 7 [⟨some 4, .assign (.c (Value.bool false)), none, []⟩] none [4])
 .ret) .skip))) .skip))
 k2_thicketlaw10_JsonBack))
def k3_thicketlaw10_JsonBack : IR := .tail [1, 2] j3_thicketlaw10_JsonBack
def b_thicketlaw10_JsonBack : IR :=
 (.seq (.reg 0 [⟨some 2, .box 27 (.t 0), none, [0]⟩,
  ⟨some 4, .assign (.c (Value.bool false)), none, [4]⟩] none [1, 2])
 (.seq (.seq (.reg 1 [⟨some 17, .call n_thicketlaw10_begins [] [], none, []⟩,
  ⟨some 18, .un .not 4 (.t 17), none, [17]⟩] none [1, 2, 18])
 (.cond [1, 2] (.t 18) (.seq (.reg 2 [⟨some 4, .assign (.c (Value.bool false)), none, []⟩] none [4])
 .ret) .skip))
 k3_thicketlaw10_JsonBack))
def a_thicketlaw10_JsonBack : AFunc := ⟨98, [.tmp 4], b_thicketlaw10_JsonBack⟩

def j0_thicketlaw10_JsonCuts : IR :=
 (.reg 12 [⟨some 66, .move (.t 10), none, []⟩,
  ⟨some 67, .bin .add 3 (.t 66) (.c (Value.int IntKind.i64 1)) 3, none, [66]⟩,
  ⟨some 10, .assign (.t 67), none, [67]⟩] none [5, 7, 9, 10, 13, 15, 16])
def k0_thicketlaw10_JsonCuts : IR := .tail [5, 7, 9, 10, 13, 15, 16] j0_thicketlaw10_JsonCuts
def j1_thicketlaw10_JsonCuts : IR :=
 (.seq (.block 1 (.seq (.reg 13 [⟨some 68, .move (.t 9), none, []⟩,
  ⟨some 69, .move (.t 7), none, []⟩,
  ⟨some 70, .move (.t 10), none, []⟩,
  ⟨some 71, .bin .sub 3 (.t 69) (.t 70) 3, none, [69, 70]⟩,
  ⟨some 72, .bin .eql 3 (.t 68) (.t 71) 3, none, [68, 71]⟩] none [5, 7, 9, 10, 13, 15, 16, 72])
 (.cond [5, 7, 9, 10, 13, 15, 16] (.t 72) (.seq (.reg 14 [⟨some 73, .move (.t 10), none, []⟩,
  ⟨some 74, .bin .eql 3 (.t 73) (.c (Value.int IntKind.i64 0)) 3, none, [73]⟩,
  ⟨some 75, .move (.t 74), none, [74]⟩,
  ⟨some 76, .move (.t 5), some (2, false), []⟩,
  ⟨some 77, .move (.t 7), some (2, false), [7]⟩,
  ⟨some 78, .move (.t 10), some (2, false), [10]⟩,
  ⟨some 79, .bin .sub 3 (.t 77) (.t 78) 3, some (2, false), [77, 78]⟩,
  ⟨some 80, .iaddr 22 (.sl 1) (.t 76) (.t 79), some (2, false), []⟩,
  ⟨some 81, .load 5 none (.t 80), some (2, false), [5, 13, 15, 16, 76, 79, 80]⟩,
  ⟨some 82, .bin .geq 5 (.t 81) (.c (Value.int IntKind.u8 192)) 5, some (2, false), [81]⟩,
  ⟨some 83, .pick (.t 75) (.c (Value.bool true)) (.t 82), none, [75, 82]⟩,
  ⟨some 4, .assign (.t 83), none, [83]⟩] none [4])
 .ret) .skip)))
 k0_thicketlaw10_JsonCuts)
def k1_thicketlaw10_JsonCuts : IR := .tail [5, 7, 9, 10, 13, 15, 16] j1_thicketlaw10_JsonCuts
def w0_thicketlaw10_JsonCuts : IR :=
 (.seq (.seq (.reg 11 [⟨some 58, .move (.t 10), none, []⟩,
  ⟨some 59, .bin .lss 3 (.t 58) (.c (Value.int IntKind.i64 4)) 3, none, [58]⟩,
  ⟨some 60, .move (.t 59), none, [59]⟩,
  ⟨some 61, .move (.t 7), some (2, true), []⟩,
  ⟨some 62, .move (.t 10), some (2, true), []⟩,
  ⟨some 63, .bin .sub 3 (.t 61) (.t 62) 3, some (2, true), [61, 62]⟩,
  ⟨some 64, .bin .geq 3 (.t 63) (.c (Value.int IntKind.i64 0)) 3, some (2, true), [63]⟩,
  ⟨some 65, .pick (.t 60) (.t 64) (.c (Value.bool false)), none, [60, 64]⟩] none [5, 7, 9, 10, 13, 15, 16, 65])
 (.cond [5, 7, 9, 10, 13, 15, 16] (.t 65) .skip (.exit 0)))
 k1_thicketlaw10_JsonCuts)
def l0_thicketlaw10_JsonCuts : IR := .loop [5, 7, 9, 10, 13, 15, 16] w0_thicketlaw10_JsonCuts
def j2_thicketlaw10_JsonCuts : IR :=
 (.seq (.reg 15 [⟨some 4, .assign (.c (Value.bool false)), none, []⟩] none [4])
 .ret)
def k2_thicketlaw10_JsonCuts : IR := .tail [] j2_thicketlaw10_JsonCuts
def j3_thicketlaw10_JsonCuts : IR :=
 (.seq (.seq (.reg 10 [⟨some 10, .assign (.c (Value.int IntKind.i64 0)), none, []⟩] none [5, 7, 9, 10, 13, 15, 16])
 (.block 0 l0_thicketlaw10_JsonCuts))
 k2_thicketlaw10_JsonCuts)
def k3_thicketlaw10_JsonCuts : IR := .tail [5, 7, 9, 13, 15, 16] j3_thicketlaw10_JsonCuts
def j4_thicketlaw10_JsonCuts : IR :=
 (.seq (.reg 6 [⟨some 35, .move (.t 1), none, [1]⟩,
  ⟨some 36, .conv 3 40 (.int .u64) (.t 35), none, [35]⟩,
  ⟨some 37, .move (.t 5), none, []⟩,
  ⟨some 38, .len 22 false (.t 37), none, [37]⟩,
  ⟨some 39, .conv 3 40 (.int .u64) (.t 38), none, [38]⟩,
  ⟨some 40, .bin .rem 40 (.t 36) (.t 39) 40, none, [36, 39]⟩,
  ⟨some 41, .conv 40 3 (.int .i64) (.t 40), none, [40]⟩,
  ⟨some 7, .assign (.t 41), none, [41]⟩] none [5, 7, 13, 15, 16])
 (.seq (.reg 7 [⟨some 43, .move (.t 5), none, []⟩,
  ⟨some 44, .move (.t 7), none, []⟩,
  ⟨some 45, .slice 22 (.sl 1) (.t 43) none (some (.t 44)) none, none, []⟩,
  ⟨some 46, .call n_json_Parse [(.t 45)] [22], none, [43, 44, 45]⟩,
  ⟨some 42, .move (.t 46), none, []⟩,
  ⟨some 47, .extr (.t 42) 0, none, []⟩,
  ⟨some 48, .extr (.t 42) 1, none, []⟩,
  ⟨some 49, .extr (.t 42) 2, none, []⟩,
  ⟨some 8, .alloc 27 [.v (.int .u8 0), .v (.string ⟨#[]⟩), .nil 1, .nil 4], none, []⟩,
  ⟨none, .store 27 (some 4) (.t 8) (.t 47), none, [42, 46, 47]⟩,
  ⟨some 6, .assign (.t 48), none, [48]⟩,
  ⟨some 9, .assign (.t 49), none, [49]⟩] none [5, 6, 7, 8, 9, 13, 15, 16])
 (.seq (.seq (.reg 8 [⟨some 50, .move (.t 6), none, [6]⟩,
  ⟨some 51, .bin .neq 28 (.t 50) (.c (Value.int IntKind.i64 100)) 28, none, [50]⟩,
  ⟨some 52, .move (.t 51), none, [51]⟩,
  ⟨some 53, .load 27 (some 4) (.t 8), some (2, false), []⟩,
  ⟨some 54, .build 27 [(0, 1), (1, 1), (2, 1), (3, 1)] [.v (.int .u8 0), .v (.string ⟨#[]⟩), .nil 1, .nil 4] [], some (2, false), []⟩,
  ⟨some 55, .call n_thicketref10_Same [(.t 53), (.t 54)] [27, 27], some (2, false), [8, 53, 54]⟩,
  ⟨some 56, .un .not 4 (.t 55), some (2, false), [55]⟩,
  ⟨some 57, .pick (.t 52) (.c (Value.bool true)) (.t 56), none, [52, 56]⟩] none [5, 7, 9, 13, 15, 16, 57])
 (.cond [5, 7, 9, 13, 15, 16] (.t 57) (.seq (.reg 9 [⟨some 4, .assign (.c (Value.bool false)), none, []⟩] none [4])
 .ret) .skip))
 k3_thicketlaw10_JsonCuts)))
def k4_thicketlaw10_JsonCuts : IR := .tail [1, 5, 13, 15, 16] j4_thicketlaw10_JsonCuts
def j5_thicketlaw10_JsonCuts : IR :=
 (.seq (.reg 3 [⟨some 14, .load 27 (some 4) (.t 2), none, []⟩,
  ⟨some 15, .call n_json_Print [(.t 14)] [27], none, [14]⟩,
  ⟨some 13, .move (.t 15), none, []⟩,
  ⟨some 16, .extr (.t 13) 0, none, []⟩,
  ⟨some 17, .extr (.t 13) 1, none, []⟩,
  ⟨some 5, .assign (.t 16), none, []⟩,
  ⟨some 6, .assign (.t 17), none, [17]⟩] none [1, 2, 5, 6, 13, 15, 16])
 (.seq (.seq (.reg 4 [⟨some 18, .move (.t 6), none, [6]⟩,
  ⟨some 19, .bin .neq 28 (.t 18) (.c (Value.int IntKind.i64 0)) 28, none, [18]⟩,
  ⟨some 20, .move (.t 19), none, [19]⟩,
  ⟨some 21, .faddr 27 (.t 2) 0 0, some (2, false), []⟩,
  ⟨some 22, .load 23 none (.t 21), some (2, false), [21]⟩,
  ⟨some 23, .bin .neq 23 (.t 22) (.c (Value.int IntKind.u8 6)) 23, some (2, false), [22]⟩,
  ⟨some 24, .move (.t 23), some (2, false), [23]⟩,
  ⟨some 25, .faddr 27 (.t 2) 0 0, some (6, true), []⟩,
  ⟨some 26, .load 23 none (.t 25), some (6, true), [25]⟩,
  ⟨some 27, .bin .neq 23 (.t 26) (.c (Value.int IntKind.u8 7)) 23, some (6, true), [26]⟩,
  ⟨some 28, .pick (.t 24) (.t 27) (.c (Value.bool false)), some (2, false), [24, 27]⟩,
  ⟨some 29, .move (.t 28), some (2, false), [28]⟩,
  ⟨some 30, .faddr 27 (.t 2) 0 0, some (11, true), []⟩,
  ⟨some 31, .load 23 none (.t 30), some (11, true), [2, 30]⟩,
  ⟨some 32, .bin .neq 23 (.t 31) (.c (Value.int IntKind.u8 5)) 23, some (11, true), [31]⟩,
  ⟨some 33, .pick (.t 29) (.t 32) (.c (Value.bool false)), some (2, false), [29, 32]⟩,
  ⟨some 34, .pick (.t 20) (.c (Value.bool true)) (.t 33), none, [20, 33]⟩] none [1, 5, 13, 15, 16, 34])
 (.cond [1, 5, 13, 15, 16] (.t 34) (.seq (.reg 5 [⟨some 4, .assign (.c (Value.bool true)), none, []⟩] none [4])
 .ret) .skip))
 k4_thicketlaw10_JsonCuts))
def k5_thicketlaw10_JsonCuts : IR := .tail [1, 2] j5_thicketlaw10_JsonCuts
def b_thicketlaw10_JsonCuts : IR :=
 (.seq (.reg 0 [⟨some 2, .box 27 (.t 0), none, [0]⟩,
  ⟨some 4, .assign (.c (Value.bool false)), none, [4]⟩] none [1, 2])
 (.seq (.seq (.reg 1 [⟨some 11, .call n_thicketlaw10_begins [] [], none, []⟩,
  ⟨some 12, .un .not 4 (.t 11), none, [11]⟩] none [1, 2, 12])
 (.cond [1, 2] (.t 12) (.seq (.reg 2 [⟨some 4, .assign (.c (Value.bool false)), none, []⟩] none [4])
 .ret) .skip))
 k5_thicketlaw10_JsonCuts))
def a_thicketlaw10_JsonCuts : AFunc := ⟨84, [.tmp 4], b_thicketlaw10_JsonCuts⟩

def fnTab : List (FuncId × AFunc) := [(n_json_Parse_1, a_json_Parse_1), (n_json_reader_blanks, a_json_reader_blanks), (n_json_reader_fail, a_json_reader_fail), (n_json_reader_byte, a_json_reader_byte), (n_json_reader_want, a_json_reader_want), (n_stringslite_IndexByte, a_stringslite_IndexByte), (n_strings_IndexByte, a_strings_IndexByte), (n_json_reader_four, a_json_reader_four), (n_json_reader_cutOff, a_json_reader_cutOff), (n_json_reader_escape, a_json_reader_escape), (n_utf8_decodeRuneSlow, a_utf8_decodeRuneSlow), (n_utf8_DecodeRune, a_utf8_DecodeRune), (n_json_reader_text, a_json_reader_text), (n_json_reader_takes, a_json_reader_takes), (n_json_reader_list, a_json_reader_list), (n_json_reader_object, a_json_reader_object), (n_json_reader_digit, a_json_reader_digit), (n_json_reader_digits, a_json_reader_digits), (n_json_reader_number, a_json_reader_number), (n_json_reader_value, a_json_reader_value), (n_json_Parse, a_json_Parse), (n_thicketref10_Same, a_thicketref10_Same), (n_json_twin, a_json_twin), (n_json_deep_1, a_json_deep_1), (n_api_Json_66, a_api_Json_66), (n_api_Json, a_api_Json), (n_json_deep, a_json_deep), (n_json_number_1, a_json_number_1), (n_json_number, a_json_number), (n_json_right, a_json_right), (n_json_Check, a_json_Check), (n_utf8_ValidRune, a_utf8_ValidRune), (n_bytealg_Cutover, a_bytealg_Cutover), (n_strings_IndexRune, a_strings_IndexRune), (n_utf8_appendRuneNonASCII, a_utf8_appendRuneNonASCII), (n_utf8_AppendRune, a_utf8_AppendRune), (n_json_quoted, a_json_quoted), (n_json_write, a_json_write), (n_json_Print, a_json_Print), (n_json_Copy, a_json_Copy), (n_slices_Index_string_string, a_slices_Index_string_string), (n_json_Get, a_json_Get), (n_thicketlaw10_begins, a_thicketlaw10_begins), (n_thicketlaw10_JsonBack, a_thicketlaw10_JsonBack), (n_thicketlaw10_JsonCuts, a_thicketlaw10_JsonCuts)]
def modeTab : List (FuncId × List Bool) := [(n_json_Parse_1, []), (n_json_reader_blanks, [true]), (n_json_reader_fail, [true]), (n_json_reader_byte, [true]), (n_json_reader_want, [true, false]), (n_json_reader_four, [true]), (n_json_reader_cutOff, [true, false]), (n_json_reader_escape, [true]), (n_json_reader_text, [true]), (n_json_reader_takes, [true, false]), (n_json_reader_list, [true, false]), (n_json_reader_object, [true, false]), (n_json_reader_digit, [true]), (n_json_reader_digits, [true]), (n_json_reader_number, [true]), (n_json_reader_value, [true, false]), (n_json_number_1, []), (n_utf8_appendRuneNonASCII, [true, false]), (n_utf8_AppendRune, [true, false]), (n_json_quoted, [true, false]), (n_json_write, [true, false]), (n_utf8_ValidString, [false])]
def G (n : Nat) : List PV := match n with | 0 => glob0 | 1 => glob1 | _ => []
def extT : Oracle := fun f xs => if f = n_utf8_ValidString then xValidString xs else none
def T : Tab := { fns := fun f => fnTab.lookup f, ext := extT, modes := fun f => (modeTab.lookup f).getD [], glob := G }
theorem fn_json_Parse_1 : T.fns n_json_Parse_1 = some a_json_Parse_1 := rfl
@[simp] theorem tl0_json_Parse_1 (e : Env) : Exec T k0_json_Parse_1 e = Exec T j0_json_Parse_1 (e.keep [0, 1, 2, 4, 100000, 100001, 100002]) := Exec_tail _ _ _
theorem run_json_Parse_1 (xs : List PV) : Cinf T n_json_Parse_1 xs = Run T a_json_Parse_1 xs := Cinf_eq rfl fn_json_Parse_1
@[simp] theorem md_json_Parse_1 : T.modes n_json_Parse_1 = [] := rfl
@[simp] theorem call_json_Parse_1 (C : Oracle) (e : Env) (xs : List PV) : call T C e n_json_Parse_1 xs = callV (callK1 C n_json_Parse_1 xs (moves e [] [] xs)) := call_modes md_json_Parse_1
@[simp] theorem callP_json_Parse_1 (C : Oracle) (e : Env) (args : List Opd) (ts : List TypeId) : evP T C e (.call n_json_Parse_1 args ts) = callP (callK1 C n_json_Parse_1 (args.map fun a => a.ev e) (moves e [] [] (args.map fun a => a.ev e))) := evP_call_modes md_json_Parse_1
theorem fn_json_reader_blanks : T.fns n_json_reader_blanks = some a_json_reader_blanks := rfl
@[simp] theorem tl0_json_reader_blanks (e : Env) : Exec T k0_json_reader_blanks e = Exec T j0_json_reader_blanks (e.keep [0, 100000]) := Exec_tail _ _ _
theorem ex0_json_reader_blanks (e : Env) : Exec T l0_json_reader_blanks e = andThen (Exec T w0_json_reader_blanks (e.keep [0, 100000])) (Exec T l0_json_reader_blanks) := Exec_loop _ _ _
theorem run_json_reader_blanks (xs : List PV) : Cinf T n_json_reader_blanks xs = Run T a_json_reader_blanks xs := Cinf_eq rfl fn_json_reader_blanks
@[simp] theorem md_json_reader_blanks : T.modes n_json_reader_blanks = [true] := rfl
@[simp] theorem call_json_reader_blanks (C : Oracle) (e : Env) (xs : List PV) : call T C e n_json_reader_blanks xs = callV (callK1 C n_json_reader_blanks xs (moves e [] [true] xs)) := call_modes md_json_reader_blanks
@[simp] theorem callP_json_reader_blanks (C : Oracle) (e : Env) (args : List Opd) (ts : List TypeId) : evP T C e (.call n_json_reader_blanks args ts) = callP (callK1 C n_json_reader_blanks (args.map fun a => a.ev e) (moves e [] [true] (args.map fun a => a.ev e))) := evP_call_modes md_json_reader_blanks
theorem fn_json_reader_fail : T.fns n_json_reader_fail = some a_json_reader_fail := rfl
theorem run_json_reader_fail (xs : List PV) : Cinf T n_json_reader_fail xs = Run T a_json_reader_fail xs := Cinf_eq rfl fn_json_reader_fail
@[simp] theorem md_json_reader_fail : T.modes n_json_reader_fail = [true] := rfl
@[simp] theorem call_json_reader_fail (C : Oracle) (e : Env) (xs : List PV) : call T C e n_json_reader_fail xs = callV (callK1 C n_json_reader_fail xs (moves e [] [true] xs)) := call_modes md_json_reader_fail
@[simp] theorem callP_json_reader_fail (C : Oracle) (e : Env) (args : List Opd) (ts : List TypeId) : evP T C e (.call n_json_reader_fail args ts) = callP (callK1 C n_json_reader_fail (args.map fun a => a.ev e) (moves e [] [true] (args.map fun a => a.ev e))) := evP_call_modes md_json_reader_fail
theorem fn_json_reader_byte : T.fns n_json_reader_byte = some a_json_reader_byte := rfl
@[simp] theorem tl0_json_reader_byte (e : Env) : Exec T k0_json_reader_byte e = Exec T j0_json_reader_byte (e.keep [0, 100000]) := Exec_tail _ _ _
theorem run_json_reader_byte (xs : List PV) : Cinf T n_json_reader_byte xs = Run T a_json_reader_byte xs := Cinf_eq rfl fn_json_reader_byte
@[simp] theorem md_json_reader_byte : T.modes n_json_reader_byte = [true] := rfl
@[simp] theorem call_json_reader_byte (C : Oracle) (e : Env) (xs : List PV) : call T C e n_json_reader_byte xs = callV (callK1 C n_json_reader_byte xs (moves e [] [true] xs)) := call_modes md_json_reader_byte
@[simp] theorem callP_json_reader_byte (C : Oracle) (e : Env) (args : List Opd) (ts : List TypeId) : evP T C e (.call n_json_reader_byte args ts) = callP (callK1 C n_json_reader_byte (args.map fun a => a.ev e) (moves e [] [true] (args.map fun a => a.ev e))) := evP_call_modes md_json_reader_byte
theorem fn_json_reader_want : T.fns n_json_reader_want = some a_json_reader_want := rfl
@[simp] theorem tl0_json_reader_want (e : Env) : Exec T k0_json_reader_want e = Exec T j0_json_reader_want (e.keep [0, 1, 6, 7, 100000]) := Exec_tail _ _ _
@[simp] theorem tl1_json_reader_want (e : Env) : Exec T k1_json_reader_want e = Exec T j1_json_reader_want (e.keep [0, 1, 6, 7, 100000]) := Exec_tail _ _ _
@[simp] theorem tl2_json_reader_want (e : Env) : Exec T k2_json_reader_want e = Exec T j2_json_reader_want (e.keep [0, 1, 6, 7, 100000]) := Exec_tail _ _ _
theorem ex0_json_reader_want (e : Env) : Exec T l0_json_reader_want e = andThen (Exec T w0_json_reader_want (e.keep [0, 1, 6, 7, 100000])) (Exec T l0_json_reader_want) := Exec_loop _ _ _
theorem run_json_reader_want (xs : List PV) : Cinf T n_json_reader_want xs = Run T a_json_reader_want xs := Cinf_eq rfl fn_json_reader_want
@[simp] theorem md_json_reader_want : T.modes n_json_reader_want = [true, false] := rfl
@[simp] theorem call_json_reader_want (C : Oracle) (e : Env) (xs : List PV) : call T C e n_json_reader_want xs = callV (callK1 C n_json_reader_want xs (moves e [] [true, false] xs)) := call_modes md_json_reader_want
@[simp] theorem callP_json_reader_want (C : Oracle) (e : Env) (args : List Opd) (ts : List TypeId) : evP T C e (.call n_json_reader_want args ts) = callP (callK1 C n_json_reader_want (args.map fun a => a.ev e) (moves e [] [true, false] (args.map fun a => a.ev e))) := evP_call_modes md_json_reader_want
theorem fn_stringslite_IndexByte : T.fns n_stringslite_IndexByte = some a_stringslite_IndexByte := rfl
theorem run_stringslite_IndexByte (xs : List PV) : Cinf T n_stringslite_IndexByte xs = Run T a_stringslite_IndexByte xs := Cinf_eq rfl fn_stringslite_IndexByte
@[simp] theorem md_stringslite_IndexByte : T.modes n_stringslite_IndexByte = [] := rfl
@[simp] theorem call_stringslite_IndexByte (C : Oracle) (e : Env) (xs : List PV) : call T C e n_stringslite_IndexByte xs = callV (callK1 C n_stringslite_IndexByte xs (moves e [] [] xs)) := call_modes md_stringslite_IndexByte
@[simp] theorem callP_stringslite_IndexByte (C : Oracle) (e : Env) (args : List Opd) (ts : List TypeId) : evP T C e (.call n_stringslite_IndexByte args ts) = callP (callK1 C n_stringslite_IndexByte (args.map fun a => a.ev e) (moves e [] [] (args.map fun a => a.ev e))) := evP_call_modes md_stringslite_IndexByte
theorem fn_strings_IndexByte : T.fns n_strings_IndexByte = some a_strings_IndexByte := rfl
theorem run_strings_IndexByte (xs : List PV) : Cinf T n_strings_IndexByte xs = Run T a_strings_IndexByte xs := Cinf_eq rfl fn_strings_IndexByte
@[simp] theorem md_strings_IndexByte : T.modes n_strings_IndexByte = [] := rfl
@[simp] theorem call_strings_IndexByte (C : Oracle) (e : Env) (xs : List PV) : call T C e n_strings_IndexByte xs = callV (callK1 C n_strings_IndexByte xs (moves e [] [] xs)) := call_modes md_strings_IndexByte
@[simp] theorem callP_strings_IndexByte (C : Oracle) (e : Env) (args : List Opd) (ts : List TypeId) : evP T C e (.call n_strings_IndexByte args ts) = callP (callK1 C n_strings_IndexByte (args.map fun a => a.ev e) (moves e [] [] (args.map fun a => a.ev e))) := evP_call_modes md_strings_IndexByte
theorem fn_json_reader_four : T.fns n_json_reader_four = some a_json_reader_four := rfl
@[simp] theorem tl0_json_reader_four (e : Env) : Exec T k0_json_reader_four e = Exec T j0_json_reader_four (e.keep [0, 3, 5, 100000]) := Exec_tail _ _ _
@[simp] theorem tl1_json_reader_four (e : Env) : Exec T k1_json_reader_four e = Exec T j1_json_reader_four (e.keep [0, 3, 5, 100000]) := Exec_tail _ _ _
@[simp] theorem tl2_json_reader_four (e : Env) : Exec T k2_json_reader_four e = Exec T j2_json_reader_four (e.keep [0, 3, 5, 100000]) := Exec_tail _ _ _
@[simp] theorem tl3_json_reader_four (e : Env) : Exec T k3_json_reader_four e = Exec T j3_json_reader_four (e.keep [3, 100000]) := Exec_tail _ _ _
theorem ex0_json_reader_four (e : Env) : Exec T l0_json_reader_four e = andThen (Exec T w0_json_reader_four (e.keep [0, 3, 5, 100000])) (Exec T l0_json_reader_four) := Exec_loop _ _ _
theorem run_json_reader_four (xs : List PV) : Cinf T n_json_reader_four xs = Run T a_json_reader_four xs := Cinf_eq rfl fn_json_reader_four
@[simp] theorem md_json_reader_four : T.modes n_json_reader_four = [true] := rfl
@[simp] theorem call_json_reader_four (C : Oracle) (e : Env) (xs : List PV) : call T C e n_json_reader_four xs = callV (callK1 C n_json_reader_four xs (moves e [] [true] xs)) := call_modes md_json_reader_four
@[simp] theorem callP_json_reader_four (C : Oracle) (e : Env) (args : List Opd) (ts : List TypeId) : evP T C e (.call n_json_reader_four args ts) = callP (callK1 C n_json_reader_four (args.map fun a => a.ev e) (moves e [] [true] (args.map fun a => a.ev e))) := evP_call_modes md_json_reader_four
theorem fn_json_reader_cutOff : T.fns n_json_reader_cutOff = some a_json_reader_cutOff := rfl
@[simp] theorem tl0_json_reader_cutOff (e : Env) : Exec T k0_json_reader_cutOff e = Exec T j0_json_reader_cutOff (e.keep [1, 100000]) := Exec_tail _ _ _
theorem run_json_reader_cutOff (xs : List PV) : Cinf T n_json_reader_cutOff xs = Run T a_json_reader_cutOff xs := Cinf_eq rfl fn_json_reader_cutOff
@[simp] theorem md_json_reader_cutOff : T.modes n_json_reader_cutOff = [true, false] := rfl
@[simp] theorem call_json_reader_cutOff (C : Oracle) (e : Env) (xs : List PV) : call T C e n_json_reader_cutOff xs = callV (callK1 C n_json_reader_cutOff xs (moves e [] [true, false] xs)) := call_modes md_json_reader_cutOff
@[simp] theorem callP_json_reader_cutOff (C : Oracle) (e : Env) (args : List Opd) (ts : List TypeId) : evP T C e (.call n_json_reader_cutOff args ts) = callP (callK1 C n_json_reader_cutOff (args.map fun a => a.ev e) (moves e [] [true, false] (args.map fun a => a.ev e))) := evP_call_modes md_json_reader_cutOff
theorem fn_json_reader_escape : T.fns n_json_reader_escape = some a_json_reader_escape := rfl
@[simp] theorem tl0_json_reader_escape (e : Env) : Exec T k0_json_reader_escape e = Exec T j0_json_reader_escape (e.keep [6, 7, 100000]) := Exec_tail _ _ _
@[simp] theorem tl1_json_reader_escape (e : Env) : Exec T k1_json_reader_escape e = Exec T j1_json_reader_escape (e.keep [0, 3, 6, 100000]) := Exec_tail _ _ _
@[simp] theorem tl2_json_reader_escape (e : Env) : Exec T k2_json_reader_escape e = Exec T j2_json_reader_escape (e.keep [0, 3, 6, 100000]) := Exec_tail _ _ _
@[simp] theorem tl3_json_reader_escape (e : Env) : Exec T k3_json_reader_escape e = Exec T j3_json_reader_escape (e.keep [0, 3, 100000]) := Exec_tail _ _ _
@[simp] theorem tl4_json_reader_escape (e : Env) : Exec T k4_json_reader_escape e = Exec T j4_json_reader_escape (e.keep [0, 3, 4, 100000]) := Exec_tail _ _ _
theorem run_json_reader_escape (xs : List PV) : Cinf T n_json_reader_escape xs = Run T a_json_reader_escape xs := Cinf_eq rfl fn_json_reader_escape
@[simp] theorem md_json_reader_escape : T.modes n_json_reader_escape = [true] := rfl
@[simp] theorem call_json_reader_escape (C : Oracle) (e : Env) (xs : List PV) : call T C e n_json_reader_escape xs = callV (callK1 C n_json_reader_escape xs (moves e [] [true] xs)) := call_modes md_json_reader_escape
@[simp] theorem callP_json_reader_escape (C : Oracle) (e : Env) (args : List Opd) (ts : List TypeId) : evP T C e (.call n_json_reader_escape args ts) = callP (callK1 C n_json_reader_escape (args.map fun a => a.ev e) (moves e [] [true] (args.map fun a => a.ev e))) := evP_call_modes md_json_reader_escape
theorem fn_utf8_decodeRuneSlow : T.fns n_utf8_decodeRuneSlow = some a_utf8_decodeRuneSlow := rfl
@[simp] theorem tl0_utf8_decodeRuneSlow (e : Env) : Exec T k0_utf8_decodeRuneSlow e = Exec T j0_utf8_decodeRuneSlow (e.keep [5, 10, 11, 12]) := Exec_tail _ _ _
@[simp] theorem tl1_utf8_decodeRuneSlow (e : Env) : Exec T k1_utf8_decodeRuneSlow e = Exec T j1_utf8_decodeRuneSlow (e.keep [0, 5, 10, 11]) := Exec_tail _ _ _
@[simp] theorem tl2_utf8_decodeRuneSlow (e : Env) : Exec T k2_utf8_decodeRuneSlow e = Exec T j2_utf8_decodeRuneSlow (e.keep [0, 5, 8, 10, 11]) := Exec_tail _ _ _
@[simp] theorem tl3_utf8_decodeRuneSlow (e : Env) : Exec T k3_utf8_decodeRuneSlow e = Exec T j3_utf8_decodeRuneSlow (e.keep [0, 5, 8, 10]) := Exec_tail _ _ _
@[simp] theorem tl4_utf8_decodeRuneSlow (e : Env) : Exec T k4_utf8_decodeRuneSlow e = Exec T j4_utf8_decodeRuneSlow (e.keep [0, 5, 8, 10]) := Exec_tail _ _ _
@[simp] theorem tl5_utf8_decodeRuneSlow (e : Env) : Exec T k5_utf8_decodeRuneSlow e = Exec T j5_utf8_decodeRuneSlow (e.keep [0, 5, 8, 9]) := Exec_tail _ _ _
@[simp] theorem tl6_utf8_decodeRuneSlow (e : Env) : Exec T k6_utf8_decodeRuneSlow e = Exec T j6_utf8_decodeRuneSlow (e.keep [0, 4, 5, 6]) := Exec_tail _ _ _
@[simp] theorem tl7_utf8_decodeRuneSlow (e : Env) : Exec T k7_utf8_decodeRuneSlow e = Exec T j7_utf8_decodeRuneSlow (e.keep [0, 4]) := Exec_tail _ _ _
theorem run_utf8_decodeRuneSlow (xs : List PV) : Cinf T n_utf8_decodeRuneSlow xs = Run T a_utf8_decodeRuneSlow xs := Cinf_eq rfl fn_utf8_decodeRuneSlow
@[simp] theorem md_utf8_decodeRuneSlow : T.modes n_utf8_decodeRuneSlow = [] := rfl
@[simp] theorem call_utf8_decodeRuneSlow (C : Oracle) (e : Env) (xs : List PV) : call T C e n_utf8_decodeRuneSlow xs = callV (callK1 C n_utf8_decodeRuneSlow xs (moves e [] [] xs)) := call_modes md_utf8_decodeRuneSlow
@[simp] theorem callP_utf8_decodeRuneSlow (C : Oracle) (e : Env) (args : List Opd) (ts : List TypeId) : evP T C e (.call n_utf8_decodeRuneSlow args ts) = callP (callK1 C n_utf8_decodeRuneSlow (args.map fun a => a.ev e) (moves e [] [] (args.map fun a => a.ev e))) := evP_call_modes md_utf8_decodeRuneSlow
theorem fn_utf8_DecodeRune : T.fns n_utf8_DecodeRune = some a_utf8_DecodeRune := rfl
@[simp] theorem tl0_utf8_DecodeRune (e : Env) : Exec T k0_utf8_DecodeRune e = Exec T j0_utf8_DecodeRune (e.keep [0, 6, 7, 8]) := Exec_tail _ _ _
@[simp] theorem tl1_utf8_DecodeRune (e : Env) : Exec T k1_utf8_DecodeRune e = Exec T j1_utf8_DecodeRune (e.keep [0, 6, 8]) := Exec_tail _ _ _
@[simp] theorem tl2_utf8_DecodeRune (e : Env) : Exec T k2_utf8_DecodeRune e = Exec T j2_utf8_DecodeRune (e.keep [0]) := Exec_tail _ _ _
theorem ex0_utf8_DecodeRune (e : Env) : Exec T l0_utf8_DecodeRune e = andThen (Exec T w0_utf8_DecodeRune (e.keep [0, 6, 7, 8])) (Exec T l0_utf8_DecodeRune) := Exec_loop _ _ _
theorem run_utf8_DecodeRune (xs : List PV) : Cinf T n_utf8_DecodeRune xs = Run T a_utf8_DecodeRune xs := Cinf_eq rfl fn_utf8_DecodeRune
@[simp] theorem md_utf8_DecodeRune : T.modes n_utf8_DecodeRune = [] := rfl
@[simp] theorem call_utf8_DecodeRune (C : Oracle) (e : Env) (xs : List PV) : call T C e n_utf8_DecodeRune xs = callV (callK1 C n_utf8_DecodeRune xs (moves e [] [] xs)) := call_modes md_utf8_DecodeRune
@[simp] theorem callP_utf8_DecodeRune (C : Oracle) (e : Env) (args : List Opd) (ts : List TypeId) : evP T C e (.call n_utf8_DecodeRune args ts) = callP (callK1 C n_utf8_DecodeRune (args.map fun a => a.ev e) (moves e [] [] (args.map fun a => a.ev e))) := evP_call_modes md_utf8_DecodeRune
theorem fn_json_reader_text : T.fns n_json_reader_text = some a_json_reader_text := rfl
@[simp] theorem tl0_json_reader_text (e : Env) : Exec T k0_json_reader_text e = Exec T j0_json_reader_text (e.keep [0, 3, 6, 53, 80, 100000]) := Exec_tail _ _ _
theorem ex0_json_reader_text (e : Env) : Exec T l0_json_reader_text e = andThen (Exec T w0_json_reader_text (e.keep [0, 3, 53, 80, 100000])) (Exec T l0_json_reader_text) := Exec_loop _ _ _
theorem run_json_reader_text (xs : List PV) : Cinf T n_json_reader_text xs = Run T a_json_reader_text xs := Cinf_eq rfl fn_json_reader_text
@[simp] theorem md_json_reader_text : T.modes n_json_reader_text = [true] := rfl
@[simp] theorem call_json_reader_text (C : Oracle) (e : Env) (xs : List PV) : call T C e n_json_reader_text xs = callV (callK1 C n_json_reader_text xs (moves e [] [true] xs)) := call_modes md_json_reader_text
@[simp] theorem callP_json_reader_text (C : Oracle) (e : Env) (args : List Opd) (ts : List TypeId) : evP T C e (.call n_json_reader_text args ts) = callP (callK1 C n_json_reader_text (args.map fun a => a.ev e) (moves e [] [true] (args.map fun a => a.ev e))) := evP_call_modes md_json_reader_text
theorem fn_json_reader_takes : T.fns n_json_reader_takes = some a_json_reader_takes := rfl
@[simp] theorem tl0_json_reader_takes (e : Env) : Exec T k0_json_reader_takes e = Exec T j0_json_reader_takes (e.keep [100000]) := Exec_tail _ _ _
theorem run_json_reader_takes (xs : List PV) : Cinf T n_json_reader_takes xs = Run T a_json_reader_takes xs := Cinf_eq rfl fn_json_reader_takes
@[simp] theorem md_json_reader_takes : T.modes n_json_reader_takes = [true, false] := rfl
@[simp] theorem call_json_reader_takes (C : Oracle) (e : Env) (xs : List PV) : call T C e n_json_reader_takes xs = callV (callK1 C n_json_reader_takes xs (moves e [] [true, false] xs)) := call_modes md_json_reader_takes
@[simp] theorem callP_json_reader_takes (C : Oracle) (e : Env) (args : List Opd) (ts : List TypeId) : evP T C e (.call n_json_reader_takes args ts) = callP (callK1 C n_json_reader_takes (args.map fun a => a.ev e) (moves e [] [true, false] (args.map fun a => a.ev e))) := evP_call_modes md_json_reader_takes
theorem fn_json_reader_list : T.fns n_json_reader_list = some a_json_reader_list := rfl
@[simp] theorem tl0_json_reader_list (e : Env) : Exec T k0_json_reader_list e = Exec T j0_json_reader_list (e.keep [0, 1, 4, 5, 100000]) := Exec_tail _ _ _
theorem ex0_json_reader_list (e : Env) : Exec T l0_json_reader_list e = andThen (Exec T w0_json_reader_list (e.keep [0, 1, 4, 5, 100000])) (Exec T l0_json_reader_list) := Exec_loop _ _ _
theorem run_json_reader_list (xs : List PV) : Cinf T n_json_reader_list xs = Run T a_json_reader_list xs := Cinf_eq rfl fn_json_reader_list
@[simp] theorem md_json_reader_list : T.modes n_json_reader_list = [true, false] := rfl
@[simp] theorem call_json_reader_list (C : Oracle) (e : Env) (xs : List PV) : call T C e n_json_reader_list xs = callV (callK1 C n_json_reader_list xs (moves e [] [true, false] xs)) := call_modes md_json_reader_list
@[simp] theorem callP_json_reader_list (C : Oracle) (e : Env) (args : List Opd) (ts : List TypeId) : evP T C e (.call n_json_reader_list args ts) = callP (callK1 C n_json_reader_list (args.map fun a => a.ev e) (moves e [] [true, false] (args.map fun a => a.ev e))) := evP_call_modes md_json_reader_list
theorem fn_json_reader_object : T.fns n_json_reader_object = some a_json_reader_object := rfl
@[simp] theorem tl0_json_reader_object (e : Env) : Exec T k0_json_reader_object e = Exec T j0_json_reader_object (e.keep [0, 1, 4, 5, 6, 10, 100000]) := Exec_tail _ _ _
@[simp] theorem tl1_json_reader_object (e : Env) : Exec T k1_json_reader_object e = Exec T j1_json_reader_object (e.keep [0, 1, 4, 5, 6, 8, 10, 100000]) := Exec_tail _ _ _
@[simp] theorem tl2_json_reader_object (e : Env) : Exec T k2_json_reader_object e = Exec T j2_json_reader_object (e.keep [0, 1, 4, 5, 6, 7, 10, 100000]) := Exec_tail _ _ _
@[simp] theorem tl3_json_reader_object (e : Env) : Exec T k3_json_reader_object e = Exec T j3_json_reader_object (e.keep [0, 1, 4, 5, 6, 10, 100000]) := Exec_tail _ _ _
theorem ex0_json_reader_object (e : Env) : Exec T l0_json_reader_object e = andThen (Exec T w0_json_reader_object (e.keep [0, 1, 4, 5, 6, 10, 100000])) (Exec T l0_json_reader_object) := Exec_loop _ _ _
theorem run_json_reader_object (xs : List PV) : Cinf T n_json_reader_object xs = Run T a_json_reader_object xs := Cinf_eq rfl fn_json_reader_object
@[simp] theorem md_json_reader_object : T.modes n_json_reader_object = [true, false] := rfl
@[simp] theorem call_json_reader_object (C : Oracle) (e : Env) (xs : List PV) : call T C e n_json_reader_object xs = callV (callK1 C n_json_reader_object xs (moves e [] [true, false] xs)) := call_modes md_json_reader_object
@[simp] theorem callP_json_reader_object (C : Oracle) (e : Env) (args : List Opd) (ts : List TypeId) : evP T C e (.call n_json_reader_object args ts) = callP (callK1 C n_json_reader_object (args.map fun a => a.ev e) (moves e [] [true, false] (args.map fun a => a.ev e))) := evP_call_modes md_json_reader_object
theorem fn_json_reader_digit : T.fns n_json_reader_digit = some a_json_reader_digit := rfl
theorem run_json_reader_digit (xs : List PV) : Cinf T n_json_reader_digit xs = Run T a_json_reader_digit xs := Cinf_eq rfl fn_json_reader_digit
@[simp] theorem md_json_reader_digit : T.modes n_json_reader_digit = [true] := rfl
@[simp] theorem call_json_reader_digit (C : Oracle) (e : Env) (xs : List PV) : call T C e n_json_reader_digit xs = callV (callK1 C n_json_reader_digit xs (moves e [] [true] xs)) := call_modes md_json_reader_digit
@[simp] theorem callP_json_reader_digit (C : Oracle) (e : Env) (args : List Opd) (ts : List TypeId) : evP T C e (.call n_json_reader_digit args ts) = callP (callK1 C n_json_reader_digit (args.map fun a => a.ev e) (moves e [] [true] (args.map fun a => a.ev e))) := evP_call_modes md_json_reader_digit
theorem fn_json_reader_digits : T.fns n_json_reader_digits = some a_json_reader_digits := rfl
@[simp] theorem tl0_json_reader_digits (e : Env) : Exec T k0_json_reader_digits e = Exec T j0_json_reader_digits (e.keep [0, 100000]) := Exec_tail _ _ _
@[simp] theorem tl1_json_reader_digits (e : Env) : Exec T k1_json_reader_digits e = Exec T j1_json_reader_digits (e.keep [0, 100000]) := Exec_tail _ _ _
theorem ex0_json_reader_digits (e : Env) : Exec T l0_json_reader_digits e = andThen (Exec T w0_json_reader_digits (e.keep [0, 100000])) (Exec T l0_json_reader_digits) := Exec_loop _ _ _
theorem run_json_reader_digits (xs : List PV) : Cinf T n_json_reader_digits xs = Run T a_json_reader_digits xs := Cinf_eq rfl fn_json_reader_digits
@[simp] theorem md_json_reader_digits : T.modes n_json_reader_digits = [true] := rfl
@[simp] theorem call_json_reader_digits (C : Oracle) (e : Env) (xs : List PV) : call T C e n_json_reader_digits xs = callV (callK1 C n_json_reader_digits xs (moves e [] [true] xs)) := call_modes md_json_reader_digits
@[simp] theorem callP_json_reader_digits (C : Oracle) (e : Env) (args : List Opd) (ts : List TypeId) : evP T C e (.call n_json_reader_digits args ts) = callP (callK1 C n_json_reader_digits (args.map fun a => a.ev e) (moves e [] [true] (args.map fun a => a.ev e))) := evP_call_modes md_json_reader_digits
theorem fn_json_reader_number : T.fns n_json_reader_number = some a_json_reader_number := rfl
@[simp] theorem tl0_json_reader_number (e : Env) : Exec T k0_json_reader_number e = Exec T j0_json_reader_number (e.keep [0, 100000]) := Exec_tail _ _ _
@[simp] theorem tl1_json_reader_number (e : Env) : Exec T k1_json_reader_number e = Exec T j1_json_reader_number (e.keep [0, 100000]) := Exec_tail _ _ _
theorem run_json_reader_number (xs : List PV) : Cinf T n_json_reader_number xs = Run T a_json_reader_number xs := Cinf_eq rfl fn_json_reader_number
@[simp] theorem md_json_reader_number : T.modes n_json_reader_number = [true] := rfl
@[simp] theorem call_json_reader_number (C : Oracle) (e : Env) (xs : List PV) : call T C e n_json_reader_number xs = callV (callK1 C n_json_reader_number xs (moves e [] [true] xs)) := call_modes md_json_reader_number
@[simp] theorem callP_json_reader_number (C : Oracle) (e : Env) (args : List Opd) (ts : List TypeId) : evP T C e (.call n_json_reader_number args ts) = callP (callK1 C n_json_reader_number (args.map fun a => a.ev e) (moves e [] [true] (args.map fun a => a.ev e))) := evP_call_modes md_json_reader_number
theorem fn_json_reader_value : T.fns n_json_reader_value = some a_json_reader_value := rfl
@[simp] theorem tl0_json_reader_value (e : Env) : Exec T k0_json_reader_value e = Exec T j0_json_reader_value (e.keep [0, 1, 4, 100000]) := Exec_tail _ _ _
@[simp] theorem tl1_json_reader_value (e : Env) : Exec T k1_json_reader_value e = Exec T j1_json_reader_value (e.keep [0, 1, 4, 5, 100000]) := Exec_tail _ _ _
@[simp] theorem tl2_json_reader_value (e : Env) : Exec T k2_json_reader_value e = Exec T j2_json_reader_value (e.keep [0, 4, 100000]) := Exec_tail _ _ _
theorem run_json_reader_value (xs : List PV) : Cinf T n_json_reader_value xs = Run T a_json_reader_value xs := Cinf_eq rfl fn_json_reader_value
@[simp] theorem md_json_reader_value : T.modes n_json_reader_value = [true, false] := rfl
@[simp] theorem call_json_reader_value (C : Oracle) (e : Env) (xs : List PV) : call T C e n_json_reader_value xs = callV (callK1 C n_json_reader_value xs (moves e [] [true, false] xs)) := call_modes md_json_reader_value
@[simp] theorem callP_json_reader_value (C : Oracle) (e : Env) (args : List Opd) (ts : List TypeId) : evP T C e (.call n_json_reader_value args ts) = callP (callK1 C n_json_reader_value (args.map fun a => a.ev e) (moves e [] [true, false] (args.map fun a => a.ev e))) := evP_call_modes md_json_reader_value
theorem fn_json_Parse : T.fns n_json_Parse = some a_json_Parse := rfl
@[simp] theorem tl0_json_Parse (e : Env) : Exec T k0_json_Parse e = Exec T j0_json_Parse (e.keep [2, 3, 4, 200000, 200001, 200002]) := Exec_tail _ _ _
@[simp] theorem tl2_json_Parse (e : Env) : Exec T k2_json_Parse e = Exec T j2_json_Parse (e.keep [0, 2, 3, 4, 200000, 200001, 200002]) := Exec_tail _ _ _
theorem run_json_Parse (xs : List PV) : Cinf T n_json_Parse xs = Run T a_json_Parse xs := Cinf_eq rfl fn_json_Parse
@[simp] theorem md_json_Parse : T.modes n_json_Parse = [] := rfl
@[simp] theorem call_json_Parse (C : Oracle) (e : Env) (xs : List PV) : call T C e n_json_Parse xs = callV (callK1 C n_json_Parse xs (moves e [] [] xs)) := call_modes md_json_Parse
@[simp] theorem callP_json_Parse (C : Oracle) (e : Env) (args : List Opd) (ts : List TypeId) : evP T C e (.call n_json_Parse args ts) = callP (callK1 C n_json_Parse (args.map fun a => a.ev e) (moves e [] [] (args.map fun a => a.ev e))) := evP_call_modes md_json_Parse
theorem fn_thicketref10_Same : T.fns n_thicketref10_Same = some a_thicketref10_Same := rfl
@[simp] theorem tl0_thicketref10_Same (e : Env) : Exec T k0_thicketref10_Same e = Exec T j0_thicketref10_Same (e.keep [2, 3, 5]) := Exec_tail _ _ _
@[simp] theorem tl1_thicketref10_Same (e : Env) : Exec T k1_thicketref10_Same e = Exec T j1_thicketref10_Same (e.keep [2, 3, 5]) := Exec_tail _ _ _
@[simp] theorem tl2_thicketref10_Same (e : Env) : Exec T k2_thicketref10_Same e = Exec T j2_thicketref10_Same (e.keep [2, 3, 6]) := Exec_tail _ _ _
@[simp] theorem tl3_thicketref10_Same (e : Env) : Exec T k3_thicketref10_Same e = Exec T j3_thicketref10_Same (e.keep [2, 3, 6]) := Exec_tail _ _ _
@[simp] theorem tl4_thicketref10_Same (e : Env) : Exec T k4_thicketref10_Same e = Exec T j4_thicketref10_Same (e.keep []) := Exec_tail _ _ _
@[simp] theorem tl5_thicketref10_Same (e : Env) : Exec T k5_thicketref10_Same e = Exec T j5_thicketref10_Same (e.keep [2, 3]) := Exec_tail _ _ _
@[simp] theorem tl6_thicketref10_Same (e : Env) : Exec T k6_thicketref10_Same e = Exec T j6_thicketref10_Same (e.keep [2, 3]) := Exec_tail _ _ _
theorem ex0_thicketref10_Same (e : Env) : Exec T l0_thicketref10_Same e = andThen (Exec T w0_thicketref10_Same (e.keep [2, 3, 5])) (Exec T l0_thicketref10_Same) := Exec_loop _ _ _
theorem ex1_thicketref10_Same (e : Env) : Exec T l1_thicketref10_Same e = andThen (Exec T w1_thicketref10_Same (e.keep [2, 3, 6])) (Exec T l1_thicketref10_Same) := Exec_loop _ _ _
theorem run_thicketref10_Same (xs : List PV) : Cinf T n_thicketref10_Same xs = Run T a_thicketref10_Same xs := Cinf_eq rfl fn_thicketref10_Same
@[simp] theorem md_thicketref10_Same : T.modes n_thicketref10_Same = [] := rfl
@[simp] theorem call_thicketref10_Same (C : Oracle) (e : Env) (xs : List PV) : call T C e n_thicketref10_Same xs = callV (callK1 C n_thicketref10_Same xs (moves e [] [] xs)) := call_modes md_thicketref10_Same
@[simp] theorem callP_thicketref10_Same (C : Oracle) (e : Env) (args : List Opd) (ts : List TypeId) : evP T C e (.call n_thicketref10_Same args ts) = callP (callK1 C n_thicketref10_Same (args.map fun a => a.ev e) (moves e [] [] (args.map fun a => a.ev e))) := evP_call_modes md_thicketref10_Same
theorem fn_json_twin : T.fns n_json_twin = some a_json_twin := rfl
@[simp] theorem tl0_json_twin (e : Env) : Exec T k0_json_twin e = Exec T j0_json_twin (e.keep [1, 3, 6, 7, 8, 9, 10]) := Exec_tail _ _ _
@[simp] theorem tl1_json_twin (e : Env) : Exec T k1_json_twin e = Exec T j1_json_twin (e.keep [1, 3, 6, 7, 8, 9, 10]) := Exec_tail _ _ _
@[simp] theorem tl2_json_twin (e : Env) : Exec T k2_json_twin e = Exec T j2_json_twin (e.keep [1]) := Exec_tail _ _ _
theorem ex0_json_twin (e : Env) : Exec T l0_json_twin e = andThen (Exec T w0_json_twin (e.keep [1, 3, 6, 7, 8, 9, 10])) (Exec T l0_json_twin) := Exec_loop _ _ _
theorem run_json_twin (xs : List PV) : Cinf T n_json_twin xs = Run T a_json_twin xs := Cinf_eq rfl fn_json_twin
@[simp] theorem md_json_twin : T.modes n_json_twin = [] := rfl
@[simp] theorem call_json_twin (C : Oracle) (e : Env) (xs : List PV) : call T C e n_json_twin xs = callV (callK1 C n_json_twin xs (moves e [] [] xs)) := call_modes md_json_twin
@[simp] theorem callP_json_twin (C : Oracle) (e : Env) (args : List Opd) (ts : List TypeId) : evP T C e (.call n_json_twin args ts) = callP (callK1 C n_json_twin (args.map fun a => a.ev e) (moves e [] [] (args.map fun a => a.ev e))) := evP_call_modes md_json_twin
theorem fn_json_deep_1 : T.fns n_json_deep_1 = some a_json_deep_1 := rfl
theorem run_json_deep_1 (xs : List PV) : Cinf T n_json_deep_1 xs = Run T a_json_deep_1 xs := Cinf_eq rfl fn_json_deep_1
@[simp] theorem md_json_deep_1 : T.modes n_json_deep_1 = [] := rfl
@[simp] theorem call_json_deep_1 (C : Oracle) (e : Env) (xs : List PV) : call T C e n_json_deep_1 xs = callV (callK1 C n_json_deep_1 xs (moves e [] [] xs)) := call_modes md_json_deep_1
@[simp] theorem callP_json_deep_1 (C : Oracle) (e : Env) (args : List Opd) (ts : List TypeId) : evP T C e (.call n_json_deep_1 args ts) = callP (callK1 C n_json_deep_1 (args.map fun a => a.ev e) (moves e [] [] (args.map fun a => a.ev e))) := evP_call_modes md_json_deep_1
theorem fn_api_Json_66 : T.fns n_api_Json_66 = some a_api_Json_66 := rfl
@[simp] theorem tl0_api_Json_66 (e : Env) : Exec T k0_api_Json_66 e = Exec T j0_api_Json_66 (e.keep [0, 1, 7, 8]) := Exec_tail _ _ _
@[simp] theorem tl1_api_Json_66 (e : Env) : Exec T k1_api_Json_66 e = Exec T j1_api_Json_66 (e.keep [0, 1, 7, 8]) := Exec_tail _ _ _
@[simp] theorem tl2_api_Json_66 (e : Env) : Exec T k2_api_Json_66 e = Exec T j2_api_Json_66 (e.keep []) := Exec_tail _ _ _
theorem ex0_api_Json_66 (e : Env) : Exec T l0_api_Json_66 e = andThen (Exec T w0_api_Json_66 (e.keep [0, 1, 7, 8])) (Exec T l0_api_Json_66) := Exec_loop _ _ _
theorem run_api_Json_66 (xs : List PV) : Cinf T n_api_Json_66 xs = Run T a_api_Json_66 xs := Cinf_eq rfl fn_api_Json_66
@[simp] theorem md_api_Json_66 : T.modes n_api_Json_66 = [] := rfl
@[simp] theorem call_api_Json_66 (C : Oracle) (e : Env) (xs : List PV) : call T C e n_api_Json_66 xs = callV (callK1 C n_api_Json_66 xs (moves e [] [] xs)) := call_modes md_api_Json_66
@[simp] theorem callP_api_Json_66 (C : Oracle) (e : Env) (args : List Opd) (ts : List TypeId) : evP T C e (.call n_api_Json_66 args ts) = callP (callK1 C n_api_Json_66 (args.map fun a => a.ev e) (moves e [] [] (args.map fun a => a.ev e))) := evP_call_modes md_api_Json_66
theorem fn_api_Json : T.fns n_api_Json = some a_api_Json := rfl
theorem run_api_Json (xs : List PV) : Cinf T n_api_Json xs = Run T a_api_Json xs := Cinf_eq rfl fn_api_Json
@[simp] theorem md_api_Json : T.modes n_api_Json = [] := rfl
@[simp] theorem call_api_Json (C : Oracle) (e : Env) (xs : List PV) : call T C e n_api_Json xs = callV (callK1 C n_api_Json xs (moves e [] [] xs)) := call_modes md_api_Json
@[simp] theorem callP_api_Json (C : Oracle) (e : Env) (args : List Opd) (ts : List TypeId) : evP T C e (.call n_api_Json args ts) = callP (callK1 C n_api_Json (args.map fun a => a.ev e) (moves e [] [] (args.map fun a => a.ev e))) := evP_call_modes md_api_Json
theorem fn_json_deep : T.fns n_json_deep = some a_json_deep := rfl
@[simp] theorem tl0_json_deep (e : Env) : Exec T k0_json_deep e = Exec T j0_json_deep (e.keep [2, 3]) := Exec_tail _ _ _
@[simp] theorem tl1_json_deep (e : Env) : Exec T k1_json_deep e = Exec T j1_json_deep (e.keep [2, 3]) := Exec_tail _ _ _
theorem run_json_deep (xs : List PV) : Cinf T n_json_deep xs = Run T a_json_deep xs := Cinf_eq rfl fn_json_deep
@[simp] theorem md_json_deep : T.modes n_json_deep = [] := rfl
@[simp] theorem call_json_deep (C : Oracle) (e : Env) (xs : List PV) : call T C e n_json_deep xs = callV (callK1 C n_json_deep xs (moves e [] [] xs)) := call_modes md_json_deep
@[simp] theorem callP_json_deep (C : Oracle) (e : Env) (args : List Opd) (ts : List TypeId) : evP T C e (.call n_json_deep args ts) = callP (callK1 C n_json_deep (args.map fun a => a.ev e) (moves e [] [] (args.map fun a => a.ev e))) := evP_call_modes md_json_deep
theorem fn_json_number_1 : T.fns n_json_number_1 = some a_json_number_1 := rfl
theorem run_json_number_1 (xs : List PV) : Cinf T n_json_number_1 xs = Run T a_json_number_1 xs := Cinf_eq rfl fn_json_number_1
@[simp] theorem md_json_number_1 : T.modes n_json_number_1 = [] := rfl
@[simp] theorem call_json_number_1 (C : Oracle) (e : Env) (xs : List PV) : call T C e n_json_number_1 xs = callV (callK1 C n_json_number_1 xs (moves e [] [] xs)) := call_modes md_json_number_1
@[simp] theorem callP_json_number_1 (C : Oracle) (e : Env) (args : List Opd) (ts : List TypeId) : evP T C e (.call n_json_number_1 args ts) = callP (callK1 C n_json_number_1 (args.map fun a => a.ev e) (moves e [] [] (args.map fun a => a.ev e))) := evP_call_modes md_json_number_1
theorem fn_json_number : T.fns n_json_number = some a_json_number := rfl
theorem run_json_number (xs : List PV) : Cinf T n_json_number xs = Run T a_json_number xs := Cinf_eq rfl fn_json_number
@[simp] theorem md_json_number : T.modes n_json_number = [] := rfl
@[simp] theorem call_json_number (C : Oracle) (e : Env) (xs : List PV) : call T C e n_json_number xs = callV (callK1 C n_json_number xs (moves e [] [] xs)) := call_modes md_json_number
@[simp] theorem callP_json_number (C : Oracle) (e : Env) (args : List Opd) (ts : List TypeId) : evP T C e (.call n_json_number args ts) = callP (callK1 C n_json_number (args.map fun a => a.ev e) (moves e [] [] (args.map fun a => a.ev e))) := evP_call_modes md_json_number
theorem fn_json_right : T.fns n_json_right = some a_json_right := rfl
@[simp] theorem tl0_json_right (e : Env) : Exec T k0_json_right e = Exec T j0_json_right (e.keep [1, 87, 88, 89, 90]) := Exec_tail _ _ _
@[simp] theorem tl1_json_right (e : Env) : Exec T k1_json_right e = Exec T j1_json_right (e.keep [1, 87, 88, 89, 90]) := Exec_tail _ _ _
@[simp] theorem tl2_json_right (e : Env) : Exec T k2_json_right e = Exec T j2_json_right (e.keep [1]) := Exec_tail _ _ _
@[simp] theorem tl3_json_right (e : Env) : Exec T k3_json_right e = Exec T j3_json_right (e.keep [1, 8, 9]) := Exec_tail _ _ _
@[simp] theorem tl4_json_right (e : Env) : Exec T k4_json_right e = Exec T j4_json_right (e.keep [1, 98, 99, 100, 101]) := Exec_tail _ _ _
@[simp] theorem tl5_json_right (e : Env) : Exec T k5_json_right e = Exec T j5_json_right (e.keep [1, 98, 99, 100, 101]) := Exec_tail _ _ _
@[simp] theorem tl6_json_right (e : Env) : Exec T k6_json_right e = Exec T j6_json_right (e.keep []) := Exec_tail _ _ _
@[simp] theorem tl7_json_right (e : Env) : Exec T k7_json_right e = Exec T j7_json_right (e.keep [1]) := Exec_tail _ _ _
theorem ex0_json_right (e : Env) : Exec T l0_json_right e = andThen (Exec T w0_json_right (e.keep [1, 87, 88, 89, 90])) (Exec T l0_json_right) := Exec_loop _ _ _
theorem ex1_json_right (e : Env) : Exec T l1_json_right e = andThen (Exec T w1_json_right (e.keep [1, 98, 99, 100, 101])) (Exec T l1_json_right) := Exec_loop _ _ _
theorem run_json_right (xs : List PV) : Cinf T n_json_right xs = Run T a_json_right xs := Cinf_eq rfl fn_json_right
@[simp] theorem md_json_right : T.modes n_json_right = [] := rfl
@[simp] theorem call_json_right (C : Oracle) (e : Env) (xs : List PV) : call T C e n_json_right xs = callV (callK1 C n_json_right xs (moves e [] [] xs)) := call_modes md_json_right
@[simp] theorem callP_json_right (C : Oracle) (e : Env) (args : List Opd) (ts : List TypeId) : evP T C e (.call n_json_right args ts) = callP (callK1 C n_json_right (args.map fun a => a.ev e) (moves e [] [] (args.map fun a => a.ev e))) := evP_call_modes md_json_right
theorem fn_json_Check : T.fns n_json_Check = some a_json_Check := rfl
@[simp] theorem tl0_json_Check (e : Env) : Exec T k0_json_Check e = Exec T j0_json_Check (e.keep []) := Exec_tail _ _ _
theorem run_json_Check (xs : List PV) : Cinf T n_json_Check xs = Run T a_json_Check xs := Cinf_eq rfl fn_json_Check
@[simp] theorem md_json_Check : T.modes n_json_Check = [] := rfl
@[simp] theorem call_json_Check (C : Oracle) (e : Env) (xs : List PV) : call T C e n_json_Check xs = callV (callK1 C n_json_Check xs (moves e [] [] xs)) := call_modes md_json_Check
@[simp] theorem callP_json_Check (C : Oracle) (e : Env) (args : List Opd) (ts : List TypeId) : evP T C e (.call n_json_Check args ts) = callP (callK1 C n_json_Check (args.map fun a => a.ev e) (moves e [] [] (args.map fun a => a.ev e))) := evP_call_modes md_json_Check
theorem fn_utf8_ValidRune : T.fns n_utf8_ValidRune = some a_utf8_ValidRune := rfl
@[simp] theorem tl0_utf8_ValidRune (e : Env) : Exec T k0_utf8_ValidRune e = Exec T j0_utf8_ValidRune (e.keep []) := Exec_tail _ _ _
theorem run_utf8_ValidRune (xs : List PV) : Cinf T n_utf8_ValidRune xs = Run T a_utf8_ValidRune xs := Cinf_eq rfl fn_utf8_ValidRune
@[simp] theorem md_utf8_ValidRune : T.modes n_utf8_ValidRune = [] := rfl
@[simp] theorem call_utf8_ValidRune (C : Oracle) (e : Env) (xs : List PV) : call T C e n_utf8_ValidRune xs = callV (callK1 C n_utf8_ValidRune xs (moves e [] [] xs)) := call_modes md_utf8_ValidRune
@[simp] theorem callP_utf8_ValidRune (C : Oracle) (e : Env) (args : List Opd) (ts : List TypeId) : evP T C e (.call n_utf8_ValidRune args ts) = callP (callK1 C n_utf8_ValidRune (args.map fun a => a.ev e) (moves e [] [] (args.map fun a => a.ev e))) := evP_call_modes md_utf8_ValidRune
theorem fn_bytealg_Cutover : T.fns n_bytealg_Cutover = some a_bytealg_Cutover := rfl
theorem run_bytealg_Cutover (xs : List PV) : Cinf T n_bytealg_Cutover xs = Run T a_bytealg_Cutover xs := Cinf_eq rfl fn_bytealg_Cutover
@[simp] theorem md_bytealg_Cutover : T.modes n_bytealg_Cutover = [] := rfl
@[simp] theorem call_bytealg_Cutover (C : Oracle) (e : Env) (xs : List PV) : call T C e n_bytealg_Cutover xs = callV (callK1 C n_bytealg_Cutover xs (moves e [] [] xs)) := call_modes md_bytealg_Cutover
@[simp] theorem callP_bytealg_Cutover (C : Oracle) (e : Env) (args : List Opd) (ts : List TypeId) : evP T C e (.call n_bytealg_Cutover args ts) = callP (callK1 C n_bytealg_Cutover (args.map fun a => a.ev e) (moves e [] [] (args.map fun a => a.ev e))) := evP_call_modes md_bytealg_Cutover
theorem fn_strings_IndexRune : T.fns n_strings_IndexRune = some a_strings_IndexRune := rfl
@[simp] theorem tl0_strings_IndexRune (e : Env) : Exec T k0_strings_IndexRune e = Exec T j0_strings_IndexRune (e.keep [175, 176]) := Exec_tail _ _ _
@[simp] theorem tl1_strings_IndexRune (e : Env) : Exec T k1_strings_IndexRune e = Exec T j1_strings_IndexRune (e.keep []) := Exec_tail _ _ _
@[simp] theorem tl2_strings_IndexRune (e : Env) : Exec T k2_strings_IndexRune e = Exec T j2_strings_IndexRune (e.keep [0, 7, 8, 9, 11]) := Exec_tail _ _ _
@[simp] theorem tl3_strings_IndexRune (e : Env) : Exec T k3_strings_IndexRune e = Exec T j3_strings_IndexRune (e.keep [0, 7, 8, 9, 12]) := Exec_tail _ _ _
@[simp] theorem tl4_strings_IndexRune (e : Env) : Exec T k4_strings_IndexRune e = Exec T j4_strings_IndexRune (e.keep [0, 7, 8, 9, 12]) := Exec_tail _ _ _
@[simp] theorem tl5_strings_IndexRune (e : Env) : Exec T k5_strings_IndexRune e = Exec T j5_strings_IndexRune (e.keep [8, 9]) := Exec_tail _ _ _
@[simp] theorem tl6_strings_IndexRune (e : Env) : Exec T k6_strings_IndexRune e = Exec T j6_strings_IndexRune (e.keep [0, 7, 8, 9]) := Exec_tail _ _ _
@[simp] theorem tl7_strings_IndexRune (e : Env) : Exec T k7_strings_IndexRune e = Exec T j7_strings_IndexRune (e.keep [0, 7, 8, 9]) := Exec_tail _ _ _
@[simp] theorem tl8_strings_IndexRune (e : Env) : Exec T k8_strings_IndexRune e = Exec T j8_strings_IndexRune (e.keep [0, 7, 8, 9, 14, 15, 16]) := Exec_tail _ _ _
@[simp] theorem tl9_strings_IndexRune (e : Env) : Exec T k9_strings_IndexRune e = Exec T j9_strings_IndexRune (e.keep [0, 7, 8, 9, 14, 15, 16]) := Exec_tail _ _ _
@[simp] theorem tl10_strings_IndexRune (e : Env) : Exec T k10_strings_IndexRune e = Exec T j10_strings_IndexRune (e.keep [8, 9]) := Exec_tail _ _ _
@[simp] theorem tl11_strings_IndexRune (e : Env) : Exec T k11_strings_IndexRune e = Exec T j11_strings_IndexRune (e.keep [0, 7, 8, 9, 14, 15]) := Exec_tail _ _ _
@[simp] theorem tl12_strings_IndexRune (e : Env) : Exec T k12_strings_IndexRune e = Exec T j12_strings_IndexRune (e.keep [0, 7, 8, 9, 14, 15]) := Exec_tail _ _ _
@[simp] theorem tl13_strings_IndexRune (e : Env) : Exec T k13_strings_IndexRune e = Exec T j13_strings_IndexRune (e.keep []) := Exec_tail _ _ _
@[simp] theorem tl14_strings_IndexRune (e : Env) : Exec T k14_strings_IndexRune e = Exec T j14_strings_IndexRune (e.keep []) := Exec_tail _ _ _
theorem ex0_strings_IndexRune (e : Env) : Exec T l0_strings_IndexRune e = andThen (Exec T w0_strings_IndexRune (e.keep [175])) (Exec T l0_strings_IndexRune) := Exec_loop _ _ _
theorem ex2_strings_IndexRune (e : Env) : Exec T l2_strings_IndexRune e = andThen (Exec T w2_strings_IndexRune (e.keep [0, 7, 8, 9, 12])) (Exec T l2_strings_IndexRune) := Exec_loop _ _ _
theorem ex1_strings_IndexRune (e : Env) : Exec T l1_strings_IndexRune e = andThen (Exec T w1_strings_IndexRune (e.keep [0, 7, 8, 9])) (Exec T l1_strings_IndexRune) := Exec_loop _ _ _
theorem ex4_strings_IndexRune (e : Env) : Exec T l4_strings_IndexRune e = andThen (Exec T w4_strings_IndexRune (e.keep [0, 7, 8, 9, 14, 15, 16])) (Exec T l4_strings_IndexRune) := Exec_loop _ _ _
theorem ex3_strings_IndexRune (e : Env) : Exec T l3_strings_IndexRune e = andThen (Exec T w3_strings_IndexRune (e.keep [0, 7, 8, 9, 14, 15])) (Exec T l3_strings_IndexRune) := Exec_loop _ _ _
theorem run_strings_IndexRune (xs : List PV) : Cinf T n_strings_IndexRune xs = Run T a_strings_IndexRune xs := Cinf_eq rfl fn_strings_IndexRune
@[simp] theorem md_strings_IndexRune : T.modes n_strings_IndexRune = [] := rfl
@[simp] theorem call_strings_IndexRune (C : Oracle) (e : Env) (xs : List PV) : call T C e n_strings_IndexRune xs = callV (callK1 C n_strings_IndexRune xs (moves e [] [] xs)) := call_modes md_strings_IndexRune
@[simp] theorem callP_strings_IndexRune (C : Oracle) (e : Env) (args : List Opd) (ts : List TypeId) : evP T C e (.call n_strings_IndexRune args ts) = callP (callK1 C n_strings_IndexRune (args.map fun a => a.ev e) (moves e [] [] (args.map fun a => a.ev e))) := evP_call_modes md_strings_IndexRune
theorem fn_utf8_appendRuneNonASCII : T.fns n_utf8_appendRuneNonASCII = some a_utf8_appendRuneNonASCII := rfl
@[simp] theorem tl0_utf8_appendRuneNonASCII (e : Env) : Exec T k0_utf8_appendRuneNonASCII e = Exec T j0_utf8_appendRuneNonASCII (e.keep [0, 1, 5, 25, 100000]) := Exec_tail _ _ _
theorem run_utf8_appendRuneNonASCII (xs : List PV) : Cinf T n_utf8_appendRuneNonASCII xs = Run T a_utf8_appendRuneNonASCII xs := Cinf_eq rfl fn_utf8_appendRuneNonASCII
@[simp] theorem md_utf8_appendRuneNonASCII : T.modes n_utf8_appendRuneNonASCII = [true, false] := rfl
@[simp] theorem call_utf8_appendRuneNonASCII (C : Oracle) (e : Env) (xs : List PV) : call T C e n_utf8_appendRuneNonASCII xs = callV (callK1 C n_utf8_appendRuneNonASCII xs (moves e [] [true, false] xs)) := call_modes md_utf8_appendRuneNonASCII
@[simp] theorem callP_utf8_appendRuneNonASCII (C : Oracle) (e : Env) (args : List Opd) (ts : List TypeId) : evP T C e (.call n_utf8_appendRuneNonASCII args ts) = callP (callK1 C n_utf8_appendRuneNonASCII (args.map fun a => a.ev e) (moves e [] [true, false] (args.map fun a => a.ev e))) := evP_call_modes md_utf8_appendRuneNonASCII
theorem fn_utf8_AppendRune : T.fns n_utf8_AppendRune = some a_utf8_AppendRune := rfl
@[simp] theorem tl0_utf8_AppendRune (e : Env) : Exec T k0_utf8_AppendRune e = Exec T j0_utf8_AppendRune (e.keep [0, 1, 100000]) := Exec_tail _ _ _
theorem run_utf8_AppendRune (xs : List PV) : Cinf T n_utf8_AppendRune xs = Run T a_utf8_AppendRune xs := Cinf_eq rfl fn_utf8_AppendRune
@[simp] theorem md_utf8_AppendRune : T.modes n_utf8_AppendRune = [true, false] := rfl
@[simp] theorem call_utf8_AppendRune (C : Oracle) (e : Env) (xs : List PV) : call T C e n_utf8_AppendRune xs = callV (callK1 C n_utf8_AppendRune xs (moves e [] [true, false] xs)) := call_modes md_utf8_AppendRune
@[simp] theorem callP_utf8_AppendRune (C : Oracle) (e : Env) (args : List Opd) (ts : List TypeId) : evP T C e (.call n_utf8_AppendRune args ts) = callP (callK1 C n_utf8_AppendRune (args.map fun a => a.ev e) (moves e [] [true, false] (args.map fun a => a.ev e))) := evP_call_modes md_utf8_AppendRune
theorem fn_json_quoted : T.fns n_json_quoted = some a_json_quoted := rfl
@[simp] theorem tl0_json_quoted (e : Env) : Exec T k0_json_quoted e = Exec T j0_json_quoted (e.keep [0, 10, 12, 13, 20, 32, 44, 100000]) := Exec_tail _ _ _
@[simp] theorem tl1_json_quoted (e : Env) : Exec T k1_json_quoted e = Exec T j1_json_quoted (e.keep [0, 10, 20, 32, 44, 100000]) := Exec_tail _ _ _
theorem ex0_json_quoted (e : Env) : Exec T l0_json_quoted e = andThen (Exec T w0_json_quoted (e.keep [0, 10, 12, 20, 32, 44, 100000])) (Exec T l0_json_quoted) := Exec_loop _ _ _
theorem run_json_quoted (xs : List PV) : Cinf T n_json_quoted xs = Run T a_json_quoted xs := Cinf_eq rfl fn_json_quoted
@[simp] theorem md_json_quoted : T.modes n_json_quoted = [true, false] := rfl
@[simp] theorem call_json_quoted (C : Oracle) (e : Env) (xs : List PV) : call T C e n_json_quoted xs = callV (callK1 C n_json_quoted xs (moves e [] [true, false] xs)) := call_modes md_json_quoted
@[simp] theorem callP_json_quoted (C : Oracle) (e : Env) (args : List Opd) (ts : List TypeId) : evP T C e (.call n_json_quoted args ts) = callP (callK1 C n_json_quoted (args.map fun a => a.ev e) (moves e [] [true, false] (args.map fun a => a.ev e))) := evP_call_modes md_json_quoted
theorem fn_json_write : T.fns n_json_write = some a_json_write := rfl
@[simp] theorem tl0_json_write (e : Env) : Exec T k0_json_write e = Exec T j0_json_write (e.keep [0, 3, 5, 7, 41, 42, 43, 44, 45, 54, 66, 69, 100000]) := Exec_tail _ _ _
@[simp] theorem tl1_json_write (e : Env) : Exec T k1_json_write e = Exec T j1_json_write (e.keep [0, 3, 5, 6, 7, 41, 42, 43, 44, 45, 54, 66, 69, 100000]) := Exec_tail _ _ _
@[simp] theorem tl2_json_write (e : Env) : Exec T k2_json_write e = Exec T j2_json_write (e.keep [0, 3, 5, 41, 42, 43, 44, 45, 54, 66, 69, 100000]) := Exec_tail _ _ _
@[simp] theorem tl3_json_write (e : Env) : Exec T k3_json_write e = Exec T j3_json_write (e.keep [0, 3, 5, 41, 42, 43, 44, 45, 54, 66, 69, 100000]) := Exec_tail _ _ _
@[simp] theorem tl4_json_write (e : Env) : Exec T k4_json_write e = Exec T j4_json_write (e.keep [0, 5, 41, 54, 66, 69, 100000]) := Exec_tail _ _ _
@[simp] theorem tl5_json_write (e : Env) : Exec T k5_json_write e = Exec T j5_json_write (e.keep [0, 3, 5, 41, 54, 66, 69, 100000]) := Exec_tail _ _ _
@[simp] theorem tl6_json_write (e : Env) : Exec T k6_json_write e = Exec T j6_json_write (e.keep [0, 3, 41, 54, 66, 69, 100000]) := Exec_tail _ _ _
theorem ex0_json_write (e : Env) : Exec T l0_json_write e = andThen (Exec T w0_json_write (e.keep [0, 3, 5, 41, 42, 43, 44, 45, 54, 66, 69, 100000])) (Exec T l0_json_write) := Exec_loop _ _ _
theorem run_json_write (xs : List PV) : Cinf T n_json_write xs = Run T a_json_write xs := Cinf_eq rfl fn_json_write
@[simp] theorem md_json_write : T.modes n_json_write = [true, false] := rfl
@[simp] theorem call_json_write (C : Oracle) (e : Env) (xs : List PV) : call T C e n_json_write xs = callV (callK1 C n_json_write xs (moves e [] [true, false] xs)) := call_modes md_json_write
@[simp] theorem callP_json_write (C : Oracle) (e : Env) (args : List Opd) (ts : List TypeId) : evP T C e (.call n_json_write args ts) = callP (callK1 C n_json_write (args.map fun a => a.ev e) (moves e [] [true, false] (args.map fun a => a.ev e))) := evP_call_modes md_json_write
theorem fn_json_Print : T.fns n_json_Print = some a_json_Print := rfl
@[simp] theorem tl0_json_Print (e : Env) : Exec T k0_json_Print e = Exec T j0_json_Print (e.keep [5, 12]) := Exec_tail _ _ _
@[simp] theorem tl1_json_Print (e : Env) : Exec T k1_json_Print e = Exec T j1_json_Print (e.keep [1]) := Exec_tail _ _ _
theorem run_json_Print (xs : List PV) : Cinf T n_json_Print xs = Run T a_json_Print xs := Cinf_eq rfl fn_json_Print
@[simp] theorem md_json_Print : T.modes n_json_Print = [] := rfl
@[simp] theorem call_json_Print (C : Oracle) (e : Env) (xs : List PV) : call T C e n_json_Print xs = callV (callK1 C n_json_Print xs (moves e [] [] xs)) := call_modes md_json_Print
@[simp] theorem callP_json_Print (C : Oracle) (e : Env) (args : List Opd) (ts : List TypeId) : evP T C e (.call n_json_Print args ts) = callP (callK1 C n_json_Print (args.map fun a => a.ev e) (moves e [] [] (args.map fun a => a.ev e))) := evP_call_modes md_json_Print
theorem fn_json_Copy : T.fns n_json_Copy = some a_json_Copy := rfl
@[simp] theorem tl0_json_Copy (e : Env) : Exec T k0_json_Copy e = Exec T j0_json_Copy (e.keep [1, 2, 3, 17, 18, 19, 20]) := Exec_tail _ _ _
@[simp] theorem tl1_json_Copy (e : Env) : Exec T k1_json_Copy e = Exec T j1_json_Copy (e.keep [1, 2, 3, 17, 18, 19, 20]) := Exec_tail _ _ _
@[simp] theorem tl2_json_Copy (e : Env) : Exec T k2_json_Copy e = Exec T j2_json_Copy (e.keep [2, 3]) := Exec_tail _ _ _
theorem ex0_json_Copy (e : Env) : Exec T l0_json_Copy e = andThen (Exec T w0_json_Copy (e.keep [1, 2, 3, 17, 18, 19, 20])) (Exec T l0_json_Copy) := Exec_loop _ _ _
theorem run_json_Copy (xs : List PV) : Cinf T n_json_Copy xs = Run T a_json_Copy xs := Cinf_eq rfl fn_json_Copy
@[simp] theorem md_json_Copy : T.modes n_json_Copy = [] := rfl
@[simp] theorem call_json_Copy (C : Oracle) (e : Env) (xs : List PV) : call T C e n_json_Copy xs = callV (callK1 C n_json_Copy xs (moves e [] [] xs)) := call_modes md_json_Copy
@[simp] theorem callP_json_Copy (C : Oracle) (e : Env) (args : List Opd) (ts : List TypeId) : evP T C e (.call n_json_Copy args ts) = callP (callK1 C n_json_Copy (args.map fun a => a.ev e) (moves e [] [] (args.map fun a => a.ev e))) := evP_call_modes md_json_Copy
theorem fn_slices_Index_string_string : T.fns n_slices_Index_string_string = some a_slices_Index_string_string := rfl
@[simp] theorem tl0_slices_Index_string_string (e : Env) : Exec T k0_slices_Index_string_string e = Exec T j0_slices_Index_string_string (e.keep [0, 1, 7, 8]) := Exec_tail _ _ _
@[simp] theorem tl1_slices_Index_string_string (e : Env) : Exec T k1_slices_Index_string_string e = Exec T j1_slices_Index_string_string (e.keep [0, 1, 7, 8]) := Exec_tail _ _ _
@[simp] theorem tl2_slices_Index_string_string (e : Env) : Exec T k2_slices_Index_string_string e = Exec T j2_slices_Index_string_string (e.keep []) := Exec_tail _ _ _
theorem ex0_slices_Index_string_string (e : Env) : Exec T l0_slices_Index_string_string e = andThen (Exec T w0_slices_Index_string_string (e.keep [0, 1, 7, 8])) (Exec T l0_slices_Index_string_string) := Exec_loop _ _ _
theorem run_slices_Index_string_string (xs : List PV) : Cinf T n_slices_Index_string_string xs = Run T a_slices_Index_string_string xs := Cinf_eq rfl fn_slices_Index_string_string
@[simp] theorem md_slices_Index_string_string : T.modes n_slices_Index_string_string = [] := rfl
@[simp] theorem call_slices_Index_string_string (C : Oracle) (e : Env) (xs : List PV) : call T C e n_slices_Index_string_string xs = callV (callK1 C n_slices_Index_string_string xs (moves e [] [] xs)) := call_modes md_slices_Index_string_string
@[simp] theorem callP_slices_Index_string_string (C : Oracle) (e : Env) (args : List Opd) (ts : List TypeId) : evP T C e (.call n_slices_Index_string_string args ts) = callP (callK1 C n_slices_Index_string_string (args.map fun a => a.ev e) (moves e [] [] (args.map fun a => a.ev e))) := evP_call_modes md_slices_Index_string_string
theorem fn_json_Get : T.fns n_json_Get = some a_json_Get := rfl
@[simp] theorem tl0_json_Get (e : Env) : Exec T k0_json_Get e = Exec T j0_json_Get (e.keep [4]) := Exec_tail _ _ _
@[simp] theorem tl1_json_Get (e : Env) : Exec T k1_json_Get e = Exec T j1_json_Get (e.keep [1, 2, 4]) := Exec_tail _ _ _
theorem run_json_Get (xs : List PV) : Cinf T n_json_Get xs = Run T a_json_Get xs := Cinf_eq rfl fn_json_Get
@[simp] theorem md_json_Get : T.modes n_json_Get = [] := rfl
@[simp] theorem call_json_Get (C : Oracle) (e : Env) (xs : List PV) : call T C e n_json_Get xs = callV (callK1 C n_json_Get xs (moves e [] [] xs)) := call_modes md_json_Get
@[simp] theorem callP_json_Get (C : Oracle) (e : Env) (args : List Opd) (ts : List TypeId) : evP T C e (.call n_json_Get args ts) = callP (callK1 C n_json_Get (args.map fun a => a.ev e) (moves e [] [] (args.map fun a => a.ev e))) := evP_call_modes md_json_Get
theorem fn_thicketlaw10_begins : T.fns n_thicketlaw10_begins = some a_thicketlaw10_begins := rfl
theorem run_thicketlaw10_begins (xs : List PV) : Cinf T n_thicketlaw10_begins xs = Run T a_thicketlaw10_begins xs := Cinf_eq rfl fn_thicketlaw10_begins
@[simp] theorem md_thicketlaw10_begins : T.modes n_thicketlaw10_begins = [] := rfl
@[simp] theorem call_thicketlaw10_begins (C : Oracle) (e : Env) (xs : List PV) : call T C e n_thicketlaw10_begins xs = callV (callK1 C n_thicketlaw10_begins xs (moves e [] [] xs)) := call_modes md_thicketlaw10_begins
@[simp] theorem callP_thicketlaw10_begins (C : Oracle) (e : Env) (args : List Opd) (ts : List TypeId) : evP T C e (.call n_thicketlaw10_begins args ts) = callP (callK1 C n_thicketlaw10_begins (args.map fun a => a.ev e) (moves e [] [] (args.map fun a => a.ev e))) := evP_call_modes md_thicketlaw10_begins
theorem fn_thicketlaw10_JsonBack : T.fns n_thicketlaw10_JsonBack = some a_thicketlaw10_JsonBack := rfl
@[simp] theorem tl0_thicketlaw10_JsonBack (e : Env) : Exec T k0_thicketlaw10_JsonBack e = Exec T j0_thicketlaw10_JsonBack (e.keep [10, 12, 66, 68, 69]) := Exec_tail _ _ _
@[simp] theorem tl1_thicketlaw10_JsonBack (e : Env) : Exec T k1_thicketlaw10_JsonBack e = Exec T j1_thicketlaw10_JsonBack (e.keep [1, 10]) := Exec_tail _ _ _
@[simp] theorem tl2_thicketlaw10_JsonBack (e : Env) : Exec T k2_thicketlaw10_JsonBack e = Exec T j2_thicketlaw10_JsonBack (e.keep [1]) := Exec_tail _ _ _
@[simp] theorem tl3_thicketlaw10_JsonBack (e : Env) : Exec T k3_thicketlaw10_JsonBack e = Exec T j3_thicketlaw10_JsonBack (e.keep [1, 2]) := Exec_tail _ _ _
theorem run_thicketlaw10_JsonBack (xs : List PV) : Cinf T n_thicketlaw10_JsonBack xs = Run T a_thicketlaw10_JsonBack xs := Cinf_eq rfl fn_thicketlaw10_JsonBack
@[simp] theorem md_thicketlaw10_JsonBack : T.modes n_thicketlaw10_JsonBack = [] := rfl
@[simp] theorem call_thicketlaw10_JsonBack (C : Oracle) (e : Env) (xs : List PV) : call T C e n_thicketlaw10_JsonBack xs = callV (callK1 C n_thicketlaw10_JsonBack xs (moves e [] [] xs)) := call_modes md_thicketlaw10_JsonBack
@[simp] theorem callP_thicketlaw10_JsonBack (C : Oracle) (e : Env) (args : List Opd) (ts : List TypeId) : evP T C e (.call n_thicketlaw10_JsonBack args ts) = callP (callK1 C n_thicketlaw10_JsonBack (args.map fun a => a.ev e) (moves e [] [] (args.map fun a => a.ev e))) := evP_call_modes md_thicketlaw10_JsonBack
theorem fn_thicketlaw10_JsonCuts : T.fns n_thicketlaw10_JsonCuts = some a_thicketlaw10_JsonCuts := rfl
@[simp] theorem tl0_thicketlaw10_JsonCuts (e : Env) : Exec T k0_thicketlaw10_JsonCuts e = Exec T j0_thicketlaw10_JsonCuts (e.keep [5, 7, 9, 10, 13, 15, 16]) := Exec_tail _ _ _
@[simp] theorem tl1_thicketlaw10_JsonCuts (e : Env) : Exec T k1_thicketlaw10_JsonCuts e = Exec T j1_thicketlaw10_JsonCuts (e.keep [5, 7, 9, 10, 13, 15, 16]) := Exec_tail _ _ _
@[simp] theorem tl2_thicketlaw10_JsonCuts (e : Env) : Exec T k2_thicketlaw10_JsonCuts e = Exec T j2_thicketlaw10_JsonCuts (e.keep []) := Exec_tail _ _ _
@[simp] theorem tl3_thicketlaw10_JsonCuts (e : Env) : Exec T k3_thicketlaw10_JsonCuts e = Exec T j3_thicketlaw10_JsonCuts (e.keep [5, 7, 9, 13, 15, 16]) := Exec_tail _ _ _
@[simp] theorem tl4_thicketlaw10_JsonCuts (e : Env) : Exec T k4_thicketlaw10_JsonCuts e = Exec T j4_thicketlaw10_JsonCuts (e.keep [1, 5, 13, 15, 16]) := Exec_tail _ _ _
@[simp] theorem tl5_thicketlaw10_JsonCuts (e : Env) : Exec T k5_thicketlaw10_JsonCuts e = Exec T j5_thicketlaw10_JsonCuts (e.keep [1, 2]) := Exec_tail _ _ _
theorem ex0_thicketlaw10_JsonCuts (e : Env) : Exec T l0_thicketlaw10_JsonCuts e = andThen (Exec T w0_thicketlaw10_JsonCuts (e.keep [5, 7, 9, 10, 13, 15, 16])) (Exec T l0_thicketlaw10_JsonCuts) := Exec_loop _ _ _
theorem run_thicketlaw10_JsonCuts (xs : List PV) : Cinf T n_thicketlaw10_JsonCuts xs = Run T a_thicketlaw10_JsonCuts xs := Cinf_eq rfl fn_thicketlaw10_JsonCuts
@[simp] theorem md_thicketlaw10_JsonCuts : T.modes n_thicketlaw10_JsonCuts = [] := rfl
@[simp] theorem call_thicketlaw10_JsonCuts (C : Oracle) (e : Env) (xs : List PV) : call T C e n_thicketlaw10_JsonCuts xs = callV (callK1 C n_thicketlaw10_JsonCuts xs (moves e [] [] xs)) := call_modes md_thicketlaw10_JsonCuts
@[simp] theorem callP_thicketlaw10_JsonCuts (C : Oracle) (e : Env) (args : List Opd) (ts : List TypeId) : evP T C e (.call n_thicketlaw10_JsonCuts args ts) = callP (callK1 C n_thicketlaw10_JsonCuts (args.map fun a => a.ev e) (moves e [] [] (args.map fun a => a.ev e))) := evP_call_modes md_thicketlaw10_JsonCuts
theorem x_utf8_ValidString (xs : List PV) {r : PV × List PV} (h : xValidString xs = some r) : Cinf T n_utf8_ValidString xs = some r := Cinf_iff.2 ⟨1, by show (match xValidString xs with | some r => some r | none => _) = some r; rw [h]⟩
@[simp] theorem md_utf8_ValidString : T.modes n_utf8_ValidString = [false] := rfl
@[simp] theorem call_utf8_ValidString (C : Oracle) (e : Env) (xs : List PV) : call T C e n_utf8_ValidString xs = callV (callK1 C n_utf8_ValidString xs (moves e [] [false] xs)) := call_modes md_utf8_ValidString
end Go.AM.F
