/- The functions of the program in the abstract machine's form, printed by a program of the session's own (ir.py); Lean checks them against the program. No conditions. -/
import Derived.Test.YtkcnnifgdhabgaaDoorAmSim
namespace Go.AM.F
open Go Go.AM
set_option maxRecDepth 100000

abbrev n_thicketlaw10_JsonParses : FuncId := 3
abbrev n_json_Parse : FuncId := 8
abbrev n_thicketref10_Parse : FuncId := 9
abbrev n_thicketref10_Same : FuncId := 10
abbrev n_json_Parse_1 : FuncId := 20
abbrev n_json_reader_blanks : FuncId := 21
abbrev n_json_reader_value : FuncId := 22
abbrev n_json_reader_fail : FuncId := 23
abbrev n_thicketref10_reading_value : FuncId := 24
abbrev n_thicketref10_reading_ok : FuncId := 25
abbrev n_thicketref10_reading_blanks : FuncId := 26
abbrev n_thicketref10_reading_fail : FuncId := 27
abbrev n_json_reader_byte : FuncId := 37
abbrev n_json_reader_want : FuncId := 38
abbrev n_json_reader_text : FuncId := 39
abbrev n_json_reader_list : FuncId := 40
abbrev n_json_reader_object : FuncId := 41
abbrev n_json_reader_number : FuncId := 42
abbrev n_thicketref10_reading_must : FuncId := 43
abbrev n_thicketref10_isDigit : FuncId := 44
abbrev n_thicketref10_reading_number : FuncId := 45
abbrev n_thicketref10_reading_text : FuncId := 46
abbrev n_thicketref10_reading_list : FuncId := 47
abbrev n_thicketref10_reading_object : FuncId := 48
abbrev n_json_reader_escape : FuncId := 56
abbrev n_utf8_DecodeRune : FuncId := 57
abbrev n_json_reader_takes : FuncId := 58
abbrev n_json_reader_digits : FuncId := 59
abbrev n_thicketref10_reading_next : FuncId := 60
abbrev n_thicketref10_reading_digits : FuncId := 61
abbrev n_thicketref10_reading_escape : FuncId := 62
abbrev n_thicketref10_Char : FuncId := 63
abbrev n_strings_IndexByte : FuncId := 69
abbrev n_json_reader_four : FuncId := 70
abbrev n_json_reader_cutOff : FuncId := 71
abbrev n_utf8_decodeRuneSlow : FuncId := 72
abbrev n_json_reader_digit : FuncId := 73
abbrev n_thicketref10_reading_four : FuncId := 74
abbrev n_thicketref10_utf8 : FuncId := 75
abbrev n_thicketref10_reading_pair : FuncId := 76
abbrev n_stringslite_IndexByte : FuncId := 81
abbrev n_thicketref10_hex : FuncId := 82
abbrev n_bytealg_IndexByteString : FuncId := 83
def glob0 : List PV := ([240, 240, 240, 240, 240, 240, 240, 240, 240, 240, 240, 240, 240, 240, 240, 240, 240, 240, 240, 240, 240, 240, 240, 240, 240, 240, 240, 240, 240, 240, 240, 240, 240, 240, 240, 240, 240, 240, 240, 240, 240, 240, 240, 240, 240, 240, 240, 240, 240, 240, 240, 240, 240, 240, 240, 240, 240, 240, 240, 240, 240, 240, 240, 240, 240, 240, 240, 240, 240, 240, 240, 240, 240, 240, 240, 240, 240, 240, 240, 240, 240, 240, 240, 240, 240, 240, 240, 240, 240, 240, 240, 240, 240, 240, 240, 240, 240, 240, 240, 240, 240, 240, 240, 240, 240, 240, 240, 240, 240, 240, 240, 240, 240, 240, 240, 240, 240, 240, 240, 240, 240, 240, 240, 240, 240, 240, 240, 240, 241, 241, 241, 241, 241, 241, 241, 241, 241, 241, 241, 241, 241, 241, 241, 241, 241, 241, 241, 241, 241, 241, 241, 241, 241, 241, 241, 241, 241, 241, 241, 241, 241, 241, 241, 241, 241, 241, 241, 241, 241, 241, 241, 241, 241, 241, 241, 241, 241, 241, 241, 241, 241, 241, 241, 241, 241, 241, 241, 241, 241, 241, 241, 241, 241, 241, 2, 2, 2, 2, 2, 2, 2, 2, 2, 2, 2, 2, 2, 2, 2, 2, 2, 2, 2, 2, 2, 2, 2, 2, 2, 2, 2, 2, 2, 2, 19, 3, 3, 3, 3, 3, 3, 3, 3, 3, 3, 3, 3, 35, 3, 3, 52, 4, 4, 4, 68, 241, 241, 241, 241, 241, 241, 241, 241, 241, 241, 241] : List Int).map fun z => .v (.int .u8 z)
def glob1 : List PV := ([128, 191, 160, 191, 128, 159, 144, 191, 128, 143, 0, 0, 0, 0, 0, 0, 0, 0, 0, 0, 0, 0, 0, 0, 0, 0, 0, 0, 0, 0, 0, 0] : List Int).map fun z => .v (.int .u8 z)
-- json_Parse_1: builtin recover; operator neq of interface
def j0_json_Parse_1 : IR :=
 (.reg 5 [⟨some 17, .build 27 [(0, 1), (1, 1), (2, 1), (3, 1)] [.v (.int .u8 0), .v (.string ⟨#[]⟩), .v (.slice none 0 0), .v (.slice none 0 0)] [], none, []⟩,
  ⟨some 18, .faddr 46 (.t 4) 0 0, none, []⟩,
  ⟨some 19, .load 28 none (.t 18), none, []⟩,
  ⟨some 20, .faddr 46 (.t 4) 1 1, none, []⟩,
  ⟨some 21, .load 3 none (.t 20), none, []⟩,
  ⟨none, .store 27 (some 4) (.t 0) (.t 17), none, [0, 17, 18]⟩,
  ⟨none, .store 28 none (.t 1) (.t 19), none, [1, 4, 19, 20]⟩,
  ⟨none, .store 3 none (.t 2) (.t 21), none, [2, 21]⟩] (some (.cons ⟨0, []⟩ (.cons ⟨1, []⟩ (.cons ⟨3, []⟩ (.cons ⟨2, []⟩ (.cons ⟨4, []⟩ (.cons ⟨5, [2, 4]⟩ (.cons ⟨6, [4]⟩ (.cons ⟨7, []⟩ .nil))))))))) [100000, 100001, 100002])
def k0_json_Parse_1 : IR := .tail [0, 1, 2, 4, 100000, 100001, 100002] j0_json_Parse_1
def b_json_Parse_1 : IR :=
 (.seq (.reg 0 [⟨some 6, .other (Op.call { callee := (Callee.builtin Builtin.recover), args := #[], argTypes := #[] }), none, []⟩,
  ⟨some 3, .assign (.t 6), none, []⟩] none [0, 1, 2, 3, 6, 100000, 100001, 100002])
 (.seq (.reg 1 [⟨some 7, .move (.t 3), none, []⟩,
  ⟨some 8, .other (Op.binOp BinOp.neq 20 (Operand.tmp 7) (Operand.const Value.nilIface) 20), none, [7]⟩] none [0, 1, 2, 3, 6, 8, 100000, 100001, 100002])
 (.cond [0, 1, 2, 3, 6, 100000, 100001, 100002] (.t 8) (.seq (.reg 2 [⟨some 10, .move (.t 3), none, []⟩,
  ⟨some 11, .tass 20 46 (.t 10), none, [10]⟩,
  ⟨some 9, .move (.t 11), none, [11]⟩,
  ⟨some 12, .extr (.t 9) 0, none, []⟩,
  ⟨some 13, .extr (.t 9) 1, none, [9]⟩,
  ⟨some 4, .alloc 46 [.v (.int .i64 0), .v (.int .i64 0)], none, []⟩,
  ⟨none, .store 46 (some 2) (.t 4) (.t 12), none, [12]⟩,
  ⟨some 5, .assign (.t 13), none, [13]⟩] none [0, 1, 2, 3, 4, 5, 6, 100000, 100001, 100002])
 (.seq (.seq (.reg 3 [⟨some 14, .move (.t 5), none, [5]⟩,
  ⟨some 15, .un .not 4 (.t 14), none, [14]⟩] none [0, 1, 2, 3, 4, 6, 15, 100000, 100001, 100002])
 (.cond [0, 1, 2, 3, 4, 6, 100000, 100001, 100002] (.t 15) (.regp 4 [⟨some 16, .move (.t 3), none, []⟩,
  ⟨none, .throw (.t 16), none, [3, 6, 16]⟩] none [0, 1, 2, 4, 100000, 100001, 100002]) .skip))
 k0_json_Parse_1)) .skip)))
def a_json_Parse_1 : AFunc := ⟨22, [], b_json_Parse_1⟩

def j0_json_reader_blanks : IR :=
 (.block 1 (.reg 1 [⟨some 64, .move (.t 0), none, []⟩,
  ⟨some 65, .nilck (.t 64), none, []⟩,
  ⟨some 66, .faddr 50 (.t 65) 1 1, none, []⟩,
  ⟨some 67, .load 3 none (.t 66), none, [65, 66]⟩,
  ⟨some 68, .bin .add 3 (.t 67) (.c (Value.int IntKind.i64 1)) 3, none, [67]⟩,
  ⟨some 69, .nilck (.t 64), none, []⟩,
  ⟨some 70, .faddr 50 (.t 69) 1 1, none, []⟩,
  ⟨none, .store 3 none (.t 70) (.t 68), none, [64, 68, 69, 70]⟩] none [0, 100000]))
def k0_json_reader_blanks : IR := .tail [0, 100000] j0_json_reader_blanks
def w0_json_reader_blanks : IR :=
 (.seq (.seq (.reg 0 [⟨some 2, .move (.t 0), none, []⟩,
  ⟨some 3, .nilck (.t 2), none, []⟩,
  ⟨some 4, .faddr 50 (.t 3) 1 1, none, []⟩,
  ⟨some 5, .load 3 none (.t 4), none, [2, 3, 4]⟩,
  ⟨some 6, .move (.t 0), none, []⟩,
  ⟨some 7, .nilck (.t 6), none, []⟩,
  ⟨some 8, .faddr 50 (.t 7) 0 0, none, []⟩,
  ⟨some 9, .load 22 none (.t 8), none, []⟩,
  ⟨some 10, .len 22 false (.t 9), none, [6, 7, 8, 9]⟩,
  ⟨some 11, .bin .lss 3 (.t 5) (.t 10) 3, none, [5, 10]⟩,
  ⟨some 12, .move (.t 11), none, [11]⟩,
  ⟨some 13, .move (.t 0), some (10, true), []⟩,
  ⟨some 14, .nilck (.t 13), some (10, true), []⟩,
  ⟨some 15, .faddr 50 (.t 14) 0 0, some (10, true), []⟩,
  ⟨some 16, .load 22 none (.t 15), some (10, true), []⟩,
  ⟨some 17, .move (.t 0), some (10, true), []⟩,
  ⟨some 18, .nilck (.t 17), some (10, true), []⟩,
  ⟨some 19, .faddr 50 (.t 18) 1 1, some (10, true), []⟩,
  ⟨some 20, .load 3 none (.t 19), some (10, true), [17, 18, 19]⟩,
  ⟨some 21, .iaddr 22 (.sl 1) (.t 16) (.t 20), some (10, true), []⟩,
  ⟨some 22, .load 5 none (.t 21), some (10, true), [13, 14, 15, 16, 20, 21]⟩,
  ⟨some 23, .bin .eql 5 (.t 22) (.c (Value.int IntKind.u8 32)) 5, some (10, true), [22]⟩,
  ⟨some 24, .move (.t 23), some (10, true), [23]⟩,
  ⟨some 25, .move (.t 0), some (22, false), []⟩,
  ⟨some 26, .nilck (.t 25), some (22, false), []⟩,
  ⟨some 27, .faddr 50 (.t 26) 0 0, some (22, false), []⟩,
  ⟨some 28, .load 22 none (.t 27), some (22, false), []⟩,
  ⟨some 29, .move (.t 0), some (22, false), []⟩,
  ⟨some 30, .nilck (.t 29), some (22, false), []⟩,
  ⟨some 31, .faddr 50 (.t 30) 1 1, some (22, false), []⟩,
  ⟨some 32, .load 3 none (.t 31), some (22, false), [29, 30, 31]⟩,
  ⟨some 33, .iaddr 22 (.sl 1) (.t 28) (.t 32), some (22, false), []⟩,
  ⟨some 34, .load 5 none (.t 33), some (22, false), [25, 26, 27, 28, 32, 33]⟩,
  ⟨some 35, .bin .eql 5 (.t 34) (.c (Value.int IntKind.u8 9)) 5, some (22, false), [34]⟩,
  ⟨some 36, .pick (.t 24) (.c (Value.bool true)) (.t 35), some (10, true), [24, 35]⟩,
  ⟨some 37, .move (.t 36), some (10, true), [36]⟩,
  ⟨some 38, .move (.t 0), some (35, false), []⟩,
  ⟨some 39, .nilck (.t 38), some (35, false), []⟩,
  ⟨some 40, .faddr 50 (.t 39) 0 0, some (35, false), []⟩,
  ⟨some 41, .load 22 none (.t 40), some (35, false), []⟩,
  ⟨some 42, .move (.t 0), some (35, false), []⟩,
  ⟨some 43, .nilck (.t 42), some (35, false), []⟩,
  ⟨some 44, .faddr 50 (.t 43) 1 1, some (35, false), []⟩,
  ⟨some 45, .load 3 none (.t 44), some (35, false), [42, 43, 44]⟩,
  ⟨some 46, .iaddr 22 (.sl 1) (.t 41) (.t 45), some (35, false), []⟩,
  ⟨some 47, .load 5 none (.t 46), some (35, false), [38, 39, 40, 41, 45, 46]⟩,
  ⟨some 48, .bin .eql 5 (.t 47) (.c (Value.int IntKind.u8 10)) 5, some (35, false), [47]⟩,
  ⟨some 49, .pick (.t 37) (.c (Value.bool true)) (.t 48), some (10, true), [37, 48]⟩,
  ⟨some 50, .move (.t 49), some (10, true), [49]⟩,
  ⟨some 51, .move (.t 0), some (48, false), []⟩,
  ⟨some 52, .nilck (.t 51), some (48, false), []⟩,
  ⟨some 53, .faddr 50 (.t 52) 0 0, some (48, false), []⟩,
  ⟨some 54, .load 22 none (.t 53), some (48, false), []⟩,
  ⟨some 55, .move (.t 0), some (48, false), []⟩,
  ⟨some 56, .nilck (.t 55), some (48, false), []⟩,
  ⟨some 57, .faddr 50 (.t 56) 1 1, some (48, false), []⟩,
  ⟨some 58, .load 3 none (.t 57), some (48, false), [55, 56, 57]⟩,
  ⟨some 59, .iaddr 22 (.sl 1) (.t 54) (.t 58), some (48, false), []⟩,
  ⟨some 60, .load 5 none (.t 59), some (48, false), [51, 52, 53, 54, 58, 59]⟩,
  ⟨some 61, .bin .eql 5 (.t 60) (.c (Value.int IntKind.u8 13)) 5, some (48, false), [60]⟩,
  ⟨some 62, .pick (.t 50) (.c (Value.bool true)) (.t 61), some (10, true), [50, 61]⟩,
  ⟨some 63, .pick (.t 12) (.t 62) (.c (Value.bool false)), none, [12, 62]⟩] (some (.cons ⟨0, []⟩ (.cons ⟨1, []⟩ (.cons ⟨2, []⟩ (.cons ⟨4, []⟩ (.cons ⟨5, []⟩ (.cons ⟨6, []⟩ (.cons ⟨3, []⟩ (.cons ⟨7, []⟩ (.cons ⟨8, []⟩ (.cons ⟨9, []⟩ (.cons ⟨10, []⟩ (.cons ⟨11, []⟩ (.cons ⟨12, []⟩ (.cons ⟨13, []⟩ (.cons ⟨15, []⟩ (.cons ⟨16, []⟩ (.cons ⟨17, []⟩ (.cons ⟨14, []⟩ (.cons ⟨18, []⟩ (.cons ⟨19, []⟩ (.cons ⟨20, []⟩ (.cons ⟨21, []⟩ (.cons ⟨22, []⟩ (.cons ⟨23, []⟩ (.cons ⟨24, []⟩ (.cons ⟨25, []⟩ (.cons ⟨27, []⟩ (.cons ⟨28, []⟩ (.cons ⟨29, []⟩ (.cons ⟨26, []⟩ (.cons ⟨30, []⟩ (.cons ⟨31, []⟩ (.cons ⟨32, []⟩ (.cons ⟨33, []⟩ (.cons ⟨34, []⟩ (.cons ⟨35, []⟩ (.cons ⟨36, []⟩ (.cons ⟨37, []⟩ (.cons ⟨38, []⟩ (.cons ⟨40, []⟩ (.cons ⟨41, []⟩ (.cons ⟨42, []⟩ (.cons ⟨39, []⟩ (.cons ⟨43, []⟩ (.cons ⟨44, []⟩ (.cons ⟨45, []⟩ (.cons ⟨46, []⟩ (.cons ⟨47, []⟩ (.cons ⟨48, []⟩ (.cons ⟨49, []⟩ (.cons ⟨50, []⟩ (.cons ⟨51, []⟩ (.cons ⟨53, []⟩ (.cons ⟨54, []⟩ (.cons ⟨55, []⟩ (.cons ⟨52, []⟩ (.cons ⟨56, []⟩ (.cons ⟨57, []⟩ (.cons ⟨58, []⟩ (.cons ⟨59, []⟩ (.cons ⟨60, []⟩ (.cons ⟨61, []⟩ .nil))))))))))))))))))))))))))))))))))))))))))))))))))))))))))))))) [0, 63, 100000])
 (.cond [0, 100000] (.t 63) .skip (.exit 0)))
 k0_json_reader_blanks)
def l0_json_reader_blanks : IR := .loop [0, 100000] w0_json_reader_blanks
def b_json_reader_blanks : IR :=
 (.block 0 l0_json_reader_blanks)
def a_json_reader_blanks : AFunc := ⟨71, [], b_json_reader_blanks⟩

def b_json_reader_fail : IR :=
 (.regp 0 [⟨some 2, .move (.t 0), none, []⟩,
  ⟨some 3, .nilck (.t 2), none, []⟩,
  ⟨some 4, .faddr 50 (.t 3) 1 1, none, []⟩,
  ⟨some 5, .load 3 none (.t 4), none, [0, 2, 3, 4]⟩,
  ⟨some 6, .build 46 [(0, 1), (1, 1)] [.v (.int .i64 0), .v (.int .i64 0)] [(0, (.c (Value.int IntKind.i64 100))), (1, (.t 5))], none, [5]⟩,
  ⟨some 7, .mkiface 46 (.t 6), none, [6]⟩,
  ⟨none, .throw (.t 7), none, [7]⟩] none [100000])
def a_json_reader_fail : AFunc := ⟨8, [], b_json_reader_fail⟩

def j0_json_reader_byte : IR :=
 (.seq (.reg 3 [⟨some 15, .move (.t 0), none, []⟩,
  ⟨some 16, .nilck (.t 15), none, []⟩,
  ⟨some 17, .faddr 50 (.t 16) 0 0, none, []⟩,
  ⟨some 18, .load 22 none (.t 17), none, []⟩,
  ⟨some 19, .move (.t 0), none, []⟩,
  ⟨some 20, .nilck (.t 19), none, []⟩,
  ⟨some 21, .faddr 50 (.t 20) 1 1, none, []⟩,
  ⟨some 22, .load 3 none (.t 21), none, [19, 20, 21]⟩,
  ⟨some 23, .iaddr 22 (.sl 1) (.t 18) (.t 22), none, []⟩,
  ⟨some 24, .load 5 none (.t 23), none, [0, 15, 16, 17, 18, 22, 23]⟩,
  ⟨some 2, .assign (.t 24), none, [24]⟩] (some (.cons ⟨0, []⟩ (.cons ⟨1, []⟩ (.cons ⟨2, []⟩ (.cons ⟨4, []⟩ (.cons ⟨5, []⟩ (.cons ⟨6, []⟩ (.cons ⟨3, []⟩ (.cons ⟨7, []⟩ (.cons ⟨8, []⟩ (.cons ⟨9, []⟩ (.cons ⟨10, []⟩ .nil)))))))))))) [2, 100000])
 .ret)
def k0_json_reader_byte : IR := .tail [0, 100000] j0_json_reader_byte
def b_json_reader_byte : IR :=
 (.seq (.reg 0 [⟨some 2, .assign (.c (Value.int IntKind.u8 0)), none, [2]⟩] none [0, 100000])
 (.seq (.seq (.reg 1 [⟨some 3, .move (.t 0), none, []⟩,
  ⟨some 4, .nilck (.t 3), none, []⟩,
  ⟨some 5, .faddr 50 (.t 4) 1 1, none, []⟩,
  ⟨some 6, .load 3 none (.t 5), none, [3, 4, 5]⟩,
  ⟨some 7, .move (.t 0), none, []⟩,
  ⟨some 8, .nilck (.t 7), none, []⟩,
  ⟨some 9, .faddr 50 (.t 8) 0 0, none, []⟩,
  ⟨some 10, .load 22 none (.t 9), none, []⟩,
  ⟨some 11, .len 22 false (.t 10), none, [7, 8, 9, 10]⟩,
  ⟨some 12, .bin .geq 3 (.t 6) (.t 11) 3, none, [6, 11]⟩] (some (.cons ⟨0, []⟩ (.cons ⟨1, []⟩ (.cons ⟨2, []⟩ (.cons ⟨4, []⟩ (.cons ⟨5, []⟩ (.cons ⟨6, []⟩ (.cons ⟨3, []⟩ (.cons ⟨7, []⟩ (.cons ⟨8, []⟩ (.cons ⟨9, []⟩ .nil))))))))))) [0, 12, 100000])
 (.cond [0, 100000] (.t 12) (.regp 2 [⟨some 13, .move (.t 0), none, []⟩,
  ⟨some 14, .call n_json_reader_fail [(.t 13)] [48], none, [13, 14]⟩] none [0, 100000]) .skip))
 k0_json_reader_byte))
def a_json_reader_byte : AFunc := ⟨25, [.tmp 2], b_json_reader_byte⟩

def j0_json_reader_want : IR :=
 (.reg 5 [⟨some 18, .move (.t 0), none, []⟩,
  ⟨some 19, .nilck (.t 18), none, []⟩,
  ⟨some 20, .faddr 50 (.t 19) 1 1, none, []⟩,
  ⟨some 21, .load 3 none (.t 20), none, [19, 20]⟩,
  ⟨some 22, .bin .add 3 (.t 21) (.c (Value.int IntKind.i64 1)) 3, none, [21]⟩,
  ⟨some 23, .nilck (.t 18), none, []⟩,
  ⟨some 24, .faddr 50 (.t 23) 1 1, none, []⟩,
  ⟨none, .store 3 none (.t 24) (.t 22), none, [18, 22, 23, 24]⟩] none [0, 1, 6, 7, 100000])
def k0_json_reader_want : IR := .tail [0, 1, 6, 7, 100000] j0_json_reader_want
def j1_json_reader_want : IR :=
 (.reg 6 [⟨some 25, .bin .add 3 (.t 7) (.c (Value.int IntKind.i64 1)) 3, none, []⟩,
  ⟨some 7, .move (.t 25), none, [25]⟩] none [0, 1, 6, 7, 100000])
def k1_json_reader_want : IR := .tail [0, 1, 6, 7, 100000] j1_json_reader_want
def j2_json_reader_want : IR :=
 (.seq (.block 1 (.seq (.reg 2 [⟨some 9, .move (.t 7), none, []⟩,
  ⟨some 4, .assign (.t 9), none, [9]⟩] none [0, 1, 4, 6, 7, 100000])
 (.seq (.seq (.regp 3 [⟨some 10, .move (.t 0), none, []⟩,
  ⟨some 11, .call n_json_reader_byte [(.t 10)] [48], none, [10]⟩,
  ⟨some 12, .move (.t 1), none, []⟩,
  ⟨some 13, .move (.t 4), none, [4]⟩,
  ⟨some 14, .index 9 .str none (.t 12) (.t 13), none, [12, 13]⟩,
  ⟨some 15, .bin .neq 5 (.t 11) (.t 14) 5, none, [11, 14]⟩] (some (.cons ⟨0, []⟩ (.cons ⟨2, []⟩ (.cons ⟨3, []⟩ (.cons ⟨4, []⟩ (.cons ⟨1, []⟩ (.cons ⟨5, []⟩ .nil))))))) [0, 1, 6, 7, 15, 100000])
 (.cond [0, 1, 6, 7, 100000] (.t 15) (.regp 4 [⟨some 16, .move (.t 0), none, []⟩,
  ⟨some 17, .call n_json_reader_fail [(.t 16)] [48], none, [16, 17]⟩] none [0, 1, 6, 7, 100000]) .skip))
 k0_json_reader_want)))
 k1_json_reader_want)
def k2_json_reader_want : IR := .tail [0, 1, 6, 7, 100000] j2_json_reader_want
def w0_json_reader_want : IR :=
 (.seq (.reg 1 [⟨some 8, .bin .lss 3 (.t 7) (.t 6) 3, none, []⟩] none [0, 1, 6, 7, 8, 100000])
 (.seq (.cond [0, 1, 6, 7, 100000] (.t 8) .skip (.exit 0))
 k2_json_reader_want))
def l0_json_reader_want : IR := .loop [0, 1, 6, 7, 100000] w0_json_reader_want
def b_json_reader_want : IR :=
 (.seq (.reg 0 [⟨some 5, .move (.t 1), none, []⟩,
  ⟨some 6, .len 9 true (.t 5), none, [5]⟩,
  ⟨some 7, .move (.c (Value.int IntKind.i64 0)), none, []⟩] none [0, 1, 6, 7, 100000])
 (.block 0 l0_json_reader_want))
def a_json_reader_want : AFunc := ⟨26, [], b_json_reader_want⟩

def b_stringslite_IndexByte : IR :=
 (.seq (.reg 0 [⟨some 4, .assign (.c (Value.int IntKind.i64 0)), none, [4]⟩] none [0, 1])
 (.seq (.reg 1 [⟨some 5, .move (.t 0), none, [0]⟩,
  ⟨some 6, .move (.t 1), none, [1]⟩,
  ⟨some 7, .ext n_bytealg_IndexByteString .idxByteStr [(.t 5), (.t 6)] [9, 5], none, [5, 6]⟩,
  ⟨some 4, .assign (.t 7), none, [7]⟩] none [4])
 .ret))
def a_stringslite_IndexByte : AFunc := ⟨8, [.tmp 4], b_stringslite_IndexByte⟩

def b_strings_IndexByte : IR :=
 (.seq (.reg 0 [⟨some 4, .assign (.c (Value.int IntKind.i64 0)), none, [4]⟩] none [0, 1])
 (.seq (.reg 1 [⟨some 5, .move (.t 0), none, [0]⟩,
  ⟨some 6, .move (.t 1), none, [1]⟩,
  ⟨some 7, .call n_stringslite_IndexByte [(.t 5), (.t 6)] [9, 5], none, [5, 6]⟩,
  ⟨some 4, .assign (.t 7), none, [7]⟩] none [4])
 .ret))
def a_strings_IndexByte : AFunc := ⟨8, [.tmp 4], b_strings_IndexByte⟩

def j0_json_reader_four : IR :=
 (.reg 12 [⟨some 52, .move (.t 0), none, []⟩,
  ⟨some 53, .nilck (.t 52), none, []⟩,
  ⟨some 54, .faddr 50 (.t 53) 1 1, none, []⟩,
  ⟨some 55, .load 3 none (.t 54), none, [53, 54]⟩,
  ⟨some 56, .bin .add 3 (.t 55) (.c (Value.int IntKind.i64 1)) 3, none, [55]⟩,
  ⟨some 57, .nilck (.t 52), none, []⟩,
  ⟨some 58, .faddr 50 (.t 57) 1 1, none, []⟩,
  ⟨none, .store 3 none (.t 58) (.t 56), none, [52, 56, 57, 58]⟩] none [0, 3, 5, 100000])
def k0_json_reader_four : IR := .tail [0, 3, 5, 100000] j0_json_reader_four
def j1_json_reader_four : IR :=
 (.reg 13 [⟨some 59, .bin .add 3 (.t 5) (.c (Value.int IntKind.i64 1)) 3, none, []⟩,
  ⟨some 5, .move (.t 59), none, [59]⟩] none [0, 3, 5, 100000])
def k1_json_reader_four : IR := .tail [0, 3, 5, 100000] j1_json_reader_four
def j2_json_reader_four : IR :=
 (.seq (.block 1 (.seq (.regp 4 [⟨some 7, .move (.t 0), none, []⟩,
  ⟨some 8, .call n_json_reader_byte [(.t 7)] [48], none, [7]⟩,
  ⟨some 4, .assign (.t 8), none, [8]⟩] none [0, 3, 4, 5, 100000])
 (.seq (.block 2 (.seq (.reg 6 [⟨some 12, .move (.t 4), none, []⟩,
  ⟨some 13, .bin .geq 5 (.t 12) (.c (Value.int IntKind.u8 48)) 5, none, [12]⟩,
  ⟨some 14, .move (.t 13), none, [13]⟩,
  ⟨some 15, .move (.t 4), some (2, true), []⟩,
  ⟨some 16, .bin .leq 5 (.t 15) (.c (Value.int IntKind.u8 57)) 5, some (2, true), [15]⟩,
  ⟨some 17, .pick (.t 14) (.t 16) (.c (Value.bool false)), none, [14, 16]⟩,
  ⟨some 11, .assign (.t 17), none, [17]⟩] none [0, 3, 4, 5, 11, 100000])
 (.cond [0, 3, 4, 5, 100000] (.t 11) (.reg 7 [⟨some 18, .move (.t 3), none, []⟩,
  ⟨some 19, .bin .mul 21 (.c (Value.int IntKind.i32 16)) (.t 18) 21, none, [18]⟩,
  ⟨some 20, .move (.t 4), none, [4]⟩,
  ⟨some 21, .bin .sub 5 (.t 20) (.c (Value.int IntKind.u8 48)) 5, none, [20]⟩,
  ⟨some 22, .conv 5 21 (.int .i32) (.t 21), none, [21]⟩,
  ⟨some 23, .bin .add 21 (.t 19) (.t 22) 21, none, [19, 22]⟩,
  ⟨some 3, .assign (.t 23), none, [23]⟩] none [0, 3, 5, 100000]) (.seq (.reg 8 [⟨some 25, .move (.t 4), none, []⟩,
  ⟨some 26, .bin .geq 5 (.t 25) (.c (Value.int IntKind.u8 97)) 5, none, [25]⟩,
  ⟨some 27, .move (.t 26), none, [26]⟩,
  ⟨some 28, .move (.t 4), some (2, true), []⟩,
  ⟨some 29, .bin .leq 5 (.t 28) (.c (Value.int IntKind.u8 102)) 5, some (2, true), [28]⟩,
  ⟨some 30, .pick (.t 27) (.t 29) (.c (Value.bool false)), none, [27, 29]⟩,
  ⟨some 24, .assign (.t 30), none, [30]⟩] none [0, 3, 4, 5, 24, 100000])
 (.cond [0, 3, 4, 5, 100000] (.t 24) (.reg 9 [⟨some 31, .move (.t 3), none, []⟩,
  ⟨some 32, .bin .mul 21 (.c (Value.int IntKind.i32 16)) (.t 31) 21, none, [31]⟩,
  ⟨some 33, .move (.t 4), none, [4]⟩,
  ⟨some 34, .bin .sub 5 (.t 33) (.c (Value.int IntKind.u8 97)) 5, none, [33]⟩,
  ⟨some 35, .conv 5 21 (.int .i32) (.t 34), none, [34]⟩,
  ⟨some 36, .bin .add 21 (.t 32) (.t 35) 21, none, [32, 35]⟩,
  ⟨some 37, .bin .add 21 (.t 36) (.c (Value.int IntKind.i32 10)) 21, none, [36]⟩,
  ⟨some 3, .assign (.t 37), none, [37]⟩] none [0, 3, 5, 100000]) (.seq (.reg 10 [⟨some 39, .move (.t 4), none, []⟩,
  ⟨some 40, .bin .geq 5 (.t 39) (.c (Value.int IntKind.u8 65)) 5, none, [39]⟩,
  ⟨some 41, .move (.t 40), none, [40]⟩,
  ⟨some 42, .move (.t 4), some (2, true), []⟩,
  ⟨some 43, .bin .leq 5 (.t 42) (.c (Value.int IntKind.u8 70)) 5, some (2, true), [42]⟩,
  ⟨some 44, .pick (.t 41) (.t 43) (.c (Value.bool false)), none, [41, 43]⟩,
  ⟨some 38, .assign (.t 44), none, [44]⟩] none [0, 3, 4, 5, 38, 100000])
 (.cond [0, 3, 4, 5, 100000] (.t 38) (.reg 11 [⟨some 45, .move (.t 3), none, []⟩,
  ⟨some 46, .bin .mul 21 (.c (Value.int IntKind.i32 16)) (.t 45) 21, none, [45]⟩,
  ⟨some 47, .move (.t 4), none, [4]⟩,
  ⟨some 48, .bin .sub 5 (.t 47) (.c (Value.int IntKind.u8 65)) 5, none, [47]⟩,
  ⟨some 49, .conv 5 21 (.int .i32) (.t 48), none, [48]⟩,
  ⟨some 50, .bin .add 21 (.t 46) (.t 49) 21, none, [46, 49]⟩,
  ⟨some 51, .bin .add 21 (.t 50) (.c (Value.int IntKind.i32 10)) 21, none, [50]⟩,
  ⟨some 3, .assign (.t 51), none, [51]⟩] none [0, 3, 5, 100000]) (.regp 5 [⟨some 9, .move (.t 0), none, []⟩,
  ⟨some 10, .call n_json_reader_fail [(.t 9)] [48], none, [9, 10]⟩] none [0, 3, 5, 100000]))))))))
 k0_json_reader_four)))
 k1_json_reader_four)
def k2_json_reader_four : IR := .tail [0, 3, 5, 100000] j2_json_reader_four
def w0_json_reader_four : IR :=
 (.seq (.reg 3 [⟨some 6, .bin .lss 3 (.t 5) (.c (Value.int IntKind.i64 4)) 3, none, []⟩] none [0, 3, 5, 6, 100000])
 (.seq (.cond [0, 3, 5, 100000] (.t 6) .skip (.exit 0))
 k2_json_reader_four))
def l0_json_reader_four : IR := .loop [0, 3, 5, 100000] w0_json_reader_four
def j3_json_reader_four : IR :=
 (.seq (.reg 14 [⟨some 60, .move (.t 3), none, [3]⟩,
  ⟨some 2, .assign (.t 60), none, [60]⟩] none [2, 100000])
 .ret)
def k3_json_reader_four : IR := .tail [3, 100000] j3_json_reader_four
def b_json_reader_four : IR :=
 (.seq (.reg 0 [⟨some 2, .assign (.c (Value.int IntKind.i32 0)), none, [2]⟩] none [0, 100000])
 (.seq (.reg 1 [⟨some 3, .assign (.c (Value.int IntKind.i32 0)), none, []⟩] none [0, 3, 100000])
 (.seq (.seq (.reg 2 [⟨some 5, .move (.c (Value.int IntKind.i64 0)), none, []⟩] none [0, 3, 5, 100000])
 (.block 0 l0_json_reader_four))
 k3_json_reader_four)))
def a_json_reader_four : AFunc := ⟨61, [.tmp 2], b_json_reader_four⟩

def j0_json_reader_cutOff : IR :=
 (.regp 3 [⟨some 28, .move (.t 1), none, [1]⟩,
  ⟨some 29, .build 46 [(0, 1), (1, 1)] [.v (.int .i64 0), .v (.int .i64 0)] [(0, (.c (Value.int IntKind.i64 100))), (1, (.t 28))], none, [28]⟩,
  ⟨some 30, .mkiface 46 (.t 29), none, [29]⟩,
  ⟨none, .throw (.t 30), none, [30]⟩] none [100000])
def k0_json_reader_cutOff : IR := .tail [1, 100000] j0_json_reader_cutOff
def b_json_reader_cutOff : IR :=
 (.seq (.reg 0 [⟨some 5, .move (.t 0), none, []⟩,
  ⟨some 6, .nilck (.t 5), none, []⟩,
  ⟨some 7, .faddr 50 (.t 6) 0 0, none, []⟩,
  ⟨some 8, .load 22 none (.t 7), none, []⟩,
  ⟨some 9, .move (.t 0), none, []⟩,
  ⟨some 10, .nilck (.t 9), none, []⟩,
  ⟨some 11, .faddr 50 (.t 10) 1 1, none, []⟩,
  ⟨some 12, .load 3 none (.t 11), none, [9, 10, 11]⟩,
  ⟨some 13, .slice 22 (.sl 1) (.t 8) (some (.t 12)) none none, none, []⟩,
  ⟨some 14, .conv 22 9 .bytes (.t 13), none, [5, 6, 7, 8, 12, 13]⟩,
  ⟨some 4, .assign (.t 14), none, [14]⟩] (some (.cons ⟨0, []⟩ (.cons ⟨1, []⟩ (.cons ⟨2, []⟩ (.cons ⟨4, []⟩ (.cons ⟨5, []⟩ (.cons ⟨6, []⟩ (.cons ⟨3, []⟩ (.cons ⟨7, []⟩ (.cons ⟨8, []⟩ (.cons ⟨9, []⟩ (.cons ⟨10, []⟩ .nil)))))))))))) [0, 1, 4, 100000])
 (.seq (.seq (.reg 1 [⟨some 15, .move (.t 4), none, []⟩,
  ⟨some 16, .bin .eql 9 (.t 15) (.c (Value.string { data := #[] })) 9, none, [15]⟩,
  ⟨some 17, .move (.t 16), none, [16]⟩,
  ⟨some 18, .move (.t 4), some (2, false), [4]⟩,
  ⟨some 19, .bin .eql 9 (.t 18) (.c (Value.string { data := #[92] })) 9, some (2, false), [18]⟩,
  ⟨some 20, .pick (.t 17) (.c (Value.bool true)) (.t 19), none, [17, 19]⟩] none [0, 1, 20, 100000])
 (.cond [0, 1, 100000] (.t 20) (.regp 2 [⟨some 21, .move (.t 0), none, []⟩,
  ⟨some 22, .nilck (.t 21), none, []⟩,
  ⟨some 23, .faddr 50 (.t 22) 0 0, none, []⟩,
  ⟨some 24, .load 22 none (.t 23), none, []⟩,
  ⟨some 25, .len 22 false (.t 24), none, [0, 21, 22, 23, 24]⟩,
  ⟨some 26, .build 46 [(0, 1), (1, 1)] [.v (.int .i64 0), .v (.int .i64 0)] [(0, (.c (Value.int IntKind.i64 100))), (1, (.t 25))], none, [25]⟩,
  ⟨some 27, .mkiface 46 (.t 26), none, [26]⟩,
  ⟨none, .throw (.t 27), none, [27]⟩] none [1, 100000]) .skip))
 k0_json_reader_cutOff))
def a_json_reader_cutOff : AFunc := ⟨31, [], b_json_reader_cutOff⟩

def j0_json_reader_escape : IR :=
 (.seq (.reg 22 [⟨some 127, .move (.t 6), none, [6]⟩,
  ⟨some 128, .bin .sub 21 (.t 127) (.c (Value.int IntKind.i32 55296)) 21, none, [127]⟩,
  ⟨some 129, .bin .shl 21 (.t 128) (.c (Value.int IntKind.u64 10)) 74, none, [128]⟩,
  ⟨some 130, .bin .add 21 (.c (Value.int IntKind.i32 65536)) (.t 129) 21, none, [129]⟩,
  ⟨some 131, .move (.t 7), none, [7]⟩,
  ⟨some 132, .bin .sub 21 (.t 131) (.c (Value.int IntKind.i32 56320)) 21, none, [131]⟩,
  ⟨some 133, .bin .add 21 (.t 130) (.t 132) 21, none, [130, 132]⟩,
  ⟨some 134, .conv 21 9 .rune (.t 133), none, [133]⟩,
  ⟨some 2, .assign (.t 134), none, [134]⟩] none [2, 100000])
 .ret)
def k0_json_reader_escape : IR := .tail [6, 7, 100000] j0_json_reader_escape
def j1_json_reader_escape : IR :=
 (.seq (.reg 18 [⟨some 109, .move (.t 0), none, []⟩,
  ⟨some 110, .nilck (.t 109), none, []⟩,
  ⟨some 111, .faddr 50 (.t 110) 1 1, none, []⟩,
  ⟨some 112, .load 3 none (.t 111), none, [110, 111]⟩,
  ⟨some 113, .bin .add 3 (.t 112) (.c (Value.int IntKind.i64 2)) 3, none, [112]⟩,
  ⟨some 114, .nilck (.t 109), none, []⟩,
  ⟨some 115, .faddr 50 (.t 114) 1 1, none, []⟩,
  ⟨none, .store 3 none (.t 115) (.t 113), none, [109, 113, 114, 115]⟩] none [0, 3, 6, 100000])
 (.seq (.regp 19 [⟨some 116, .move (.t 0), none, []⟩,
  ⟨some 117, .call n_json_reader_four [(.t 116)] [48], none, [0, 116]⟩,
  ⟨some 7, .assign (.t 117), none, [117]⟩] none [3, 6, 7, 100000])
 (.seq (.seq (.reg 20 [⟨some 118, .move (.t 7), none, []⟩,
  ⟨some 119, .bin .lss 21 (.t 118) (.c (Value.int IntKind.i32 56320)) 21, none, [118]⟩,
  ⟨some 120, .move (.t 119), none, [119]⟩,
  ⟨some 121, .move (.t 7), some (2, false), []⟩,
  ⟨some 122, .bin .gtr 21 (.t 121) (.c (Value.int IntKind.i32 57343)) 21, some (2, false), [121]⟩,
  ⟨some 123, .pick (.t 120) (.c (Value.bool true)) (.t 122), none, [120, 122]⟩] none [3, 6, 7, 123, 100000])
 (.cond [3, 6, 7, 100000] (.t 123) (.regp 21 [⟨some 124, .move (.t 3), none, [3]⟩,
  ⟨some 125, .build 46 [(0, 1), (1, 1)] [.v (.int .i64 0), .v (.int .i64 0)] [(0, (.c (Value.int IntKind.i64 100))), (1, (.t 124))], none, [124]⟩,
  ⟨some 126, .mkiface 46 (.t 125), none, [125]⟩,
  ⟨none, .throw (.t 126), none, [126]⟩] none [6, 7, 100000]) .skip))
 k0_json_reader_escape)))
def k1_json_reader_escape : IR := .tail [0, 3, 6, 100000] j1_json_reader_escape
def j2_json_reader_escape : IR :=
 (.seq (.seq (.reg 16 [⟨some 68, .move (.t 0), none, []⟩,
  ⟨some 69, .nilck (.t 68), none, []⟩,
  ⟨some 70, .faddr 50 (.t 69) 1 1, none, []⟩,
  ⟨some 71, .load 3 none (.t 70), none, [68, 69, 70]⟩,
  ⟨some 72, .bin .add 3 (.t 71) (.c (Value.int IntKind.i64 1)) 3, none, [71]⟩,
  ⟨some 73, .move (.t 0), none, []⟩,
  ⟨some 74, .nilck (.t 73), none, []⟩,
  ⟨some 75, .faddr 50 (.t 74) 0 0, none, []⟩,
  ⟨some 76, .load 22 none (.t 75), none, []⟩,
  ⟨some 77, .len 22 false (.t 76), none, [73, 74, 75, 76]⟩,
  ⟨some 78, .bin .geq 3 (.t 72) (.t 77) 3, none, [72, 77]⟩,
  ⟨some 79, .move (.t 78), none, [78]⟩,
  ⟨some 80, .move (.t 0), some (11, false), []⟩,
  ⟨some 81, .nilck (.t 80), some (11, false), []⟩,
  ⟨some 82, .faddr 50 (.t 81) 0 0, some (11, false), []⟩,
  ⟨some 83, .load 22 none (.t 82), some (11, false), []⟩,
  ⟨some 84, .move (.t 0), some (11, false), []⟩,
  ⟨some 85, .nilck (.t 84), some (11, false), []⟩,
  ⟨some 86, .faddr 50 (.t 85) 1 1, some (11, false), []⟩,
  ⟨some 87, .load 3 none (.t 86), some (11, false), [84, 85, 86]⟩,
  ⟨some 88, .iaddr 22 (.sl 1) (.t 83) (.t 87), some (11, false), []⟩,
  ⟨some 89, .load 5 none (.t 88), some (11, false), [80, 81, 82, 83, 87, 88]⟩,
  ⟨some 90, .bin .neq 5 (.t 89) (.c (Value.int IntKind.u8 92)) 5, some (11, false), [89]⟩,
  ⟨some 91, .pick (.t 79) (.c (Value.bool true)) (.t 90), none, [79, 90]⟩,
  ⟨some 92, .move (.t 91), none, [91]⟩,
  ⟨some 93, .move (.t 0), some (24, false), []⟩,
  ⟨some 94, .nilck (.t 93), some (24, false), []⟩,
  ⟨some 95, .faddr 50 (.t 94) 0 0, some (24, false), []⟩,
  ⟨some 96, .load 22 none (.t 95), some (24, false), []⟩,
  ⟨some 97, .move (.t 0), some (24, false), []⟩,
  ⟨some 98, .nilck (.t 97), some (24, false), []⟩,
  ⟨some 99, .faddr 50 (.t 98) 1 1, some (24, false), []⟩,
  ⟨some 100, .load 3 none (.t 99), some (24, false), [97, 98, 99]⟩,
  ⟨some 101, .bin .add 3 (.t 100) (.c (Value.int IntKind.i64 1)) 3, some (24, false), [100]⟩,
  ⟨some 102, .iaddr 22 (.sl 1) (.t 96) (.t 101), some (24, false), []⟩,
  ⟨some 103, .load 5 none (.t 102), some (24, false), [93, 94, 95, 96, 101, 102]⟩,
  ⟨some 104, .bin .neq 5 (.t 103) (.c (Value.int IntKind.u8 117)) 5, some (24, false), [103]⟩,
  ⟨some 105, .pick (.t 92) (.c (Value.bool true)) (.t 104), none, [92, 104]⟩] (some (.cons ⟨0, []⟩ (.cons ⟨1, []⟩ (.cons ⟨2, []⟩ (.cons ⟨5, []⟩ (.cons ⟨6, []⟩ (.cons ⟨7, []⟩ (.cons ⟨3, []⟩ (.cons ⟨4, []⟩ (.cons ⟨8, []⟩ (.cons ⟨9, []⟩ (.cons ⟨10, []⟩ (.cons ⟨11, []⟩ (.cons ⟨12, []⟩ (.cons ⟨13, []⟩ (.cons ⟨14, []⟩ (.cons ⟨16, []⟩ (.cons ⟨17, []⟩ (.cons ⟨18, []⟩ (.cons ⟨15, []⟩ (.cons ⟨19, []⟩ (.cons ⟨20, []⟩ (.cons ⟨21, []⟩ (.cons ⟨22, []⟩ (.cons ⟨23, []⟩ (.cons ⟨24, []⟩ (.cons ⟨25, []⟩ (.cons ⟨26, []⟩ (.cons ⟨27, []⟩ (.cons ⟨29, []⟩ (.cons ⟨30, []⟩ (.cons ⟨31, []⟩ (.cons ⟨28, []⟩ (.cons ⟨32, []⟩ (.cons ⟨33, []⟩ (.cons ⟨34, []⟩ (.cons ⟨35, []⟩ (.cons ⟨36, []⟩ (.cons ⟨37, []⟩ .nil))))))))))))))))))))))))))))))))))))))) [0, 3, 6, 105, 100000])
 (.cond [0, 3, 6, 100000] (.t 105) (.regp 17 [⟨some 106, .move (.t 0), none, []⟩,
  ⟨some 107, .move (.t 3), none, []⟩,
  ⟨some 108, .call n_json_reader_cutOff [(.t 106), (.t 107)] [48, 3], none, [106, 107, 108]⟩] none [0, 3, 6, 100000]) .skip))
 k1_json_reader_escape)
def k2_json_reader_escape : IR := .tail [0, 3, 6, 100000] j2_json_reader_escape
def j3_json_reader_escape : IR :=
 (.seq (.reg 10 [⟨some 40, .move (.t 0), none, []⟩,
  ⟨some 41, .nilck (.t 40), none, []⟩,
  ⟨some 42, .faddr 50 (.t 41) 1 1, none, []⟩,
  ⟨some 43, .load 3 none (.t 42), none, [41, 42]⟩,
  ⟨some 44, .bin .add 3 (.t 43) (.c (Value.int IntKind.i64 1)) 3, none, [43]⟩,
  ⟨some 45, .nilck (.t 40), none, []⟩,
  ⟨some 46, .faddr 50 (.t 45) 1 1, none, []⟩,
  ⟨none, .store 3 none (.t 46) (.t 44), none, [40, 44, 45, 46]⟩] none [0, 3, 100000])
 (.seq (.regp 11 [⟨some 47, .move (.t 0), none, []⟩,
  ⟨some 48, .call n_json_reader_four [(.t 47)] [48], none, [47]⟩,
  ⟨some 6, .assign (.t 48), none, [48]⟩] none [0, 3, 6, 100000])
 (.seq (.block 0 (.seq (.reg 12 [⟨some 50, .move (.t 6), none, []⟩,
  ⟨some 51, .bin .geq 21 (.t 50) (.c (Value.int IntKind.i32 56320)) 21, none, [50]⟩,
  ⟨some 52, .move (.t 51), none, [51]⟩,
  ⟨some 53, .move (.t 6), some (2, true), []⟩,
  ⟨some 54, .bin .leq 21 (.t 53) (.c (Value.int IntKind.i32 57343)) 21, some (2, true), [53]⟩,
  ⟨some 55, .pick (.t 52) (.t 54) (.c (Value.bool false)), none, [52, 54]⟩,
  ⟨some 49, .assign (.t 55), none, [55]⟩] none [0, 3, 6, 49, 100000])
 (.cond [0, 3, 6, 100000] (.t 49) (.regp 13 [⟨some 56, .move (.t 3), none, []⟩,
  ⟨some 57, .build 46 [(0, 1), (1, 1)] [.v (.int .i64 0), .v (.int .i64 0)] [(0, (.c (Value.int IntKind.i64 100))), (1, (.t 56))], none, [56]⟩,
  ⟨some 58, .mkiface 46 (.t 57), none, [57]⟩,
  ⟨none, .throw (.t 58), none, [58]⟩] none [0, 3, 6, 100000]) (.seq (.reg 14 [⟨some 60, .move (.t 6), none, []⟩,
  ⟨some 61, .bin .lss 21 (.t 60) (.c (Value.int IntKind.i32 55296)) 21, none, [60]⟩,
  ⟨some 62, .move (.t 61), none, [61]⟩,
  ⟨some 63, .move (.t 6), some (2, false), []⟩,
  ⟨some 64, .bin .gtr 21 (.t 63) (.c (Value.int IntKind.i32 56319)) 21, some (2, false), [63]⟩,
  ⟨some 65, .pick (.t 62) (.c (Value.bool true)) (.t 64), none, [62, 64]⟩,
  ⟨some 59, .assign (.t 65), none, [65]⟩] none [0, 3, 6, 59, 100000])
 (.cond [0, 3, 6, 100000] (.t 59) (.seq (.reg 15 [⟨some 66, .move (.t 6), none, [6]⟩,
  ⟨some 67, .conv 21 9 .rune (.t 66), none, [66]⟩,
  ⟨some 2, .assign (.t 67), none, [67]⟩] none [2, 100000])
 .ret) .skip)))))
 k2_json_reader_escape)))
def k3_json_reader_escape : IR := .tail [0, 3, 100000] j3_json_reader_escape
def j4_json_reader_escape : IR :=
 (.seq (.seq (.reg 8 [⟨some 36, .move (.t 4), none, [4]⟩,
  ⟨some 37, .bin .neq 5 (.t 36) (.c (Value.int IntKind.u8 117)) 5, none, [36]⟩] none [0, 3, 37, 100000])
 (.cond [0, 3, 100000] (.t 37) (.regp 9 [⟨some 38, .move (.t 0), none, []⟩,
  ⟨some 39, .call n_json_reader_fail [(.t 38)] [48], none, [38, 39]⟩] none [0, 3, 100000]) .skip))
 k3_json_reader_escape)
def k4_json_reader_escape : IR := .tail [0, 3, 4, 100000] j4_json_reader_escape
def b_json_reader_escape : IR :=
 (.seq (.reg 0 [⟨some 2, .assign (.c (Value.string { data := #[] })), none, [2]⟩] none [0, 100000])
 (.seq (.reg 1 [⟨some 8, .move (.t 0), none, []⟩,
  ⟨some 9, .nilck (.t 8), none, []⟩,
  ⟨some 10, .faddr 50 (.t 9) 1 1, none, []⟩,
  ⟨some 11, .load 3 none (.t 10), none, [8, 9, 10]⟩,
  ⟨some 3, .assign (.t 11), none, [11]⟩] none [0, 3, 100000])
 (.seq (.reg 2 [⟨some 12, .move (.t 0), none, []⟩,
  ⟨some 13, .nilck (.t 12), none, []⟩,
  ⟨some 14, .faddr 50 (.t 13) 1 1, none, []⟩,
  ⟨some 15, .load 3 none (.t 14), none, [13, 14]⟩,
  ⟨some 16, .bin .add 3 (.t 15) (.c (Value.int IntKind.i64 1)) 3, none, [15]⟩,
  ⟨some 17, .nilck (.t 12), none, []⟩,
  ⟨some 18, .faddr 50 (.t 17) 1 1, none, []⟩,
  ⟨none, .store 3 none (.t 18) (.t 16), none, [12, 16, 17, 18]⟩] none [0, 3, 100000])
 (.seq (.regp 3 [⟨some 19, .move (.t 0), none, []⟩,
  ⟨some 20, .call n_json_reader_byte [(.t 19)] [48], none, [19]⟩,
  ⟨some 4, .assign (.t 20), none, [20]⟩] none [0, 3, 4, 100000])
 (.seq (.seq (.reg 4 [⟨some 21, .move (.t 4), none, []⟩,
  ⟨some 22, .call n_strings_IndexByte [(.c (Value.string { data := #[34, 92, 47, 98, 102, 110, 114, 116] })), (.t 21)] [9, 5], none, [21]⟩,
  ⟨some 5, .assign (.t 22), none, [22]⟩] none [0, 3, 4, 5, 100000])
 (.seq (.reg 5 [⟨some 23, .move (.t 5), none, []⟩,
  ⟨some 24, .bin .geq 3 (.t 23) (.c (Value.int IntKind.i64 0)) 3, none, [23]⟩] none [0, 3, 4, 5, 24, 100000])
 (.cond [0, 3, 4, 5, 100000] (.t 24) (.seq (.reg 6 [⟨some 25, .move (.t 0), none, []⟩,
  ⟨some 26, .nilck (.t 25), none, []⟩,
  ⟨some 27, .faddr 50 (.t 26) 1 1, none, []⟩,
  ⟨some 28, .load 3 none (.t 27), none, [26, 27]⟩,
  ⟨some 29, .bin .add 3 (.t 28) (.c (Value.int IntKind.i64 1)) 3, none, [28]⟩,
  ⟨some 30, .nilck (.t 25), none, []⟩,
  ⟨some 31, .faddr 50 (.t 30) 1 1, none, []⟩,
  ⟨none, .store 3 none (.t 31) (.t 29), none, [0, 25, 29, 30, 31]⟩] none [5, 100000])
 (.seq (.reg 7 [⟨some 32, .move (.t 5), none, []⟩,
  ⟨some 33, .move (.t 5), none, [5]⟩,
  ⟨some 34, .bin .add 3 (.t 33) (.c (Value.int IntKind.i64 1)) 3, none, [33]⟩,
  ⟨some 35, .slice 9 .str (.c (Value.string { data := #[34, 92, 47, 8, 12, 10, 13, 9] })) (some (.t 32)) (some (.t 34)) none, none, [32, 34]⟩,
  ⟨some 2, .assign (.t 35), none, [35]⟩] none [2, 100000])
 .ret)) .skip)))
 k4_json_reader_escape)))))
def a_json_reader_escape : AFunc := ⟨135, [.tmp 2], b_json_reader_escape⟩

def j0_utf8_decodeRuneSlow : IR :=
 (.seq (.reg 26 [⟨some 104, .move (.t 5), none, [5]⟩,
  ⟨some 105, .bin .and 5 (.t 104) (.c (Value.int IntKind.u8 7)) 5, none, [104]⟩,
  ⟨some 106, .conv 5 21 (.int .i32) (.t 105), none, [105]⟩,
  ⟨some 107, .bin .shl 21 (.t 106) (.c (Value.int IntKind.u64 18)) 74, none, [106]⟩,
  ⟨some 108, .move (.t 10), none, [10]⟩,
  ⟨some 109, .bin .and 5 (.t 108) (.c (Value.int IntKind.u8 63)) 5, none, [108]⟩,
  ⟨some 110, .conv 5 21 (.int .i32) (.t 109), none, [109]⟩,
  ⟨some 111, .bin .shl 21 (.t 110) (.c (Value.int IntKind.u64 12)) 74, none, [110]⟩,
  ⟨some 112, .bin .or 21 (.t 107) (.t 111) 21, none, [107, 111]⟩,
  ⟨some 113, .move (.t 11), none, [11]⟩,
  ⟨some 114, .bin .and 5 (.t 113) (.c (Value.int IntKind.u8 63)) 5, none, [113]⟩,
  ⟨some 115, .conv 5 21 (.int .i32) (.t 114), none, [114]⟩,
  ⟨some 116, .bin .shl 21 (.t 115) (.c (Value.int IntKind.u64 6)) 74, none, [115]⟩,
  ⟨some 117, .bin .or 21 (.t 112) (.t 116) 21, none, [112, 116]⟩,
  ⟨some 118, .move (.t 12), none, [12]⟩,
  ⟨some 119, .bin .and 5 (.t 118) (.c (Value.int IntKind.u8 63)) 5, none, [118]⟩,
  ⟨some 120, .conv 5 21 (.int .i32) (.t 119), none, [119]⟩,
  ⟨some 121, .bin .or 21 (.t 117) (.t 120) 21, none, [117, 120]⟩,
  ⟨some 2, .assign (.t 121), none, [121]⟩,
  ⟨some 3, .assign (.c (Value.int IntKind.i64 4)), none, []⟩] none [2, 3])
 .ret)
def k0_utf8_decodeRuneSlow : IR := .tail [5, 10, 11, 12] j0_utf8_decodeRuneSlow
def j1_utf8_decodeRuneSlow : IR :=
 (.seq (.reg 23 [⟨some 95, .move (.t 0), none, []⟩,
  ⟨some 96, .iaddr 22 (.sl 1) (.t 95) (.c (Value.int IntKind.i64 3)), none, []⟩,
  ⟨some 97, .load 5 none (.t 96), none, [0, 95, 96]⟩,
  ⟨some 12, .assign (.t 97), none, [97]⟩] none [5, 10, 11, 12])
 (.seq (.seq (.reg 24 [⟨some 98, .move (.t 12), none, []⟩,
  ⟨some 99, .bin .lss 5 (.t 98) (.c (Value.int IntKind.u8 128)) 5, none, [98]⟩,
  ⟨some 100, .move (.t 99), none, [99]⟩,
  ⟨some 101, .move (.t 12), some (2, false), []⟩,
  ⟨some 102, .bin .lss 5 (.c (Value.int IntKind.u8 191)) (.t 101) 5, some (2, false), [101]⟩,
  ⟨some 103, .pick (.t 100) (.c (Value.bool true)) (.t 102), none, [100, 102]⟩] none [5, 10, 11, 12, 103])
 (.cond [5, 10, 11, 12] (.t 103) (.seq (.reg 25 [⟨some 2, .assign (.c (Value.int IntKind.i32 65533)), none, []⟩,
  ⟨some 3, .assign (.c (Value.int IntKind.i64 1)), none, []⟩] none [2, 3])
 .ret) .skip))
 k0_utf8_decodeRuneSlow))
def k1_utf8_decodeRuneSlow : IR := .tail [0, 5, 10, 11] j1_utf8_decodeRuneSlow
def j2_utf8_decodeRuneSlow : IR :=
 (.seq (.seq (.reg 21 [⟨some 80, .move (.t 8), none, [8]⟩,
  ⟨some 81, .bin .leq 3 (.t 80) (.c (Value.int IntKind.i64 3)) 3, none, [80]⟩] none [0, 5, 10, 11, 81])
 (.cond [0, 5, 10, 11] (.t 81) (.seq (.reg 22 [⟨some 82, .move (.t 5), none, [5]⟩,
  ⟨some 83, .bin .and 5 (.t 82) (.c (Value.int IntKind.u8 15)) 5, none, [82]⟩,
  ⟨some 84, .conv 5 21 (.int .i32) (.t 83), none, [83]⟩,
  ⟨some 85, .bin .shl 21 (.t 84) (.c (Value.int IntKind.u64 12)) 74, none, [84]⟩,
  ⟨some 86, .move (.t 10), none, [10]⟩,
  ⟨some 87, .bin .and 5 (.t 86) (.c (Value.int IntKind.u8 63)) 5, none, [86]⟩,
  ⟨some 88, .conv 5 21 (.int .i32) (.t 87), none, [87]⟩,
  ⟨some 89, .bin .shl 21 (.t 88) (.c (Value.int IntKind.u64 6)) 74, none, [88]⟩,
  ⟨some 90, .bin .or 21 (.t 85) (.t 89) 21, none, [85, 89]⟩,
  ⟨some 91, .move (.t 11), none, [11]⟩,
  ⟨some 92, .bin .and 5 (.t 91) (.c (Value.int IntKind.u8 63)) 5, none, [91]⟩,
  ⟨some 93, .conv 5 21 (.int .i32) (.t 92), none, [92]⟩,
  ⟨some 94, .bin .or 21 (.t 90) (.t 93) 21, none, [90, 93]⟩,
  ⟨some 2, .assign (.t 94), none, [94]⟩,
  ⟨some 3, .assign (.c (Value.int IntKind.i64 3)), none, []⟩] none [2, 3])
 .ret) .skip))
 k1_utf8_decodeRuneSlow)
def k2_utf8_decodeRuneSlow : IR := .tail [0, 5, 8, 10, 11] j2_utf8_decodeRuneSlow
def j3_utf8_decodeRuneSlow : IR :=
 (.seq (.reg 18 [⟨some 71, .move (.t 0), none, []⟩,
  ⟨some 72, .iaddr 22 (.sl 1) (.t 71) (.c (Value.int IntKind.i64 2)), none, []⟩,
  ⟨some 73, .load 5 none (.t 72), none, [71, 72]⟩,
  ⟨some 11, .assign (.t 73), none, [73]⟩] none [0, 5, 8, 10, 11])
 (.seq (.seq (.reg 19 [⟨some 74, .move (.t 11), none, []⟩,
  ⟨some 75, .bin .lss 5 (.t 74) (.c (Value.int IntKind.u8 128)) 5, none, [74]⟩,
  ⟨some 76, .move (.t 75), none, [75]⟩,
  ⟨some 77, .move (.t 11), some (2, false), []⟩,
  ⟨some 78, .bin .lss 5 (.c (Value.int IntKind.u8 191)) (.t 77) 5, some (2, false), [77]⟩,
  ⟨some 79, .pick (.t 76) (.c (Value.bool true)) (.t 78), none, [76, 78]⟩] none [0, 5, 8, 10, 11, 79])
 (.cond [0, 5, 8, 10, 11] (.t 79) (.seq (.reg 20 [⟨some 2, .assign (.c (Value.int IntKind.i32 65533)), none, []⟩,
  ⟨some 3, .assign (.c (Value.int IntKind.i64 1)), none, []⟩] none [2, 3])
 .ret) .skip))
 k2_utf8_decodeRuneSlow))
def k3_utf8_decodeRuneSlow : IR := .tail [0, 5, 8, 10] j3_utf8_decodeRuneSlow
def j4_utf8_decodeRuneSlow : IR :=
 (.seq (.seq (.reg 16 [⟨some 61, .move (.t 8), none, []⟩,
  ⟨some 62, .bin .leq 3 (.t 61) (.c (Value.int IntKind.i64 2)) 3, none, [61]⟩] none [0, 5, 8, 10, 62])
 (.cond [0, 5, 8, 10] (.t 62) (.seq (.reg 17 [⟨some 63, .move (.t 5), none, [5]⟩,
  ⟨some 64, .bin .and 5 (.t 63) (.c (Value.int IntKind.u8 31)) 5, none, [63]⟩,
  ⟨some 65, .conv 5 21 (.int .i32) (.t 64), none, [64]⟩,
  ⟨some 66, .bin .shl 21 (.t 65) (.c (Value.int IntKind.u64 6)) 74, none, [65]⟩,
  ⟨some 67, .move (.t 10), none, [10]⟩,
  ⟨some 68, .bin .and 5 (.t 67) (.c (Value.int IntKind.u8 63)) 5, none, [67]⟩,
  ⟨some 69, .conv 5 21 (.int .i32) (.t 68), none, [68]⟩,
  ⟨some 70, .bin .or 21 (.t 66) (.t 69) 21, none, [66, 69]⟩,
  ⟨some 2, .assign (.t 70), none, [70]⟩,
  ⟨some 3, .assign (.c (Value.int IntKind.i64 2)), none, []⟩] none [2, 3])
 .ret) .skip))
 k3_utf8_decodeRuneSlow)
def k4_utf8_decodeRuneSlow : IR := .tail [0, 5, 8, 10] j4_utf8_decodeRuneSlow
def j5_utf8_decodeRuneSlow : IR :=
 (.seq (.reg 13 [⟨some 48, .move (.t 0), none, []⟩,
  ⟨some 49, .iaddr 22 (.sl 1) (.t 48) (.c (Value.int IntKind.i64 1)), none, []⟩,
  ⟨some 50, .load 5 none (.t 49), none, [48, 49]⟩,
  ⟨some 10, .assign (.t 50), none, [50]⟩] none [0, 5, 8, 9, 10])
 (.seq (.seq (.reg 14 [⟨some 51, .move (.t 10), none, []⟩,
  ⟨some 52, .faddr 81 (.t 9) 0 0, none, []⟩,
  ⟨some 53, .load 5 none (.t 52), none, [52]⟩,
  ⟨some 54, .bin .lss 5 (.t 51) (.t 53) 5, none, [51, 53]⟩,
  ⟨some 55, .move (.t 54), none, [54]⟩,
  ⟨some 56, .faddr 81 (.t 9) 1 1, some (4, false), []⟩,
  ⟨some 57, .load 5 none (.t 56), some (4, false), [9, 56]⟩,
  ⟨some 58, .move (.t 10), some (4, false), []⟩,
  ⟨some 59, .bin .lss 5 (.t 57) (.t 58) 5, some (4, false), [57, 58]⟩,
  ⟨some 60, .pick (.t 55) (.c (Value.bool true)) (.t 59), none, [55, 59]⟩] none [0, 5, 8, 10, 60])
 (.cond [0, 5, 8, 10] (.t 60) (.seq (.reg 15 [⟨some 2, .assign (.c (Value.int IntKind.i32 65533)), none, []⟩,
  ⟨some 3, .assign (.c (Value.int IntKind.i64 1)), none, []⟩] none [2, 3])
 .ret) .skip))
 k4_utf8_decodeRuneSlow))
def k5_utf8_decodeRuneSlow : IR := .tail [0, 5, 8, 9] j5_utf8_decodeRuneSlow
def j6_utf8_decodeRuneSlow : IR :=
 (.seq (.reg 9 [⟨some 38, .move (.t 6), none, []⟩,
  ⟨some 39, .bin .and 5 (.t 38) (.c (Value.int IntKind.u8 7)) 5, none, [38]⟩,
  ⟨some 40, .conv 5 3 (.int .i64) (.t 39), none, [39]⟩,
  ⟨some 8, .assign (.t 40), none, [40]⟩] none [0, 4, 5, 6, 8])
 (.seq (.reg 10 [⟨some 41, .move (.t 6), none, [6]⟩,
  ⟨some 42, .bin .shr 5 (.t 41) (.c (Value.int IntKind.u64 4)) 74, none, [41]⟩,
  ⟨some 43, .iaddr 82 (.arr 16 2) (.g 1 glob1) (.t 42), none, []⟩,
  ⟨some 44, .load 81 (some 2) (.t 43), none, [42, 43]⟩,
  ⟨some 9, .alloc 81 [.v (.int .u8 0), .v (.int .u8 0)], none, []⟩,
  ⟨none, .store 81 (some 2) (.t 9) (.t 44), none, [44]⟩] none [0, 4, 5, 8, 9])
 (.seq (.seq (.reg 11 [⟨some 45, .move (.t 4), none, [4]⟩,
  ⟨some 46, .move (.t 8), none, []⟩,
  ⟨some 47, .bin .lss 3 (.t 45) (.t 46) 3, none, [45, 46]⟩] none [0, 5, 8, 9, 47])
 (.cond [0, 5, 8, 9] (.t 47) (.seq (.reg 12 [⟨some 2, .assign (.c (Value.int IntKind.i32 65533)), none, []⟩,
  ⟨some 3, .assign (.c (Value.int IntKind.i64 1)), none, []⟩] none [2, 3])
 .ret) .skip))
 k5_utf8_decodeRuneSlow)))
def k6_utf8_decodeRuneSlow : IR := .tail [0, 4, 5, 6] j6_utf8_decodeRuneSlow
def j7_utf8_decodeRuneSlow : IR :=
 (.seq (.reg 4 [⟨some 17, .move (.t 0), none, []⟩,
  ⟨some 18, .iaddr 22 (.sl 1) (.t 17) (.c (Value.int IntKind.i64 0)), none, []⟩,
  ⟨some 19, .load 5 none (.t 18), none, [17, 18]⟩,
  ⟨some 5, .assign (.t 19), none, [19]⟩] none [0, 4, 5])
 (.seq (.reg 5 [⟨some 20, .move (.t 5), none, []⟩,
  ⟨some 21, .iaddr 79 (.arr 256 1) (.g 0 glob0) (.t 20), none, []⟩,
  ⟨some 22, .load 5 none (.t 21), none, [20, 21]⟩,
  ⟨some 6, .assign (.t 22), none, [22]⟩] none [0, 4, 5, 6])
 (.seq (.seq (.reg 6 [⟨some 23, .move (.t 6), none, []⟩,
  ⟨some 24, .bin .geq 5 (.t 23) (.c (Value.int IntKind.u8 240)) 5, none, [23]⟩] none [0, 4, 5, 6, 24])
 (.cond [0, 4, 5, 6] (.t 24) (.seq (.reg 7 [⟨some 25, .move (.t 6), none, [6]⟩,
  ⟨some 26, .conv 5 21 (.int .i32) (.t 25), none, [25]⟩,
  ⟨some 27, .bin .shl 21 (.t 26) (.c (Value.int IntKind.u64 31)) 74, none, [26]⟩,
  ⟨some 28, .bin .shr 21 (.t 27) (.c (Value.int IntKind.u64 31)) 74, none, [27]⟩,
  ⟨some 7, .assign (.t 28), none, [28]⟩] none [0, 7])
 (.seq (.reg 8 [⟨some 29, .move (.t 0), none, []⟩,
  ⟨some 30, .iaddr 22 (.sl 1) (.t 29) (.c (Value.int IntKind.i64 0)), none, []⟩,
  ⟨some 31, .load 5 none (.t 30), none, [0, 29, 30]⟩,
  ⟨some 32, .conv 5 21 (.int .i32) (.t 31), none, [31]⟩,
  ⟨some 33, .move (.t 7), none, []⟩,
  ⟨some 34, .bin .andNot 21 (.t 32) (.t 33) 21, none, [32, 33]⟩,
  ⟨some 35, .move (.t 7), none, [7]⟩,
  ⟨some 36, .bin .and 21 (.c (Value.int IntKind.i32 65533)) (.t 35) 21, none, [35]⟩,
  ⟨some 37, .bin .or 21 (.t 34) (.t 36) 21, none, [34, 36]⟩,
  ⟨some 2, .assign (.t 37), none, [37]⟩,
  ⟨some 3, .assign (.c (Value.int IntKind.i64 1)), none, []⟩] none [2, 3])
 .ret)) .skip))
 k6_utf8_decodeRuneSlow)))
def k7_utf8_decodeRuneSlow : IR := .tail [0, 4] j7_utf8_decodeRuneSlow
def b_utf8_decodeRuneSlow : IR :=
 (.seq (.reg 0 [⟨some 2, .assign (.c (Value.int IntKind.i32 0)), none, [2]⟩,
  ⟨some 3, .assign (.c (Value.int IntKind.i64 0)), none, [3]⟩] none [0])
 (.seq (.reg 1 [⟨some 13, .move (.t 0), none, []⟩,
  ⟨some 14, .len 22 false (.t 13), none, [13]⟩,
  ⟨some 4, .assign (.t 14), none, [14]⟩] none [0, 4])
 (.seq (.seq (.reg 2 [⟨some 15, .move (.t 4), none, []⟩,
  ⟨some 16, .bin .lss 3 (.t 15) (.c (Value.int IntKind.i64 1)) 3, none, [15]⟩] none [0, 4, 16])
 (.cond [0, 4] (.t 16) (.seq (.reg 3 [⟨some 2, .assign (.c (Value.int IntKind.i32 65533)), none, []⟩,
  ⟨some 3, .assign (.c (Value.int IntKind.i64 0)), none, []⟩] none [2, 3])
 .ret) .skip))
 k7_utf8_decodeRuneSlow)))
def a_utf8_decodeRuneSlow : AFunc := ⟨122, [.tmp 2, .tmp 3], b_utf8_decodeRuneSlow⟩

def j0_utf8_DecodeRune : IR :=
 (.reg 6 [⟨some 16, .bin .add 3 (.t 8) (.c (Value.int IntKind.i64 1)) 3, none, []⟩,
  ⟨some 8, .move (.t 16), none, [16]⟩] none [0, 6, 7, 8])
def k0_utf8_DecodeRune : IR := .tail [0, 6, 7, 8] j0_utf8_DecodeRune
def j1_utf8_DecodeRune : IR :=
 (.seq (.block 1 (.seq (.reg 3 [⟨some 10, .iaddr 22 (.sl 1) (.t 6) (.t 8), none, []⟩,
  ⟨some 11, .load 5 none (.t 10), none, [6, 8, 10]⟩,
  ⟨some 5, .assign (.t 11), none, [11]⟩] none [0, 5])
 (.seq (.seq (.reg 4 [⟨some 12, .move (.t 5), none, []⟩,
  ⟨some 13, .bin .lss 5 (.t 12) (.c (Value.int IntKind.u8 128)) 5, none, [12]⟩] none [0, 5, 13])
 (.cond [0, 5] (.t 13) (.seq (.reg 5 [⟨some 14, .move (.t 5), none, [5]⟩,
  ⟨some 15, .conv 5 21 (.int .i32) (.t 14), none, [14]⟩,
  ⟨some 2, .assign (.t 15), none, [15]⟩,
  ⟨some 3, .assign (.c (Value.int IntKind.i64 1)), none, []⟩] none [2, 3])
 .ret) .skip))
 (.exit 0))))
 k0_utf8_DecodeRune)
def k1_utf8_DecodeRune : IR := .tail [0, 6, 8] j1_utf8_DecodeRune
def w0_utf8_DecodeRune : IR :=
 (.seq (.reg 2 [⟨some 9, .bin .lss 3 (.t 8) (.t 7) 3, none, [7]⟩] none [0, 6, 8, 9])
 (.seq (.cond [0, 6, 8] (.t 9) .skip (.exit 0))
 k1_utf8_DecodeRune))
def l0_utf8_DecodeRune : IR := .loop [0, 6, 7, 8] w0_utf8_DecodeRune
def j2_utf8_DecodeRune : IR :=
 (.seq (.reg 7 [⟨some 18, .move (.t 0), none, []⟩,
  ⟨some 19, .call n_utf8_decodeRuneSlow [(.t 18)] [22], none, [0, 18]⟩,
  ⟨some 17, .move (.t 19), none, [19]⟩,
  ⟨some 20, .extr (.t 17) 0, none, []⟩,
  ⟨some 21, .extr (.t 17) 1, none, [17]⟩,
  ⟨some 2, .assign (.t 20), none, [20]⟩,
  ⟨some 3, .assign (.t 21), none, [21]⟩] none [2, 3])
 .ret)
def k2_utf8_DecodeRune : IR := .tail [0] j2_utf8_DecodeRune
def b_utf8_DecodeRune : IR :=
 (.seq (.reg 0 [⟨some 2, .assign (.c (Value.int IntKind.i32 0)), none, [2]⟩,
  ⟨some 3, .assign (.c (Value.int IntKind.i64 0)), none, [3]⟩] none [0])
 (.seq (.seq (.reg 1 [⟨some 6, .move (.t 0), none, []⟩,
  ⟨some 7, .len 22 false (.t 6), none, []⟩,
  ⟨some 8, .move (.c (Value.int IntKind.i64 0)), none, []⟩] none [0, 6, 7, 8])
 (.block 0 l0_utf8_DecodeRune))
 k2_utf8_DecodeRune))
def a_utf8_DecodeRune : AFunc := ⟨22, [.tmp 2, .tmp 3], b_utf8_DecodeRune⟩

def j0_json_reader_text : IR :=
 (.seq (.reg 7 [⟨some 37, .move (.t 3), none, []⟩,
  ⟨some 38, .move (.t 0), none, []⟩,
  ⟨some 39, .nilck (.t 38), none, []⟩,
  ⟨some 40, .faddr 50 (.t 39) 0 0, none, []⟩,
  ⟨some 41, .load 22 none (.t 40), none, []⟩,
  ⟨some 42, .move (.t 0), none, []⟩,
  ⟨some 43, .nilck (.t 42), none, []⟩,
  ⟨some 44, .faddr 50 (.t 43) 1 1, none, []⟩,
  ⟨some 45, .load 3 none (.t 44), none, [42, 43, 44]⟩,
  ⟨some 46, .move (.t 0), none, []⟩,
  ⟨some 47, .nilck (.t 46), none, []⟩,
  ⟨some 48, .faddr 50 (.t 47) 1 1, none, []⟩,
  ⟨some 49, .load 3 none (.t 48), none, [46, 47, 48]⟩,
  ⟨some 50, .move (.t 6), none, []⟩,
  ⟨some 51, .bin .add 3 (.t 49) (.t 50) 3, none, [49, 50]⟩,
  ⟨some 52, .slice 22 (.sl 1) (.t 41) (some (.t 45)) (some (.t 51)) none, none, []⟩,
  ⟨some 53, .append 22 22 false 1 1 (.t 37) (.t 52), none, [37, 38, 39, 40, 41, 45, 51, 52]⟩,
  ⟨some 3, .assign (.t 53), none, []⟩] (some (.cons ⟨0, []⟩ (.cons ⟨1, []⟩ (.cons ⟨2, []⟩ (.cons ⟨3, []⟩ (.cons ⟨5, []⟩ (.cons ⟨6, []⟩ (.cons ⟨7, []⟩ (.cons ⟨9, []⟩ (.cons ⟨10, []⟩ (.cons ⟨11, []⟩ (.cons ⟨13, []⟩ (.cons ⟨4, []⟩ (.cons ⟨8, []⟩ (.cons ⟨12, []⟩ (.cons ⟨14, []⟩ (.cons ⟨15, []⟩ (.cons ⟨16, []⟩ (.cons ⟨17, []⟩ .nil))))))))))))))))))) [0, 3, 6, 53, 80, 100000])
 (.reg 8 [⟨some 54, .move (.t 0), none, []⟩,
  ⟨some 55, .nilck (.t 54), none, []⟩,
  ⟨some 56, .faddr 50 (.t 55) 1 1, none, []⟩,
  ⟨some 57, .load 3 none (.t 56), none, [55, 56]⟩,
  ⟨some 58, .move (.t 6), none, [6]⟩,
  ⟨some 59, .bin .add 3 (.t 57) (.t 58) 3, none, [57, 58]⟩,
  ⟨some 60, .nilck (.t 54), none, []⟩,
  ⟨some 61, .faddr 50 (.t 60) 1 1, none, []⟩,
  ⟨none, .store 3 none (.t 61) (.t 59), none, [54, 59, 60, 61]⟩] none [0, 3, 53, 80, 100000]))
def k0_json_reader_text : IR := .tail [0, 3, 6, 53, 80, 100000] j0_json_reader_text
def w0_json_reader_text : IR :=
 (.block 1 (.seq (.regp 3 [⟨some 14, .move (.t 0), none, []⟩,
  ⟨some 15, .call n_json_reader_byte [(.t 14)] [48], none, [14]⟩,
  ⟨some 4, .assign (.t 15), none, [15]⟩] none [0, 3, 4, 53, 80, 100000])
 (.block 2 (.seq (.reg 9 [⟨some 63, .move (.t 4), none, []⟩,
  ⟨some 64, .bin .eql 5 (.t 63) (.c (Value.int IntKind.u8 34)) 5, none, [63]⟩,
  ⟨some 62, .assign (.t 64), none, [64]⟩] none [0, 3, 4, 53, 62, 80, 100000])
 (.cond [0, 3, 4, 53, 80, 100000] (.t 62) (.seq (.reg 10 [⟨some 65, .move (.t 0), none, []⟩,
  ⟨some 66, .nilck (.t 65), none, []⟩,
  ⟨some 67, .faddr 50 (.t 66) 1 1, none, []⟩,
  ⟨some 68, .load 3 none (.t 67), none, [66, 67]⟩,
  ⟨some 69, .bin .add 3 (.t 68) (.c (Value.int IntKind.i64 1)) 3, none, [68]⟩,
  ⟨some 70, .nilck (.t 65), none, []⟩,
  ⟨some 71, .faddr 50 (.t 70) 1 1, none, []⟩,
  ⟨none, .store 3 none (.t 71) (.t 69), none, [0, 65, 69, 70, 71]⟩] none [3, 53, 80, 100000])
 (.seq (.reg 11 [⟨some 72, .move (.t 3), none, []⟩,
  ⟨some 73, .conv 22 9 .bytes (.t 72), none, [3, 53, 72, 80]⟩,
  ⟨some 2, .assign (.t 73), none, [73]⟩] none [2, 100000])
 .ret)) (.seq (.reg 12 [⟨some 75, .move (.t 4), none, []⟩,
  ⟨some 76, .bin .eql 5 (.t 75) (.c (Value.int IntKind.u8 92)) 5, none, [75]⟩,
  ⟨some 74, .assign (.t 76), none, [76]⟩] none [0, 3, 4, 53, 74, 80, 100000])
 (.cond [0, 3, 4, 53, 80, 100000] (.t 74) (.regp 13 [⟨some 77, .move (.t 3), none, []⟩,
  ⟨some 78, .move (.t 0), none, []⟩,
  ⟨some 79, .call n_json_reader_escape [(.t 78)] [48], none, [78]⟩,
  ⟨some 80, .append 22 9 true 1 1 (.t 77) (.t 79), none, [77, 79]⟩,
  ⟨some 3, .assign (.t 80), none, []⟩] none [0, 3, 53, 80, 100000]) (.seq (.reg 14 [⟨some 82, .move (.t 4), none, [4]⟩,
  ⟨some 83, .bin .lss 5 (.t 82) (.c (Value.int IntKind.u8 32)) 5, none, [82]⟩,
  ⟨some 81, .assign (.t 83), none, [83]⟩] none [0, 3, 53, 80, 81, 100000])
 (.cond [0, 3, 53, 80, 100000] (.t 81) (.regp 15 [⟨some 84, .move (.t 0), none, []⟩,
  ⟨some 85, .call n_json_reader_fail [(.t 84)] [48], none, [84, 85]⟩] none [0, 3, 53, 80, 100000]) (.seq (.reg 4 [⟨some 17, .move (.t 0), none, []⟩,
  ⟨some 18, .nilck (.t 17), none, []⟩,
  ⟨some 19, .faddr 50 (.t 18) 0 0, none, []⟩,
  ⟨some 20, .load 22 none (.t 19), none, []⟩,
  ⟨some 21, .move (.t 0), none, []⟩,
  ⟨some 22, .nilck (.t 21), none, []⟩,
  ⟨some 23, .faddr 50 (.t 22) 1 1, none, []⟩,
  ⟨some 24, .load 3 none (.t 23), none, [21, 22, 23]⟩,
  ⟨some 25, .slice 22 (.sl 1) (.t 20) (some (.t 24)) none none, none, []⟩,
  ⟨some 26, .call n_utf8_DecodeRune [(.t 25)] [22], none, [17, 18, 19, 20, 24, 25]⟩,
  ⟨some 16, .move (.t 26), none, [26]⟩,
  ⟨some 27, .extr (.t 16) 0, none, []⟩,
  ⟨some 28, .extr (.t 16) 1, none, [16]⟩,
  ⟨some 5, .assign (.t 27), none, [27]⟩,
  ⟨some 6, .assign (.t 28), none, [28]⟩] (some (.cons ⟨0, []⟩ (.cons ⟨1, []⟩ (.cons ⟨2, []⟩ (.cons ⟨4, []⟩ (.cons ⟨5, []⟩ (.cons ⟨6, []⟩ (.cons ⟨3, []⟩ (.cons ⟨7, []⟩ (.cons ⟨8, []⟩ (.cons ⟨9, []⟩ (.cons ⟨10, []⟩ (.cons ⟨11, []⟩ (.cons ⟨12, []⟩ (.cons ⟨13, []⟩ (.cons ⟨14, []⟩ .nil)))))))))))))))) [0, 3, 5, 6, 53, 80, 100000])
 (.seq (.seq (.reg 5 [⟨some 29, .move (.t 5), none, [5]⟩,
  ⟨some 30, .bin .eql 21 (.t 29) (.c (Value.int IntKind.i32 65533)) 21, none, [29]⟩,
  ⟨some 31, .move (.t 30), none, [30]⟩,
  ⟨some 32, .move (.t 6), some (2, true), []⟩,
  ⟨some 33, .bin .leq 3 (.t 32) (.c (Value.int IntKind.i64 1)) 3, some (2, true), [32]⟩,
  ⟨some 34, .pick (.t 31) (.t 33) (.c (Value.bool false)), none, [31, 33]⟩] none [0, 3, 6, 34, 53, 80, 100000])
 (.cond [0, 3, 6, 53, 80, 100000] (.t 34) (.regp 6 [⟨some 35, .move (.t 0), none, []⟩,
  ⟨some 36, .call n_json_reader_fail [(.t 35)] [48], none, [35, 36]⟩] none [0, 3, 6, 53, 80, 100000]) .skip))
 k0_json_reader_text)))))))))))
def l0_json_reader_text : IR := .loop [0, 3, 53, 80, 100000] w0_json_reader_text
def b_json_reader_text : IR :=
 (.seq (.reg 0 [⟨some 2, .assign (.c (Value.string { data := #[] })), none, [2]⟩] none [0, 100000])
 (.seq (.reg 1 [⟨some 7, .move (.t 0), none, []⟩,
  ⟨some 8, .nilck (.t 7), none, []⟩,
  ⟨some 9, .faddr 50 (.t 8) 1 1, none, []⟩,
  ⟨some 10, .load 3 none (.t 9), none, [8, 9]⟩,
  ⟨some 11, .bin .add 3 (.t 10) (.c (Value.int IntKind.i64 1)) 3, none, [10]⟩,
  ⟨some 12, .nilck (.t 7), none, []⟩,
  ⟨some 13, .faddr 50 (.t 12) 1 1, none, []⟩,
  ⟨none, .store 3 none (.t 13) (.t 11), none, [7, 11, 12, 13]⟩] none [0, 100000])
 (.seq (.reg 2 [⟨some 3, .assign (.nilS 1), none, []⟩] none [0, 3, 53, 80, 100000])
 (.block 0 l0_json_reader_text))))
def a_json_reader_text : AFunc := ⟨86, [.tmp 2], b_json_reader_text⟩

def j0_json_reader_takes : IR :=
 (.seq (.reg 4 [⟨some 4, .assign (.c (Value.bool false)), none, []⟩] none [4, 100000])
 .ret)
def k0_json_reader_takes : IR := .tail [100000] j0_json_reader_takes
def b_json_reader_takes : IR :=
 (.seq (.reg 0 [⟨some 4, .assign (.c (Value.bool false)), none, [4]⟩] none [0, 1, 100000])
 (.seq (.seq (.reg 1 [⟨some 5, .move (.t 0), none, []⟩,
  ⟨some 6, .nilck (.t 5), none, []⟩,
  ⟨some 7, .faddr 50 (.t 6) 1 1, none, []⟩,
  ⟨some 8, .load 3 none (.t 7), none, [5, 6, 7]⟩,
  ⟨some 9, .move (.t 0), none, []⟩,
  ⟨some 10, .nilck (.t 9), none, []⟩,
  ⟨some 11, .faddr 50 (.t 10) 0 0, none, []⟩,
  ⟨some 12, .load 22 none (.t 11), none, []⟩,
  ⟨some 13, .len 22 false (.t 12), none, [9, 10, 11, 12]⟩,
  ⟨some 14, .bin .lss 3 (.t 8) (.t 13) 3, none, [8, 13]⟩,
  ⟨some 15, .move (.t 14), none, [14]⟩,
  ⟨some 16, .move (.t 1), some (10, true), [1]⟩,
  ⟨some 17, .move (.t 0), some (10, true), []⟩,
  ⟨some 18, .nilck (.t 17), some (10, true), []⟩,
  ⟨some 19, .faddr 50 (.t 18) 0 0, some (10, true), []⟩,
  ⟨some 20, .load 22 none (.t 19), some (10, true), []⟩,
  ⟨some 21, .move (.t 0), some (10, true), []⟩,
  ⟨some 22, .nilck (.t 21), some (10, true), []⟩,
  ⟨some 23, .faddr 50 (.t 22) 1 1, some (10, true), []⟩,
  ⟨some 24, .load 3 none (.t 23), some (10, true), [21, 22, 23]⟩,
  ⟨some 25, .iaddr 22 (.sl 1) (.t 20) (.t 24), some (10, true), []⟩,
  ⟨some 26, .load 5 none (.t 25), some (10, true), [17, 18, 19, 20, 24, 25]⟩,
  ⟨some 27, .call n_strings_IndexByte [(.t 16), (.t 26)] [9, 5], some (10, true), [16, 26]⟩,
  ⟨some 28, .bin .geq 3 (.t 27) (.c (Value.int IntKind.i64 0)) 3, some (10, true), [27]⟩,
  ⟨some 29, .pick (.t 15) (.t 28) (.c (Value.bool false)), none, [15, 28]⟩] (some (.cons ⟨0, []⟩ (.cons ⟨1, []⟩ (.cons ⟨2, []⟩ (.cons ⟨4, []⟩ (.cons ⟨5, []⟩ (.cons ⟨6, []⟩ (.cons ⟨3, []⟩ (.cons ⟨7, []⟩ (.cons ⟨8, []⟩ (.cons ⟨9, []⟩ (.cons ⟨10, []⟩ (.cons ⟨11, []⟩ (.cons ⟨12, []⟩ (.cons ⟨13, []⟩ (.cons ⟨14, []⟩ (.cons ⟨16, []⟩ (.cons ⟨17, []⟩ (.cons ⟨18, []⟩ (.cons ⟨15, []⟩ (.cons ⟨19, []⟩ (.cons ⟨20, []⟩ (.cons ⟨21, []⟩ (.cons ⟨22, []⟩ (.cons ⟨23, []⟩ (.cons ⟨24, []⟩ .nil)))))))))))))))))))))))))) [0, 29, 100000])
 (.cond [0, 100000] (.t 29) (.seq (.reg 2 [⟨some 30, .move (.t 0), none, []⟩,
  ⟨some 31, .nilck (.t 30), none, []⟩,
  ⟨some 32, .faddr 50 (.t 31) 1 1, none, []⟩,
  ⟨some 33, .load 3 none (.t 32), none, [31, 32]⟩,
  ⟨some 34, .bin .add 3 (.t 33) (.c (Value.int IntKind.i64 1)) 3, none, [33]⟩,
  ⟨some 35, .nilck (.t 30), none, []⟩,
  ⟨some 36, .faddr 50 (.t 35) 1 1, none, []⟩,
  ⟨none, .store 3 none (.t 36) (.t 34), none, [0, 30, 34, 35, 36]⟩] none [100000])
 (.seq (.reg 3 [⟨some 4, .assign (.c (Value.bool true)), none, []⟩] none [4, 100000])
 .ret)) .skip))
 k0_json_reader_takes))
def a_json_reader_takes : AFunc := ⟨37, [.tmp 4], b_json_reader_takes⟩

def j0_json_reader_list : IR :=
 (.regp 10 [⟨some 27, .move (.t 0), none, []⟩,
  ⟨some 28, .call n_json_reader_want [(.t 27), (.c (Value.string { data := #[44] }))] [48, 9], none, [27, 28]⟩] none [0, 1, 4, 5, 100000])
def k0_json_reader_list : IR := .tail [0, 1, 4, 5, 100000] j0_json_reader_list
def w0_json_reader_list : IR :=
 (.block 1 (.seq (.reg 5 [⟨some 12, .move (.t 0), none, []⟩,
  ⟨some 13, .call n_json_reader_blanks [(.t 12)] [48], none, [12, 13]⟩] none [0, 1, 4, 5, 100000])
 (.seq (.regp 6 [⟨some 14, .faddr 27 (.t 5) 3 3, none, []⟩,
  ⟨some 15, .load 25 none (.t 14), none, []⟩,
  ⟨some 16, .move (.t 0), none, []⟩,
  ⟨some 17, .move (.t 1), none, []⟩,
  ⟨some 18, .call n_json_reader_value [(.t 16), (.t 17)] [48, 3], none, [16, 17]⟩,
  ⟨some 19, .lit 25 4 [(.t 18)], none, [18]⟩,
  ⟨some 20, .append 25 25 false 4 72 (.t 15) (.t 19), none, [14, 15, 19]⟩,
  ⟨some 21, .faddr 27 (.t 5) 3 3, none, []⟩,
  ⟨none, .store 25 none (.t 21) (.t 20), none, [20, 21]⟩] (some (.cons ⟨0, []⟩ (.cons ⟨2, []⟩ (.cons ⟨3, []⟩ (.cons ⟨1, []⟩ (.cons ⟨4, [1]⟩ (.cons ⟨5, [1]⟩ (.cons ⟨6, []⟩ (.cons ⟨7, []⟩ (.cons ⟨8, []⟩ .nil)))))))))) [0, 1, 4, 5, 100000])
 (.seq (.reg 7 [⟨some 22, .move (.t 0), none, []⟩,
  ⟨some 23, .call n_json_reader_blanks [(.t 22)] [48], none, [22, 23]⟩] none [0, 1, 4, 5, 100000])
 (.seq (.seq (.reg 8 [⟨some 24, .move (.t 0), none, []⟩,
  ⟨some 25, .call n_json_reader_takes [(.t 24), (.c (Value.string { data := #[93] }))] [48, 9], none, [24]⟩] none [0, 1, 4, 5, 25, 100000])
 (.cond [0, 1, 4, 5, 100000] (.t 25) (.seq (.reg 9 [⟨some 26, .load 27 (some 4) (.t 5), none, []⟩,
  ⟨none, .store 27 (some 4) (.t 4) (.t 26), none, [5, 26]⟩] none [4, 100000])
 .ret) .skip))
 k0_json_reader_list)))))
def l0_json_reader_list : IR := .loop [0, 1, 4, 5, 100000] w0_json_reader_list
def b_json_reader_list : IR :=
 (.seq (.reg 0 [⟨some 4, .alloc 27 [.v (.int .u8 0), .v (.string ⟨#[]⟩), .nil 1, .nil 4], none, []⟩] none [0, 1, 4, 100000])
 (.seq (.reg 1 [⟨some 6, .build 27 [(0, 1), (1, 1), (2, 1), (3, 1)] [.v (.int .u8 0), .v (.string ⟨#[]⟩), .nil 1, .nil 4] [(0, (.c (Value.int IntKind.u8 6)))], none, []⟩,
  ⟨some 5, .alloc 27 [.v (.int .u8 0), .v (.string ⟨#[]⟩), .nil 1, .nil 4], none, []⟩,
  ⟨none, .store 27 (some 4) (.t 5) (.t 6), none, [6]⟩] none [0, 1, 4, 5, 100000])
 (.seq (.reg 2 [⟨some 7, .move (.t 0), none, []⟩,
  ⟨some 8, .call n_json_reader_blanks [(.t 7)] [48], none, [7, 8]⟩] none [0, 1, 4, 5, 100000])
 (.seq (.seq (.reg 3 [⟨some 9, .move (.t 0), none, []⟩,
  ⟨some 10, .call n_json_reader_takes [(.t 9), (.c (Value.string { data := #[93] }))] [48, 9], none, [9]⟩] none [0, 1, 4, 5, 10, 100000])
 (.cond [0, 1, 4, 5, 100000] (.t 10) (.seq (.reg 4 [⟨some 11, .load 27 (some 4) (.t 5), none, []⟩,
  ⟨none, .store 27 (some 4) (.t 4) (.t 11), none, [5, 11]⟩] none [4, 100000])
 .ret) .skip))
 (.block 0 l0_json_reader_list)))))
def a_json_reader_list : AFunc := ⟨29, [.cell 4 27 (some 4)], b_json_reader_list⟩

def j0_json_reader_object : IR :=
 (.regp 22 [⟨some 65, .move (.t 0), none, []⟩,
  ⟨some 66, .call n_json_reader_want [(.t 65), (.c (Value.string { data := #[44] }))] [48, 9], none, [65, 66]⟩] none [0, 1, 4, 5, 6, 10, 100000])
def k0_json_reader_object : IR := .tail [0, 1, 4, 5, 6, 10, 100000] j0_json_reader_object
def j1_json_reader_object : IR :=
 (.seq (.reg 14 [⟨some 40, .move (.t 0), none, []⟩,
  ⟨some 41, .call n_json_reader_blanks [(.t 40)] [48], none, [40, 41]⟩] none [0, 1, 4, 5, 6, 8, 10, 100000])
 (.seq (.regp 15 [⟨some 42, .move (.t 0), none, []⟩,
  ⟨some 43, .call n_json_reader_want [(.t 42), (.c (Value.string { data := #[58] }))] [48, 9], none, [42, 43]⟩] none [0, 1, 4, 5, 6, 8, 10, 100000])
 (.seq (.reg 16 [⟨some 44, .move (.t 0), none, []⟩,
  ⟨some 45, .call n_json_reader_blanks [(.t 44)] [48], none, [44, 45]⟩] none [0, 1, 4, 5, 6, 8, 10, 100000])
 (.seq (.reg 17 [⟨some 46, .faddr 27 (.t 5) 2 2, none, []⟩,
  ⟨some 47, .load 24 none (.t 46), none, []⟩,
  ⟨some 48, .move (.t 8), none, [8]⟩,
  ⟨some 49, .lit 24 1 [(.t 48)], none, [48]⟩,
  ⟨some 50, .append 24 24 false 1 16 (.t 47) (.t 49), none, [46, 47, 49]⟩,
  ⟨some 51, .faddr 27 (.t 5) 2 2, none, []⟩,
  ⟨none, .store 24 none (.t 51) (.t 50), none, [50, 51]⟩] none [0, 1, 4, 5, 6, 10, 100000])
 (.seq (.regp 18 [⟨some 52, .faddr 27 (.t 5) 3 3, none, []⟩,
  ⟨some 53, .load 25 none (.t 52), none, []⟩,
  ⟨some 54, .move (.t 0), none, []⟩,
  ⟨some 55, .move (.t 1), none, []⟩,
  ⟨some 56, .call n_json_reader_value [(.t 54), (.t 55)] [48, 3], none, [54, 55]⟩,
  ⟨some 57, .lit 25 4 [(.t 56)], none, [56]⟩,
  ⟨some 58, .append 25 25 false 4 72 (.t 53) (.t 57), none, [52, 53, 57]⟩,
  ⟨some 59, .faddr 27 (.t 5) 3 3, none, []⟩,
  ⟨none, .store 25 none (.t 59) (.t 58), none, [58, 59]⟩] (some (.cons ⟨0, []⟩ (.cons ⟨2, []⟩ (.cons ⟨3, []⟩ (.cons ⟨1, []⟩ (.cons ⟨4, [1]⟩ (.cons ⟨5, [1]⟩ (.cons ⟨6, []⟩ (.cons ⟨7, []⟩ (.cons ⟨8, []⟩ .nil)))))))))) [0, 1, 4, 5, 6, 10, 100000])
 (.seq (.reg 19 [⟨some 60, .move (.t 0), none, []⟩,
  ⟨some 61, .call n_json_reader_blanks [(.t 60)] [48], none, [60, 61]⟩] none [0, 1, 4, 5, 6, 10, 100000])
 (.seq (.seq (.reg 20 [⟨some 62, .move (.t 0), none, []⟩,
  ⟨some 63, .call n_json_reader_takes [(.t 62), (.c (Value.string { data := #[125] }))] [48, 9], none, [62]⟩] none [0, 1, 4, 5, 6, 10, 63, 100000])
 (.cond [0, 1, 4, 5, 6, 10, 100000] (.t 63) (.seq (.reg 21 [⟨some 64, .load 27 (some 4) (.t 5), none, []⟩,
  ⟨none, .store 27 (some 4) (.t 4) (.t 64), none, [5, 64]⟩] none [4, 100000])
 .ret) .skip))
 k0_json_reader_object)))))))
def k1_json_reader_object : IR := .tail [0, 1, 4, 5, 6, 8, 10, 100000] j1_json_reader_object
def j2_json_reader_object : IR :=
 (.seq (.regp 10 [⟨some 27, .move (.t 0), none, []⟩,
  ⟨some 28, .call n_json_reader_text [(.t 27)] [48], none, [27]⟩,
  ⟨some 8, .assign (.t 28), none, [28]⟩] none [0, 1, 4, 5, 6, 7, 8, 10, 100000])
 (.seq (.seq (.reg 11 [⟨some 29, .move (.t 6), none, []⟩,
  ⟨some 30, .move (.t 8), none, []⟩,
  ⟨some 31, .mlook 68 none (.int .i64 0) (.t 29) (.t 30), none, []⟩,
  ⟨some 32, .bin .add 3 (.t 31) (.c (Value.int IntKind.i64 1)) 3, none, [31]⟩,
  ⟨none, .mput false 68 none (.t 29) (.t 30) (.t 32), none, [29, 30, 32]⟩] none [0, 1, 4, 5, 6, 7, 8, 10, 100000])
 (.seq (.reg 12 [⟨some 33, .move (.t 6), none, []⟩,
  ⟨some 34, .move (.t 8), none, []⟩,
  ⟨some 35, .mlook 68 none (.int .i64 0) (.t 33) (.t 34), none, [33, 34]⟩,
  ⟨some 36, .bin .gtr 3 (.t 35) (.c (Value.int IntKind.i64 1)) 3, none, [35]⟩] none [0, 1, 4, 5, 6, 7, 8, 10, 36, 100000])
 (.cond [0, 1, 4, 5, 6, 7, 8, 10, 100000] (.t 36) (.regp 13 [⟨some 37, .move (.t 7), none, [7]⟩,
  ⟨some 38, .build 46 [(0, 1), (1, 1)] [.v (.int .i64 0), .v (.int .i64 0)] [(0, (.c (Value.int IntKind.i64 102))), (1, (.t 37))], none, [37]⟩,
  ⟨some 39, .mkiface 46 (.t 38), none, [38]⟩,
  ⟨none, .throw (.t 39), none, [39]⟩] none [0, 1, 4, 5, 6, 8, 10, 100000]) .skip)))
 k1_json_reader_object))
def k2_json_reader_object : IR := .tail [0, 1, 4, 5, 6, 7, 10, 100000] j2_json_reader_object
def w0_json_reader_object : IR :=
 (.block 1 (.seq (.reg 6 [⟨some 16, .move (.t 0), none, []⟩,
  ⟨some 17, .call n_json_reader_blanks [(.t 16)] [48], none, [16, 17]⟩] none [0, 1, 4, 5, 6, 10, 100000])
 (.seq (.reg 7 [⟨some 18, .move (.t 0), none, []⟩,
  ⟨some 19, .nilck (.t 18), none, []⟩,
  ⟨some 20, .faddr 50 (.t 19) 1 1, none, []⟩,
  ⟨some 21, .load 3 none (.t 20), none, [18, 19, 20]⟩,
  ⟨some 7, .assign (.t 21), none, [21]⟩] none [0, 1, 4, 5, 6, 7, 10, 100000])
 (.seq (.seq (.regp 8 [⟨some 22, .move (.t 0), none, []⟩,
  ⟨some 23, .call n_json_reader_byte [(.t 22)] [48], none, [22]⟩,
  ⟨some 24, .bin .neq 5 (.t 23) (.c (Value.int IntKind.u8 34)) 5, none, [23]⟩] none [0, 1, 4, 5, 6, 7, 10, 24, 100000])
 (.cond [0, 1, 4, 5, 6, 7, 10, 100000] (.t 24) (.regp 9 [⟨some 25, .move (.t 0), none, []⟩,
  ⟨some 26, .call n_json_reader_fail [(.t 25)] [48], none, [25, 26]⟩] none [0, 1, 4, 5, 6, 7, 10, 100000]) .skip))
 k2_json_reader_object))))
def l0_json_reader_object : IR := .loop [0, 1, 4, 5, 6, 10, 100000] w0_json_reader_object
def j3_json_reader_object : IR :=
 (.block 0 l0_json_reader_object)
def k3_json_reader_object : IR := .tail [0, 1, 4, 5, 6, 10, 100000] j3_json_reader_object
def b_json_reader_object : IR :=
 (.seq (.reg 0 [⟨some 4, .alloc 27 [.v (.int .u8 0), .v (.string ⟨#[]⟩), .nil 1, .nil 4], none, []⟩] none [0, 1, 4, 100000])
 (.seq (.reg 1 [⟨some 9, .build 27 [(0, 1), (1, 1), (2, 1), (3, 1)] [.v (.int .u8 0), .v (.string ⟨#[]⟩), .nil 1, .nil 4] [(0, (.c (Value.int IntKind.u8 7)))], none, []⟩,
  ⟨some 5, .alloc 27 [.v (.int .u8 0), .v (.string ⟨#[]⟩), .nil 1, .nil 4], none, []⟩,
  ⟨none, .store 27 (some 4) (.t 5) (.t 9), none, [9]⟩] none [0, 1, 4, 5, 100000])
 (.seq (.reg 2 [⟨some 10, .mkmap 68, none, []⟩,
  ⟨some 6, .assign (.t 10), none, []⟩] none [0, 1, 4, 5, 6, 10, 100000])
 (.seq (.reg 3 [⟨some 11, .move (.t 0), none, []⟩,
  ⟨some 12, .call n_json_reader_blanks [(.t 11)] [48], none, [11, 12]⟩] none [0, 1, 4, 5, 6, 10, 100000])
 (.seq (.seq (.reg 4 [⟨some 13, .move (.t 0), none, []⟩,
  ⟨some 14, .call n_json_reader_takes [(.t 13), (.c (Value.string { data := #[125] }))] [48, 9], none, [13]⟩] none [0, 1, 4, 5, 6, 10, 14, 100000])
 (.cond [0, 1, 4, 5, 6, 10, 100000] (.t 14) (.seq (.reg 5 [⟨some 15, .load 27 (some 4) (.t 5), none, []⟩,
  ⟨none, .store 27 (some 4) (.t 4) (.t 15), none, [5, 15]⟩] none [4, 100000])
 .ret) .skip))
 k3_json_reader_object)))))
def a_json_reader_object : AFunc := ⟨67, [.cell 4 27 (some 4)], b_json_reader_object⟩

def b_json_reader_digit : IR :=
 (.seq (.reg 0 [⟨some 2, .assign (.c (Value.bool false)), none, [2]⟩] none [0, 100000])
 (.seq (.reg 1 [⟨some 3, .move (.t 0), none, []⟩,
  ⟨some 4, .nilck (.t 3), none, []⟩,
  ⟨some 5, .faddr 50 (.t 4) 1 1, none, []⟩,
  ⟨some 6, .load 3 none (.t 5), none, [3, 4, 5]⟩,
  ⟨some 7, .move (.t 0), none, []⟩,
  ⟨some 8, .nilck (.t 7), none, []⟩,
  ⟨some 9, .faddr 50 (.t 8) 0 0, none, []⟩,
  ⟨some 10, .load 22 none (.t 9), none, []⟩,
  ⟨some 11, .len 22 false (.t 10), none, [7, 8, 9, 10]⟩,
  ⟨some 12, .bin .lss 3 (.t 6) (.t 11) 3, none, [6, 11]⟩,
  ⟨some 13, .move (.t 12), none, [12]⟩,
  ⟨some 14, .move (.t 0), some (10, true), []⟩,
  ⟨some 15, .nilck (.t 14), some (10, true), []⟩,
  ⟨some 16, .faddr 50 (.t 15) 0 0, some (10, true), []⟩,
  ⟨some 17, .load 22 none (.t 16), some (10, true), []⟩,
  ⟨some 18, .move (.t 0), some (10, true), []⟩,
  ⟨some 19, .nilck (.t 18), some (10, true), []⟩,
  ⟨some 20, .faddr 50 (.t 19) 1 1, some (10, true), []⟩,
  ⟨some 21, .load 3 none (.t 20), some (10, true), [18, 19, 20]⟩,
  ⟨some 22, .iaddr 22 (.sl 1) (.t 17) (.t 21), some (10, true), []⟩,
  ⟨some 23, .load 5 none (.t 22), some (10, true), [14, 15, 16, 17, 21, 22]⟩,
  ⟨some 24, .bin .geq 5 (.t 23) (.c (Value.int IntKind.u8 48)) 5, some (10, true), [23]⟩,
  ⟨some 25, .pick (.t 13) (.t 24) (.c (Value.bool false)), none, [13, 24]⟩,
  ⟨some 26, .move (.t 25), none, [25]⟩,
  ⟨some 27, .move (.t 0), some (23, true), []⟩,
  ⟨some 28, .nilck (.t 27), some (23, true), []⟩,
  ⟨some 29, .faddr 50 (.t 28) 0 0, some (23, true), []⟩,
  ⟨some 30, .load 22 none (.t 29), some (23, true), []⟩,
  ⟨some 31, .move (.t 0), some (23, true), []⟩,
  ⟨some 32, .nilck (.t 31), some (23, true), []⟩,
  ⟨some 33, .faddr 50 (.t 32) 1 1, some (23, true), []⟩,
  ⟨some 34, .load 3 none (.t 33), some (23, true), [31, 32, 33]⟩,
  ⟨some 35, .iaddr 22 (.sl 1) (.t 30) (.t 34), some (23, true), []⟩,
  ⟨some 36, .load 5 none (.t 35), some (23, true), [0, 27, 28, 29, 30, 34, 35]⟩,
  ⟨some 37, .bin .leq 5 (.t 36) (.c (Value.int IntKind.u8 57)) 5, some (23, true), [36]⟩,
  ⟨some 38, .pick (.t 26) (.t 37) (.c (Value.bool false)), none, [26, 37]⟩,
  ⟨some 2, .assign (.t 38), none, [38]⟩] (some (.cons ⟨0, []⟩ (.cons ⟨1, []⟩ (.cons ⟨2, []⟩ (.cons ⟨4, []⟩ (.cons ⟨5, []⟩ (.cons ⟨6, []⟩ (.cons ⟨3, []⟩ (.cons ⟨7, []⟩ (.cons ⟨8, []⟩ (.cons ⟨9, []⟩ (.cons ⟨10, []⟩ (.cons ⟨11, []⟩ (.cons ⟨12, []⟩ (.cons ⟨13, []⟩ (.cons ⟨15, []⟩ (.cons ⟨16, []⟩ (.cons ⟨17, []⟩ (.cons ⟨14, []⟩ (.cons ⟨18, []⟩ (.cons ⟨19, []⟩ (.cons ⟨20, []⟩ (.cons ⟨21, []⟩ (.cons ⟨22, []⟩ (.cons ⟨23, []⟩ (.cons ⟨24, []⟩ (.cons ⟨25, []⟩ (.cons ⟨26, []⟩ (.cons ⟨28, []⟩ (.cons ⟨29, []⟩ (.cons ⟨30, []⟩ (.cons ⟨27, []⟩ (.cons ⟨31, []⟩ (.cons ⟨32, []⟩ (.cons ⟨33, []⟩ (.cons ⟨34, []⟩ (.cons ⟨35, []⟩ (.cons ⟨36, []⟩ .nil)))))))))))))))))))))))))))))))))))))) [2, 100000])
 .ret))
def a_json_reader_digit : AFunc := ⟨39, [.tmp 2], b_json_reader_digit⟩

def j0_json_reader_digits : IR :=
 (.block 1 (.reg 3 [⟨some 9, .move (.t 0), none, []⟩,
  ⟨some 10, .nilck (.t 9), none, []⟩,
  ⟨some 11, .faddr 50 (.t 10) 1 1, none, []⟩,
  ⟨some 12, .load 3 none (.t 11), none, [10, 11]⟩,
  ⟨some 13, .bin .add 3 (.t 12) (.c (Value.int IntKind.i64 1)) 3, none, [12]⟩,
  ⟨some 14, .nilck (.t 9), none, []⟩,
  ⟨some 15, .faddr 50 (.t 14) 1 1, none, []⟩,
  ⟨none, .store 3 none (.t 15) (.t 13), none, [9, 13, 14, 15]⟩] none [0, 100000]))
def k0_json_reader_digits : IR := .tail [0, 100000] j0_json_reader_digits
def w0_json_reader_digits : IR :=
 (.seq (.seq (.reg 2 [⟨some 7, .move (.t 0), none, []⟩,
  ⟨some 8, .call n_json_reader_digit [(.t 7)] [48], none, [7]⟩] none [0, 8, 100000])
 (.cond [0, 100000] (.t 8) .skip (.exit 0)))
 k0_json_reader_digits)
def l0_json_reader_digits : IR := .loop [0, 100000] w0_json_reader_digits
def j1_json_reader_digits : IR :=
 (.block 0 l0_json_reader_digits)
def k1_json_reader_digits : IR := .tail [0, 100000] j1_json_reader_digits
def b_json_reader_digits : IR :=
 (.seq (.seq (.reg 0 [⟨some 2, .move (.t 0), none, []⟩,
  ⟨some 3, .call n_json_reader_digit [(.t 2)] [48], none, [2]⟩,
  ⟨some 4, .un .not 4 (.t 3), none, [3]⟩] none [0, 4, 100000])
 (.cond [0, 100000] (.t 4) (.regp 1 [⟨some 5, .move (.t 0), none, []⟩,
  ⟨some 6, .call n_json_reader_fail [(.t 5)] [48], none, [5, 6]⟩] none [0, 100000]) .skip))
 k1_json_reader_digits)
def a_json_reader_digits : AFunc := ⟨16, [], b_json_reader_digits⟩

def j0_json_reader_number : IR :=
 (.seq (.reg 5 [⟨some 13, .move (.t 0), none, []⟩,
  ⟨some 14, .call n_json_reader_takes [(.t 13), (.c (Value.string { data := #[101, 69] }))] [48, 9], none, [13]⟩] none [0, 14, 100000])
 (.cond [0, 100000] (.t 14) (.seq (.reg 6 [⟨some 15, .move (.t 0), none, []⟩,
  ⟨some 16, .call n_json_reader_takes [(.t 15), (.c (Value.string { data := #[43, 45] }))] [48, 9], none, [15, 16]⟩] none [0, 100000])
 (.regp 7 [⟨some 17, .move (.t 0), none, []⟩,
  ⟨some 18, .call n_json_reader_digits [(.t 17)] [48], none, [0, 17, 18]⟩] none [100000])) .skip))
def k0_json_reader_number : IR := .tail [0, 100000] j0_json_reader_number
def j1_json_reader_number : IR :=
 (.seq (.seq (.reg 3 [⟨some 9, .move (.t 0), none, []⟩,
  ⟨some 10, .call n_json_reader_takes [(.t 9), (.c (Value.string { data := #[46] }))] [48, 9], none, [9]⟩] none [0, 10, 100000])
 (.cond [0, 100000] (.t 10) (.regp 4 [⟨some 11, .move (.t 0), none, []⟩,
  ⟨some 12, .call n_json_reader_digits [(.t 11)] [48], none, [11, 12]⟩] none [0, 100000]) .skip))
 k0_json_reader_number)
def k1_json_reader_number : IR := .tail [0, 100000] j1_json_reader_number
def b_json_reader_number : IR :=
 (.seq (.reg 0 [⟨some 2, .move (.t 0), none, []⟩,
  ⟨some 3, .call n_json_reader_takes [(.t 2), (.c (Value.string { data := #[45] }))] [48, 9], none, [2, 3]⟩] none [0, 100000])
 (.seq (.seq (.reg 1 [⟨some 4, .move (.t 0), none, []⟩,
  ⟨some 5, .call n_json_reader_takes [(.t 4), (.c (Value.string { data := #[48] }))] [48, 9], none, [4]⟩,
  ⟨some 6, .un .not 4 (.t 5), none, [5]⟩] none [0, 6, 100000])
 (.cond [0, 100000] (.t 6) (.regp 2 [⟨some 7, .move (.t 0), none, []⟩,
  ⟨some 8, .call n_json_reader_digits [(.t 7)] [48], none, [7, 8]⟩] none [0, 100000]) .skip))
 k1_json_reader_number))
def a_json_reader_number : AFunc := ⟨19, [], b_json_reader_number⟩

def j0_json_reader_value : IR :=
 (.seq (.regp 19 [⟨some 61, .move (.t 0), none, []⟩,
  ⟨some 62, .move (.t 1), none, [1]⟩,
  ⟨some 63, .bin .add 3 (.t 62) (.c (Value.int IntKind.i64 1)) 3, none, [62]⟩,
  ⟨some 64, .call n_json_reader_object [(.t 61), (.t 63)] [48, 3], none, [0, 61, 63]⟩,
  ⟨none, .store 27 (some 4) (.t 4) (.t 64), none, [64]⟩] none [4, 100000])
 .ret)
def k0_json_reader_value : IR := .tail [0, 1, 4, 100000] j0_json_reader_value
def j1_json_reader_value : IR :=
 (.seq (.reg 16 [⟨some 48, .move (.t 0), none, []⟩,
  ⟨some 49, .nilck (.t 48), none, []⟩,
  ⟨some 50, .faddr 50 (.t 49) 1 1, none, []⟩,
  ⟨some 51, .load 3 none (.t 50), none, [49, 50]⟩,
  ⟨some 52, .bin .add 3 (.t 51) (.c (Value.int IntKind.i64 1)) 3, none, [51]⟩,
  ⟨some 53, .nilck (.t 48), none, []⟩,
  ⟨some 54, .faddr 50 (.t 53) 1 1, none, []⟩,
  ⟨none, .store 3 none (.t 54) (.t 52), none, [48, 52, 53, 54]⟩] none [0, 1, 4, 5, 100000])
 (.seq (.seq (.reg 17 [⟨some 55, .move (.t 5), none, [5]⟩,
  ⟨some 56, .bin .eql 5 (.t 55) (.c (Value.int IntKind.u8 91)) 5, none, [55]⟩] none [0, 1, 4, 56, 100000])
 (.cond [0, 1, 4, 100000] (.t 56) (.seq (.regp 18 [⟨some 57, .move (.t 0), none, []⟩,
  ⟨some 58, .move (.t 1), none, [1]⟩,
  ⟨some 59, .bin .add 3 (.t 58) (.c (Value.int IntKind.i64 1)) 3, none, [58]⟩,
  ⟨some 60, .call n_json_reader_list [(.t 57), (.t 59)] [48, 3], none, [0, 57, 59]⟩,
  ⟨none, .store 27 (some 4) (.t 4) (.t 60), none, [60]⟩] none [4, 100000])
 .ret) .skip))
 k0_json_reader_value))
def k1_json_reader_value : IR := .tail [0, 1, 4, 5, 100000] j1_json_reader_value
def j2_json_reader_value : IR :=
 (.seq (.regp 24 [⟨some 94, .move (.t 0), none, []⟩,
  ⟨some 95, .call n_json_reader_fail [(.t 94)] [48], none, [0, 94, 95]⟩] none [4, 100000])
 (.seq (.reg 25 [⟨some 96, .build 27 [(0, 1), (1, 1), (2, 1), (3, 1)] [.v (.int .u8 0), .v (.string ⟨#[]⟩), .nil 1, .nil 4] [], none, []⟩,
  ⟨none, .store 27 (some 4) (.t 4) (.t 96), none, [96]⟩] none [4, 100000])
 .ret))
def k2_json_reader_value : IR := .tail [0, 4, 100000] j2_json_reader_value
def b_json_reader_value : IR :=
 (.seq (.reg 0 [⟨some 4, .alloc 27 [.v (.int .u8 0), .v (.string ⟨#[]⟩), .nil 1, .nil 4], none, []⟩] none [0, 1, 4, 100000])
 (.seq (.seq (.regp 1 [⟨some 7, .move (.t 0), none, []⟩,
  ⟨some 8, .call n_json_reader_byte [(.t 7)] [48], none, [7]⟩,
  ⟨some 5, .assign (.t 8), none, [8]⟩] none [0, 1, 4, 5, 100000])
 (.block 0 (.seq (.reg 2 [⟨some 10, .move (.t 5), none, []⟩,
  ⟨some 11, .bin .eql 5 (.t 10) (.c (Value.int IntKind.u8 110)) 5, none, [10]⟩,
  ⟨some 9, .assign (.t 11), none, [11]⟩] none [0, 1, 4, 5, 9, 100000])
 (.cond [0, 1, 4, 5, 100000] (.t 9) (.seq (.regp 3 [⟨some 12, .move (.t 0), none, []⟩,
  ⟨some 13, .call n_json_reader_want [(.t 12), (.c (Value.string { data := #[110, 117, 108, 108] }))] [48, 9], none, [0, 12, 13]⟩] none [4, 100000])
 (.seq (.reg 4 [⟨some 14, .build 27 [(0, 1), (1, 1), (2, 1), (3, 1)] [.v (.int .u8 0), .v (.string ⟨#[]⟩), .nil 1, .nil 4] [(0, (.c (Value.int IntKind.u8 1)))], none, []⟩,
  ⟨none, .store 27 (some 4) (.t 4) (.t 14), none, [14]⟩] none [4, 100000])
 .ret)) (.seq (.reg 5 [⟨some 16, .move (.t 5), none, []⟩,
  ⟨some 17, .bin .eql 5 (.t 16) (.c (Value.int IntKind.u8 102)) 5, none, [16]⟩,
  ⟨some 15, .assign (.t 17), none, [17]⟩] none [0, 1, 4, 5, 15, 100000])
 (.cond [0, 1, 4, 5, 100000] (.t 15) (.seq (.regp 6 [⟨some 18, .move (.t 0), none, []⟩,
  ⟨some 19, .call n_json_reader_want [(.t 18), (.c (Value.string { data := #[102, 97, 108, 115, 101] }))] [48, 9], none, [0, 18, 19]⟩] none [4, 100000])
 (.seq (.reg 7 [⟨some 20, .build 27 [(0, 1), (1, 1), (2, 1), (3, 1)] [.v (.int .u8 0), .v (.string ⟨#[]⟩), .nil 1, .nil 4] [(0, (.c (Value.int IntKind.u8 2)))], none, []⟩,
  ⟨none, .store 27 (some 4) (.t 4) (.t 20), none, [20]⟩] none [4, 100000])
 .ret)) (.seq (.reg 8 [⟨some 22, .move (.t 5), none, []⟩,
  ⟨some 23, .bin .eql 5 (.t 22) (.c (Value.int IntKind.u8 116)) 5, none, [22]⟩,
  ⟨some 21, .assign (.t 23), none, [23]⟩] none [0, 1, 4, 5, 21, 100000])
 (.cond [0, 1, 4, 5, 100000] (.t 21) (.seq (.regp 9 [⟨some 24, .move (.t 0), none, []⟩,
  ⟨some 25, .call n_json_reader_want [(.t 24), (.c (Value.string { data := #[116, 114, 117, 101] }))] [48, 9], none, [0, 24, 25]⟩] none [4, 100000])
 (.seq (.reg 10 [⟨some 26, .build 27 [(0, 1), (1, 1), (2, 1), (3, 1)] [.v (.int .u8 0), .v (.string ⟨#[]⟩), .nil 1, .nil 4] [(0, (.c (Value.int IntKind.u8 3)))], none, []⟩,
  ⟨none, .store 27 (some 4) (.t 4) (.t 26), none, [26]⟩] none [4, 100000])
 .ret)) (.seq (.reg 11 [⟨some 28, .move (.t 5), none, []⟩,
  ⟨some 29, .bin .eql 5 (.t 28) (.c (Value.int IntKind.u8 34)) 5, none, [28]⟩,
  ⟨some 27, .assign (.t 29), none, [29]⟩] none [0, 1, 4, 5, 27, 100000])
 (.cond [0, 1, 4, 5, 100000] (.t 27) (.seq (.regp 12 [⟨some 30, .move (.t 0), none, []⟩,
  ⟨some 31, .call n_json_reader_text [(.t 30)] [48], none, [0, 30]⟩,
  ⟨some 32, .build 27 [(0, 1), (1, 1), (2, 1), (3, 1)] [.v (.int .u8 0), .v (.string ⟨#[]⟩), .nil 1, .nil 4] [(0, (.c (Value.int IntKind.u8 5))), (1, (.t 31))], none, []⟩,
  ⟨none, .store 27 (some 4) (.t 4) (.t 32), none, [31, 32]⟩] none [4, 100000])
 .ret) (.seq (.reg 13 [⟨some 34, .move (.t 5), none, []⟩,
  ⟨some 35, .bin .eql 5 (.t 34) (.c (Value.int IntKind.u8 91)) 5, none, [34]⟩,
  ⟨some 36, .move (.t 35), none, [35]⟩,
  ⟨some 37, .move (.t 5), some (2, false), []⟩,
  ⟨some 38, .bin .eql 5 (.t 37) (.c (Value.int IntKind.u8 123)) 5, some (2, false), [37]⟩,
  ⟨some 39, .pick (.t 36) (.c (Value.bool true)) (.t 38), none, [36, 38]⟩,
  ⟨some 33, .assign (.t 39), none, [39]⟩] none [0, 1, 4, 5, 33, 100000])
 (.cond [0, 1, 4, 5, 100000] (.t 33) (.seq (.seq (.reg 14 [⟨some 40, .move (.t 1), none, []⟩,
  ⟨some 41, .bin .eql 3 (.t 40) (.c (Value.int IntKind.i64 256)) 3, none, [40]⟩] none [0, 1, 4, 5, 41, 100000])
 (.cond [0, 1, 4, 5, 100000] (.t 41) (.regp 15 [⟨some 42, .move (.t 0), none, []⟩,
  ⟨some 43, .nilck (.t 42), none, []⟩,
  ⟨some 44, .faddr 50 (.t 43) 1 1, none, []⟩,
  ⟨some 45, .load 3 none (.t 44), none, [42, 43, 44]⟩,
  ⟨some 46, .build 46 [(0, 1), (1, 1)] [.v (.int .i64 0), .v (.int .i64 0)] [(0, (.c (Value.int IntKind.i64 101))), (1, (.t 45))], none, [45]⟩,
  ⟨some 47, .mkiface 46 (.t 46), none, [46]⟩,
  ⟨none, .throw (.t 47), none, [47]⟩] none [0, 1, 4, 5, 100000]) .skip))
 k1_json_reader_value) (.seq (.reg 20 [⟨some 66, .move (.t 5), none, []⟩,
  ⟨some 67, .bin .eql 5 (.t 66) (.c (Value.int IntKind.u8 45)) 5, none, [66]⟩,
  ⟨some 68, .move (.t 67), none, [67]⟩,
  ⟨some 69, .move (.t 5), some (2, false), []⟩,
  ⟨some 70, .bin .geq 5 (.t 69) (.c (Value.int IntKind.u8 48)) 5, some (2, false), [69]⟩,
  ⟨some 71, .move (.t 70), some (2, false), [70]⟩,
  ⟨some 72, .move (.t 5), some (5, true), [5]⟩,
  ⟨some 73, .bin .leq 5 (.t 72) (.c (Value.int IntKind.u8 57)) 5, some (5, true), [72]⟩,
  ⟨some 74, .pick (.t 71) (.t 73) (.c (Value.bool false)), some (2, false), [71, 73]⟩,
  ⟨some 75, .pick (.t 68) (.c (Value.bool true)) (.t 74), none, [68, 74]⟩,
  ⟨some 65, .assign (.t 75), none, [75]⟩] none [0, 4, 65, 100000])
 (.cond [0, 4, 100000] (.t 65) (.seq (.reg 21 [⟨some 76, .move (.t 0), none, []⟩,
  ⟨some 77, .nilck (.t 76), none, []⟩,
  ⟨some 78, .faddr 50 (.t 77) 1 1, none, []⟩,
  ⟨some 79, .load 3 none (.t 78), none, [76, 77, 78]⟩,
  ⟨some 6, .assign (.t 79), none, [79]⟩] none [0, 4, 6, 100000])
 (.seq (.regp 22 [⟨some 80, .move (.t 0), none, []⟩,
  ⟨some 81, .call n_json_reader_number [(.t 80)] [48], none, [80, 81]⟩] none [0, 4, 6, 100000])
 (.seq (.reg 23 [⟨some 82, .move (.t 0), none, []⟩,
  ⟨some 83, .nilck (.t 82), none, []⟩,
  ⟨some 84, .faddr 50 (.t 83) 0 0, none, []⟩,
  ⟨some 85, .load 22 none (.t 84), none, []⟩,
  ⟨some 86, .move (.t 6), none, [6]⟩,
  ⟨some 87, .move (.t 0), none, []⟩,
  ⟨some 88, .nilck (.t 87), none, []⟩,
  ⟨some 89, .faddr 50 (.t 88) 1 1, none, []⟩,
  ⟨some 90, .load 3 none (.t 89), none, [87, 88, 89]⟩,
  ⟨some 91, .slice 22 (.sl 1) (.t 85) (some (.t 86)) (some (.t 90)) none, none, []⟩,
  ⟨some 92, .conv 22 9 .bytes (.t 91), none, [0, 82, 83, 84, 85, 86, 90, 91]⟩,
  ⟨some 93, .build 27 [(0, 1), (1, 1), (2, 1), (3, 1)] [.v (.int .u8 0), .v (.string ⟨#[]⟩), .nil 1, .nil 4] [(0, (.c (Value.int IntKind.u8 4))), (1, (.t 92))], none, []⟩,
  ⟨none, .store 27 (some 4) (.t 4) (.t 93), none, [92, 93]⟩] (some (.cons ⟨0, []⟩ (.cons ⟨1, []⟩ (.cons ⟨2, []⟩ (.cons ⟨4, []⟩ (.cons ⟨5, []⟩ (.cons ⟨6, []⟩ (.cons ⟨7, []⟩ (.cons ⟨3, []⟩ (.cons ⟨8, []⟩ (.cons ⟨9, []⟩ (.cons ⟨10, []⟩ (.cons ⟨11, []⟩ (.cons ⟨12, []⟩ .nil)))))))))))))) [4, 100000])
 .ret))) .skip))))))))))))))
 k2_json_reader_value))
def a_json_reader_value : AFunc := ⟨97, [.cell 4 27 (some 4)], b_json_reader_value⟩

def j0_json_Parse : IR :=
 (.seq (.reg 10 [⟨some 29, .load 27 (some 4) (.t 2), none, []⟩,
  ⟨none, .store 27 (some 4) (.t 2) (.t 29), none, [29]⟩,
  ⟨none, .store 28 none (.t 3) (.c (Value.int IntKind.i64 0)), none, []⟩,
  ⟨none, .store 3 none (.t 4) (.c (Value.int IntKind.i64 0)), none, []⟩] none [2, 3, 4, 200000, 200001, 200002])
 .ret)
def k0_json_Parse : IR := .tail [2, 3, 4, 200000, 200001, 200002] j0_json_Parse
def j1_json_Parse : IR :=
 (.seq (.reg 4 [⟨some 11, .move (.t 0), none, []⟩,
  ⟨some 12, .build 50 [(0, 1), (1, 1)] [.nil 1, .v (.int .i64 0)] [(0, (.t 11))], none, []⟩,
  ⟨some 13, .box 50 (.t 12), none, [11, 12]⟩,
  ⟨some 5, .assign (.t 13), none, []⟩] none [0, 2, 3, 4, 5, 13, 200000, 200001, 200002])
 (.seq (.reg 5 [⟨some 14, .move (.t 5), none, []⟩,
  ⟨some 15, .call n_json_reader_blanks [(.t 14)] [48], none, [14, 15]⟩] none [0, 2, 3, 4, 5, 13, 200000, 200001, 200002])
 (.seq (.regp 6 [⟨some 16, .move (.t 5), none, []⟩,
  ⟨some 17, .call n_json_reader_value [(.t 16), (.c (Value.int IntKind.i64 0))] [48, 3], none, [16]⟩,
  ⟨none, .store 27 (some 4) (.t 2) (.t 17), none, [17]⟩] none [0, 2, 3, 4, 5, 13, 200000, 200001, 200002])
 (.seq (.reg 7 [⟨some 18, .move (.t 5), none, []⟩,
  ⟨some 19, .call n_json_reader_blanks [(.t 18)] [48], none, [18, 19]⟩] none [0, 2, 3, 4, 5, 13, 200000, 200001, 200002])
 (.seq (.seq (.reg 8 [⟨some 20, .move (.t 5), none, []⟩,
  ⟨some 21, .nilck (.t 20), none, []⟩,
  ⟨some 22, .faddr 50 (.t 21) 1 1, none, []⟩,
  ⟨some 23, .load 3 none (.t 22), none, [20, 21, 22]⟩,
  ⟨some 24, .move (.t 0), none, []⟩,
  ⟨some 25, .len 22 false (.t 24), none, [0, 24]⟩,
  ⟨some 26, .bin .lss 3 (.t 23) (.t 25) 3, none, [23, 25]⟩] none [2, 3, 4, 5, 13, 26, 200000, 200001, 200002])
 (.cond [2, 3, 4, 5, 13, 200000, 200001, 200002] (.t 26) (.regp 9 [⟨some 27, .move (.t 5), none, []⟩,
  ⟨some 28, .call n_json_reader_fail [(.t 27)] [48], none, [5, 13, 27, 28]⟩] none [2, 3, 4, 200000, 200001, 200002]) .skip))
 k0_json_Parse)))))
def hnd_json_Parse : Value → Option (List (List PV)) := fun x => match x with
  | .iface 46 (.agg vs) => match vs.toList with
    | [.int .i64 a, .int .i64 b] => some [[.v (.int .u8 0), .v (.string ⟨#[]⟩), .nil 1, .nil 4], [.v (.int .i64 a)], [.v (.int .i64 b)]]
    | _ => none
  | _ => none
def j2_json_Parse : IR :=
 (.gd 3 10 n_json_Parse_1 [2, 3, 4] hnd_json_Parse j1_json_Parse)
def k2_json_Parse : IR := .tail [0, 2, 3, 4, 200000, 200001, 200002] j2_json_Parse
def b_json_Parse : IR :=
 (.seq (.reg 0 [⟨some 2, .alloc 27 [.v (.int .u8 0), .v (.string ⟨#[]⟩), .nil 1, .nil 4], none, []⟩,
  ⟨some 3, .alloc 28 [.v (.int .i64 0)], none, []⟩,
  ⟨some 4, .alloc 3 [.v (.int .i64 0)], none, []⟩] none [0, 2, 3, 4])
 (.seq (.seq (.reg 1 [⟨some 6, .move (.t 0), none, []⟩,
  ⟨some 7, .len 22 false (.t 6), none, [6]⟩,
  ⟨some 8, .bin .gtr 3 (.t 7) (.c (Value.int IntKind.i64 16777216)) 3, none, [7]⟩] none [0, 2, 3, 4, 8])
 (.cond [0, 2, 3, 4] (.t 8) (.seq (.reg 2 [⟨some 9, .build 27 [(0, 1), (1, 1), (2, 1), (3, 1)] [.v (.int .u8 0), .v (.string ⟨#[]⟩), .nil 1, .nil 4] [], none, []⟩,
  ⟨none, .store 27 (some 4) (.t 2) (.t 9), none, [9]⟩,
  ⟨none, .store 28 none (.t 3) (.c (Value.int IntKind.i64 4)), none, []⟩,
  ⟨none, .store 3 none (.t 4) (.c (Value.int IntKind.i64 0)), none, []⟩] none [2, 3, 4])
 .ret) .skip))
 k2_json_Parse))
def a_json_Parse : AFunc := ⟨30, [.cell 2 27 (some 4), .cell 3 28 none, .cell 4 3 none], b_json_Parse⟩

def b_thicketref10_reading_ok : IR :=
 (.seq (.reg 0 [⟨some 2, .assign (.c (Value.bool false)), none, [2]⟩] none [0, 100000])
 (.seq (.reg 1 [⟨some 3, .move (.t 0), none, []⟩,
  ⟨some 4, .nilck (.t 3), none, []⟩,
  ⟨some 5, .faddr 54 (.t 4) 2 2, none, []⟩,
  ⟨some 6, .load 28 none (.t 5), none, [0, 3, 4, 5]⟩,
  ⟨some 7, .bin .eql 28 (.t 6) (.c (Value.int IntKind.i64 0)) 28, none, [6]⟩,
  ⟨some 2, .assign (.t 7), none, [7]⟩] none [2, 100000])
 .ret))
def a_thicketref10_reading_ok : AFunc := ⟨8, [.tmp 2], b_thicketref10_reading_ok⟩

def j0_thicketref10_reading_blanks : IR :=
 (.block 1 (.reg 1 [⟨some 64, .move (.t 0), none, []⟩,
  ⟨some 65, .nilck (.t 64), none, []⟩,
  ⟨some 66, .faddr 54 (.t 65) 1 1, none, []⟩,
  ⟨some 67, .load 3 none (.t 66), none, [65, 66]⟩,
  ⟨some 68, .bin .add 3 (.t 67) (.c (Value.int IntKind.i64 1)) 3, none, [67]⟩,
  ⟨some 69, .nilck (.t 64), none, []⟩,
  ⟨some 70, .faddr 54 (.t 69) 1 1, none, []⟩,
  ⟨none, .store 3 none (.t 70) (.t 68), none, [64, 68, 69, 70]⟩] none [0, 100000]))
def k0_thicketref10_reading_blanks : IR := .tail [0, 100000] j0_thicketref10_reading_blanks
def w0_thicketref10_reading_blanks : IR :=
 (.seq (.seq (.reg 0 [⟨some 2, .move (.t 0), none, []⟩,
  ⟨some 3, .nilck (.t 2), none, []⟩,
  ⟨some 4, .faddr 54 (.t 3) 1 1, none, []⟩,
  ⟨some 5, .load 3 none (.t 4), none, [2, 3, 4]⟩,
  ⟨some 6, .move (.t 0), none, []⟩,
  ⟨some 7, .nilck (.t 6), none, []⟩,
  ⟨some 8, .faddr 54 (.t 7) 0 0, none, []⟩,
  ⟨some 9, .load 22 none (.t 8), none, []⟩,
  ⟨some 10, .len 22 false (.t 9), none, [6, 7, 8, 9]⟩,
  ⟨some 11, .bin .lss 3 (.t 5) (.t 10) 3, none, [5, 10]⟩,
  ⟨some 12, .move (.t 11), none, [11]⟩,
  ⟨some 13, .move (.t 0), some (10, true), []⟩,
  ⟨some 14, .nilck (.t 13), some (10, true), []⟩,
  ⟨some 15, .faddr 54 (.t 14) 0 0, some (10, true), []⟩,
  ⟨some 16, .load 22 none (.t 15), some (10, true), []⟩,
  ⟨some 17, .move (.t 0), some (10, true), []⟩,
  ⟨some 18, .nilck (.t 17), some (10, true), []⟩,
  ⟨some 19, .faddr 54 (.t 18) 1 1, some (10, true), []⟩,
  ⟨some 20, .load 3 none (.t 19), some (10, true), [17, 18, 19]⟩,
  ⟨some 21, .iaddr 22 (.sl 1) (.t 16) (.t 20), some (10, true), []⟩,
  ⟨some 22, .load 5 none (.t 21), some (10, true), [13, 14, 15, 16, 20, 21]⟩,
  ⟨some 23, .bin .eql 5 (.t 22) (.c (Value.int IntKind.u8 32)) 5, some (10, true), [22]⟩,
  ⟨some 24, .move (.t 23), some (10, true), [23]⟩,
  ⟨some 25, .move (.t 0), some (22, false), []⟩,
  ⟨some 26, .nilck (.t 25), some (22, false), []⟩,
  ⟨some 27, .faddr 54 (.t 26) 0 0, some (22, false), []⟩,
  ⟨some 28, .load 22 none (.t 27), some (22, false), []⟩,
  ⟨some 29, .move (.t 0), some (22, false), []⟩,
  ⟨some 30, .nilck (.t 29), some (22, false), []⟩,
  ⟨some 31, .faddr 54 (.t 30) 1 1, some (22, false), []⟩,
  ⟨some 32, .load 3 none (.t 31), some (22, false), [29, 30, 31]⟩,
  ⟨some 33, .iaddr 22 (.sl 1) (.t 28) (.t 32), some (22, false), []⟩,
  ⟨some 34, .load 5 none (.t 33), some (22, false), [25, 26, 27, 28, 32, 33]⟩,
  ⟨some 35, .bin .eql 5 (.t 34) (.c (Value.int IntKind.u8 9)) 5, some (22, false), [34]⟩,
  ⟨some 36, .pick (.t 24) (.c (Value.bool true)) (.t 35), some (10, true), [24, 35]⟩,
  ⟨some 37, .move (.t 36), some (10, true), [36]⟩,
  ⟨some 38, .move (.t 0), some (35, false), []⟩,
  ⟨some 39, .nilck (.t 38), some (35, false), []⟩,
  ⟨some 40, .faddr 54 (.t 39) 0 0, some (35, false), []⟩,
  ⟨some 41, .load 22 none (.t 40), some (35, false), []⟩,
  ⟨some 42, .move (.t 0), some (35, false), []⟩,
  ⟨some 43, .nilck (.t 42), some (35, false), []⟩,
  ⟨some 44, .faddr 54 (.t 43) 1 1, some (35, false), []⟩,
  ⟨some 45, .load 3 none (.t 44), some (35, false), [42, 43, 44]⟩,
  ⟨some 46, .iaddr 22 (.sl 1) (.t 41) (.t 45), some (35, false), []⟩,
  ⟨some 47, .load 5 none (.t 46), some (35, false), [38, 39, 40, 41, 45, 46]⟩,
  ⟨some 48, .bin .eql 5 (.t 47) (.c (Value.int IntKind.u8 10)) 5, some (35, false), [47]⟩,
  ⟨some 49, .pick (.t 37) (.c (Value.bool true)) (.t 48), some (10, true), [37, 48]⟩,
  ⟨some 50, .move (.t 49), some (10, true), [49]⟩,
  ⟨some 51, .move (.t 0), some (48, false), []⟩,
  ⟨some 52, .nilck (.t 51), some (48, false), []⟩,
  ⟨some 53, .faddr 54 (.t 52) 0 0, some (48, false), []⟩,
  ⟨some 54, .load 22 none (.t 53), some (48, false), []⟩,
  ⟨some 55, .move (.t 0), some (48, false), []⟩,
  ⟨some 56, .nilck (.t 55), some (48, false), []⟩,
  ⟨some 57, .faddr 54 (.t 56) 1 1, some (48, false), []⟩,
  ⟨some 58, .load 3 none (.t 57), some (48, false), [55, 56, 57]⟩,
  ⟨some 59, .iaddr 22 (.sl 1) (.t 54) (.t 58), some (48, false), []⟩,
  ⟨some 60, .load 5 none (.t 59), some (48, false), [51, 52, 53, 54, 58, 59]⟩,
  ⟨some 61, .bin .eql 5 (.t 60) (.c (Value.int IntKind.u8 13)) 5, some (48, false), [60]⟩,
  ⟨some 62, .pick (.t 50) (.c (Value.bool true)) (.t 61), some (10, true), [50, 61]⟩,
  ⟨some 63, .pick (.t 12) (.t 62) (.c (Value.bool false)), none, [12, 62]⟩] (some (.cons ⟨0, []⟩ (.cons ⟨1, []⟩ (.cons ⟨2, []⟩ (.cons ⟨4, []⟩ (.cons ⟨5, []⟩ (.cons ⟨6, []⟩ (.cons ⟨3, []⟩ (.cons ⟨7, []⟩ (.cons ⟨8, []⟩ (.cons ⟨9, []⟩ (.cons ⟨10, []⟩ (.cons ⟨11, []⟩ (.cons ⟨12, []⟩ (.cons ⟨13, []⟩ (.cons ⟨15, []⟩ (.cons ⟨16, []⟩ (.cons ⟨17, []⟩ (.cons ⟨14, []⟩ (.cons ⟨18, []⟩ (.cons ⟨19, []⟩ (.cons ⟨20, []⟩ (.cons ⟨21, []⟩ (.cons ⟨22, []⟩ (.cons ⟨23, []⟩ (.cons ⟨24, []⟩ (.cons ⟨25, []⟩ (.cons ⟨27, []⟩ (.cons ⟨28, []⟩ (.cons ⟨29, []⟩ (.cons ⟨26, []⟩ (.cons ⟨30, []⟩ (.cons ⟨31, []⟩ (.cons ⟨32, []⟩ (.cons ⟨33, []⟩ (.cons ⟨34, []⟩ (.cons ⟨35, []⟩ (.cons ⟨36, []⟩ (.cons ⟨37, []⟩ (.cons ⟨38, []⟩ (.cons ⟨40, []⟩ (.cons ⟨41, []⟩ (.cons ⟨42, []⟩ (.cons ⟨39, []⟩ (.cons ⟨43, []⟩ (.cons ⟨44, []⟩ (.cons ⟨45, []⟩ (.cons ⟨46, []⟩ (.cons ⟨47, []⟩ (.cons ⟨48, []⟩ (.cons ⟨49, []⟩ (.cons ⟨50, []⟩ (.cons ⟨51, []⟩ (.cons ⟨53, []⟩ (.cons ⟨54, []⟩ (.cons ⟨55, []⟩ (.cons ⟨52, []⟩ (.cons ⟨56, []⟩ (.cons ⟨57, []⟩ (.cons ⟨58, []⟩ (.cons ⟨59, []⟩ (.cons ⟨60, []⟩ (.cons ⟨61, []⟩ .nil))))))))))))))))))))))))))))))))))))))))))))))))))))))))))))))) [0, 63, 100000])
 (.cond [0, 100000] (.t 63) .skip (.exit 0)))
 k0_thicketref10_reading_blanks)
def l0_thicketref10_reading_blanks : IR := .loop [0, 100000] w0_thicketref10_reading_blanks
def b_thicketref10_reading_blanks : IR :=
 (.block 0 l0_thicketref10_reading_blanks)
def a_thicketref10_reading_blanks : AFunc := ⟨71, [], b_thicketref10_reading_blanks⟩

def b_thicketref10_reading_fail : IR :=
 (.seq (.reg 0 [⟨some 6, .move (.t 0), none, []⟩,
  ⟨some 7, .nilck (.t 6), none, []⟩,
  ⟨some 8, .faddr 54 (.t 7) 2 2, none, []⟩,
  ⟨some 9, .load 28 none (.t 8), none, [6, 7, 8]⟩,
  ⟨some 10, .bin .eql 28 (.t 9) (.c (Value.int IntKind.i64 0)) 28, none, [9]⟩] none [0, 1, 2, 10, 100000])
 (.cond [0, 1, 2, 100000] (.t 10) (.seq (.reg 1 [⟨some 11, .move (.t 0), none, []⟩,
  ⟨some 12, .move (.t 1), none, [1]⟩,
  ⟨some 13, .nilck (.t 11), none, []⟩,
  ⟨some 14, .faddr 54 (.t 13) 2 2, none, []⟩,
  ⟨none, .store 28 none (.t 14) (.t 12), none, [11, 12, 13, 14]⟩] none [0, 2, 100000])
 (.reg 2 [⟨some 15, .move (.t 0), none, []⟩,
  ⟨some 16, .move (.t 2), none, [2]⟩,
  ⟨some 17, .nilck (.t 15), none, []⟩,
  ⟨some 18, .faddr 54 (.t 17) 3 3, none, []⟩,
  ⟨none, .store 3 none (.t 18) (.t 16), none, [0, 15, 16, 17, 18]⟩] none [100000])) .skip))
def a_thicketref10_reading_fail : AFunc := ⟨19, [], b_thicketref10_reading_fail⟩

def j0_thicketref10_reading_must : IR :=
 (.reg 5 [⟨some 47, .move (.t 0), none, []⟩,
  ⟨some 48, .nilck (.t 47), none, []⟩,
  ⟨some 49, .faddr 54 (.t 48) 1 1, none, []⟩,
  ⟨some 50, .load 3 none (.t 49), none, [48, 49]⟩,
  ⟨some 51, .bin .add 3 (.t 50) (.c (Value.int IntKind.i64 1)) 3, none, [50]⟩,
  ⟨some 52, .nilck (.t 47), none, []⟩,
  ⟨some 53, .faddr 54 (.t 52) 1 1, none, []⟩,
  ⟨none, .store 3 none (.t 53) (.t 51), none, [47, 51, 52, 53]⟩] none [0, 1, 4, 100000])
def k0_thicketref10_reading_must : IR := .tail [0, 1, 4, 100000] j0_thicketref10_reading_must
def j1_thicketref10_reading_must : IR :=
 (.reg 2 [⟨some 13, .move (.t 4), none, []⟩,
  ⟨some 14, .bin .add 3 (.t 13) (.c (Value.int IntKind.i64 1)) 3, none, [13]⟩,
  ⟨some 4, .assign (.t 14), none, [14]⟩] none [0, 1, 4, 100000])
def k1_thicketref10_reading_must : IR := .tail [0, 1, 4, 100000] j1_thicketref10_reading_must
def j2_thicketref10_reading_must : IR :=
 (.seq (.block 1 (.seq (.seq (.reg 3 [⟨some 15, .move (.t 0), none, []⟩,
  ⟨some 16, .nilck (.t 15), none, []⟩,
  ⟨some 17, .faddr 54 (.t 16) 1 1, none, []⟩,
  ⟨some 18, .load 3 none (.t 17), none, [15, 16, 17]⟩,
  ⟨some 19, .move (.t 0), none, []⟩,
  ⟨some 20, .nilck (.t 19), none, []⟩,
  ⟨some 21, .faddr 54 (.t 20) 0 0, none, []⟩,
  ⟨some 22, .load 22 none (.t 21), none, []⟩,
  ⟨some 23, .len 22 false (.t 22), none, [19, 20, 21, 22]⟩,
  ⟨some 24, .bin .geq 3 (.t 18) (.t 23) 3, none, [18, 23]⟩,
  ⟨some 25, .move (.t 24), none, [24]⟩,
  ⟨some 26, .move (.t 0), some (10, false), []⟩,
  ⟨some 27, .nilck (.t 26), some (10, false), []⟩,
  ⟨some 28, .faddr 54 (.t 27) 0 0, some (10, false), []⟩,
  ⟨some 29, .load 22 none (.t 28), some (10, false), []⟩,
  ⟨some 30, .move (.t 0), some (10, false), []⟩,
  ⟨some 31, .nilck (.t 30), some (10, false), []⟩,
  ⟨some 32, .faddr 54 (.t 31) 1 1, some (10, false), []⟩,
  ⟨some 33, .load 3 none (.t 32), some (10, false), [30, 31, 32]⟩,
  ⟨some 34, .iaddr 22 (.sl 1) (.t 29) (.t 33), some (10, false), []⟩,
  ⟨some 35, .load 5 none (.t 34), some (10, false), [26, 27, 28, 29, 33, 34]⟩,
  ⟨some 36, .move (.t 1), some (10, false), []⟩,
  ⟨some 37, .move (.t 4), some (10, false), []⟩,
  ⟨some 38, .index 9 .str none (.t 36) (.t 37), some (10, false), [36, 37]⟩,
  ⟨some 39, .bin .neq 5 (.t 35) (.t 38) 5, some (10, false), [35, 38]⟩,
  ⟨some 40, .pick (.t 25) (.c (Value.bool true)) (.t 39), none, [25, 39]⟩] (some (.cons ⟨0, []⟩ (.cons ⟨1, []⟩ (.cons ⟨2, []⟩ (.cons ⟨4, []⟩ (.cons ⟨5, []⟩ (.cons ⟨6, []⟩ (.cons ⟨3, []⟩ (.cons ⟨7, []⟩ (.cons ⟨8, []⟩ (.cons ⟨9, []⟩ (.cons ⟨10, []⟩ (.cons ⟨11, []⟩ (.cons ⟨12, []⟩ (.cons ⟨13, []⟩ (.cons ⟨15, []⟩ (.cons ⟨16, []⟩ (.cons ⟨17, []⟩ (.cons ⟨21, []⟩ (.cons ⟨22, []⟩ (.cons ⟨23, []⟩ (.cons ⟨14, []⟩ (.cons ⟨18, []⟩ (.cons ⟨19, []⟩ (.cons ⟨20, []⟩ (.cons ⟨24, []⟩ (.cons ⟨25, []⟩ .nil))))))))))))))))))))))))))) [0, 1, 4, 40, 100000])
 (.cond [0, 1, 4, 100000] (.t 40) (.seq (.reg 4 [⟨some 41, .move (.t 0), none, []⟩,
  ⟨some 42, .move (.t 0), none, []⟩,
  ⟨some 43, .nilck (.t 42), none, []⟩,
  ⟨some 44, .faddr 54 (.t 43) 1 1, none, []⟩,
  ⟨some 45, .load 3 none (.t 44), none, [42, 43, 44]⟩,
  ⟨some 46, .call n_thicketref10_reading_fail [(.t 41), (.c (Value.int IntKind.i64 100)), (.t 45)] [52, 28, 3], none, [0, 41, 45, 46]⟩] none [100000])
 .ret) .skip))
 k0_thicketref10_reading_must))
 k1_thicketref10_reading_must)
def k2_thicketref10_reading_must : IR := .tail [0, 1, 4, 100000] j2_thicketref10_reading_must
def w0_thicketref10_reading_must : IR :=
 (.seq (.seq (.reg 1 [⟨some 5, .move (.t 4), none, []⟩,
  ⟨some 6, .move (.t 1), none, []⟩,
  ⟨some 7, .len 9 true (.t 6), none, [6]⟩,
  ⟨some 8, .bin .lss 3 (.t 5) (.t 7) 3, none, [5, 7]⟩,
  ⟨some 9, .move (.t 8), none, [8]⟩,
  ⟨some 10, .move (.t 0), some (4, true), []⟩,
  ⟨some 11, .call n_thicketref10_reading_ok [(.t 10)] [52], some (4, true), [10]⟩,
  ⟨some 12, .pick (.t 9) (.t 11) (.c (Value.bool false)), none, [9, 11]⟩] none [0, 1, 4, 12, 100000])
 (.cond [0, 1, 4, 100000] (.t 12) .skip (.exit 0)))
 k2_thicketref10_reading_must)
def l0_thicketref10_reading_must : IR := .loop [0, 1, 4, 100000] w0_thicketref10_reading_must
def b_thicketref10_reading_must : IR :=
 (.seq (.reg 0 [⟨some 4, .assign (.c (Value.int IntKind.i64 0)), none, []⟩] none [0, 1, 4, 100000])
 (.block 0 l0_thicketref10_reading_must))
def a_thicketref10_reading_must : AFunc := ⟨54, [], b_thicketref10_reading_must⟩

def b_thicketref10_isDigit : IR :=
 (.seq (.reg 0 [⟨some 2, .assign (.c (Value.bool false)), none, [2]⟩] none [0])
 (.seq (.reg 1 [⟨some 3, .move (.t 0), none, []⟩,
  ⟨some 4, .bin .geq 5 (.t 3) (.c (Value.int IntKind.u8 48)) 5, none, [3]⟩,
  ⟨some 5, .move (.t 4), none, [4]⟩,
  ⟨some 6, .move (.t 0), some (2, true), [0]⟩,
  ⟨some 7, .bin .leq 5 (.t 6) (.c (Value.int IntKind.u8 57)) 5, some (2, true), [6]⟩,
  ⟨some 8, .pick (.t 5) (.t 7) (.c (Value.bool false)), none, [5, 7]⟩,
  ⟨some 2, .assign (.t 8), none, [8]⟩] none [2])
 .ret))
def a_thicketref10_isDigit : AFunc := ⟨9, [.tmp 2], b_thicketref10_isDigit⟩

def j0_thicketref10_reading_next : IR :=
 (.seq (.reg 3 [⟨some 2, .assign (.c (Value.int IntKind.u8 0)), none, []⟩] none [2, 100000])
 .ret)
def k0_thicketref10_reading_next : IR := .tail [100000] j0_thicketref10_reading_next
def b_thicketref10_reading_next : IR :=
 (.seq (.reg 0 [⟨some 2, .assign (.c (Value.int IntKind.u8 0)), none, [2]⟩] none [0, 100000])
 (.seq (.seq (.reg 1 [⟨some 3, .move (.t 0), none, []⟩,
  ⟨some 4, .nilck (.t 3), none, []⟩,
  ⟨some 5, .faddr 54 (.t 4) 1 1, none, []⟩,
  ⟨some 6, .load 3 none (.t 5), none, [3, 4, 5]⟩,
  ⟨some 7, .move (.t 0), none, []⟩,
  ⟨some 8, .nilck (.t 7), none, []⟩,
  ⟨some 9, .faddr 54 (.t 8) 0 0, none, []⟩,
  ⟨some 10, .load 22 none (.t 9), none, []⟩,
  ⟨some 11, .len 22 false (.t 10), none, [7, 8, 9, 10]⟩,
  ⟨some 12, .bin .lss 3 (.t 6) (.t 11) 3, none, [6, 11]⟩] (some (.cons ⟨0, []⟩ (.cons ⟨1, []⟩ (.cons ⟨2, []⟩ (.cons ⟨4, []⟩ (.cons ⟨5, []⟩ (.cons ⟨6, []⟩ (.cons ⟨3, []⟩ (.cons ⟨7, []⟩ (.cons ⟨8, []⟩ (.cons ⟨9, []⟩ .nil))))))))))) [0, 12, 100000])
 (.cond [0, 100000] (.t 12) (.seq (.reg 2 [⟨some 13, .move (.t 0), none, []⟩,
  ⟨some 14, .nilck (.t 13), none, []⟩,
  ⟨some 15, .faddr 54 (.t 14) 0 0, none, []⟩,
  ⟨some 16, .load 22 none (.t 15), none, []⟩,
  ⟨some 17, .move (.t 0), none, []⟩,
  ⟨some 18, .nilck (.t 17), none, []⟩,
  ⟨some 19, .faddr 54 (.t 18) 1 1, none, []⟩,
  ⟨some 20, .load 3 none (.t 19), none, [17, 18, 19]⟩,
  ⟨some 21, .iaddr 22 (.sl 1) (.t 16) (.t 20), none, []⟩,
  ⟨some 22, .load 5 none (.t 21), none, [0, 13, 14, 15, 16, 20, 21]⟩,
  ⟨some 2, .assign (.t 22), none, [22]⟩] (some (.cons ⟨0, []⟩ (.cons ⟨1, []⟩ (.cons ⟨2, []⟩ (.cons ⟨4, []⟩ (.cons ⟨5, []⟩ (.cons ⟨6, []⟩ (.cons ⟨3, []⟩ (.cons ⟨7, []⟩ (.cons ⟨8, []⟩ (.cons ⟨9, []⟩ (.cons ⟨10, []⟩ .nil)))))))))))) [2, 100000])
 .ret) .skip))
 k0_thicketref10_reading_next))
def a_thicketref10_reading_next : AFunc := ⟨23, [.tmp 2], b_thicketref10_reading_next⟩

def j0_thicketref10_reading_digits : IR :=
 (.block 1 (.reg 3 [⟨some 15, .move (.t 0), none, []⟩,
  ⟨some 16, .nilck (.t 15), none, []⟩,
  ⟨some 17, .faddr 54 (.t 16) 1 1, none, []⟩,
  ⟨some 18, .load 3 none (.t 17), none, [16, 17]⟩,
  ⟨some 19, .bin .add 3 (.t 18) (.c (Value.int IntKind.i64 1)) 3, none, [18]⟩,
  ⟨some 20, .nilck (.t 15), none, []⟩,
  ⟨some 21, .faddr 54 (.t 20) 1 1, none, []⟩,
  ⟨none, .store 3 none (.t 21) (.t 19), none, [15, 19, 20, 21]⟩] none [0, 100000]))
def k0_thicketref10_reading_digits : IR := .tail [0, 100000] j0_thicketref10_reading_digits
def w0_thicketref10_reading_digits : IR :=
 (.seq (.seq (.reg 2 [⟨some 12, .move (.t 0), none, []⟩,
  ⟨some 13, .call n_thicketref10_reading_next [(.t 12)] [52], none, [12]⟩,
  ⟨some 14, .call n_thicketref10_isDigit [(.t 13)] [5], none, [13]⟩] none [0, 14, 100000])
 (.cond [0, 100000] (.t 14) .skip (.exit 0)))
 k0_thicketref10_reading_digits)
def l0_thicketref10_reading_digits : IR := .loop [0, 100000] w0_thicketref10_reading_digits
def j1_thicketref10_reading_digits : IR :=
 (.block 0 l0_thicketref10_reading_digits)
def k1_thicketref10_reading_digits : IR := .tail [0, 100000] j1_thicketref10_reading_digits
def b_thicketref10_reading_digits : IR :=
 (.seq (.seq (.reg 0 [⟨some 2, .move (.t 0), none, []⟩,
  ⟨some 3, .call n_thicketref10_reading_next [(.t 2)] [52], none, [2]⟩,
  ⟨some 4, .call n_thicketref10_isDigit [(.t 3)] [5], none, [3]⟩,
  ⟨some 5, .un .not 4 (.t 4), none, [4]⟩] none [0, 5, 100000])
 (.cond [0, 100000] (.t 5) (.reg 1 [⟨some 6, .move (.t 0), none, []⟩,
  ⟨some 7, .move (.t 0), none, []⟩,
  ⟨some 8, .nilck (.t 7), none, []⟩,
  ⟨some 9, .faddr 54 (.t 8) 1 1, none, []⟩,
  ⟨some 10, .load 3 none (.t 9), none, [7, 8, 9]⟩,
  ⟨some 11, .call n_thicketref10_reading_fail [(.t 6), (.c (Value.int IntKind.i64 100)), (.t 10)] [52, 28, 3], none, [6, 10, 11]⟩] none [0, 100000]) .skip))
 k1_thicketref10_reading_digits)
def a_thicketref10_reading_digits : AFunc := ⟨22, [], b_thicketref10_reading_digits⟩

def j0_thicketref10_reading_number : IR :=
 (.reg 14 [⟨some 80, .move (.t 0), none, []⟩,
  ⟨some 81, .call n_thicketref10_reading_digits [(.t 80)] [52], none, [80, 81]⟩] none [0, 3, 100000])
def k0_thicketref10_reading_number : IR := .tail [0, 3, 100000] j0_thicketref10_reading_number
def j1_thicketref10_reading_number : IR :=
 (.seq (.reg 15 [⟨some 82, .move (.t 0), none, []⟩,
  ⟨some 83, .nilck (.t 82), none, []⟩,
  ⟨some 84, .faddr 54 (.t 83) 0 0, none, []⟩,
  ⟨some 85, .load 22 none (.t 84), none, []⟩,
  ⟨some 86, .move (.t 3), none, [3]⟩,
  ⟨some 87, .move (.t 0), none, []⟩,
  ⟨some 88, .nilck (.t 87), none, []⟩,
  ⟨some 89, .faddr 54 (.t 88) 1 1, none, []⟩,
  ⟨some 90, .load 3 none (.t 89), none, [87, 88, 89]⟩,
  ⟨some 91, .slice 22 (.sl 1) (.t 85) (some (.t 86)) (some (.t 90)) none, none, []⟩,
  ⟨some 92, .conv 22 9 .bytes (.t 91), none, [0, 82, 83, 84, 85, 86, 90, 91]⟩,
  ⟨some 2, .assign (.t 92), none, [92]⟩] (some (.cons ⟨0, []⟩ (.cons ⟨1, []⟩ (.cons ⟨2, []⟩ (.cons ⟨4, []⟩ (.cons ⟨5, []⟩ (.cons ⟨6, []⟩ (.cons ⟨7, []⟩ (.cons ⟨3, []⟩ (.cons ⟨8, []⟩ (.cons ⟨9, []⟩ (.cons ⟨10, []⟩ (.cons ⟨11, []⟩ .nil))))))))))))) [2, 100000])
 .ret)
def k1_thicketref10_reading_number : IR := .tail [0, 3, 100000] j1_thicketref10_reading_number
def j2_thicketref10_reading_number : IR :=
 (.seq (.seq (.reg 10 [⟨some 46, .move (.t 0), none, []⟩,
  ⟨some 47, .call n_thicketref10_reading_ok [(.t 46)] [52], none, [46]⟩,
  ⟨some 48, .move (.t 47), none, [47]⟩,
  ⟨some 49, .move (.t 0), some (2, true), []⟩,
  ⟨some 50, .call n_thicketref10_reading_next [(.t 49)] [52], some (2, true), [49]⟩,
  ⟨some 51, .bin .eql 5 (.t 50) (.c (Value.int IntKind.u8 101)) 5, some (2, true), [50]⟩,
  ⟨some 52, .move (.t 51), some (2, true), [51]⟩,
  ⟨some 53, .move (.t 0), some (6, false), []⟩,
  ⟨some 54, .call n_thicketref10_reading_next [(.t 53)] [52], some (6, false), [53]⟩,
  ⟨some 55, .bin .eql 5 (.t 54) (.c (Value.int IntKind.u8 69)) 5, some (6, false), [54]⟩,
  ⟨some 56, .pick (.t 52) (.c (Value.bool true)) (.t 55), some (2, true), [52, 55]⟩,
  ⟨some 57, .pick (.t 48) (.t 56) (.c (Value.bool false)), none, [48, 56]⟩] none [0, 3, 57, 100000])
 (.cond [0, 3, 100000] (.t 57) (.seq (.reg 11 [⟨some 58, .move (.t 0), none, []⟩,
  ⟨some 59, .nilck (.t 58), none, []⟩,
  ⟨some 60, .faddr 54 (.t 59) 1 1, none, []⟩,
  ⟨some 61, .load 3 none (.t 60), none, [59, 60]⟩,
  ⟨some 62, .bin .add 3 (.t 61) (.c (Value.int IntKind.i64 1)) 3, none, [61]⟩,
  ⟨some 63, .nilck (.t 58), none, []⟩,
  ⟨some 64, .faddr 54 (.t 63) 1 1, none, []⟩,
  ⟨none, .store 3 none (.t 64) (.t 62), none, [58, 62, 63, 64]⟩] none [0, 3, 100000])
 (.seq (.seq (.reg 12 [⟨some 65, .move (.t 0), none, []⟩,
  ⟨some 66, .call n_thicketref10_reading_next [(.t 65)] [52], none, [65]⟩,
  ⟨some 67, .bin .eql 5 (.t 66) (.c (Value.int IntKind.u8 43)) 5, none, [66]⟩,
  ⟨some 68, .move (.t 67), none, [67]⟩,
  ⟨some 69, .move (.t 0), some (3, false), []⟩,
  ⟨some 70, .call n_thicketref10_reading_next [(.t 69)] [52], some (3, false), [69]⟩,
  ⟨some 71, .bin .eql 5 (.t 70) (.c (Value.int IntKind.u8 45)) 5, some (3, false), [70]⟩,
  ⟨some 72, .pick (.t 68) (.c (Value.bool true)) (.t 71), none, [68, 71]⟩] none [0, 3, 72, 100000])
 (.cond [0, 3, 100000] (.t 72) (.reg 13 [⟨some 73, .move (.t 0), none, []⟩,
  ⟨some 74, .nilck (.t 73), none, []⟩,
  ⟨some 75, .faddr 54 (.t 74) 1 1, none, []⟩,
  ⟨some 76, .load 3 none (.t 75), none, [74, 75]⟩,
  ⟨some 77, .bin .add 3 (.t 76) (.c (Value.int IntKind.i64 1)) 3, none, [76]⟩,
  ⟨some 78, .nilck (.t 73), none, []⟩,
  ⟨some 79, .faddr 54 (.t 78) 1 1, none, []⟩,
  ⟨none, .store 3 none (.t 79) (.t 77), none, [73, 77, 78, 79]⟩] none [0, 3, 100000]) .skip))
 k0_thicketref10_reading_number)) .skip))
 k1_thicketref10_reading_number)
def k2_thicketref10_reading_number : IR := .tail [0, 3, 100000] j2_thicketref10_reading_number
def j3_thicketref10_reading_number : IR :=
 (.seq (.seq (.reg 7 [⟨some 30, .move (.t 0), none, []⟩,
  ⟨some 31, .call n_thicketref10_reading_ok [(.t 30)] [52], none, [30]⟩,
  ⟨some 32, .move (.t 31), none, [31]⟩,
  ⟨some 33, .move (.t 0), some (2, true), []⟩,
  ⟨some 34, .call n_thicketref10_reading_next [(.t 33)] [52], some (2, true), [33]⟩,
  ⟨some 35, .bin .eql 5 (.t 34) (.c (Value.int IntKind.u8 46)) 5, some (2, true), [34]⟩,
  ⟨some 36, .pick (.t 32) (.t 35) (.c (Value.bool false)), none, [32, 35]⟩] none [0, 3, 36, 100000])
 (.cond [0, 3, 100000] (.t 36) (.seq (.reg 8 [⟨some 37, .move (.t 0), none, []⟩,
  ⟨some 38, .nilck (.t 37), none, []⟩,
  ⟨some 39, .faddr 54 (.t 38) 1 1, none, []⟩,
  ⟨some 40, .load 3 none (.t 39), none, [38, 39]⟩,
  ⟨some 41, .bin .add 3 (.t 40) (.c (Value.int IntKind.i64 1)) 3, none, [40]⟩,
  ⟨some 42, .nilck (.t 37), none, []⟩,
  ⟨some 43, .faddr 54 (.t 42) 1 1, none, []⟩,
  ⟨none, .store 3 none (.t 43) (.t 41), none, [37, 41, 42, 43]⟩] none [0, 3, 100000])
 (.reg 9 [⟨some 44, .move (.t 0), none, []⟩,
  ⟨some 45, .call n_thicketref10_reading_digits [(.t 44)] [52], none, [44, 45]⟩] none [0, 3, 100000])) .skip))
 k2_thicketref10_reading_number)
def k3_thicketref10_reading_number : IR := .tail [0, 3, 100000] j3_thicketref10_reading_number
def j4_thicketref10_reading_number : IR :=
 (.seq (.seq (.reg 4 [⟨some 18, .move (.t 0), none, []⟩,
  ⟨some 19, .call n_thicketref10_reading_next [(.t 18)] [52], none, [18]⟩,
  ⟨some 20, .bin .eql 5 (.t 19) (.c (Value.int IntKind.u8 48)) 5, none, [19]⟩] none [0, 3, 20, 100000])
 (.cond [0, 3, 100000] (.t 20) (.reg 5 [⟨some 21, .move (.t 0), none, []⟩,
  ⟨some 22, .nilck (.t 21), none, []⟩,
  ⟨some 23, .faddr 54 (.t 22) 1 1, none, []⟩,
  ⟨some 24, .load 3 none (.t 23), none, [22, 23]⟩,
  ⟨some 25, .bin .add 3 (.t 24) (.c (Value.int IntKind.i64 1)) 3, none, [24]⟩,
  ⟨some 26, .nilck (.t 21), none, []⟩,
  ⟨some 27, .faddr 54 (.t 26) 1 1, none, []⟩,
  ⟨none, .store 3 none (.t 27) (.t 25), none, [21, 25, 26, 27]⟩] none [0, 3, 100000]) (.reg 6 [⟨some 28, .move (.t 0), none, []⟩,
  ⟨some 29, .call n_thicketref10_reading_digits [(.t 28)] [52], none, [28, 29]⟩] none [0, 3, 100000])))
 k3_thicketref10_reading_number)
def k4_thicketref10_reading_number : IR := .tail [0, 3, 100000] j4_thicketref10_reading_number
def b_thicketref10_reading_number : IR :=
 (.seq (.reg 0 [⟨some 2, .assign (.c (Value.string { data := #[] })), none, [2]⟩] none [0, 100000])
 (.seq (.reg 1 [⟨some 4, .move (.t 0), none, []⟩,
  ⟨some 5, .nilck (.t 4), none, []⟩,
  ⟨some 6, .faddr 54 (.t 5) 1 1, none, []⟩,
  ⟨some 7, .load 3 none (.t 6), none, [4, 5, 6]⟩,
  ⟨some 3, .assign (.t 7), none, [7]⟩] none [0, 3, 100000])
 (.seq (.seq (.reg 2 [⟨some 8, .move (.t 0), none, []⟩,
  ⟨some 9, .call n_thicketref10_reading_next [(.t 8)] [52], none, [8]⟩,
  ⟨some 10, .bin .eql 5 (.t 9) (.c (Value.int IntKind.u8 45)) 5, none, [9]⟩] none [0, 3, 10, 100000])
 (.cond [0, 3, 100000] (.t 10) (.reg 3 [⟨some 11, .move (.t 0), none, []⟩,
  ⟨some 12, .nilck (.t 11), none, []⟩,
  ⟨some 13, .faddr 54 (.t 12) 1 1, none, []⟩,
  ⟨some 14, .load 3 none (.t 13), none, [12, 13]⟩,
  ⟨some 15, .bin .add 3 (.t 14) (.c (Value.int IntKind.i64 1)) 3, none, [14]⟩,
  ⟨some 16, .nilck (.t 11), none, []⟩,
  ⟨some 17, .faddr 54 (.t 16) 1 1, none, []⟩,
  ⟨none, .store 3 none (.t 17) (.t 15), none, [11, 15, 16, 17]⟩] none [0, 3, 100000]) .skip))
 k4_thicketref10_reading_number)))
def a_thicketref10_reading_number : AFunc := ⟨93, [.tmp 2], b_thicketref10_reading_number⟩

def j0_thicketref10_hex : IR :=
 (.seq (.reg 7 [⟨some 2, .assign (.c (Value.int IntKind.i64 (-1))), none, []⟩] none [2])
 .ret)
def k0_thicketref10_hex : IR := .tail [] j0_thicketref10_hex
def b_thicketref10_hex : IR :=
 (.seq (.reg 0 [⟨some 2, .assign (.c (Value.int IntKind.i64 0)), none, [2]⟩] none [0])
 (.seq (.block 0 (.seq (.reg 1 [⟨some 4, .move (.t 0), none, []⟩,
  ⟨some 5, .call n_thicketref10_isDigit [(.t 4)] [5], none, [4]⟩,
  ⟨some 3, .assign (.t 5), none, [5]⟩] none [0, 3])
 (.cond [0] (.t 3) (.seq (.reg 2 [⟨some 6, .move (.t 0), none, [0]⟩,
  ⟨some 7, .bin .sub 5 (.t 6) (.c (Value.int IntKind.u8 48)) 5, none, [6]⟩,
  ⟨some 8, .conv 5 3 (.int .i64) (.t 7), none, [7]⟩,
  ⟨some 2, .assign (.t 8), none, [8]⟩] none [2])
 .ret) (.seq (.reg 3 [⟨some 10, .move (.t 0), none, []⟩,
  ⟨some 11, .bin .geq 5 (.t 10) (.c (Value.int IntKind.u8 97)) 5, none, [10]⟩,
  ⟨some 12, .move (.t 11), none, [11]⟩,
  ⟨some 13, .move (.t 0), some (2, true), []⟩,
  ⟨some 14, .bin .leq 5 (.t 13) (.c (Value.int IntKind.u8 102)) 5, some (2, true), [13]⟩,
  ⟨some 15, .pick (.t 12) (.t 14) (.c (Value.bool false)), none, [12, 14]⟩,
  ⟨some 9, .assign (.t 15), none, [15]⟩] none [0, 9])
 (.cond [0] (.t 9) (.seq (.reg 4 [⟨some 16, .move (.t 0), none, [0]⟩,
  ⟨some 17, .bin .sub 5 (.t 16) (.c (Value.int IntKind.u8 97)) 5, none, [16]⟩,
  ⟨some 18, .conv 5 3 (.int .i64) (.t 17), none, [17]⟩,
  ⟨some 19, .bin .add 3 (.t 18) (.c (Value.int IntKind.i64 10)) 3, none, [18]⟩,
  ⟨some 2, .assign (.t 19), none, [19]⟩] none [2])
 .ret) (.seq (.reg 5 [⟨some 21, .move (.t 0), none, []⟩,
  ⟨some 22, .bin .geq 5 (.t 21) (.c (Value.int IntKind.u8 65)) 5, none, [21]⟩,
  ⟨some 23, .move (.t 22), none, [22]⟩,
  ⟨some 24, .move (.t 0), some (2, true), []⟩,
  ⟨some 25, .bin .leq 5 (.t 24) (.c (Value.int IntKind.u8 70)) 5, some (2, true), [24]⟩,
  ⟨some 26, .pick (.t 23) (.t 25) (.c (Value.bool false)), none, [23, 25]⟩,
  ⟨some 20, .assign (.t 26), none, [26]⟩] none [0, 20])
 (.cond [0] (.t 20) (.seq (.reg 6 [⟨some 27, .move (.t 0), none, [0]⟩,
  ⟨some 28, .bin .sub 5 (.t 27) (.c (Value.int IntKind.u8 65)) 5, none, [27]⟩,
  ⟨some 29, .conv 5 3 (.int .i64) (.t 28), none, [28]⟩,
  ⟨some 30, .bin .add 3 (.t 29) (.c (Value.int IntKind.i64 10)) 3, none, [29]⟩,
  ⟨some 2, .assign (.t 30), none, [30]⟩] none [2])
 .ret) .skip)))))))
 k0_thicketref10_hex))
def a_thicketref10_hex : AFunc := ⟨31, [.tmp 2], b_thicketref10_hex⟩

def j0_thicketref10_reading_four : IR :=
 (.seq (.reg 8 [⟨some 39, .move (.t 3), none, []⟩,
  ⟨some 40, .bin .mul 3 (.c (Value.int IntKind.i64 16)) (.t 39) 3, none, [39]⟩,
  ⟨some 41, .move (.t 0), none, []⟩,
  ⟨some 42, .nilck (.t 41), none, []⟩,
  ⟨some 43, .faddr 54 (.t 42) 0 0, none, []⟩,
  ⟨some 44, .load 22 none (.t 43), none, []⟩,
  ⟨some 45, .move (.t 0), none, []⟩,
  ⟨some 46, .nilck (.t 45), none, []⟩,
  ⟨some 47, .faddr 54 (.t 46) 1 1, none, []⟩,
  ⟨some 48, .load 3 none (.t 47), none, [45, 46, 47]⟩,
  ⟨some 49, .iaddr 22 (.sl 1) (.t 44) (.t 48), none, []⟩,
  ⟨some 50, .load 5 none (.t 49), none, [41, 42, 43, 44, 48, 49]⟩,
  ⟨some 51, .call n_thicketref10_hex [(.t 50)] [5], none, [50]⟩,
  ⟨some 52, .bin .add 3 (.t 40) (.t 51) 3, none, [40, 51]⟩,
  ⟨some 3, .assign (.t 52), none, [52]⟩] (some (.cons ⟨0, []⟩ (.cons ⟨1, []⟩ (.cons ⟨2, []⟩ (.cons ⟨3, []⟩ (.cons ⟨4, []⟩ (.cons ⟨6, []⟩ (.cons ⟨7, []⟩ (.cons ⟨8, []⟩ (.cons ⟨5, []⟩ (.cons ⟨9, []⟩ (.cons ⟨10, []⟩ (.cons ⟨11, []⟩ (.cons ⟨12, []⟩ (.cons ⟨13, []⟩ (.cons ⟨14, []⟩ .nil)))))))))))))))) [0, 3, 4, 100000])
 (.reg 9 [⟨some 53, .move (.t 0), none, []⟩,
  ⟨some 54, .nilck (.t 53), none, []⟩,
  ⟨some 55, .faddr 54 (.t 54) 1 1, none, []⟩,
  ⟨some 56, .load 3 none (.t 55), none, [54, 55]⟩,
  ⟨some 57, .bin .add 3 (.t 56) (.c (Value.int IntKind.i64 1)) 3, none, [56]⟩,
  ⟨some 58, .nilck (.t 53), none, []⟩,
  ⟨some 59, .faddr 54 (.t 58) 1 1, none, []⟩,
  ⟨none, .store 3 none (.t 59) (.t 57), none, [53, 57, 58, 59]⟩] none [0, 3, 4, 100000]))
def k0_thicketref10_reading_four : IR := .tail [0, 3, 4, 100000] j0_thicketref10_reading_four
def j1_thicketref10_reading_four : IR :=
 (.reg 4 [⟨some 7, .move (.t 4), none, []⟩,
  ⟨some 8, .bin .add 3 (.t 7) (.c (Value.int IntKind.i64 1)) 3, none, [7]⟩,
  ⟨some 4, .assign (.t 8), none, [8]⟩] none [0, 3, 4, 100000])
def k1_thicketref10_reading_four : IR := .tail [0, 3, 4, 100000] j1_thicketref10_reading_four
def j2_thicketref10_reading_four : IR :=
 (.seq (.block 1 (.seq (.seq (.reg 5 [⟨some 9, .move (.t 0), none, []⟩,
  ⟨some 10, .nilck (.t 9), none, []⟩,
  ⟨some 11, .faddr 54 (.t 10) 1 1, none, []⟩,
  ⟨some 12, .load 3 none (.t 11), none, [9, 10, 11]⟩,
  ⟨some 13, .move (.t 0), none, []⟩,
  ⟨some 14, .nilck (.t 13), none, []⟩,
  ⟨some 15, .faddr 54 (.t 14) 0 0, none, []⟩,
  ⟨some 16, .load 22 none (.t 15), none, []⟩,
  ⟨some 17, .len 22 false (.t 16), none, [13, 14, 15, 16]⟩,
  ⟨some 18, .bin .geq 3 (.t 12) (.t 17) 3, none, [12, 17]⟩,
  ⟨some 19, .move (.t 18), none, [18]⟩,
  ⟨some 20, .move (.t 0), some (10, false), []⟩,
  ⟨some 21, .nilck (.t 20), some (10, false), []⟩,
  ⟨some 22, .faddr 54 (.t 21) 0 0, some (10, false), []⟩,
  ⟨some 23, .load 22 none (.t 22), some (10, false), []⟩,
  ⟨some 24, .move (.t 0), some (10, false), []⟩,
  ⟨some 25, .nilck (.t 24), some (10, false), []⟩,
  ⟨some 26, .faddr 54 (.t 25) 1 1, some (10, false), []⟩,
  ⟨some 27, .load 3 none (.t 26), some (10, false), [24, 25, 26]⟩,
  ⟨some 28, .iaddr 22 (.sl 1) (.t 23) (.t 27), some (10, false), []⟩,
  ⟨some 29, .load 5 none (.t 28), some (10, false), [20, 21, 22, 23, 27, 28]⟩,
  ⟨some 30, .call n_thicketref10_hex [(.t 29)] [5], some (10, false), [29]⟩,
  ⟨some 31, .bin .lss 3 (.t 30) (.c (Value.int IntKind.i64 0)) 3, some (10, false), [30]⟩,
  ⟨some 32, .pick (.t 19) (.c (Value.bool true)) (.t 31), none, [19, 31]⟩] (some (.cons ⟨0, []⟩ (.cons ⟨1, []⟩ (.cons ⟨2, []⟩ (.cons ⟨4, []⟩ (.cons ⟨5, []⟩ (.cons ⟨6, []⟩ (.cons ⟨3, []⟩ (.cons ⟨7, []⟩ (.cons ⟨8, []⟩ (.cons ⟨9, []⟩ (.cons ⟨10, []⟩ (.cons ⟨11, []⟩ (.cons ⟨12, []⟩ (.cons ⟨13, []⟩ (.cons ⟨15, []⟩ (.cons ⟨16, []⟩ (.cons ⟨17, []⟩ (.cons ⟨14, []⟩ (.cons ⟨18, []⟩ (.cons ⟨19, []⟩ (.cons ⟨20, []⟩ (.cons ⟨21, []⟩ (.cons ⟨22, []⟩ (.cons ⟨23, []⟩ .nil))))))))))))))))))))))))) [0, 3, 4, 32, 100000])
 (.cond [0, 3, 4, 100000] (.t 32) (.seq (.reg 6 [⟨some 33, .move (.t 0), none, []⟩,
  ⟨some 34, .move (.t 0), none, []⟩,
  ⟨some 35, .nilck (.t 34), none, []⟩,
  ⟨some 36, .faddr 54 (.t 35) 1 1, none, []⟩,
  ⟨some 37, .load 3 none (.t 36), none, [34, 35, 36]⟩,
  ⟨some 38, .call n_thicketref10_reading_fail [(.t 33), (.c (Value.int IntKind.i64 100)), (.t 37)] [52, 28, 3], none, [0, 33, 37, 38]⟩] none [100000])
 (.seq (.reg 7 [⟨some 2, .assign (.c (Value.int IntKind.i64 0)), none, []⟩] none [2, 100000])
 .ret)) .skip))
 k0_thicketref10_reading_four))
 k1_thicketref10_reading_four)
def k2_thicketref10_reading_four : IR := .tail [0, 3, 4, 100000] j2_thicketref10_reading_four
def w0_thicketref10_reading_four : IR :=
 (.seq (.seq (.reg 3 [⟨some 5, .move (.t 4), none, []⟩,
  ⟨some 6, .bin .lss 3 (.t 5) (.c (Value.int IntKind.i64 4)) 3, none, [5]⟩] none [0, 3, 4, 6, 100000])
 (.cond [0, 3, 4, 100000] (.t 6) .skip (.exit 0)))
 k2_thicketref10_reading_four)
def l0_thicketref10_reading_four : IR := .loop [0, 3, 4, 100000] w0_thicketref10_reading_four
def j3_thicketref10_reading_four : IR :=
 (.seq (.reg 10 [⟨some 60, .move (.t 3), none, [3]⟩,
  ⟨some 2, .assign (.t 60), none, [60]⟩] none [2, 100000])
 .ret)
def k3_thicketref10_reading_four : IR := .tail [3, 100000] j3_thicketref10_reading_four
def b_thicketref10_reading_four : IR :=
 (.seq (.reg 0 [⟨some 2, .assign (.c (Value.int IntKind.i64 0)), none, [2]⟩] none [0, 100000])
 (.seq (.reg 1 [⟨some 3, .assign (.c (Value.int IntKind.i64 0)), none, []⟩] none [0, 3, 100000])
 (.seq (.seq (.reg 2 [⟨some 4, .assign (.c (Value.int IntKind.i64 0)), none, []⟩] none [0, 3, 4, 100000])
 (.block 0 l0_thicketref10_reading_four))
 k3_thicketref10_reading_four)))
def a_thicketref10_reading_four : AFunc := ⟨61, [.tmp 2], b_thicketref10_reading_four⟩

def j0_thicketref10_utf8 : IR :=
 (.seq (.reg 7 [⟨some 38, .move (.t 0), none, []⟩,
  ⟨some 39, .bin .shr 3 (.t 38) (.c (Value.int IntKind.u64 18)) 74, none, [38]⟩,
  ⟨some 40, .bin .or 3 (.c (Value.int IntKind.i64 240)) (.t 39) 3, none, [39]⟩,
  ⟨some 41, .conv 3 5 (.int .u8) (.t 40), none, [40]⟩,
  ⟨some 42, .move (.t 0), none, []⟩,
  ⟨some 43, .bin .shr 3 (.t 42) (.c (Value.int IntKind.u64 12)) 74, none, [42]⟩,
  ⟨some 44, .bin .and 3 (.t 43) (.c (Value.int IntKind.i64 63)) 3, none, [43]⟩,
  ⟨some 45, .bin .or 3 (.c (Value.int IntKind.i64 128)) (.t 44) 3, none, [44]⟩,
  ⟨some 46, .conv 3 5 (.int .u8) (.t 45), none, [45]⟩,
  ⟨some 47, .move (.t 0), none, []⟩,
  ⟨some 48, .bin .shr 3 (.t 47) (.c (Value.int IntKind.u64 6)) 74, none, [47]⟩,
  ⟨some 49, .bin .and 3 (.t 48) (.c (Value.int IntKind.i64 63)) 3, none, [48]⟩,
  ⟨some 50, .bin .or 3 (.c (Value.int IntKind.i64 128)) (.t 49) 3, none, [49]⟩,
  ⟨some 51, .conv 3 5 (.int .u8) (.t 50), none, [50]⟩,
  ⟨some 52, .move (.t 0), none, [0]⟩,
  ⟨some 53, .bin .and 3 (.t 52) (.c (Value.int IntKind.i64 63)) 3, none, [52]⟩,
  ⟨some 54, .bin .or 3 (.c (Value.int IntKind.i64 128)) (.t 53) 3, none, [53]⟩,
  ⟨some 55, .conv 3 5 (.int .u8) (.t 54), none, [54]⟩,
  ⟨some 56, .lit 22 1 [(.t 41), (.t 46), (.t 51), (.t 55)], none, [41, 46, 51, 55]⟩,
  ⟨some 2, .assign (.t 56), none, []⟩] none [2, 8, 20, 37, 56])
 .ret)
def k0_thicketref10_utf8 : IR := .tail [0] j0_thicketref10_utf8
def b_thicketref10_utf8 : IR :=
 (.seq (.reg 0 [⟨some 2, .assign (.nilS 1), none, [2]⟩] none [0])
 (.seq (.block 0 (.seq (.reg 1 [⟨some 4, .move (.t 0), none, []⟩,
  ⟨some 5, .bin .lss 3 (.t 4) (.c (Value.int IntKind.i64 128)) 3, none, [4]⟩,
  ⟨some 3, .assign (.t 5), none, [5]⟩] none [0, 3])
 (.cond [0] (.t 3) (.seq (.reg 2 [⟨some 6, .move (.t 0), none, [0]⟩,
  ⟨some 7, .conv 3 5 (.int .u8) (.t 6), none, [6]⟩,
  ⟨some 8, .lit 22 1 [(.t 7)], none, [7]⟩,
  ⟨some 2, .assign (.t 8), none, []⟩] none [2, 8, 20, 37, 56])
 .ret) (.seq (.reg 3 [⟨some 10, .move (.t 0), none, []⟩,
  ⟨some 11, .bin .lss 3 (.t 10) (.c (Value.int IntKind.i64 2048)) 3, none, [10]⟩,
  ⟨some 9, .assign (.t 11), none, [11]⟩] none [0, 9])
 (.cond [0] (.t 9) (.seq (.reg 4 [⟨some 12, .move (.t 0), none, []⟩,
  ⟨some 13, .bin .shr 3 (.t 12) (.c (Value.int IntKind.u64 6)) 74, none, [12]⟩,
  ⟨some 14, .bin .or 3 (.c (Value.int IntKind.i64 192)) (.t 13) 3, none, [13]⟩,
  ⟨some 15, .conv 3 5 (.int .u8) (.t 14), none, [14]⟩,
  ⟨some 16, .move (.t 0), none, [0]⟩,
  ⟨some 17, .bin .and 3 (.t 16) (.c (Value.int IntKind.i64 63)) 3, none, [16]⟩,
  ⟨some 18, .bin .or 3 (.c (Value.int IntKind.i64 128)) (.t 17) 3, none, [17]⟩,
  ⟨some 19, .conv 3 5 (.int .u8) (.t 18), none, [18]⟩,
  ⟨some 20, .lit 22 1 [(.t 15), (.t 19)], none, [15, 19]⟩,
  ⟨some 2, .assign (.t 20), none, []⟩] none [2, 8, 20, 37, 56])
 .ret) (.seq (.reg 5 [⟨some 22, .move (.t 0), none, []⟩,
  ⟨some 23, .bin .lss 3 (.t 22) (.c (Value.int IntKind.i64 65536)) 3, none, [22]⟩,
  ⟨some 21, .assign (.t 23), none, [23]⟩] none [0, 21])
 (.cond [0] (.t 21) (.seq (.reg 6 [⟨some 24, .move (.t 0), none, []⟩,
  ⟨some 25, .bin .shr 3 (.t 24) (.c (Value.int IntKind.u64 12)) 74, none, [24]⟩,
  ⟨some 26, .bin .or 3 (.c (Value.int IntKind.i64 224)) (.t 25) 3, none, [25]⟩,
  ⟨some 27, .conv 3 5 (.int .u8) (.t 26), none, [26]⟩,
  ⟨some 28, .move (.t 0), none, []⟩,
  ⟨some 29, .bin .shr 3 (.t 28) (.c (Value.int IntKind.u64 6)) 74, none, [28]⟩,
  ⟨some 30, .bin .and 3 (.t 29) (.c (Value.int IntKind.i64 63)) 3, none, [29]⟩,
  ⟨some 31, .bin .or 3 (.c (Value.int IntKind.i64 128)) (.t 30) 3, none, [30]⟩,
  ⟨some 32, .conv 3 5 (.int .u8) (.t 31), none, [31]⟩,
  ⟨some 33, .move (.t 0), none, [0]⟩,
  ⟨some 34, .bin .and 3 (.t 33) (.c (Value.int IntKind.i64 63)) 3, none, [33]⟩,
  ⟨some 35, .bin .or 3 (.c (Value.int IntKind.i64 128)) (.t 34) 3, none, [34]⟩,
  ⟨some 36, .conv 3 5 (.int .u8) (.t 35), none, [35]⟩,
  ⟨some 37, .lit 22 1 [(.t 27), (.t 32), (.t 36)], none, [27, 32, 36]⟩,
  ⟨some 2, .assign (.t 37), none, []⟩] none [2, 8, 20, 37, 56])
 .ret) .skip)))))))
 k0_thicketref10_utf8))
def a_thicketref10_utf8 : AFunc := ⟨57, [.tmp 2], b_thicketref10_utf8⟩

def j0_thicketref10_reading_pair : IR :=
 (.seq (.reg 8 [⟨some 33, .move (.t 0), none, []⟩,
  ⟨some 34, .nilck (.t 33), none, []⟩,
  ⟨some 35, .faddr 54 (.t 34) 0 0, none, []⟩,
  ⟨some 36, .load 22 none (.t 35), none, []⟩,
  ⟨some 37, .move (.t 0), none, []⟩,
  ⟨some 38, .nilck (.t 37), none, []⟩,
  ⟨some 39, .faddr 54 (.t 38) 1 1, none, []⟩,
  ⟨some 40, .load 3 none (.t 39), none, [37, 38, 39]⟩,
  ⟨some 41, .move (.t 8), none, []⟩,
  ⟨some 42, .bin .add 3 (.t 40) (.t 41) 3, none, [40, 41]⟩,
  ⟨some 43, .iaddr 22 (.sl 1) (.t 36) (.t 42), none, []⟩,
  ⟨some 44, .load 5 none (.t 43), none, [33, 34, 35, 36, 42, 43]⟩,
  ⟨some 45, .move (.t 7), none, []⟩,
  ⟨some 46, .move (.t 8), none, []⟩,
  ⟨some 47, .index 9 .str none (.t 45) (.t 46), none, [45, 46]⟩,
  ⟨some 48, .bin .neq 5 (.t 44) (.t 47) 5, none, [44, 47]⟩] (some (.cons ⟨0, []⟩ (.cons ⟨1, []⟩ (.cons ⟨2, []⟩ (.cons ⟨4, []⟩ (.cons ⟨5, []⟩ (.cons ⟨6, []⟩ (.cons ⟨8, []⟩ (.cons ⟨12, []⟩ (.cons ⟨13, []⟩ (.cons ⟨14, []⟩ (.cons ⟨3, []⟩ (.cons ⟨7, []⟩ (.cons ⟨9, []⟩ (.cons ⟨10, []⟩ (.cons ⟨11, []⟩ (.cons ⟨15, []⟩ .nil))))))))))))))))) [0, 1, 2, 7, 8, 48, 100000])
 (.cond [0, 1, 2, 7, 8, 100000] (.t 48) (.seq (.reg 9 [⟨some 49, .move (.t 0), none, []⟩,
  ⟨some 50, .move (.t 2), none, [2]⟩,
  ⟨some 51, .call n_thicketref10_reading_fail [(.t 49), (.c (Value.int IntKind.i64 100)), (.t 50)] [52, 28, 3], none, [0, 49, 50, 51]⟩] none [100000])
 (.seq (.reg 10 [⟨some 6, .assign (.nilS 1), none, []⟩] none [6, 81, 100000])
 .ret)) .skip))
def k0_thicketref10_reading_pair : IR := .tail [0, 1, 2, 7, 8, 100000] j0_thicketref10_reading_pair
def j1_thicketref10_reading_pair : IR :=
 (.reg 4 [⟨some 12, .move (.t 8), none, []⟩,
  ⟨some 13, .bin .add 3 (.t 12) (.c (Value.int IntKind.i64 1)) 3, none, [12]⟩,
  ⟨some 8, .assign (.t 13), none, [13]⟩] none [0, 1, 2, 7, 8, 100000])
def k1_thicketref10_reading_pair : IR := .tail [0, 1, 2, 7, 8, 100000] j1_thicketref10_reading_pair
def j2_thicketref10_reading_pair : IR :=
 (.seq (.block 1 (.seq (.seq (.reg 5 [⟨some 14, .move (.t 0), none, []⟩,
  ⟨some 15, .nilck (.t 14), none, []⟩,
  ⟨some 16, .faddr 54 (.t 15) 1 1, none, []⟩,
  ⟨some 17, .load 3 none (.t 16), none, [14, 15, 16]⟩,
  ⟨some 18, .move (.t 8), none, []⟩,
  ⟨some 19, .bin .add 3 (.t 17) (.t 18) 3, none, [17, 18]⟩,
  ⟨some 20, .move (.t 0), none, []⟩,
  ⟨some 21, .nilck (.t 20), none, []⟩,
  ⟨some 22, .faddr 54 (.t 21) 0 0, none, []⟩,
  ⟨some 23, .load 22 none (.t 22), none, []⟩,
  ⟨some 24, .len 22 false (.t 23), none, [20, 21, 22, 23]⟩,
  ⟨some 25, .bin .geq 3 (.t 19) (.t 24) 3, none, [19, 24]⟩] (some (.cons ⟨0, []⟩ (.cons ⟨1, []⟩ (.cons ⟨2, []⟩ (.cons ⟨4, []⟩ (.cons ⟨6, []⟩ (.cons ⟨7, []⟩ (.cons ⟨8, []⟩ (.cons ⟨3, []⟩ (.cons ⟨5, []⟩ (.cons ⟨9, []⟩ (.cons ⟨10, []⟩ (.cons ⟨11, []⟩ .nil))))))))))))) [0, 1, 2, 7, 8, 25, 100000])
 (.cond [0, 1, 2, 7, 8, 100000] (.t 25) (.seq (.reg 6 [⟨some 26, .move (.t 0), none, []⟩,
  ⟨some 27, .move (.t 0), none, []⟩,
  ⟨some 28, .nilck (.t 27), none, []⟩,
  ⟨some 29, .faddr 54 (.t 28) 0 0, none, []⟩,
  ⟨some 30, .load 22 none (.t 29), none, []⟩,
  ⟨some 31, .len 22 false (.t 30), none, [27, 28, 29, 30]⟩,
  ⟨some 32, .call n_thicketref10_reading_fail [(.t 26), (.c (Value.int IntKind.i64 100)), (.t 31)] [52, 28, 3], none, [0, 26, 31, 32]⟩] none [100000])
 (.seq (.reg 7 [⟨some 6, .assign (.nilS 1), none, []⟩] none [6, 81, 100000])
 .ret)) .skip))
 k0_thicketref10_reading_pair))
 k1_thicketref10_reading_pair)
def k2_thicketref10_reading_pair : IR := .tail [0, 1, 2, 7, 8, 100000] j2_thicketref10_reading_pair
def w0_thicketref10_reading_pair : IR :=
 (.seq (.seq (.reg 3 [⟨some 10, .move (.t 8), none, []⟩,
  ⟨some 11, .bin .lss 3 (.t 10) (.c (Value.int IntKind.i64 2)) 3, none, [10]⟩] none [0, 1, 2, 7, 8, 11, 100000])
 (.cond [0, 1, 2, 7, 8, 100000] (.t 11) .skip (.exit 0)))
 k2_thicketref10_reading_pair)
def l0_thicketref10_reading_pair : IR := .loop [0, 1, 2, 7, 8, 100000] w0_thicketref10_reading_pair
def j3_thicketref10_reading_pair : IR :=
 (.seq (.reg 18 [⟨some 74, .move (.t 1), none, [1]⟩,
  ⟨some 75, .bin .sub 3 (.t 74) (.c (Value.int IntKind.i64 55296)) 3, none, [74]⟩,
  ⟨some 76, .bin .shl 3 (.t 75) (.c (Value.int IntKind.u64 10)) 74, none, [75]⟩,
  ⟨some 77, .bin .add 3 (.c (Value.int IntKind.i64 65536)) (.t 76) 3, none, [76]⟩,
  ⟨some 78, .move (.t 9), none, [9]⟩,
  ⟨some 79, .bin .sub 3 (.t 78) (.c (Value.int IntKind.i64 56320)) 3, none, [78]⟩,
  ⟨some 80, .bin .add 3 (.t 77) (.t 79) 3, none, [77, 79]⟩,
  ⟨some 81, .call n_thicketref10_utf8 [(.t 80)] [3], none, [80]⟩,
  ⟨some 6, .assign (.t 81), none, []⟩] none [6, 81, 100000])
 .ret)
def k3_thicketref10_reading_pair : IR := .tail [1, 9, 100000] j3_thicketref10_reading_pair
def j4_thicketref10_reading_pair : IR :=
 (.seq (.seq (.reg 15 [⟨some 65, .move (.t 9), none, []⟩,
  ⟨some 66, .bin .lss 3 (.t 65) (.c (Value.int IntKind.i64 56320)) 3, none, [65]⟩,
  ⟨some 67, .move (.t 66), none, [66]⟩,
  ⟨some 68, .move (.t 9), some (2, false), []⟩,
  ⟨some 69, .bin .gtr 3 (.t 68) (.c (Value.int IntKind.i64 57343)) 3, some (2, false), [68]⟩,
  ⟨some 70, .pick (.t 67) (.c (Value.bool true)) (.t 69), none, [67, 69]⟩] none [0, 1, 2, 9, 70, 100000])
 (.cond [0, 1, 2, 9, 100000] (.t 70) (.seq (.reg 16 [⟨some 71, .move (.t 0), none, []⟩,
  ⟨some 72, .move (.t 2), none, [2]⟩,
  ⟨some 73, .call n_thicketref10_reading_fail [(.t 71), (.c (Value.int IntKind.i64 100)), (.t 72)] [52, 28, 3], none, [0, 71, 72, 73]⟩] none [100000])
 (.seq (.reg 17 [⟨some 6, .assign (.nilS 1), none, []⟩] none [6, 81, 100000])
 .ret)) .skip))
 k3_thicketref10_reading_pair)
def k4_thicketref10_reading_pair : IR := .tail [0, 1, 2, 9, 100000] j4_thicketref10_reading_pair
def j5_thicketref10_reading_pair : IR :=
 (.seq (.reg 11 [⟨some 52, .move (.t 0), none, []⟩,
  ⟨some 53, .move (.t 0), none, []⟩,
  ⟨some 54, .nilck (.t 53), none, []⟩,
  ⟨some 55, .faddr 54 (.t 54) 1 1, none, []⟩,
  ⟨some 56, .load 3 none (.t 55), none, [53, 54, 55]⟩,
  ⟨some 57, .bin .add 3 (.t 56) (.c (Value.int IntKind.i64 2)) 3, none, [56]⟩,
  ⟨some 58, .nilck (.t 52), none, []⟩,
  ⟨some 59, .faddr 54 (.t 58) 1 1, none, []⟩,
  ⟨none, .store 3 none (.t 59) (.t 57), none, [52, 57, 58, 59]⟩] none [0, 1, 2, 100000])
 (.seq (.reg 12 [⟨some 60, .move (.t 0), none, []⟩,
  ⟨some 61, .call n_thicketref10_reading_four [(.t 60)] [52], none, [60]⟩,
  ⟨some 9, .assign (.t 61), none, [61]⟩] none [0, 1, 2, 9, 100000])
 (.seq (.seq (.reg 13 [⟨some 62, .move (.t 0), none, []⟩,
  ⟨some 63, .call n_thicketref10_reading_ok [(.t 62)] [52], none, [62]⟩,
  ⟨some 64, .un .not 4 (.t 63), none, [63]⟩] none [0, 1, 2, 9, 64, 100000])
 (.cond [0, 1, 2, 9, 100000] (.t 64) (.seq (.reg 14 [⟨some 6, .assign (.nilS 1), none, []⟩] none [6, 81, 100000])
 .ret) .skip))
 k4_thicketref10_reading_pair)))
def k5_thicketref10_reading_pair : IR := .tail [0, 1, 2, 100000] j5_thicketref10_reading_pair
def b_thicketref10_reading_pair : IR :=
 (.seq (.reg 0 [⟨some 6, .assign (.nilS 1), none, [6]⟩] none [0, 1, 2, 100000])
 (.seq (.reg 1 [⟨some 7, .assign (.c (Value.string { data := #[92, 117] })), none, []⟩] none [0, 1, 2, 7, 100000])
 (.seq (.seq (.reg 2 [⟨some 8, .assign (.c (Value.int IntKind.i64 0)), none, []⟩] none [0, 1, 2, 7, 8, 100000])
 (.block 0 l0_thicketref10_reading_pair))
 k5_thicketref10_reading_pair)))
def a_thicketref10_reading_pair : AFunc := ⟨82, [.tmp 6], b_thicketref10_reading_pair⟩

def j0_thicketref10_reading_escape : IR :=
 (.seq (.reg 21 [⟨some 96, .move (.t 0), none, []⟩,
  ⟨some 97, .move (.t 6), none, [6]⟩,
  ⟨some 98, .move (.t 3), none, [3]⟩,
  ⟨some 99, .call n_thicketref10_reading_pair [(.t 96), (.t 97), (.t 98)] [52, 3, 3], none, [0, 96, 97, 98]⟩,
  ⟨some 2, .assign (.t 99), none, []⟩] none [2, 60, 90, 99, 100000])
 .ret)
def k0_thicketref10_reading_escape : IR := .tail [0, 3, 6, 100000] j0_thicketref10_reading_escape
def j1_thicketref10_reading_escape : IR :=
 (.seq (.seq (.reg 18 [⟨some 91, .move (.t 6), none, []⟩,
  ⟨some 92, .bin .gtr 3 (.t 91) (.c (Value.int IntKind.i64 56319)) 3, none, [91]⟩] none [0, 3, 6, 92, 100000])
 (.cond [0, 3, 6, 100000] (.t 92) (.seq (.reg 19 [⟨some 93, .move (.t 0), none, []⟩,
  ⟨some 94, .move (.t 3), none, [3]⟩,
  ⟨some 95, .call n_thicketref10_reading_fail [(.t 93), (.c (Value.int IntKind.i64 100)), (.t 94)] [52, 28, 3], none, [0, 93, 94, 95]⟩] none [100000])
 (.seq (.reg 20 [⟨some 2, .assign (.nilS 1), none, []⟩] none [2, 60, 90, 99, 100000])
 .ret)) .skip))
 k0_thicketref10_reading_escape)
def k1_thicketref10_reading_escape : IR := .tail [0, 3, 6, 100000] j1_thicketref10_reading_escape
def j2_thicketref10_reading_escape : IR :=
 (.seq (.reg 14 [⟨some 69, .move (.t 0), none, []⟩,
  ⟨some 70, .nilck (.t 69), none, []⟩,
  ⟨some 71, .faddr 54 (.t 70) 1 1, none, []⟩,
  ⟨some 72, .load 3 none (.t 71), none, [70, 71]⟩,
  ⟨some 73, .bin .add 3 (.t 72) (.c (Value.int IntKind.i64 1)) 3, none, [72]⟩,
  ⟨some 74, .nilck (.t 69), none, []⟩,
  ⟨some 75, .faddr 54 (.t 74) 1 1, none, []⟩,
  ⟨none, .store 3 none (.t 75) (.t 73), none, [69, 73, 74, 75]⟩] none [0, 3, 100000])
 (.seq (.reg 15 [⟨some 76, .move (.t 0), none, []⟩,
  ⟨some 77, .call n_thicketref10_reading_four [(.t 76)] [52], none, [76]⟩,
  ⟨some 6, .assign (.t 77), none, [77]⟩] none [0, 3, 6, 100000])
 (.seq (.seq (.reg 16 [⟨some 78, .move (.t 0), none, []⟩,
  ⟨some 79, .call n_thicketref10_reading_ok [(.t 78)] [52], none, [78]⟩,
  ⟨some 80, .un .not 4 (.t 79), none, [79]⟩,
  ⟨some 81, .move (.t 80), none, [80]⟩,
  ⟨some 82, .move (.t 6), some (3, false), []⟩,
  ⟨some 83, .bin .lss 3 (.t 82) (.c (Value.int IntKind.i64 55296)) 3, some (3, false), [82]⟩,
  ⟨some 84, .pick (.t 81) (.c (Value.bool true)) (.t 83), none, [81, 83]⟩,
  ⟨some 85, .move (.t 84), none, [84]⟩,
  ⟨some 86, .move (.t 6), some (7, false), []⟩,
  ⟨some 87, .bin .gtr 3 (.t 86) (.c (Value.int IntKind.i64 57343)) 3, some (7, false), [86]⟩,
  ⟨some 88, .pick (.t 85) (.c (Value.bool true)) (.t 87), none, [85, 87]⟩] none [0, 3, 6, 88, 100000])
 (.cond [0, 3, 6, 100000] (.t 88) (.seq (.reg 17 [⟨some 89, .move (.t 6), none, [6]⟩,
  ⟨some 90, .call n_thicketref10_utf8 [(.t 89)] [3], none, [89]⟩,
  ⟨some 2, .assign (.t 90), none, []⟩] none [2, 60, 90, 99, 100000])
 .ret) .skip))
 k1_thicketref10_reading_escape)))
def k2_thicketref10_reading_escape : IR := .tail [0, 3, 100000] j2_thicketref10_reading_escape
def j3_thicketref10_reading_escape : IR :=
 (.seq (.seq (.reg 11 [⟨some 61, .move (.t 4), none, [4]⟩,
  ⟨some 62, .bin .neq 5 (.t 61) (.c (Value.int IntKind.u8 117)) 5, none, [61]⟩] none [0, 3, 62, 100000])
 (.cond [0, 3, 100000] (.t 62) (.seq (.reg 12 [⟨some 63, .move (.t 0), none, []⟩,
  ⟨some 64, .move (.t 0), none, []⟩,
  ⟨some 65, .nilck (.t 64), none, []⟩,
  ⟨some 66, .faddr 54 (.t 65) 1 1, none, []⟩,
  ⟨some 67, .load 3 none (.t 66), none, [64, 65, 66]⟩,
  ⟨some 68, .call n_thicketref10_reading_fail [(.t 63), (.c (Value.int IntKind.i64 100)), (.t 67)] [52, 28, 3], none, [0, 63, 67, 68]⟩] none [100000])
 (.seq (.reg 13 [⟨some 2, .assign (.nilS 1), none, []⟩] none [2, 60, 90, 99, 100000])
 .ret)) .skip))
 k2_thicketref10_reading_escape)
def k3_thicketref10_reading_escape : IR := .tail [0, 3, 4, 100000] j3_thicketref10_reading_escape
def j4_thicketref10_reading_escape : IR :=
 (.seq (.reg 6 [⟨some 34, .move (.t 0), none, []⟩,
  ⟨some 35, .nilck (.t 34), none, []⟩,
  ⟨some 36, .faddr 54 (.t 35) 0 0, none, []⟩,
  ⟨some 37, .load 22 none (.t 36), none, []⟩,
  ⟨some 38, .move (.t 0), none, []⟩,
  ⟨some 39, .nilck (.t 38), none, []⟩,
  ⟨some 40, .faddr 54 (.t 39) 1 1, none, []⟩,
  ⟨some 41, .load 3 none (.t 40), none, [38, 39, 40]⟩,
  ⟨some 42, .iaddr 22 (.sl 1) (.t 37) (.t 41), none, []⟩,
  ⟨some 43, .load 5 none (.t 42), none, [34, 35, 36, 37, 41, 42]⟩,
  ⟨some 4, .assign (.t 43), none, [43]⟩] (some (.cons ⟨0, []⟩ (.cons ⟨1, []⟩ (.cons ⟨2, []⟩ (.cons ⟨4, []⟩ (.cons ⟨5, []⟩ (.cons ⟨6, []⟩ (.cons ⟨3, []⟩ (.cons ⟨7, []⟩ (.cons ⟨8, []⟩ (.cons ⟨9, []⟩ (.cons ⟨10, []⟩ .nil)))))))))))) [0, 3, 4, 100000])
 (.seq (.reg 7 [⟨some 44, .mkmap 76, none, []⟩,
  ⟨none, .mput true 76 (some .u8) (.t 44) (.c (Value.int IntKind.u8 34)) (.c (Value.int IntKind.u8 34)), none, []⟩,
  ⟨none, .mput true 76 (some .u8) (.t 44) (.c (Value.int IntKind.u8 92)) (.c (Value.int IntKind.u8 92)), none, []⟩,
  ⟨none, .mput true 76 (some .u8) (.t 44) (.c (Value.int IntKind.u8 47)) (.c (Value.int IntKind.u8 47)), none, []⟩,
  ⟨none, .mput true 76 (some .u8) (.t 44) (.c (Value.int IntKind.u8 98)) (.c (Value.int IntKind.u8 8)), none, []⟩,
  ⟨none, .mput true 76 (some .u8) (.t 44) (.c (Value.int IntKind.u8 102)) (.c (Value.int IntKind.u8 12)), none, []⟩,
  ⟨none, .mput true 76 (some .u8) (.t 44) (.c (Value.int IntKind.u8 110)) (.c (Value.int IntKind.u8 10)), none, []⟩,
  ⟨none, .mput true 76 (some .u8) (.t 44) (.c (Value.int IntKind.u8 114)) (.c (Value.int IntKind.u8 13)), none, []⟩,
  ⟨none, .mput true 76 (some .u8) (.t 44) (.c (Value.int IntKind.u8 116)) (.c (Value.int IntKind.u8 9)), none, []⟩,
  ⟨some 45, .move (.t 44), none, []⟩,
  ⟨some 5, .assign (.t 45), none, []⟩] none [0, 3, 4, 5, 44, 45, 100000])
 (.seq (.seq (.reg 8 [⟨some 46, .move (.t 5), none, []⟩,
  ⟨some 47, .move (.t 4), none, []⟩,
  ⟨some 48, .mlook 76 (some .u8) (.int .u8 0) (.t 46) (.t 47), none, [46, 47]⟩,
  ⟨some 49, .bin .neq 5 (.t 48) (.c (Value.int IntKind.u8 0)) 5, none, [48]⟩] none [0, 3, 4, 5, 44, 45, 49, 100000])
 (.cond [0, 3, 4, 5, 44, 45, 100000] (.t 49) (.seq (.reg 9 [⟨some 50, .move (.t 0), none, []⟩,
  ⟨some 51, .nilck (.t 50), none, []⟩,
  ⟨some 52, .faddr 54 (.t 51) 1 1, none, []⟩,
  ⟨some 53, .load 3 none (.t 52), none, [51, 52]⟩,
  ⟨some 54, .bin .add 3 (.t 53) (.c (Value.int IntKind.i64 1)) 3, none, [53]⟩,
  ⟨some 55, .nilck (.t 50), none, []⟩,
  ⟨some 56, .faddr 54 (.t 55) 1 1, none, []⟩,
  ⟨none, .store 3 none (.t 56) (.t 54), none, [0, 50, 54, 55, 56]⟩] none [4, 5, 44, 45, 100000])
 (.seq (.reg 10 [⟨some 57, .move (.t 5), none, []⟩,
  ⟨some 58, .move (.t 4), none, [4]⟩,
  ⟨some 59, .mlook 76 (some .u8) (.int .u8 0) (.t 57) (.t 58), none, [5, 44, 45, 57, 58]⟩,
  ⟨some 60, .lit 22 1 [(.t 59)], none, [59]⟩,
  ⟨some 2, .assign (.t 60), none, []⟩] none [2, 60, 90, 99, 100000])
 .ret)) .skip))
 k3_thicketref10_reading_escape)))
def k4_thicketref10_reading_escape : IR := .tail [0, 3, 100000] j4_thicketref10_reading_escape
def b_thicketref10_reading_escape : IR :=
 (.seq (.reg 0 [⟨some 2, .assign (.nilS 1), none, [2]⟩] none [0, 100000])
 (.seq (.reg 1 [⟨some 7, .move (.t 0), none, []⟩,
  ⟨some 8, .nilck (.t 7), none, []⟩,
  ⟨some 9, .faddr 54 (.t 8) 1 1, none, []⟩,
  ⟨some 10, .load 3 none (.t 9), none, [7, 8, 9]⟩,
  ⟨some 3, .assign (.t 10), none, [10]⟩] none [0, 3, 100000])
 (.seq (.reg 2 [⟨some 11, .move (.t 0), none, []⟩,
  ⟨some 12, .nilck (.t 11), none, []⟩,
  ⟨some 13, .faddr 54 (.t 12) 1 1, none, []⟩,
  ⟨some 14, .load 3 none (.t 13), none, [12, 13]⟩,
  ⟨some 15, .bin .add 3 (.t 14) (.c (Value.int IntKind.i64 1)) 3, none, [14]⟩,
  ⟨some 16, .nilck (.t 11), none, []⟩,
  ⟨some 17, .faddr 54 (.t 16) 1 1, none, []⟩,
  ⟨none, .store 3 none (.t 17) (.t 15), none, [11, 15, 16, 17]⟩] none [0, 3, 100000])
 (.seq (.seq (.reg 3 [⟨some 18, .move (.t 0), none, []⟩,
  ⟨some 19, .nilck (.t 18), none, []⟩,
  ⟨some 20, .faddr 54 (.t 19) 1 1, none, []⟩,
  ⟨some 21, .load 3 none (.t 20), none, [18, 19, 20]⟩,
  ⟨some 22, .move (.t 0), none, []⟩,
  ⟨some 23, .nilck (.t 22), none, []⟩,
  ⟨some 24, .faddr 54 (.t 23) 0 0, none, []⟩,
  ⟨some 25, .load 22 none (.t 24), none, []⟩,
  ⟨some 26, .len 22 false (.t 25), none, [22, 23, 24, 25]⟩,
  ⟨some 27, .bin .geq 3 (.t 21) (.t 26) 3, none, [21, 26]⟩] (some (.cons ⟨0, []⟩ (.cons ⟨1, []⟩ (.cons ⟨2, []⟩ (.cons ⟨4, []⟩ (.cons ⟨5, []⟩ (.cons ⟨6, []⟩ (.cons ⟨3, []⟩ (.cons ⟨7, []⟩ (.cons ⟨8, []⟩ (.cons ⟨9, []⟩ .nil))))))))))) [0, 3, 27, 100000])
 (.cond [0, 3, 100000] (.t 27) (.seq (.reg 4 [⟨some 28, .move (.t 0), none, []⟩,
  ⟨some 29, .move (.t 0), none, []⟩,
  ⟨some 30, .nilck (.t 29), none, []⟩,
  ⟨some 31, .faddr 54 (.t 30) 1 1, none, []⟩,
  ⟨some 32, .load 3 none (.t 31), none, [29, 30, 31]⟩,
  ⟨some 33, .call n_thicketref10_reading_fail [(.t 28), (.c (Value.int IntKind.i64 100)), (.t 32)] [52, 28, 3], none, [0, 28, 32, 33]⟩] none [100000])
 (.seq (.reg 5 [⟨some 2, .assign (.nilS 1), none, []⟩] none [2, 60, 90, 99, 100000])
 .ret)) .skip))
 k4_thicketref10_reading_escape))))
def a_thicketref10_reading_escape : AFunc := ⟨100, [.tmp 2], b_thicketref10_reading_escape⟩

def j0_thicketref10_Char : IR :=
 (.reg 29 [⟨some 60, .move (.t 4), none, []⟩,
  ⟨some 61, .bin .shl 3 (.t 60) (.c (Value.int IntKind.u64 6)) 74, none, [60]⟩,
  ⟨some 62, .move (.t 0), none, []⟩,
  ⟨some 63, .move (.t 7), none, []⟩,
  ⟨some 64, .iaddr 22 (.sl 1) (.t 62) (.t 63), none, []⟩,
  ⟨some 65, .load 5 none (.t 64), none, [62, 63, 64]⟩,
  ⟨some 66, .bin .and 5 (.t 65) (.c (Value.int IntKind.u8 63)) 5, none, [65]⟩,
  ⟨some 67, .conv 5 3 (.int .i64) (.t 66), none, [66]⟩,
  ⟨some 68, .bin .or 3 (.t 61) (.t 67) 3, none, [61, 67]⟩,
  ⟨some 4, .assign (.t 68), none, [68]⟩] none [0, 3, 4, 5, 7])
def k0_thicketref10_Char : IR := .tail [0, 3, 4, 5, 7] j0_thicketref10_Char
def j1_thicketref10_Char : IR :=
 (.reg 26 [⟨some 52, .move (.t 7), none, []⟩,
  ⟨some 53, .bin .add 3 (.t 52) (.c (Value.int IntKind.i64 1)) 3, none, [52]⟩,
  ⟨some 7, .assign (.t 53), none, [53]⟩] none [0, 3, 4, 5, 7])
def k1_thicketref10_Char : IR := .tail [0, 3, 4, 5, 7] j1_thicketref10_Char
def j2_thicketref10_Char : IR :=
 (.seq (.block 2 (.seq (.seq (.reg 27 [⟨some 54, .move (.t 0), none, []⟩,
  ⟨some 55, .move (.t 7), none, []⟩,
  ⟨some 56, .iaddr 22 (.sl 1) (.t 54) (.t 55), none, []⟩,
  ⟨some 57, .load 5 none (.t 56), none, [54, 55, 56]⟩,
  ⟨some 58, .bin .and 5 (.t 57) (.c (Value.int IntKind.u8 192)) 5, none, [57]⟩,
  ⟨some 59, .bin .neq 5 (.t 58) (.c (Value.int IntKind.u8 128)) 5, none, [58]⟩] none [0, 3, 4, 5, 7, 59])
 (.cond [0, 3, 4, 5, 7] (.t 59) (.seq (.reg 28 [⟨some 2, .assign (.c (Value.int IntKind.i64 0)), none, []⟩] none [2])
 .ret) .skip))
 k0_thicketref10_Char))
 k1_thicketref10_Char)
def k2_thicketref10_Char : IR := .tail [0, 3, 4, 5, 7] j2_thicketref10_Char
def w0_thicketref10_Char : IR :=
 (.seq (.seq (.reg 25 [⟨some 49, .move (.t 7), none, []⟩,
  ⟨some 50, .move (.t 3), none, []⟩,
  ⟨some 51, .bin .lss 3 (.t 49) (.t 50) 3, none, [49, 50]⟩] none [0, 3, 4, 5, 7, 51])
 (.cond [0, 3, 4, 5, 7] (.t 51) .skip (.exit 1)))
 k2_thicketref10_Char)
def l0_thicketref10_Char : IR := .loop [0, 3, 4, 5, 7] w0_thicketref10_Char
def j3_thicketref10_Char : IR :=
 (.seq (.reg 32 [⟨some 84, .move (.t 3), none, [3]⟩,
  ⟨some 2, .assign (.t 84), none, [84]⟩] none [2])
 .ret)
def k3_thicketref10_Char : IR := .tail [3] j3_thicketref10_Char
def j4_thicketref10_Char : IR :=
 (.seq (.seq (.reg 30 [⟨some 69, .move (.t 4), none, []⟩,
  ⟨some 70, .move (.t 5), none, [5]⟩,
  ⟨some 71, .bin .lss 3 (.t 69) (.t 70) 3, none, [69, 70]⟩,
  ⟨some 72, .move (.t 71), none, [71]⟩,
  ⟨some 73, .move (.t 4), some (3, false), []⟩,
  ⟨some 74, .bin .gtr 3 (.t 73) (.c (Value.int IntKind.i64 1114111)) 3, some (3, false), [73]⟩,
  ⟨some 75, .pick (.t 72) (.c (Value.bool true)) (.t 74), none, [72, 74]⟩,
  ⟨some 76, .move (.t 75), none, [75]⟩,
  ⟨some 77, .move (.t 4), some (7, false), []⟩,
  ⟨some 78, .bin .geq 3 (.t 77) (.c (Value.int IntKind.i64 55296)) 3, some (7, false), [77]⟩,
  ⟨some 79, .move (.t 78), some (7, false), [78]⟩,
  ⟨some 80, .move (.t 4), some (10, true), [4]⟩,
  ⟨some 81, .bin .lss 3 (.t 80) (.c (Value.int IntKind.i64 57344)) 3, some (10, true), [80]⟩,
  ⟨some 82, .pick (.t 79) (.t 81) (.c (Value.bool false)), some (7, false), [79, 81]⟩,
  ⟨some 83, .pick (.t 76) (.c (Value.bool true)) (.t 82), none, [76, 82]⟩] none [3, 83])
 (.cond [3] (.t 83) (.seq (.reg 31 [⟨some 2, .assign (.c (Value.int IntKind.i64 0)), none, []⟩] none [2])
 .ret) .skip))
 k3_thicketref10_Char)
def k4_thicketref10_Char : IR := .tail [3, 4, 5] j4_thicketref10_Char
def j5_thicketref10_Char : IR :=
 (.seq (.seq (.reg 24 [⟨some 7, .assign (.c (Value.int IntKind.i64 1)), none, []⟩] none [0, 3, 4, 5, 7])
 (.block 1 l0_thicketref10_Char))
 k4_thicketref10_Char)
def k5_thicketref10_Char : IR := .tail [0, 3, 4, 5] j5_thicketref10_Char
def j6_thicketref10_Char : IR :=
 (.seq (.seq (.reg 22 [⟨some 45, .move (.t 0), none, []⟩,
  ⟨some 46, .len 22 false (.t 45), none, [45]⟩,
  ⟨some 47, .move (.t 3), none, []⟩,
  ⟨some 48, .bin .lss 3 (.t 46) (.t 47) 3, none, [46, 47]⟩] none [0, 3, 4, 5, 48])
 (.cond [0, 3, 4, 5] (.t 48) (.seq (.reg 23 [⟨some 2, .assign (.c (Value.int IntKind.i64 0)), none, []⟩] none [2])
 .ret) .skip))
 k5_thicketref10_Char)
def k6_thicketref10_Char : IR := .tail [0, 3, 4, 5] j6_thicketref10_Char
def j7_thicketref10_Char : IR :=
 (.seq (.reg 3 [⟨some 3, .assign (.c (Value.int IntKind.i64 0)), none, [3]⟩] none [0])
 (.seq (.reg 4 [⟨some 4, .assign (.c (Value.int IntKind.i64 0)), none, [4]⟩] none [0])
 (.seq (.reg 5 [⟨some 5, .assign (.c (Value.int IntKind.i64 0)), none, [5]⟩] none [0])
 (.seq (.reg 6 [⟨some 11, .move (.t 0), none, []⟩,
  ⟨some 12, .iaddr 22 (.sl 1) (.t 11) (.c (Value.int IntKind.i64 0)), none, []⟩,
  ⟨some 13, .load 5 none (.t 12), none, [11, 12]⟩,
  ⟨some 14, .conv 5 3 (.int .i64) (.t 13), none, [13]⟩,
  ⟨some 6, .assign (.t 14), none, [14]⟩] none [0, 6])
 (.seq (.block 0 (.seq (.reg 8 [⟨some 16, .move (.t 6), none, []⟩,
  ⟨some 17, .bin .lss 3 (.t 16) (.c (Value.int IntKind.i64 128)) 3, none, [16]⟩,
  ⟨some 15, .assign (.t 17), none, [17]⟩] none [0, 6, 15])
 (.cond [0, 6] (.t 15) (.seq (.reg 9 [⟨some 2, .assign (.c (Value.int IntKind.i64 1)), none, []⟩] none [2])
 .ret) (.seq (.reg 10 [⟨some 19, .move (.t 6), none, []⟩,
  ⟨some 20, .bin .geq 3 (.t 19) (.c (Value.int IntKind.i64 192)) 3, none, [19]⟩,
  ⟨some 21, .move (.t 20), none, [20]⟩,
  ⟨some 22, .move (.t 6), some (2, true), []⟩,
  ⟨some 23, .bin .lss 3 (.t 22) (.c (Value.int IntKind.i64 224)) 3, some (2, true), [22]⟩,
  ⟨some 24, .pick (.t 21) (.t 23) (.c (Value.bool false)), none, [21, 23]⟩,
  ⟨some 18, .assign (.t 24), none, [24]⟩] none [0, 6, 18])
 (.cond [0, 6] (.t 18) (.seq (.reg 11 [⟨some 3, .assign (.c (Value.int IntKind.i64 2)), none, []⟩] none [0, 3, 6])
 (.seq (.reg 12 [⟨some 25, .move (.t 6), none, [6]⟩,
  ⟨some 26, .bin .and 3 (.t 25) (.c (Value.int IntKind.i64 31)) 3, none, [25]⟩,
  ⟨some 4, .assign (.t 26), none, [26]⟩] none [0, 3, 4])
 (.reg 13 [⟨some 5, .assign (.c (Value.int IntKind.i64 128)), none, []⟩] none [0, 3, 4, 5]))) (.seq (.reg 14 [⟨some 28, .move (.t 6), none, []⟩,
  ⟨some 29, .bin .geq 3 (.t 28) (.c (Value.int IntKind.i64 224)) 3, none, [28]⟩,
  ⟨some 30, .move (.t 29), none, [29]⟩,
  ⟨some 31, .move (.t 6), some (2, true), []⟩,
  ⟨some 32, .bin .lss 3 (.t 31) (.c (Value.int IntKind.i64 240)) 3, some (2, true), [31]⟩,
  ⟨some 33, .pick (.t 30) (.t 32) (.c (Value.bool false)), none, [30, 32]⟩,
  ⟨some 27, .assign (.t 33), none, [33]⟩] none [0, 6, 27])
 (.cond [0, 6] (.t 27) (.seq (.reg 15 [⟨some 3, .assign (.c (Value.int IntKind.i64 3)), none, []⟩] none [0, 3, 6])
 (.seq (.reg 16 [⟨some 34, .move (.t 6), none, [6]⟩,
  ⟨some 35, .bin .and 3 (.t 34) (.c (Value.int IntKind.i64 15)) 3, none, [34]⟩,
  ⟨some 4, .assign (.t 35), none, [35]⟩] none [0, 3, 4])
 (.reg 17 [⟨some 5, .assign (.c (Value.int IntKind.i64 2048)), none, []⟩] none [0, 3, 4, 5]))) (.seq (.reg 18 [⟨some 37, .move (.t 6), none, []⟩,
  ⟨some 38, .bin .geq 3 (.t 37) (.c (Value.int IntKind.i64 240)) 3, none, [37]⟩,
  ⟨some 39, .move (.t 38), none, [38]⟩,
  ⟨some 40, .move (.t 6), some (2, true), []⟩,
  ⟨some 41, .bin .lss 3 (.t 40) (.c (Value.int IntKind.i64 248)) 3, some (2, true), [40]⟩,
  ⟨some 42, .pick (.t 39) (.t 41) (.c (Value.bool false)), none, [39, 41]⟩,
  ⟨some 36, .assign (.t 42), none, [42]⟩] none [0, 6, 36])
 (.cond [0, 6] (.t 36) (.seq (.reg 19 [⟨some 3, .assign (.c (Value.int IntKind.i64 4)), none, []⟩] none [0, 3, 6])
 (.seq (.reg 20 [⟨some 43, .move (.t 6), none, [6]⟩,
  ⟨some 44, .bin .and 3 (.t 43) (.c (Value.int IntKind.i64 7)) 3, none, [43]⟩,
  ⟨some 4, .assign (.t 44), none, [44]⟩] none [0, 3, 4])
 (.reg 21 [⟨some 5, .assign (.c (Value.int IntKind.i64 65536)), none, []⟩] none [0, 3, 4, 5]))) (.seq (.reg 7 [⟨some 2, .assign (.c (Value.int IntKind.i64 0)), none, []⟩] none [2])
 .ret))))))))))
 k6_thicketref10_Char)))))
def k7_thicketref10_Char : IR := .tail [0] j7_thicketref10_Char
def b_thicketref10_Char : IR :=
 (.seq (.reg 0 [⟨some 2, .assign (.c (Value.int IntKind.i64 0)), none, [2]⟩] none [0])
 (.seq (.seq (.reg 1 [⟨some 8, .move (.t 0), none, []⟩,
  ⟨some 9, .len 22 false (.t 8), none, [8]⟩,
  ⟨some 10, .bin .eql 3 (.t 9) (.c (Value.int IntKind.i64 0)) 3, none, [9]⟩] none [0, 10])
 (.cond [0] (.t 10) (.seq (.reg 2 [⟨some 2, .assign (.c (Value.int IntKind.i64 0)), none, []⟩] none [2])
 .ret) .skip))
 k7_thicketref10_Char))
def a_thicketref10_Char : AFunc := ⟨85, [.tmp 2], b_thicketref10_Char⟩

def j0_thicketref10_reading_text : IR :=
 (.seq (.reg 12 [⟨some 54, .move (.t 3), none, []⟩,
  ⟨some 55, .move (.t 0), none, []⟩,
  ⟨some 56, .nilck (.t 55), none, []⟩,
  ⟨some 57, .faddr 54 (.t 56) 0 0, none, []⟩,
  ⟨some 58, .load 22 none (.t 57), none, []⟩,
  ⟨some 59, .move (.t 0), none, []⟩,
  ⟨some 60, .nilck (.t 59), none, []⟩,
  ⟨some 61, .faddr 54 (.t 60) 1 1, none, []⟩,
  ⟨some 62, .load 3 none (.t 61), none, [59, 60, 61]⟩,
  ⟨some 63, .move (.t 0), none, []⟩,
  ⟨some 64, .nilck (.t 63), none, []⟩,
  ⟨some 65, .faddr 54 (.t 64) 1 1, none, []⟩,
  ⟨some 66, .load 3 none (.t 65), none, [63, 64, 65]⟩,
  ⟨some 67, .move (.t 5), none, []⟩,
  ⟨some 68, .bin .add 3 (.t 66) (.t 67) 3, none, [66, 67]⟩,
  ⟨some 69, .slice 22 (.sl 1) (.t 58) (some (.t 62)) (some (.t 68)) none, none, []⟩,
  ⟨some 70, .append 22 22 false 1 1 (.t 54) (.t 69), none, [54, 55, 56, 57, 58, 62, 68, 69]⟩,
  ⟨some 3, .assign (.t 70), none, []⟩] (some (.cons ⟨0, []⟩ (.cons ⟨1, []⟩ (.cons ⟨2, []⟩ (.cons ⟨3, []⟩ (.cons ⟨5, []⟩ (.cons ⟨6, []⟩ (.cons ⟨7, []⟩ (.cons ⟨9, []⟩ (.cons ⟨10, []⟩ (.cons ⟨11, []⟩ (.cons ⟨13, []⟩ (.cons ⟨4, []⟩ (.cons ⟨8, []⟩ (.cons ⟨12, []⟩ (.cons ⟨14, []⟩ (.cons ⟨15, []⟩ (.cons ⟨16, []⟩ (.cons ⟨17, []⟩ .nil))))))))))))))))))) [0, 3, 5, 70, 107, 100000])
 (.reg 13 [⟨some 71, .move (.t 0), none, []⟩,
  ⟨some 72, .move (.t 0), none, []⟩,
  ⟨some 73, .nilck (.t 72), none, []⟩,
  ⟨some 74, .faddr 54 (.t 73) 1 1, none, []⟩,
  ⟨some 75, .load 3 none (.t 74), none, [72, 73, 74]⟩,
  ⟨some 76, .move (.t 5), none, [5]⟩,
  ⟨some 77, .bin .add 3 (.t 75) (.t 76) 3, none, [75, 76]⟩,
  ⟨some 78, .nilck (.t 71), none, []⟩,
  ⟨some 79, .faddr 54 (.t 78) 1 1, none, []⟩,
  ⟨none, .store 3 none (.t 79) (.t 77), none, [71, 77, 78, 79]⟩] none [0, 3, 70, 107, 100000]))
def k0_thicketref10_reading_text : IR := .tail [0, 3, 5, 70, 107, 100000] j0_thicketref10_reading_text
def j1_thicketref10_reading_text : IR :=
 (.seq (.reg 7 [⟨some 26, .move (.t 0), none, []⟩,
  ⟨some 27, .nilck (.t 26), none, []⟩,
  ⟨some 28, .faddr 54 (.t 27) 0 0, none, []⟩,
  ⟨some 29, .load 22 none (.t 28), none, []⟩,
  ⟨some 30, .move (.t 0), none, []⟩,
  ⟨some 31, .nilck (.t 30), none, []⟩,
  ⟨some 32, .faddr 54 (.t 31) 1 1, none, []⟩,
  ⟨some 33, .load 3 none (.t 32), none, [30, 31, 32]⟩,
  ⟨some 34, .iaddr 22 (.sl 1) (.t 29) (.t 33), none, []⟩,
  ⟨some 35, .load 5 none (.t 34), none, [26, 27, 28, 29, 33, 34]⟩,
  ⟨some 4, .assign (.t 35), none, [35]⟩] (some (.cons ⟨0, []⟩ (.cons ⟨1, []⟩ (.cons ⟨2, []⟩ (.cons ⟨4, []⟩ (.cons ⟨5, []⟩ (.cons ⟨6, []⟩ (.cons ⟨3, []⟩ (.cons ⟨7, []⟩ (.cons ⟨8, []⟩ (.cons ⟨9, []⟩ (.cons ⟨10, []⟩ .nil)))))))))))) [0, 3, 4, 70, 107, 100000])
 (.block 2 (.seq (.reg 14 [⟨some 81, .move (.t 4), none, []⟩,
  ⟨some 82, .bin .eql 5 (.t 81) (.c (Value.int IntKind.u8 34)) 5, none, [81]⟩,
  ⟨some 80, .assign (.t 82), none, [82]⟩] none [0, 3, 4, 70, 80, 107, 100000])
 (.cond [0, 3, 4, 70, 107, 100000] (.t 80) (.seq (.reg 15 [⟨some 83, .move (.t 0), none, []⟩,
  ⟨some 84, .nilck (.t 83), none, []⟩,
  ⟨some 85, .faddr 54 (.t 84) 1 1, none, []⟩,
  ⟨some 86, .load 3 none (.t 85), none, [84, 85]⟩,
  ⟨some 87, .bin .add 3 (.t 86) (.c (Value.int IntKind.i64 1)) 3, none, [86]⟩,
  ⟨some 88, .nilck (.t 83), none, []⟩,
  ⟨some 89, .faddr 54 (.t 88) 1 1, none, []⟩,
  ⟨none, .store 3 none (.t 89) (.t 87), none, [0, 83, 87, 88, 89]⟩] none [3, 70, 107, 100000])
 (.seq (.reg 16 [⟨some 90, .move (.t 3), none, []⟩,
  ⟨some 91, .conv 22 9 .bytes (.t 90), none, [3, 70, 90, 107]⟩,
  ⟨some 2, .assign (.t 91), none, [91]⟩] none [2, 100000])
 .ret)) (.seq (.reg 17 [⟨some 93, .move (.t 4), none, []⟩,
  ⟨some 94, .bin .lss 5 (.t 93) (.c (Value.int IntKind.u8 32)) 5, none, [93]⟩,
  ⟨some 92, .assign (.t 94), none, [94]⟩] none [0, 3, 4, 70, 92, 107, 100000])
 (.cond [0, 3, 4, 70, 107, 100000] (.t 92) (.reg 18 [⟨some 95, .move (.t 0), none, []⟩,
  ⟨some 96, .move (.t 0), none, []⟩,
  ⟨some 97, .nilck (.t 96), none, []⟩,
  ⟨some 98, .faddr 54 (.t 97) 1 1, none, []⟩,
  ⟨some 99, .load 3 none (.t 98), none, [96, 97, 98]⟩,
  ⟨some 100, .call n_thicketref10_reading_fail [(.t 95), (.c (Value.int IntKind.i64 100)), (.t 99)] [52, 28, 3], none, [95, 99, 100]⟩] none [0, 3, 70, 107, 100000]) (.seq (.reg 19 [⟨some 102, .move (.t 4), none, [4]⟩,
  ⟨some 103, .bin .eql 5 (.t 102) (.c (Value.int IntKind.u8 92)) 5, none, [102]⟩,
  ⟨some 101, .assign (.t 103), none, [103]⟩] none [0, 3, 70, 101, 107, 100000])
 (.cond [0, 3, 70, 107, 100000] (.t 101) (.reg 20 [⟨some 104, .move (.t 3), none, []⟩,
  ⟨some 105, .move (.t 0), none, []⟩,
  ⟨some 106, .call n_thicketref10_reading_escape [(.t 105)] [52], none, [105]⟩,
  ⟨some 107, .append 22 22 false 1 1 (.t 104) (.t 106), none, [104, 106]⟩,
  ⟨some 3, .assign (.t 107), none, []⟩] none [0, 3, 70, 107, 100000]) (.seq (.reg 8 [⟨some 36, .move (.t 0), none, []⟩,
  ⟨some 37, .nilck (.t 36), none, []⟩,
  ⟨some 38, .faddr 54 (.t 37) 0 0, none, []⟩,
  ⟨some 39, .load 22 none (.t 38), none, []⟩,
  ⟨some 40, .move (.t 0), none, []⟩,
  ⟨some 41, .nilck (.t 40), none, []⟩,
  ⟨some 42, .faddr 54 (.t 41) 1 1, none, []⟩,
  ⟨some 43, .load 3 none (.t 42), none, [40, 41, 42]⟩,
  ⟨some 44, .slice 22 (.sl 1) (.t 39) (some (.t 43)) none none, none, []⟩,
  ⟨some 45, .call n_thicketref10_Char [(.t 44)] [22], none, [36, 37, 38, 39, 43, 44]⟩,
  ⟨some 5, .assign (.t 45), none, [45]⟩] (some (.cons ⟨0, []⟩ (.cons ⟨1, []⟩ (.cons ⟨2, []⟩ (.cons ⟨4, []⟩ (.cons ⟨5, []⟩ (.cons ⟨6, []⟩ (.cons ⟨3, []⟩ (.cons ⟨7, []⟩ (.cons ⟨8, []⟩ (.cons ⟨9, []⟩ (.cons ⟨10, []⟩ .nil)))))))))))) [0, 3, 5, 70, 107, 100000])
 (.seq (.seq (.reg 9 [⟨some 46, .move (.t 5), none, []⟩,
  ⟨some 47, .bin .eql 3 (.t 46) (.c (Value.int IntKind.i64 0)) 3, none, [46]⟩] none [0, 3, 5, 47, 70, 107, 100000])
 (.cond [0, 3, 5, 70, 107, 100000] (.t 47) (.seq (.reg 10 [⟨some 48, .move (.t 0), none, []⟩,
  ⟨some 49, .move (.t 0), none, []⟩,
  ⟨some 50, .nilck (.t 49), none, []⟩,
  ⟨some 51, .faddr 54 (.t 50) 1 1, none, []⟩,
  ⟨some 52, .load 3 none (.t 51), none, [49, 50, 51]⟩,
  ⟨some 53, .call n_thicketref10_reading_fail [(.t 48), (.c (Value.int IntKind.i64 100)), (.t 52)] [52, 28, 3], none, [0, 48, 52, 53]⟩] none [100000])
 (.seq (.reg 11 [⟨some 2, .assign (.c (Value.string { data := #[] })), none, []⟩] none [2, 100000])
 .ret)) .skip))
 k0_thicketref10_reading_text))))))))))
def k1_thicketref10_reading_text : IR := .tail [0, 3, 70, 107, 100000] j1_thicketref10_reading_text
def j2_thicketref10_reading_text : IR :=
 (.block 1 (.seq (.seq (.reg 4 [⟨some 10, .move (.t 0), none, []⟩,
  ⟨some 11, .nilck (.t 10), none, []⟩,
  ⟨some 12, .faddr 54 (.t 11) 1 1, none, []⟩,
  ⟨some 13, .load 3 none (.t 12), none, [10, 11, 12]⟩,
  ⟨some 14, .move (.t 0), none, []⟩,
  ⟨some 15, .nilck (.t 14), none, []⟩,
  ⟨some 16, .faddr 54 (.t 15) 0 0, none, []⟩,
  ⟨some 17, .load 22 none (.t 16), none, []⟩,
  ⟨some 18, .len 22 false (.t 17), none, [14, 15, 16, 17]⟩,
  ⟨some 19, .bin .geq 3 (.t 13) (.t 18) 3, none, [13, 18]⟩] (some (.cons ⟨0, []⟩ (.cons ⟨1, []⟩ (.cons ⟨2, []⟩ (.cons ⟨4, []⟩ (.cons ⟨5, []⟩ (.cons ⟨6, []⟩ (.cons ⟨3, []⟩ (.cons ⟨7, []⟩ (.cons ⟨8, []⟩ (.cons ⟨9, []⟩ .nil))))))))))) [0, 3, 19, 70, 107, 100000])
 (.cond [0, 3, 70, 107, 100000] (.t 19) (.seq (.reg 5 [⟨some 20, .move (.t 0), none, []⟩,
  ⟨some 21, .move (.t 0), none, []⟩,
  ⟨some 22, .nilck (.t 21), none, []⟩,
  ⟨some 23, .faddr 54 (.t 22) 1 1, none, []⟩,
  ⟨some 24, .load 3 none (.t 23), none, [21, 22, 23]⟩,
  ⟨some 25, .call n_thicketref10_reading_fail [(.t 20), (.c (Value.int IntKind.i64 100)), (.t 24)] [52, 28, 3], none, [0, 20, 24, 25]⟩] none [100000])
 (.seq (.reg 6 [⟨some 2, .assign (.c (Value.string { data := #[] })), none, []⟩] none [2, 100000])
 .ret)) .skip))
 k1_thicketref10_reading_text))
def k2_thicketref10_reading_text : IR := .tail [0, 3, 70, 107, 100000] j2_thicketref10_reading_text
def w0_thicketref10_reading_text : IR :=
 (.seq (.seq (.reg 3 [⟨some 8, .move (.t 0), none, []⟩,
  ⟨some 9, .call n_thicketref10_reading_ok [(.t 8)] [52], none, [8]⟩] none [0, 3, 9, 70, 107, 100000])
 (.cond [0, 3, 70, 107, 100000] (.t 9) .skip (.exit 0)))
 k2_thicketref10_reading_text)
def l0_thicketref10_reading_text : IR := .loop [0, 3, 70, 107, 100000] w0_thicketref10_reading_text
def j3_thicketref10_reading_text : IR :=
 (.seq (.reg 21 [⟨some 2, .assign (.c (Value.string { data := #[] })), none, []⟩] none [2, 100000])
 .ret)
def k3_thicketref10_reading_text : IR := .tail [100000] j3_thicketref10_reading_text
def b_thicketref10_reading_text : IR :=
 (.seq (.reg 0 [⟨some 2, .assign (.c (Value.string { data := #[] })), none, [2]⟩] none [0, 100000])
 (.seq (.reg 1 [⟨some 6, .move (.t 0), none, []⟩,
  ⟨some 7, .call n_thicketref10_reading_must [(.t 6), (.c (Value.string { data := #[34] }))] [52, 9], none, [6, 7]⟩] none [0, 100000])
 (.seq (.reg 2 [⟨some 3, .assign (.nilS 1), none, []⟩] none [0, 3, 70, 107, 100000])
 (.seq (.block 0 l0_thicketref10_reading_text)
 k3_thicketref10_reading_text))))
def a_thicketref10_reading_text : AFunc := ⟨108, [.tmp 2], b_thicketref10_reading_text⟩

def j0_thicketref10_reading_list : IR :=
 (.reg 14 [⟨some 48, .move (.t 0), none, []⟩,
  ⟨some 49, .call n_thicketref10_reading_must [(.t 48), (.c (Value.string { data := #[44] }))] [52, 9], none, [48, 49]⟩] none [0, 1, 4, 5, 100000])
def k0_thicketref10_reading_list : IR := .tail [0, 1, 4, 5, 100000] j0_thicketref10_reading_list
def j1_thicketref10_reading_list : IR :=
 (.seq (.seq (.reg 11 [⟨some 37, .move (.t 0), none, []⟩,
  ⟨some 38, .call n_thicketref10_reading_next [(.t 37)] [52], none, [37]⟩,
  ⟨some 39, .bin .eql 5 (.t 38) (.c (Value.int IntKind.u8 93)) 5, none, [38]⟩] none [0, 1, 4, 5, 39, 100000])
 (.cond [0, 1, 4, 5, 100000] (.t 39) (.seq (.reg 12 [⟨some 40, .move (.t 0), none, []⟩,
  ⟨some 41, .nilck (.t 40), none, []⟩,
  ⟨some 42, .faddr 54 (.t 41) 1 1, none, []⟩,
  ⟨some 43, .load 3 none (.t 42), none, [41, 42]⟩,
  ⟨some 44, .bin .add 3 (.t 43) (.c (Value.int IntKind.i64 1)) 3, none, [43]⟩,
  ⟨some 45, .nilck (.t 40), none, []⟩,
  ⟨some 46, .faddr 54 (.t 45) 1 1, none, []⟩,
  ⟨none, .store 3 none (.t 46) (.t 44), none, [0, 40, 44, 45, 46]⟩] none [4, 5, 100000])
 (.seq (.reg 13 [⟨some 47, .load 27 (some 4) (.t 5), none, []⟩,
  ⟨none, .store 27 (some 4) (.t 4) (.t 47), none, [5, 47]⟩] none [4, 100000])
 .ret)) .skip))
 k0_thicketref10_reading_list)
def k1_thicketref10_reading_list : IR := .tail [0, 1, 4, 5, 100000] j1_thicketref10_reading_list
def j2_thicketref10_reading_list : IR :=
 (.block 1 (.seq (.reg 7 [⟨some 23, .move (.t 0), none, []⟩,
  ⟨some 24, .move (.t 1), none, []⟩,
  ⟨some 25, .call n_thicketref10_reading_value [(.t 23), (.t 24)] [52, 3], none, [23, 24]⟩,
  ⟨some 6, .alloc 27 [.v (.int .u8 0), .v (.string ⟨#[]⟩), .nil 1, .nil 4], none, []⟩,
  ⟨none, .store 27 (some 4) (.t 6) (.t 25), none, [25]⟩] none [0, 1, 4, 5, 6, 100000])
 (.seq (.reg 8 [⟨some 26, .faddr 27 (.t 5) 3 3, none, []⟩,
  ⟨some 27, .load 25 none (.t 26), none, []⟩,
  ⟨some 28, .load 27 (some 4) (.t 6), none, []⟩,
  ⟨some 29, .lit 25 4 [(.t 28)], none, [6, 28]⟩,
  ⟨some 30, .append 25 25 false 4 72 (.t 27) (.t 29), none, [26, 27, 29]⟩,
  ⟨some 31, .faddr 27 (.t 5) 3 3, none, []⟩,
  ⟨none, .store 25 none (.t 31) (.t 30), none, [30, 31]⟩] none [0, 1, 4, 5, 100000])
 (.seq (.reg 9 [⟨some 32, .move (.t 0), none, []⟩,
  ⟨some 33, .call n_thicketref10_reading_blanks [(.t 32)] [52], none, [32, 33]⟩] none [0, 1, 4, 5, 100000])
 (.seq (.seq (.reg 10 [⟨some 34, .move (.t 0), none, []⟩,
  ⟨some 35, .call n_thicketref10_reading_ok [(.t 34)] [52], none, [34]⟩,
  ⟨some 36, .un .not 4 (.t 35), none, [35]⟩] none [0, 1, 4, 5, 36, 100000])
 (.cond [0, 1, 4, 5, 100000] (.t 36) (.exit 0) .skip))
 k1_thicketref10_reading_list)))))
def k2_thicketref10_reading_list : IR := .tail [0, 1, 4, 5, 100000] j2_thicketref10_reading_list
def w0_thicketref10_reading_list : IR :=
 (.seq (.seq (.reg 6 [⟨some 21, .move (.t 0), none, []⟩,
  ⟨some 22, .call n_thicketref10_reading_ok [(.t 21)] [52], none, [21]⟩] none [0, 1, 4, 5, 22, 100000])
 (.cond [0, 1, 4, 5, 100000] (.t 22) .skip (.exit 0)))
 k2_thicketref10_reading_list)
def l0_thicketref10_reading_list : IR := .loop [0, 1, 4, 5, 100000] w0_thicketref10_reading_list
def j3_thicketref10_reading_list : IR :=
 (.seq (.reg 15 [⟨some 50, .load 27 (some 4) (.t 5), none, []⟩,
  ⟨none, .store 27 (some 4) (.t 4) (.t 50), none, [5, 50]⟩] none [4, 100000])
 .ret)
def k3_thicketref10_reading_list : IR := .tail [4, 5, 100000] j3_thicketref10_reading_list
def j4_thicketref10_reading_list : IR :=
 (.seq (.block 0 l0_thicketref10_reading_list)
 k3_thicketref10_reading_list)
def k4_thicketref10_reading_list : IR := .tail [0, 1, 4, 5, 100000] j4_thicketref10_reading_list
def b_thicketref10_reading_list : IR :=
 (.seq (.reg 0 [⟨some 4, .alloc 27 [.v (.int .u8 0), .v (.string ⟨#[]⟩), .nil 1, .nil 4], none, []⟩] none [0, 1, 4, 100000])
 (.seq (.reg 1 [⟨some 7, .build 27 [(0, 1), (1, 1), (2, 1), (3, 1)] [.v (.int .u8 0), .v (.string ⟨#[]⟩), .nil 1, .nil 4] [(0, (.c (Value.int IntKind.u8 6)))], none, []⟩,
  ⟨some 5, .alloc 27 [.v (.int .u8 0), .v (.string ⟨#[]⟩), .nil 1, .nil 4], none, []⟩,
  ⟨none, .store 27 (some 4) (.t 5) (.t 7), none, [7]⟩] none [0, 1, 4, 5, 100000])
 (.seq (.reg 2 [⟨some 8, .move (.t 0), none, []⟩,
  ⟨some 9, .call n_thicketref10_reading_blanks [(.t 8)] [52], none, [8, 9]⟩] none [0, 1, 4, 5, 100000])
 (.seq (.seq (.reg 3 [⟨some 10, .move (.t 0), none, []⟩,
  ⟨some 11, .call n_thicketref10_reading_next [(.t 10)] [52], none, [10]⟩,
  ⟨some 12, .bin .eql 5 (.t 11) (.c (Value.int IntKind.u8 93)) 5, none, [11]⟩] none [0, 1, 4, 5, 12, 100000])
 (.cond [0, 1, 4, 5, 100000] (.t 12) (.seq (.reg 4 [⟨some 13, .move (.t 0), none, []⟩,
  ⟨some 14, .nilck (.t 13), none, []⟩,
  ⟨some 15, .faddr 54 (.t 14) 1 1, none, []⟩,
  ⟨some 16, .load 3 none (.t 15), none, [14, 15]⟩,
  ⟨some 17, .bin .add 3 (.t 16) (.c (Value.int IntKind.i64 1)) 3, none, [16]⟩,
  ⟨some 18, .nilck (.t 13), none, []⟩,
  ⟨some 19, .faddr 54 (.t 18) 1 1, none, []⟩,
  ⟨none, .store 3 none (.t 19) (.t 17), none, [0, 13, 17, 18, 19]⟩] none [4, 5, 100000])
 (.seq (.reg 5 [⟨some 20, .load 27 (some 4) (.t 5), none, []⟩,
  ⟨none, .store 27 (some 4) (.t 4) (.t 20), none, [5, 20]⟩] none [4, 100000])
 .ret)) .skip))
 k4_thicketref10_reading_list))))
def a_thicketref10_reading_list : AFunc := ⟨51, [.cell 4 27 (some 4)], b_thicketref10_reading_list⟩

def j0_thicketref10_reading_object : IR :=
 (.reg 12 [⟨some 43, .move (.t 8), none, []⟩,
  ⟨some 44, .bin .add 3 (.t 43) (.c (Value.int IntKind.i64 1)) 3, none, [43]⟩,
  ⟨some 8, .assign (.t 44), none, [44]⟩] none [0, 1, 4, 5, 6, 7, 8, 100000])
def k0_thicketref10_reading_object : IR := .tail [0, 1, 4, 5, 6, 7, 8, 100000] j0_thicketref10_reading_object
def j1_thicketref10_reading_object : IR :=
 (.seq (.block 3 (.seq (.reg 13 [⟨some 45, .faddr 27 (.t 5) 2 2, none, []⟩,
  ⟨some 46, .load 24 none (.t 45), none, []⟩,
  ⟨some 47, .move (.t 8), none, []⟩,
  ⟨some 48, .iaddr 24 (.sl 1) (.t 46) (.t 47), none, []⟩,
  ⟨some 49, .load 9 none (.t 48), none, [45, 46, 47, 48]⟩,
  ⟨some 50, .move (.t 7), none, []⟩,
  ⟨some 51, .bin .eql 9 (.t 49) (.t 50) 9, none, [49, 50]⟩] none [0, 1, 4, 5, 6, 7, 8, 51, 100000])
 (.cond [0, 1, 4, 5, 6, 7, 8, 100000] (.t 51) (.reg 14 [⟨some 52, .move (.t 0), none, []⟩,
  ⟨some 53, .move (.t 6), none, []⟩,
  ⟨some 54, .call n_thicketref10_reading_fail [(.t 52), (.c (Value.int IntKind.i64 102)), (.t 53)] [52, 28, 3], none, [52, 53, 54]⟩] none [0, 1, 4, 5, 6, 7, 8, 100000]) .skip)))
 k0_thicketref10_reading_object)
def k1_thicketref10_reading_object : IR := .tail [0, 1, 4, 5, 6, 7, 8, 100000] j1_thicketref10_reading_object
def w1_thicketref10_reading_object : IR :=
 (.seq (.seq (.reg 11 [⟨some 34, .move (.t 8), none, []⟩,
  ⟨some 35, .faddr 27 (.t 5) 2 2, none, []⟩,
  ⟨some 36, .load 24 none (.t 35), none, []⟩,
  ⟨some 37, .len 24 false (.t 36), none, [35, 36]⟩,
  ⟨some 38, .bin .lss 3 (.t 34) (.t 37) 3, none, [34, 37]⟩,
  ⟨some 39, .move (.t 38), none, [38]⟩,
  ⟨some 40, .move (.t 0), some (5, true), []⟩,
  ⟨some 41, .call n_thicketref10_reading_ok [(.t 40)] [52], some (5, true), [40]⟩,
  ⟨some 42, .pick (.t 39) (.t 41) (.c (Value.bool false)), none, [39, 41]⟩] none [0, 1, 4, 5, 6, 7, 8, 42, 100000])
 (.cond [0, 1, 4, 5, 6, 7, 8, 100000] (.t 42) .skip (.exit 2)))
 k1_thicketref10_reading_object)
def l1_thicketref10_reading_object : IR := .loop [0, 1, 4, 5, 6, 7, 8, 100000] w1_thicketref10_reading_object
def j2_thicketref10_reading_object : IR :=
 (.reg 26 [⟨some 93, .move (.t 0), none, []⟩,
  ⟨some 94, .call n_thicketref10_reading_must [(.t 93), (.c (Value.string { data := #[44] }))] [52, 9], none, [93, 94]⟩] none [0, 1, 4, 5, 100000])
def k2_thicketref10_reading_object : IR := .tail [0, 1, 4, 5, 100000] j2_thicketref10_reading_object
def j3_thicketref10_reading_object : IR :=
 (.seq (.seq (.reg 23 [⟨some 82, .move (.t 0), none, []⟩,
  ⟨some 83, .call n_thicketref10_reading_next [(.t 82)] [52], none, [82]⟩,
  ⟨some 84, .bin .eql 5 (.t 83) (.c (Value.int IntKind.u8 125)) 5, none, [83]⟩] none [0, 1, 4, 5, 84, 100000])
 (.cond [0, 1, 4, 5, 100000] (.t 84) (.seq (.reg 24 [⟨some 85, .move (.t 0), none, []⟩,
  ⟨some 86, .nilck (.t 85), none, []⟩,
  ⟨some 87, .faddr 54 (.t 86) 1 1, none, []⟩,
  ⟨some 88, .load 3 none (.t 87), none, [86, 87]⟩,
  ⟨some 89, .bin .add 3 (.t 88) (.c (Value.int IntKind.i64 1)) 3, none, [88]⟩,
  ⟨some 90, .nilck (.t 85), none, []⟩,
  ⟨some 91, .faddr 54 (.t 90) 1 1, none, []⟩,
  ⟨none, .store 3 none (.t 91) (.t 89), none, [0, 85, 89, 90, 91]⟩] none [4, 5, 100000])
 (.seq (.reg 25 [⟨some 92, .load 27 (some 4) (.t 5), none, []⟩,
  ⟨none, .store 27 (some 4) (.t 4) (.t 92), none, [5, 92]⟩] none [4, 100000])
 .ret)) .skip))
 k2_thicketref10_reading_object)
def k3_thicketref10_reading_object : IR := .tail [0, 1, 4, 5, 100000] j3_thicketref10_reading_object
def j4_thicketref10_reading_object : IR :=
 (.seq (.reg 18 [⟨some 62, .move (.t 0), none, []⟩,
  ⟨some 63, .move (.t 1), none, []⟩,
  ⟨some 64, .call n_thicketref10_reading_value [(.t 62), (.t 63)] [52, 3], none, [62, 63]⟩,
  ⟨some 9, .alloc 27 [.v (.int .u8 0), .v (.string ⟨#[]⟩), .nil 1, .nil 4], none, []⟩,
  ⟨none, .store 27 (some 4) (.t 9) (.t 64), none, [64]⟩] none [0, 1, 4, 5, 7, 9, 100000])
 (.seq (.reg 19 [⟨some 65, .faddr 27 (.t 5) 2 2, none, []⟩,
  ⟨some 66, .load 24 none (.t 65), none, []⟩,
  ⟨some 67, .move (.t 7), none, [7]⟩,
  ⟨some 68, .lit 24 1 [(.t 67)], none, [67]⟩,
  ⟨some 69, .append 24 24 false 1 16 (.t 66) (.t 68), none, [65, 66, 68]⟩,
  ⟨some 70, .faddr 27 (.t 5) 2 2, none, []⟩,
  ⟨none, .store 24 none (.t 70) (.t 69), none, [69, 70]⟩] none [0, 1, 4, 5, 9, 100000])
 (.seq (.reg 20 [⟨some 71, .faddr 27 (.t 5) 3 3, none, []⟩,
  ⟨some 72, .load 25 none (.t 71), none, []⟩,
  ⟨some 73, .load 27 (some 4) (.t 9), none, []⟩,
  ⟨some 74, .lit 25 4 [(.t 73)], none, [9, 73]⟩,
  ⟨some 75, .append 25 25 false 4 72 (.t 72) (.t 74), none, [71, 72, 74]⟩,
  ⟨some 76, .faddr 27 (.t 5) 3 3, none, []⟩,
  ⟨none, .store 25 none (.t 76) (.t 75), none, [75, 76]⟩] none [0, 1, 4, 5, 100000])
 (.seq (.reg 21 [⟨some 77, .move (.t 0), none, []⟩,
  ⟨some 78, .call n_thicketref10_reading_blanks [(.t 77)] [52], none, [77, 78]⟩] none [0, 1, 4, 5, 100000])
 (.seq (.seq (.reg 22 [⟨some 79, .move (.t 0), none, []⟩,
  ⟨some 80, .call n_thicketref10_reading_ok [(.t 79)] [52], none, [79]⟩,
  ⟨some 81, .un .not 4 (.t 80), none, [80]⟩] none [0, 1, 4, 5, 81, 100000])
 (.cond [0, 1, 4, 5, 100000] (.t 81) (.exit 0) .skip))
 k3_thicketref10_reading_object)))))
def k4_thicketref10_reading_object : IR := .tail [0, 1, 4, 5, 7, 100000] j4_thicketref10_reading_object
def j5_thicketref10_reading_object : IR :=
 (.seq (.reg 15 [⟨some 55, .move (.t 0), none, []⟩,
  ⟨some 56, .call n_thicketref10_reading_blanks [(.t 55)] [52], none, [55, 56]⟩] none [0, 1, 4, 5, 7, 100000])
 (.seq (.reg 16 [⟨some 57, .move (.t 0), none, []⟩,
  ⟨some 58, .call n_thicketref10_reading_must [(.t 57), (.c (Value.string { data := #[58] }))] [52, 9], none, [57, 58]⟩] none [0, 1, 4, 5, 7, 100000])
 (.seq (.seq (.reg 17 [⟨some 59, .move (.t 0), none, []⟩,
  ⟨some 60, .call n_thicketref10_reading_ok [(.t 59)] [52], none, [59]⟩,
  ⟨some 61, .un .not 4 (.t 60), none, [60]⟩] none [0, 1, 4, 5, 7, 61, 100000])
 (.cond [0, 1, 4, 5, 7, 100000] (.t 61) (.exit 0) .skip))
 k4_thicketref10_reading_object)))
def k5_thicketref10_reading_object : IR := .tail [0, 1, 4, 5, 7, 100000] j5_thicketref10_reading_object
def j6_thicketref10_reading_object : IR :=
 (.block 1 (.seq (.reg 7 [⟨some 26, .move (.t 0), none, []⟩,
  ⟨some 27, .call n_thicketref10_reading_blanks [(.t 26)] [52], none, [26, 27]⟩] none [0, 1, 4, 5, 100000])
 (.seq (.reg 8 [⟨some 28, .move (.t 0), none, []⟩,
  ⟨some 29, .nilck (.t 28), none, []⟩,
  ⟨some 30, .faddr 54 (.t 29) 1 1, none, []⟩,
  ⟨some 31, .load 3 none (.t 30), none, [28, 29, 30]⟩,
  ⟨some 6, .assign (.t 31), none, [31]⟩] none [0, 1, 4, 5, 6, 100000])
 (.seq (.reg 9 [⟨some 32, .move (.t 0), none, []⟩,
  ⟨some 33, .call n_thicketref10_reading_text [(.t 32)] [52], none, [32]⟩,
  ⟨some 7, .assign (.t 33), none, [33]⟩] none [0, 1, 4, 5, 6, 7, 100000])
 (.seq (.seq (.reg 10 [⟨some 8, .assign (.c (Value.int IntKind.i64 0)), none, []⟩] none [0, 1, 4, 5, 6, 7, 8, 100000])
 (.block 2 l1_thicketref10_reading_object))
 k5_thicketref10_reading_object)))))
def k6_thicketref10_reading_object : IR := .tail [0, 1, 4, 5, 100000] j6_thicketref10_reading_object
def w0_thicketref10_reading_object : IR :=
 (.seq (.seq (.reg 6 [⟨some 24, .move (.t 0), none, []⟩,
  ⟨some 25, .call n_thicketref10_reading_ok [(.t 24)] [52], none, [24]⟩] none [0, 1, 4, 5, 25, 100000])
 (.cond [0, 1, 4, 5, 100000] (.t 25) .skip (.exit 0)))
 k6_thicketref10_reading_object)
def l0_thicketref10_reading_object : IR := .loop [0, 1, 4, 5, 100000] w0_thicketref10_reading_object
def j7_thicketref10_reading_object : IR :=
 (.seq (.reg 27 [⟨some 95, .load 27 (some 4) (.t 5), none, []⟩,
  ⟨none, .store 27 (some 4) (.t 4) (.t 95), none, [5, 95]⟩] none [4, 100000])
 .ret)
def k7_thicketref10_reading_object : IR := .tail [4, 5, 100000] j7_thicketref10_reading_object
def j8_thicketref10_reading_object : IR :=
 (.seq (.block 0 l0_thicketref10_reading_object)
 k7_thicketref10_reading_object)
def k8_thicketref10_reading_object : IR := .tail [0, 1, 4, 5, 100000] j8_thicketref10_reading_object
def b_thicketref10_reading_object : IR :=
 (.seq (.reg 0 [⟨some 4, .alloc 27 [.v (.int .u8 0), .v (.string ⟨#[]⟩), .nil 1, .nil 4], none, []⟩] none [0, 1, 4, 100000])
 (.seq (.reg 1 [⟨some 10, .build 27 [(0, 1), (1, 1), (2, 1), (3, 1)] [.v (.int .u8 0), .v (.string ⟨#[]⟩), .nil 1, .nil 4] [(0, (.c (Value.int IntKind.u8 7)))], none, []⟩,
  ⟨some 5, .alloc 27 [.v (.int .u8 0), .v (.string ⟨#[]⟩), .nil 1, .nil 4], none, []⟩,
  ⟨none, .store 27 (some 4) (.t 5) (.t 10), none, [10]⟩] none [0, 1, 4, 5, 100000])
 (.seq (.reg 2 [⟨some 11, .move (.t 0), none, []⟩,
  ⟨some 12, .call n_thicketref10_reading_blanks [(.t 11)] [52], none, [11, 12]⟩] none [0, 1, 4, 5, 100000])
 (.seq (.seq (.reg 3 [⟨some 13, .move (.t 0), none, []⟩,
  ⟨some 14, .call n_thicketref10_reading_next [(.t 13)] [52], none, [13]⟩,
  ⟨some 15, .bin .eql 5 (.t 14) (.c (Value.int IntKind.u8 125)) 5, none, [14]⟩] none [0, 1, 4, 5, 15, 100000])
 (.cond [0, 1, 4, 5, 100000] (.t 15) (.seq (.reg 4 [⟨some 16, .move (.t 0), none, []⟩,
  ⟨some 17, .nilck (.t 16), none, []⟩,
  ⟨some 18, .faddr 54 (.t 17) 1 1, none, []⟩,
  ⟨some 19, .load 3 none (.t 18), none, [17, 18]⟩,
  ⟨some 20, .bin .add 3 (.t 19) (.c (Value.int IntKind.i64 1)) 3, none, [19]⟩,
  ⟨some 21, .nilck (.t 16), none, []⟩,
  ⟨some 22, .faddr 54 (.t 21) 1 1, none, []⟩,
  ⟨none, .store 3 none (.t 22) (.t 20), none, [0, 16, 20, 21, 22]⟩] none [4, 5, 100000])
 (.seq (.reg 5 [⟨some 23, .load 27 (some 4) (.t 5), none, []⟩,
  ⟨none, .store 27 (some 4) (.t 4) (.t 23), none, [5, 23]⟩] none [4, 100000])
 .ret)) .skip))
 k8_thicketref10_reading_object))))
def a_thicketref10_reading_object : AFunc := ⟨96, [.cell 4 27 (some 4)], b_thicketref10_reading_object⟩

def j0_thicketref10_reading_value : IR :=
 (.seq (.reg 30 [⟨some 106, .move (.t 0), none, []⟩,
  ⟨some 107, .move (.t 1), none, [1]⟩,
  ⟨some 108, .bin .add 3 (.t 107) (.c (Value.int IntKind.i64 1)) 3, none, [107]⟩,
  ⟨some 109, .call n_thicketref10_reading_object [(.t 106), (.t 108)] [52, 3], none, [0, 106, 108]⟩,
  ⟨none, .store 27 (some 4) (.t 4) (.t 109), none, [109]⟩] none [4, 100000])
 .ret)
def k0_thicketref10_reading_value : IR := .tail [0, 1, 4, 100000] j0_thicketref10_reading_value
def j1_thicketref10_reading_value : IR :=
 (.seq (.reg 27 [⟨some 93, .move (.t 0), none, []⟩,
  ⟨some 94, .nilck (.t 93), none, []⟩,
  ⟨some 95, .faddr 54 (.t 94) 1 1, none, []⟩,
  ⟨some 96, .load 3 none (.t 95), none, [94, 95]⟩,
  ⟨some 97, .bin .add 3 (.t 96) (.c (Value.int IntKind.i64 1)) 3, none, [96]⟩,
  ⟨some 98, .nilck (.t 93), none, []⟩,
  ⟨some 99, .faddr 54 (.t 98) 1 1, none, []⟩,
  ⟨none, .store 3 none (.t 99) (.t 97), none, [93, 97, 98, 99]⟩] none [0, 1, 4, 5, 100000])
 (.seq (.seq (.reg 28 [⟨some 100, .move (.t 5), none, [5]⟩,
  ⟨some 101, .bin .eql 5 (.t 100) (.c (Value.int IntKind.u8 91)) 5, none, [100]⟩] none [0, 1, 4, 101, 100000])
 (.cond [0, 1, 4, 100000] (.t 101) (.seq (.reg 29 [⟨some 102, .move (.t 0), none, []⟩,
  ⟨some 103, .move (.t 1), none, [1]⟩,
  ⟨some 104, .bin .add 3 (.t 103) (.c (Value.int IntKind.i64 1)) 3, none, [103]⟩,
  ⟨some 105, .call n_thicketref10_reading_list [(.t 102), (.t 104)] [52, 3], none, [0, 102, 104]⟩,
  ⟨none, .store 27 (some 4) (.t 4) (.t 105), none, [105]⟩] none [4, 100000])
 .ret) .skip))
 k0_thicketref10_reading_value))
def k1_thicketref10_reading_value : IR := .tail [0, 1, 4, 5, 100000] j1_thicketref10_reading_value
def j2_thicketref10_reading_value : IR :=
 (.seq (.reg 31 [⟨some 110, .move (.t 0), none, []⟩,
  ⟨some 111, .move (.t 0), none, []⟩,
  ⟨some 112, .nilck (.t 111), none, []⟩,
  ⟨some 113, .faddr 54 (.t 112) 1 1, none, []⟩,
  ⟨some 114, .load 3 none (.t 113), none, [111, 112, 113]⟩,
  ⟨some 115, .call n_thicketref10_reading_fail [(.t 110), (.c (Value.int IntKind.i64 100)), (.t 114)] [52, 28, 3], none, [0, 110, 114, 115]⟩] none [4, 100000])
 (.seq (.reg 32 [⟨some 116, .build 27 [(0, 1), (1, 1), (2, 1), (3, 1)] [.v (.int .u8 0), .v (.string ⟨#[]⟩), .nil 1, .nil 4] [], none, []⟩,
  ⟨none, .store 27 (some 4) (.t 4) (.t 116), none, [116]⟩] none [4, 100000])
 .ret))
def k2_thicketref10_reading_value : IR := .tail [0, 4, 100000] j2_thicketref10_reading_value
def j3_thicketref10_reading_value : IR :=
 (.seq (.reg 7 [⟨some 31, .move (.t 0), none, []⟩,
  ⟨some 32, .nilck (.t 31), none, []⟩,
  ⟨some 33, .faddr 54 (.t 32) 0 0, none, []⟩,
  ⟨some 34, .load 22 none (.t 33), none, []⟩,
  ⟨some 35, .move (.t 0), none, []⟩,
  ⟨some 36, .nilck (.t 35), none, []⟩,
  ⟨some 37, .faddr 54 (.t 36) 1 1, none, []⟩,
  ⟨some 38, .load 3 none (.t 37), none, [35, 36, 37]⟩,
  ⟨some 39, .iaddr 22 (.sl 1) (.t 34) (.t 38), none, []⟩,
  ⟨some 40, .load 5 none (.t 39), none, [31, 32, 33, 34, 38, 39]⟩,
  ⟨some 5, .assign (.t 40), none, [40]⟩] (some (.cons ⟨0, []⟩ (.cons ⟨1, []⟩ (.cons ⟨2, []⟩ (.cons ⟨4, []⟩ (.cons ⟨5, []⟩ (.cons ⟨6, []⟩ (.cons ⟨3, []⟩ (.cons ⟨7, []⟩ (.cons ⟨8, []⟩ (.cons ⟨9, []⟩ (.cons ⟨10, []⟩ .nil)))))))))))) [0, 1, 4, 5, 100000])
 (.seq (.block 0 (.seq (.reg 8 [⟨some 42, .move (.t 5), none, []⟩,
  ⟨some 43, .bin .eql 5 (.t 42) (.c (Value.int IntKind.u8 110)) 5, none, [42]⟩,
  ⟨some 41, .assign (.t 43), none, [43]⟩] none [0, 1, 4, 5, 41, 100000])
 (.cond [0, 1, 4, 5, 100000] (.t 41) (.seq (.reg 9 [⟨some 44, .move (.t 0), none, []⟩,
  ⟨some 45, .call n_thicketref10_reading_must [(.t 44), (.c (Value.string { data := #[110, 117, 108, 108] }))] [52, 9], none, [0, 44, 45]⟩] none [4, 100000])
 (.seq (.reg 10 [⟨some 46, .build 27 [(0, 1), (1, 1), (2, 1), (3, 1)] [.v (.int .u8 0), .v (.string ⟨#[]⟩), .nil 1, .nil 4] [(0, (.c (Value.int IntKind.u8 1)))], none, []⟩,
  ⟨none, .store 27 (some 4) (.t 4) (.t 46), none, [46]⟩] none [4, 100000])
 .ret)) (.seq (.reg 11 [⟨some 48, .move (.t 5), none, []⟩,
  ⟨some 49, .bin .eql 5 (.t 48) (.c (Value.int IntKind.u8 102)) 5, none, [48]⟩,
  ⟨some 47, .assign (.t 49), none, [49]⟩] none [0, 1, 4, 5, 47, 100000])
 (.cond [0, 1, 4, 5, 100000] (.t 47) (.seq (.reg 12 [⟨some 50, .move (.t 0), none, []⟩,
  ⟨some 51, .call n_thicketref10_reading_must [(.t 50), (.c (Value.string { data := #[102, 97, 108, 115, 101] }))] [52, 9], none, [0, 50, 51]⟩] none [4, 100000])
 (.seq (.reg 13 [⟨some 52, .build 27 [(0, 1), (1, 1), (2, 1), (3, 1)] [.v (.int .u8 0), .v (.string ⟨#[]⟩), .nil 1, .nil 4] [(0, (.c (Value.int IntKind.u8 2)))], none, []⟩,
  ⟨none, .store 27 (some 4) (.t 4) (.t 52), none, [52]⟩] none [4, 100000])
 .ret)) (.seq (.reg 14 [⟨some 54, .move (.t 5), none, []⟩,
  ⟨some 55, .bin .eql 5 (.t 54) (.c (Value.int IntKind.u8 116)) 5, none, [54]⟩,
  ⟨some 53, .assign (.t 55), none, [55]⟩] none [0, 1, 4, 5, 53, 100000])
 (.cond [0, 1, 4, 5, 100000] (.t 53) (.seq (.reg 15 [⟨some 56, .move (.t 0), none, []⟩,
  ⟨some 57, .call n_thicketref10_reading_must [(.t 56), (.c (Value.string { data := #[116, 114, 117, 101] }))] [52, 9], none, [0, 56, 57]⟩] none [4, 100000])
 (.seq (.reg 16 [⟨some 58, .build 27 [(0, 1), (1, 1), (2, 1), (3, 1)] [.v (.int .u8 0), .v (.string ⟨#[]⟩), .nil 1, .nil 4] [(0, (.c (Value.int IntKind.u8 3)))], none, []⟩,
  ⟨none, .store 27 (some 4) (.t 4) (.t 58), none, [58]⟩] none [4, 100000])
 .ret)) (.seq (.reg 17 [⟨some 60, .move (.t 5), none, []⟩,
  ⟨some 61, .bin .eql 5 (.t 60) (.c (Value.int IntKind.u8 45)) 5, none, [60]⟩,
  ⟨some 62, .move (.t 61), none, [61]⟩,
  ⟨some 63, .move (.t 5), some (2, false), []⟩,
  ⟨some 64, .call n_thicketref10_isDigit [(.t 63)] [5], some (2, false), [63]⟩,
  ⟨some 65, .pick (.t 62) (.c (Value.bool true)) (.t 64), none, [62, 64]⟩,
  ⟨some 59, .assign (.t 65), none, [65]⟩] none [0, 1, 4, 5, 59, 100000])
 (.cond [0, 1, 4, 5, 100000] (.t 59) (.seq (.reg 18 [⟨some 66, .move (.t 0), none, []⟩,
  ⟨some 67, .call n_thicketref10_reading_number [(.t 66)] [52], none, [0, 66]⟩,
  ⟨some 6, .assign (.t 67), none, [67]⟩] none [4, 6, 100000])
 (.seq (.reg 19 [⟨some 68, .move (.t 6), none, [6]⟩,
  ⟨some 69, .build 27 [(0, 1), (1, 1), (2, 1), (3, 1)] [.v (.int .u8 0), .v (.string ⟨#[]⟩), .nil 1, .nil 4] [(0, (.c (Value.int IntKind.u8 4))), (1, (.t 68))], none, []⟩,
  ⟨none, .store 27 (some 4) (.t 4) (.t 69), none, [68, 69]⟩] none [4, 100000])
 .ret)) (.seq (.reg 20 [⟨some 71, .move (.t 5), none, []⟩,
  ⟨some 72, .bin .eql 5 (.t 71) (.c (Value.int IntKind.u8 34)) 5, none, [71]⟩,
  ⟨some 70, .assign (.t 72), none, [72]⟩] none [0, 1, 4, 5, 70, 100000])
 (.cond [0, 1, 4, 5, 100000] (.t 70) (.seq (.reg 21 [⟨some 73, .move (.t 0), none, []⟩,
  ⟨some 74, .call n_thicketref10_reading_text [(.t 73)] [52], none, [0, 73]⟩,
  ⟨some 7, .assign (.t 74), none, [74]⟩] none [4, 7, 100000])
 (.seq (.reg 22 [⟨some 75, .move (.t 7), none, [7]⟩,
  ⟨some 76, .build 27 [(0, 1), (1, 1), (2, 1), (3, 1)] [.v (.int .u8 0), .v (.string ⟨#[]⟩), .nil 1, .nil 4] [(0, (.c (Value.int IntKind.u8 5))), (1, (.t 75))], none, []⟩,
  ⟨none, .store 27 (some 4) (.t 4) (.t 76), none, [75, 76]⟩] none [4, 100000])
 .ret)) (.seq (.reg 23 [⟨some 78, .move (.t 5), none, []⟩,
  ⟨some 79, .bin .eql 5 (.t 78) (.c (Value.int IntKind.u8 91)) 5, none, [78]⟩,
  ⟨some 80, .move (.t 79), none, [79]⟩,
  ⟨some 81, .move (.t 5), some (2, false), []⟩,
  ⟨some 82, .bin .eql 5 (.t 81) (.c (Value.int IntKind.u8 123)) 5, some (2, false), [81]⟩,
  ⟨some 83, .pick (.t 80) (.c (Value.bool true)) (.t 82), none, [80, 82]⟩,
  ⟨some 77, .assign (.t 83), none, [83]⟩] none [0, 1, 4, 5, 77, 100000])
 (.cond [0, 1, 4, 5, 100000] (.t 77) (.seq (.seq (.reg 24 [⟨some 84, .move (.t 1), none, []⟩,
  ⟨some 85, .bin .eql 3 (.t 84) (.c (Value.int IntKind.i64 256)) 3, none, [84]⟩] none [0, 1, 4, 5, 85, 100000])
 (.cond [0, 1, 4, 5, 100000] (.t 85) (.seq (.reg 25 [⟨some 86, .move (.t 0), none, []⟩,
  ⟨some 87, .move (.t 0), none, []⟩,
  ⟨some 88, .nilck (.t 87), none, []⟩,
  ⟨some 89, .faddr 54 (.t 88) 1 1, none, []⟩,
  ⟨some 90, .load 3 none (.t 89), none, [87, 88, 89]⟩,
  ⟨some 91, .call n_thicketref10_reading_fail [(.t 86), (.c (Value.int IntKind.i64 101)), (.t 90)] [52, 28, 3], none, [0, 86, 90, 91]⟩] none [4, 100000])
 (.seq (.reg 26 [⟨some 92, .build 27 [(0, 1), (1, 1), (2, 1), (3, 1)] [.v (.int .u8 0), .v (.string ⟨#[]⟩), .nil 1, .nil 4] [], none, []⟩,
  ⟨none, .store 27 (some 4) (.t 4) (.t 92), none, [92]⟩] none [4, 100000])
 .ret)) .skip))
 k1_thicketref10_reading_value) .skip)))))))))))))
 k2_thicketref10_reading_value))
def k3_thicketref10_reading_value : IR := .tail [0, 1, 4, 100000] j3_thicketref10_reading_value
def j4_thicketref10_reading_value : IR :=
 (.seq (.seq (.reg 4 [⟨some 14, .move (.t 0), none, []⟩,
  ⟨some 15, .nilck (.t 14), none, []⟩,
  ⟨some 16, .faddr 54 (.t 15) 1 1, none, []⟩,
  ⟨some 17, .load 3 none (.t 16), none, [14, 15, 16]⟩,
  ⟨some 18, .move (.t 0), none, []⟩,
  ⟨some 19, .nilck (.t 18), none, []⟩,
  ⟨some 20, .faddr 54 (.t 19) 0 0, none, []⟩,
  ⟨some 21, .load 22 none (.t 20), none, []⟩,
  ⟨some 22, .len 22 false (.t 21), none, [18, 19, 20, 21]⟩,
  ⟨some 23, .bin .geq 3 (.t 17) (.t 22) 3, none, [17, 22]⟩] (some (.cons ⟨0, []⟩ (.cons ⟨1, []⟩ (.cons ⟨2, []⟩ (.cons ⟨4, []⟩ (.cons ⟨5, []⟩ (.cons ⟨6, []⟩ (.cons ⟨3, []⟩ (.cons ⟨7, []⟩ (.cons ⟨8, []⟩ (.cons ⟨9, []⟩ .nil))))))))))) [0, 1, 4, 23, 100000])
 (.cond [0, 1, 4, 100000] (.t 23) (.seq (.reg 5 [⟨some 24, .move (.t 0), none, []⟩,
  ⟨some 25, .move (.t 0), none, []⟩,
  ⟨some 26, .nilck (.t 25), none, []⟩,
  ⟨some 27, .faddr 54 (.t 26) 1 1, none, []⟩,
  ⟨some 28, .load 3 none (.t 27), none, [25, 26, 27]⟩,
  ⟨some 29, .call n_thicketref10_reading_fail [(.t 24), (.c (Value.int IntKind.i64 100)), (.t 28)] [52, 28, 3], none, [0, 24, 28, 29]⟩] none [4, 100000])
 (.seq (.reg 6 [⟨some 30, .build 27 [(0, 1), (1, 1), (2, 1), (3, 1)] [.v (.int .u8 0), .v (.string ⟨#[]⟩), .nil 1, .nil 4] [], none, []⟩,
  ⟨none, .store 27 (some 4) (.t 4) (.t 30), none, [30]⟩] none [4, 100000])
 .ret)) .skip))
 k3_thicketref10_reading_value)
def k4_thicketref10_reading_value : IR := .tail [0, 1, 4, 100000] j4_thicketref10_reading_value
def b_thicketref10_reading_value : IR :=
 (.seq (.reg 0 [⟨some 4, .alloc 27 [.v (.int .u8 0), .v (.string ⟨#[]⟩), .nil 1, .nil 4], none, []⟩] none [0, 1, 4, 100000])
 (.seq (.reg 1 [⟨some 8, .move (.t 0), none, []⟩,
  ⟨some 9, .call n_thicketref10_reading_blanks [(.t 8)] [52], none, [8, 9]⟩] none [0, 1, 4, 100000])
 (.seq (.seq (.reg 2 [⟨some 10, .move (.t 0), none, []⟩,
  ⟨some 11, .call n_thicketref10_reading_ok [(.t 10)] [52], none, [10]⟩,
  ⟨some 12, .un .not 4 (.t 11), none, [11]⟩] none [0, 1, 4, 12, 100000])
 (.cond [0, 1, 4, 100000] (.t 12) (.seq (.reg 3 [⟨some 13, .build 27 [(0, 1), (1, 1), (2, 1), (3, 1)] [.v (.int .u8 0), .v (.string ⟨#[]⟩), .nil 1, .nil 4] [], none, []⟩,
  ⟨none, .store 27 (some 4) (.t 4) (.t 13), none, [13]⟩] none [4, 100000])
 .ret) .skip))
 k4_thicketref10_reading_value)))
def a_thicketref10_reading_value : AFunc := ⟨117, [.cell 4 27 (some 4)], b_thicketref10_reading_value⟩

def j0_thicketref10_Parse : IR :=
 (.seq (.reg 11 [⟨some 45, .load 27 (some 4) (.t 6), none, []⟩,
  ⟨none, .store 27 (some 4) (.t 2) (.t 45), none, [6, 45]⟩,
  ⟨some 3, .assign (.c (Value.int IntKind.i64 0)), none, []⟩,
  ⟨some 4, .assign (.c (Value.int IntKind.i64 0)), none, []⟩] none [2, 3, 4])
 .ret)
def k0_thicketref10_Parse : IR := .tail [2, 6] j0_thicketref10_Parse
def j1_thicketref10_Parse : IR :=
 (.seq (.seq (.reg 9 [⟨some 33, .move (.t 5), none, []⟩,
  ⟨some 34, .call n_thicketref10_reading_ok [(.t 33)] [52], none, [33]⟩,
  ⟨some 35, .un .not 4 (.t 34), none, [34]⟩] none [2, 5, 6, 13, 35])
 (.cond [2, 5, 6, 13] (.t 35) (.seq (.reg 10 [⟨some 36, .build 27 [(0, 1), (1, 1), (2, 1), (3, 1)] [.v (.int .u8 0), .v (.string ⟨#[]⟩), .nil 1, .nil 4] [], none, []⟩,
  ⟨some 37, .move (.t 5), none, []⟩,
  ⟨some 38, .nilck (.t 37), none, []⟩,
  ⟨some 39, .faddr 54 (.t 38) 2 2, none, []⟩,
  ⟨some 40, .load 28 none (.t 39), none, []⟩,
  ⟨some 41, .move (.t 5), none, []⟩,
  ⟨some 42, .nilck (.t 41), none, []⟩,
  ⟨some 43, .faddr 54 (.t 42) 3 3, none, []⟩,
  ⟨some 44, .load 3 none (.t 43), none, []⟩,
  ⟨none, .store 27 (some 4) (.t 2) (.t 36), none, [36, 37, 38, 39]⟩,
  ⟨some 3, .assign (.t 40), none, [5, 13, 40, 41, 42, 43]⟩,
  ⟨some 4, .assign (.t 44), none, [44]⟩] (some (.cons ⟨0, []⟩ (.cons ⟨1, []⟩ (.cons ⟨2, []⟩ (.cons ⟨3, []⟩ (.cons ⟨5, []⟩ (.cons ⟨6, []⟩ (.cons ⟨7, []⟩ (.cons ⟨4, []⟩ (.cons ⟨8, []⟩ (.cons ⟨9, [4, 8]⟩ (.cons ⟨10, [8]⟩ (.cons ⟨11, []⟩ .nil))))))))))))) [2, 3, 4])
 .ret) .skip))
 k0_thicketref10_Parse)
def k1_thicketref10_Parse : IR := .tail [2, 5, 6, 13] j1_thicketref10_Parse
def j2_thicketref10_Parse : IR :=
 (.seq (.reg 3 [⟨some 11, .move (.t 0), none, []⟩,
  ⟨some 12, .build 54 [(0, 1), (1, 1), (2, 1), (3, 1)] [.nil 1, .v (.int .i64 0), .v (.int .i64 0), .v (.int .i64 0)] [(0, (.t 11))], none, []⟩,
  ⟨some 13, .box 54 (.t 12), none, [11, 12]⟩,
  ⟨some 5, .assign (.t 13), none, []⟩] none [0, 2, 5, 13])
 (.seq (.reg 4 [⟨some 14, .move (.t 5), none, []⟩,
  ⟨some 15, .call n_thicketref10_reading_value [(.t 14), (.c (Value.int IntKind.i64 0))] [52, 3], none, [14]⟩,
  ⟨some 6, .alloc 27 [.v (.int .u8 0), .v (.string ⟨#[]⟩), .nil 1, .nil 4], none, []⟩,
  ⟨none, .store 27 (some 4) (.t 6) (.t 15), none, [15]⟩] none [0, 2, 5, 6, 13])
 (.seq (.seq (.reg 5 [⟨some 16, .move (.t 5), none, []⟩,
  ⟨some 17, .call n_thicketref10_reading_ok [(.t 16)] [52], none, [16]⟩] none [0, 2, 5, 6, 13, 17])
 (.cond [0, 2, 5, 6, 13] (.t 17) (.seq (.reg 6 [⟨some 18, .move (.t 5), none, []⟩,
  ⟨some 19, .call n_thicketref10_reading_blanks [(.t 18)] [52], none, [18, 19]⟩] none [0, 2, 5, 6, 13])
 (.seq (.reg 7 [⟨some 20, .move (.t 5), none, []⟩,
  ⟨some 21, .nilck (.t 20), none, []⟩,
  ⟨some 22, .faddr 54 (.t 21) 1 1, none, []⟩,
  ⟨some 23, .load 3 none (.t 22), none, [20, 21, 22]⟩,
  ⟨some 24, .move (.t 0), none, []⟩,
  ⟨some 25, .len 22 false (.t 24), none, [0, 24]⟩,
  ⟨some 26, .bin .lss 3 (.t 23) (.t 25) 3, none, [23, 25]⟩] none [2, 5, 6, 13, 26])
 (.cond [2, 5, 6, 13] (.t 26) (.reg 8 [⟨some 27, .move (.t 5), none, []⟩,
  ⟨some 28, .move (.t 5), none, []⟩,
  ⟨some 29, .nilck (.t 28), none, []⟩,
  ⟨some 30, .faddr 54 (.t 29) 1 1, none, []⟩,
  ⟨some 31, .load 3 none (.t 30), none, [28, 29, 30]⟩,
  ⟨some 32, .call n_thicketref10_reading_fail [(.t 27), (.c (Value.int IntKind.i64 100)), (.t 31)] [52, 28, 3], none, [27, 31, 32]⟩] none [2, 5, 6, 13]) .skip))) .skip))
 k1_thicketref10_Parse)))
def k2_thicketref10_Parse : IR := .tail [0, 2] j2_thicketref10_Parse
def b_thicketref10_Parse : IR :=
 (.seq (.reg 0 [⟨some 2, .alloc 27 [.v (.int .u8 0), .v (.string ⟨#[]⟩), .nil 1, .nil 4], none, []⟩,
  ⟨some 3, .assign (.c (Value.int IntKind.i64 0)), none, [3]⟩,
  ⟨some 4, .assign (.c (Value.int IntKind.i64 0)), none, [4]⟩] none [0, 2])
 (.seq (.seq (.reg 1 [⟨some 7, .move (.t 0), none, []⟩,
  ⟨some 8, .len 22 false (.t 7), none, [7]⟩,
  ⟨some 9, .bin .gtr 3 (.t 8) (.c (Value.int IntKind.i64 16777216)) 3, none, [8]⟩] none [0, 2, 9])
 (.cond [0, 2] (.t 9) (.seq (.reg 2 [⟨some 10, .build 27 [(0, 1), (1, 1), (2, 1), (3, 1)] [.v (.int .u8 0), .v (.string ⟨#[]⟩), .nil 1, .nil 4] [], none, []⟩,
  ⟨none, .store 27 (some 4) (.t 2) (.t 10), none, [10]⟩,
  ⟨some 3, .assign (.c (Value.int IntKind.i64 4)), none, []⟩,
  ⟨some 4, .assign (.c (Value.int IntKind.i64 0)), none, []⟩] none [2, 3, 4])
 .ret) .skip))
 k2_thicketref10_Parse))
def a_thicketref10_Parse : AFunc := ⟨46, [.cell 2 27 (some 4), .tmp 3, .tmp 4], b_thicketref10_Parse⟩

def j0_thicketref10_Same : IR :=
 (.reg 5 [⟨some 42, .move (.t 5), none, []⟩,
  ⟨some 43, .bin .add 3 (.t 42) (.c (Value.int IntKind.i64 1)) 3, none, [42]⟩,
  ⟨some 5, .assign (.t 43), none, [43]⟩] none [2, 3, 5])
def k0_thicketref10_Same : IR := .tail [2, 3, 5] j0_thicketref10_Same
def j1_thicketref10_Same : IR :=
 (.seq (.block 1 (.seq (.reg 6 [⟨some 44, .faddr 27 (.t 2) 2 2, none, []⟩,
  ⟨some 45, .load 24 none (.t 44), none, []⟩,
  ⟨some 46, .move (.t 5), none, []⟩,
  ⟨some 47, .iaddr 24 (.sl 1) (.t 45) (.t 46), none, []⟩,
  ⟨some 48, .load 9 none (.t 47), none, [44, 45, 46, 47]⟩,
  ⟨some 49, .faddr 27 (.t 3) 2 2, none, []⟩,
  ⟨some 50, .load 24 none (.t 49), none, []⟩,
  ⟨some 51, .move (.t 5), none, []⟩,
  ⟨some 52, .iaddr 24 (.sl 1) (.t 50) (.t 51), none, []⟩,
  ⟨some 53, .load 9 none (.t 52), none, [49, 50, 51, 52]⟩,
  ⟨some 54, .bin .neq 9 (.t 48) (.t 53) 9, none, [48, 53]⟩] (some (.cons ⟨0, []⟩ (.cons ⟨2, []⟩ (.cons ⟨5, []⟩ (.cons ⟨7, []⟩ (.cons ⟨1, []⟩ (.cons ⟨3, []⟩ (.cons ⟨4, []⟩ (.cons ⟨6, []⟩ (.cons ⟨8, []⟩ (.cons ⟨9, []⟩ (.cons ⟨10, []⟩ .nil)))))))))))) [2, 3, 5, 54])
 (.cond [2, 3, 5] (.t 54) (.seq (.reg 7 [⟨some 4, .assign (.c (Value.bool false)), none, []⟩] none [4])
 .ret) .skip)))
 k0_thicketref10_Same)
def k1_thicketref10_Same : IR := .tail [2, 3, 5] j1_thicketref10_Same
def w0_thicketref10_Same : IR :=
 (.seq (.seq (.reg 4 [⟨some 37, .move (.t 5), none, []⟩,
  ⟨some 38, .faddr 27 (.t 2) 2 2, none, []⟩,
  ⟨some 39, .load 24 none (.t 38), none, []⟩,
  ⟨some 40, .len 24 false (.t 39), none, [38, 39]⟩,
  ⟨some 41, .bin .lss 3 (.t 37) (.t 40) 3, none, [37, 40]⟩] none [2, 3, 5, 41])
 (.cond [2, 3, 5] (.t 41) .skip (.exit 0)))
 k1_thicketref10_Same)
def l0_thicketref10_Same : IR := .loop [2, 3, 5] w0_thicketref10_Same
def j2_thicketref10_Same : IR :=
 (.reg 10 [⟨some 60, .move (.t 6), none, []⟩,
  ⟨some 61, .bin .add 3 (.t 60) (.c (Value.int IntKind.i64 1)) 3, none, [60]⟩,
  ⟨some 6, .assign (.t 61), none, [61]⟩] none [2, 3, 6])
def k2_thicketref10_Same : IR := .tail [2, 3, 6] j2_thicketref10_Same
def j3_thicketref10_Same : IR :=
 (.seq (.block 3 (.seq (.reg 11 [⟨some 62, .faddr 27 (.t 2) 3 3, none, []⟩,
  ⟨some 63, .load 25 none (.t 62), none, []⟩,
  ⟨some 64, .move (.t 6), none, []⟩,
  ⟨some 65, .iaddr 25 (.sl 4) (.t 63) (.t 64), none, []⟩,
  ⟨some 66, .load 27 (some 4) (.t 65), none, []⟩,
  ⟨some 67, .faddr 27 (.t 3) 3 3, none, []⟩,
  ⟨some 68, .load 25 none (.t 67), none, []⟩,
  ⟨some 69, .move (.t 6), none, []⟩,
  ⟨some 70, .iaddr 25 (.sl 4) (.t 68) (.t 69), none, []⟩,
  ⟨some 71, .load 27 (some 4) (.t 70), none, []⟩,
  ⟨some 72, .call n_thicketref10_Same [(.t 66), (.t 71)] [27, 27], none, [62, 63, 64, 65, 66, 67, 68, 69, 70, 71]⟩,
  ⟨some 73, .un .not 4 (.t 72), none, [72]⟩] (some (.cons ⟨0, []⟩ (.cons ⟨2, []⟩ (.cons ⟨5, []⟩ (.cons ⟨7, []⟩ (.cons ⟨1, []⟩ (.cons ⟨3, []⟩ (.cons ⟨4, []⟩ (.cons ⟨6, []⟩ (.cons ⟨8, []⟩ (.cons ⟨9, []⟩ (.cons ⟨10, []⟩ (.cons ⟨11, []⟩ .nil))))))))))))) [2, 3, 6, 73])
 (.cond [2, 3, 6] (.t 73) (.seq (.reg 12 [⟨some 4, .assign (.c (Value.bool false)), none, []⟩] none [4])
 .ret) .skip)))
 k2_thicketref10_Same)
def k3_thicketref10_Same : IR := .tail [2, 3, 6] j3_thicketref10_Same
def w1_thicketref10_Same : IR :=
 (.seq (.seq (.reg 9 [⟨some 55, .move (.t 6), none, []⟩,
  ⟨some 56, .faddr 27 (.t 2) 3 3, none, []⟩,
  ⟨some 57, .load 25 none (.t 56), none, []⟩,
  ⟨some 58, .len 25 false (.t 57), none, [56, 57]⟩,
  ⟨some 59, .bin .lss 3 (.t 55) (.t 58) 3, none, [55, 58]⟩] none [2, 3, 6, 59])
 (.cond [2, 3, 6] (.t 59) .skip (.exit 2)))
 k3_thicketref10_Same)
def l1_thicketref10_Same : IR := .loop [2, 3, 6] w1_thicketref10_Same
def j4_thicketref10_Same : IR :=
 (.seq (.reg 13 [⟨some 4, .assign (.c (Value.bool true)), none, []⟩] none [4])
 .ret)
def k4_thicketref10_Same : IR := .tail [] j4_thicketref10_Same
def j5_thicketref10_Same : IR :=
 (.seq (.seq (.reg 8 [⟨some 6, .assign (.c (Value.int IntKind.i64 0)), none, []⟩] none [2, 3, 6])
 (.block 2 l1_thicketref10_Same))
 k4_thicketref10_Same)
def k5_thicketref10_Same : IR := .tail [2, 3] j5_thicketref10_Same
def j6_thicketref10_Same : IR :=
 (.seq (.seq (.reg 3 [⟨some 5, .assign (.c (Value.int IntKind.i64 0)), none, []⟩] none [2, 3, 5])
 (.block 0 l0_thicketref10_Same))
 k5_thicketref10_Same)
def k6_thicketref10_Same : IR := .tail [2, 3] j6_thicketref10_Same
def b_thicketref10_Same : IR :=
 (.seq (.reg 0 [⟨some 2, .box 27 (.t 0), none, [0]⟩,
  ⟨some 3, .box 27 (.t 1), none, [1]⟩,
  ⟨some 4, .assign (.c (Value.bool false)), none, [4]⟩] none [2, 3])
 (.seq (.seq (.reg 1 [⟨some 7, .faddr 27 (.t 2) 0 0, none, []⟩,
  ⟨some 8, .load 23 none (.t 7), none, [7]⟩,
  ⟨some 9, .faddr 27 (.t 3) 0 0, none, []⟩,
  ⟨some 10, .load 23 none (.t 9), none, [9]⟩,
  ⟨some 11, .bin .neq 23 (.t 8) (.t 10) 23, none, [8, 10]⟩,
  ⟨some 12, .move (.t 11), none, [11]⟩,
  ⟨some 13, .faddr 27 (.t 2) 1 1, some (5, false), []⟩,
  ⟨some 14, .load 9 none (.t 13), some (5, false), [13]⟩,
  ⟨some 15, .faddr 27 (.t 3) 1 1, some (5, false), []⟩,
  ⟨some 16, .load 9 none (.t 15), some (5, false), [15]⟩,
  ⟨some 17, .bin .neq 9 (.t 14) (.t 16) 9, some (5, false), [14, 16]⟩,
  ⟨some 18, .pick (.t 12) (.c (Value.bool true)) (.t 17), none, [12, 17]⟩,
  ⟨some 19, .move (.t 18), none, [18]⟩,
  ⟨some 20, .faddr 27 (.t 2) 2 2, some (12, false), []⟩,
  ⟨some 21, .load 24 none (.t 20), some (12, false), []⟩,
  ⟨some 22, .len 24 false (.t 21), some (12, false), [20, 21]⟩,
  ⟨some 23, .faddr 27 (.t 3) 2 2, some (12, false), []⟩,
  ⟨some 24, .load 24 none (.t 23), some (12, false), []⟩,
  ⟨some 25, .len 24 false (.t 24), some (12, false), [23, 24]⟩,
  ⟨some 26, .bin .neq 3 (.t 22) (.t 25) 3, some (12, false), [22, 25]⟩,
  ⟨some 27, .pick (.t 19) (.c (Value.bool true)) (.t 26), none, [19, 26]⟩,
  ⟨some 28, .move (.t 27), none, [27]⟩,
  ⟨some 29, .faddr 27 (.t 2) 3 3, some (21, false), []⟩,
  ⟨some 30, .load 25 none (.t 29), some (21, false), []⟩,
  ⟨some 31, .len 25 false (.t 30), some (21, false), [29, 30]⟩,
  ⟨some 32, .faddr 27 (.t 3) 3 3, some (21, false), []⟩,
  ⟨some 33, .load 25 none (.t 32), some (21, false), []⟩,
  ⟨some 34, .len 25 false (.t 33), some (21, false), [32, 33]⟩,
  ⟨some 35, .bin .neq 3 (.t 31) (.t 34) 3, some (21, false), [31, 34]⟩,
  ⟨some 36, .pick (.t 28) (.c (Value.bool true)) (.t 35), none, [28, 35]⟩] none [2, 3, 36])
 (.cond [2, 3] (.t 36) (.seq (.reg 2 [⟨some 4, .assign (.c (Value.bool false)), none, []⟩] none [4])
 .ret) .skip))
 k6_thicketref10_Same))
def a_thicketref10_Same : AFunc := ⟨74, [.tmp 4], b_thicketref10_Same⟩

def b_thicketlaw10_JsonParses : IR :=
 (.seq (.reg 0 [⟨some 2, .assign (.c (Value.bool false)), none, [2]⟩] none [0])
 (.seq (.reg 1 [⟨some 10, .lit 22 1 [], none, []⟩,
  ⟨some 11, .move (.t 0), none, []⟩,
  ⟨some 12, .append 22 22 false 1 1 (.t 10) (.t 11), none, [10, 11]⟩,
  ⟨some 3, .assign (.t 12), none, []⟩] none [0, 3, 12])
 (.seq (.reg 2 [⟨some 14, .move (.t 3), none, []⟩,
  ⟨some 15, .call n_json_Parse [(.t 14)] [22], none, [14]⟩,
  ⟨some 13, .move (.t 15), none, []⟩,
  ⟨some 16, .extr (.t 13) 0, none, []⟩,
  ⟨some 17, .extr (.t 13) 1, none, []⟩,
  ⟨some 18, .extr (.t 13) 2, none, []⟩,
  ⟨some 4, .alloc 27 [.v (.int .u8 0), .v (.string ⟨#[]⟩), .nil 1, .nil 4], none, []⟩,
  ⟨none, .store 27 (some 4) (.t 4) (.t 16), none, [13, 15, 16]⟩,
  ⟨some 5, .assign (.t 17), none, [17]⟩,
  ⟨some 6, .assign (.t 18), none, [18]⟩] none [0, 3, 4, 5, 6, 12])
 (.seq (.reg 3 [⟨some 20, .move (.t 0), none, []⟩,
  ⟨some 21, .call n_thicketref10_Parse [(.t 20)] [22], none, [20]⟩,
  ⟨some 19, .move (.t 21), none, []⟩,
  ⟨some 22, .extr (.t 19) 0, none, []⟩,
  ⟨some 23, .extr (.t 19) 1, none, []⟩,
  ⟨some 24, .extr (.t 19) 2, none, []⟩,
  ⟨some 7, .alloc 27 [.v (.int .u8 0), .v (.string ⟨#[]⟩), .nil 1, .nil 4], none, []⟩,
  ⟨none, .store 27 (some 4) (.t 7) (.t 22), none, [19, 21, 22]⟩,
  ⟨some 8, .assign (.t 23), none, [23]⟩,
  ⟨some 9, .assign (.t 24), none, [24]⟩] none [0, 3, 4, 5, 6, 7, 8, 9, 12])
 (.seq (.reg 4 [⟨some 25, .load 27 (some 4) (.t 4), none, []⟩,
  ⟨some 26, .load 27 (some 4) (.t 7), none, []⟩,
  ⟨some 27, .call n_thicketref10_Same [(.t 25), (.t 26)] [27, 27], none, [4, 7, 25, 26]⟩,
  ⟨some 28, .move (.t 27), none, [27]⟩,
  ⟨some 29, .move (.t 5), some (3, true), [5]⟩,
  ⟨some 30, .move (.t 8), some (3, true), [8]⟩,
  ⟨some 31, .bin .eql 28 (.t 29) (.t 30) 28, some (3, true), [29, 30]⟩,
  ⟨some 32, .pick (.t 28) (.t 31) (.c (Value.bool false)), none, [28, 31]⟩,
  ⟨some 33, .move (.t 32), none, [32]⟩,
  ⟨some 34, .move (.t 6), some (8, true), [6]⟩,
  ⟨some 35, .move (.t 9), some (8, true), [9]⟩,
  ⟨some 36, .bin .eql 3 (.t 34) (.t 35) 3, some (8, true), [34, 35]⟩,
  ⟨some 37, .pick (.t 33) (.t 36) (.c (Value.bool false)), none, [33, 36]⟩,
  ⟨some 38, .move (.t 37), none, [37]⟩,
  ⟨some 39, .move (.t 3), some (13, true), []⟩,
  ⟨some 40, .conv 22 9 .bytes (.t 39), some (13, true), [3, 12, 39]⟩,
  ⟨some 41, .move (.t 0), some (13, true), []⟩,
  ⟨some 42, .conv 22 9 .bytes (.t 41), some (13, true), [0, 41]⟩,
  ⟨some 43, .bin .eql 9 (.t 40) (.t 42) 9, some (13, true), [40, 42]⟩,
  ⟨some 44, .pick (.t 38) (.t 43) (.c (Value.bool false)), none, [38, 43]⟩,
  ⟨some 2, .assign (.t 44), none, [44]⟩] none [2])
 .ret)))))
def a_thicketlaw10_JsonParses : AFunc := ⟨45, [.tmp 2], b_thicketlaw10_JsonParses⟩

def fnTab : List (FuncId × AFunc) := [(n_json_Parse_1, a_json_Parse_1), (n_json_reader_blanks, a_json_reader_blanks), (n_json_reader_fail, a_json_reader_fail), (n_json_reader_byte, a_json_reader_byte), (n_json_reader_want, a_json_reader_want), (n_stringslite_IndexByte, a_stringslite_IndexByte), (n_strings_IndexByte, a_strings_IndexByte), (n_json_reader_four, a_json_reader_four), (n_json_reader_cutOff, a_json_reader_cutOff), (n_json_reader_escape, a_json_reader_escape), (n_utf8_decodeRuneSlow, a_utf8_decodeRuneSlow), (n_utf8_DecodeRune, a_utf8_DecodeRune), (n_json_reader_text, a_json_reader_text), (n_json_reader_takes, a_json_reader_takes), (n_json_reader_list, a_json_reader_list), (n_json_reader_object, a_json_reader_object), (n_json_reader_digit, a_json_reader_digit), (n_json_reader_digits, a_json_reader_digits), (n_json_reader_number, a_json_reader_number), (n_json_reader_value, a_json_reader_value), (n_json_Parse, a_json_Parse), (n_thicketref10_reading_ok, a_thicketref10_reading_ok), (n_thicketref10_reading_blanks, a_thicketref10_reading_blanks), (n_thicketref10_reading_fail, a_thicketref10_reading_fail), (n_thicketref10_reading_must, a_thicketref10_reading_must), (n_thicketref10_isDigit, a_thicketref10_isDigit), (n_thicketref10_reading_next, a_thicketref10_reading_next), (n_thicketref10_reading_digits, a_thicketref10_reading_digits), (n_thicketref10_reading_number, a_thicketref10_reading_number), (n_thicketref10_hex, a_thicketref10_hex), (n_thicketref10_reading_four, a_thicketref10_reading_four), (n_thicketref10_utf8, a_thicketref10_utf8), (n_thicketref10_reading_pair, a_thicketref10_reading_pair), (n_thicketref10_reading_escape, a_thicketref10_reading_escape), (n_thicketref10_Char, a_thicketref10_Char), (n_thicketref10_reading_text, a_thicketref10_reading_text), (n_thicketref10_reading_list, a_thicketref10_reading_list), (n_thicketref10_reading_object, a_thicketref10_reading_object), (n_thicketref10_reading_value, a_thicketref10_reading_value), (n_thicketref10_Parse, a_thicketref10_Parse), (n_thicketref10_Same, a_thicketref10_Same), (n_thicketlaw10_JsonParses, a_thicketlaw10_JsonParses)]
def modeTab : List (FuncId × List Bool) := [(n_json_Parse_1, []), (n_json_reader_blanks, [true]), (n_json_reader_fail, [true]), (n_json_reader_byte, [true]), (n_json_reader_want, [true, false]), (n_json_reader_four, [true]), (n_json_reader_cutOff, [true, false]), (n_json_reader_escape, [true]), (n_json_reader_text, [true]), (n_json_reader_takes, [true, false]), (n_json_reader_list, [true, false]), (n_json_reader_object, [true, false]), (n_json_reader_digit, [true]), (n_json_reader_digits, [true]), (n_json_reader_number, [true]), (n_json_reader_value, [true, false]), (n_thicketref10_reading_ok, [true]), (n_thicketref10_reading_blanks, [true]), (n_thicketref10_reading_fail, [true, false, false]), (n_thicketref10_reading_must, [true, false]), (n_thicketref10_reading_next, [true]), (n_thicketref10_reading_digits, [true]), (n_thicketref10_reading_number, [true]), (n_thicketref10_reading_four, [true]), (n_thicketref10_reading_pair, [true, false, false]), (n_thicketref10_reading_escape, [true]), (n_thicketref10_reading_text, [true]), (n_thicketref10_reading_list, [true, false]), (n_thicketref10_reading_object, [true, false]), (n_thicketref10_reading_value, [true, false])]
def G (n : Nat) : List PV := match n with | 0 => glob0 | 1 => glob1 | _ => []
def extT : Oracle := fun _ _ => none
def T : Tab := { fns := fun f => fnTab.lookup f, ext := extT, modes := fun f => (modeTab.lookup f).getD [], glob := G }
theorem fn_json_Parse_1 : T.fns n_json_Parse_1 = some a_json_Parse_1 := rfl
@[simp] theorem tl0_json_Parse_1 (e : Env) : Exec T k0_json_Parse_1 e = Exec T j0_json_Parse_1 (e.keep [0, 1, 2, 4, 100000, 100001, 100002]) := Exec_tail _ _ _
theorem run_json_Parse_1 (xs : List PV) : Cinf T n_json_Parse_1 xs = Run T a_json_Parse_1 xs := Cinf_eq rfl fn_json_Parse_1
@[simp] theorem md_json_Parse_1 : T.modes n_json_Parse_1 = [] := rfl
@[simp] theorem call_json_Parse_1 (C : Oracle) (e : Env) (xs : List PV) : call T C e n_json_Parse_1 xs = callV (callK1 C n_json_Parse_1 xs (moves e [] [] xs)) := call_modes md_json_Parse_1
@[simp] theorem callP_json_Parse_1 (C : Oracle) (e : Env) (args : List Opd) (ts : List TypeId) : evP T C e (.call n_json_Parse_1 args ts) = callP (callK1 C n_json_Parse_1 (args.map fun a => a.ev e) (moves e [] [] (args.map fun a => a.ev e))) := evP_call_modes md_json_Parse_1
theorem fn_json_reader_blanks : T.fns n_json_reader_blanks = some a_json_reader_blanks := rfl
@[simp] theorem tl0_json_reader_blanks (e : Env) : Exec T k0_json_reader_blanks e = Exec T j0_json_reader_blanks (e.keep [0, 100000]) := Exec_tail _ _ _
theorem ex0_json_reader_blanks (e : Env) : Exec T l0_json_reader_blanks e = andThen (Exec T w0_json_reader_blanks (e.keep [0, 100000])) (Exec T l0_json_reader_blanks) := Exec_loop _ _ _
theorem run_json_reader_blanks (xs : List PV) : Cinf T n_json_reader_blanks xs = Run T a_json_reader_blanks xs := Cinf_eq rfl fn_json_reader_blanks
@[simp] theorem md_json_reader_blanks : T.modes n_json_reader_blanks = [true] := rfl
@[simp] theorem call_json_reader_blanks (C : Oracle) (e : Env) (xs : List PV) : call T C e n_json_reader_blanks xs = callV (callK1 C n_json_reader_blanks xs (moves e [] [true] xs)) := call_modes md_json_reader_blanks
@[simp] theorem callP_json_reader_blanks (C : Oracle) (e : Env) (args : List Opd) (ts : List TypeId) : evP T C e (.call n_json_reader_blanks args ts) = callP (callK1 C n_json_reader_blanks (args.map fun a => a.ev e) (moves e [] [true] (args.map fun a => a.ev e))) := evP_call_modes md_json_reader_blanks
theorem fn_json_reader_fail : T.fns n_json_reader_fail = some a_json_reader_fail := rfl
theorem run_json_reader_fail (xs : List PV) : Cinf T n_json_reader_fail xs = Run T a_json_reader_fail xs := Cinf_eq rfl fn_json_reader_fail
@[simp] theorem md_json_reader_fail : T.modes n_json_reader_fail = [true] := rfl
@[simp] theorem call_json_reader_fail (C : Oracle) (e : Env) (xs : List PV) : call T C e n_json_reader_fail xs = callV (callK1 C n_json_reader_fail xs (moves e [] [true] xs)) := call_modes md_json_reader_fail
@[simp] theorem callP_json_reader_fail (C : Oracle) (e : Env) (args : List Opd) (ts : List TypeId) : evP T C e (.call n_json_reader_fail args ts) = callP (callK1 C n_json_reader_fail (args.map fun a => a.ev e) (moves e [] [true] (args.map fun a => a.ev e))) := evP_call_modes md_json_reader_fail
theorem fn_json_reader_byte : T.fns n_json_reader_byte = some a_json_reader_byte := rfl
@[simp] theorem tl0_json_reader_byte (e : Env) : Exec T k0_json_reader_byte e = Exec T j0_json_reader_byte (e.keep [0, 100000]) := Exec_tail _ _ _
theorem run_json_reader_byte (xs : List PV) : Cinf T n_json_reader_byte xs = Run T a_json_reader_byte xs := Cinf_eq rfl fn_json_reader_byte
@[simp] theorem md_json_reader_byte : T.modes n_json_reader_byte = [true] := rfl
@[simp] theorem call_json_reader_byte (C : Oracle) (e : Env) (xs : List PV) : call T C e n_json_reader_byte xs = callV (callK1 C n_json_reader_byte xs (moves e [] [true] xs)) := call_modes md_json_reader_byte
@[simp] theorem callP_json_reader_byte (C : Oracle) (e : Env) (args : List Opd) (ts : List TypeId) : evP T C e (.call n_json_reader_byte args ts) = callP (callK1 C n_json_reader_byte (args.map fun a => a.ev e) (moves e [] [true] (args.map fun a => a.ev e))) := evP_call_modes md_json_reader_byte
theorem fn_json_reader_want : T.fns n_json_reader_want = some a_json_reader_want := rfl
@[simp] theorem tl0_json_reader_want (e : Env) : Exec T k0_json_reader_want e = Exec T j0_json_reader_want (e.keep [0, 1, 6, 7, 100000]) := Exec_tail _ _ _
@[simp] theorem tl1_json_reader_want (e : Env) : Exec T k1_json_reader_want e = Exec T j1_json_reader_want (e.keep [0, 1, 6, 7, 100000]) := Exec_tail _ _ _
@[simp] theorem tl2_json_reader_want (e : Env) : Exec T k2_json_reader_want e = Exec T j2_json_reader_want (e.keep [0, 1, 6, 7, 100000]) := Exec_tail _ _ _
theorem ex0_json_reader_want (e : Env) : Exec T l0_json_reader_want e = andThen (Exec T w0_json_reader_want (e.keep [0, 1, 6, 7, 100000])) (Exec T l0_json_reader_want) := Exec_loop _ _ _
theorem run_json_reader_want (xs : List PV) : Cinf T n_json_reader_want xs = Run T a_json_reader_want xs := Cinf_eq rfl fn_json_reader_want
@[simp] theorem md_json_reader_want : T.modes n_json_reader_want = [true, false] := rfl
@[simp] theorem call_json_reader_want (C : Oracle) (e : Env) (xs : List PV) : call T C e n_json_reader_want xs = callV (callK1 C n_json_reader_want xs (moves e [] [true, false] xs)) := call_modes md_json_reader_want
@[simp] theorem callP_json_reader_want (C : Oracle) (e : Env) (args : List Opd) (ts : List TypeId) : evP T C e (.call n_json_reader_want args ts) = callP (callK1 C n_json_reader_want (args.map fun a => a.ev e) (moves e [] [true, false] (args.map fun a => a.ev e))) := evP_call_modes md_json_reader_want
theorem fn_stringslite_IndexByte : T.fns n_stringslite_IndexByte = some a_stringslite_IndexByte := rfl
theorem run_stringslite_IndexByte (xs : List PV) : Cinf T n_stringslite_IndexByte xs = Run T a_stringslite_IndexByte xs := Cinf_eq rfl fn_stringslite_IndexByte
@[simp] theorem md_stringslite_IndexByte : T.modes n_stringslite_IndexByte = [] := rfl
@[simp] theorem call_stringslite_IndexByte (C : Oracle) (e : Env) (xs : List PV) : call T C e n_stringslite_IndexByte xs = callV (callK1 C n_stringslite_IndexByte xs (moves e [] [] xs)) := call_modes md_stringslite_IndexByte
@[simp] theorem callP_stringslite_IndexByte (C : Oracle) (e : Env) (args : List Opd) (ts : List TypeId) : evP T C e (.call n_stringslite_IndexByte args ts) = callP (callK1 C n_stringslite_IndexByte (args.map fun a => a.ev e) (moves e [] [] (args.map fun a => a.ev e))) := evP_call_modes md_stringslite_IndexByte
theorem fn_strings_IndexByte : T.fns n_strings_IndexByte = some a_strings_IndexByte := rfl
theorem run_strings_IndexByte (xs : List PV) : Cinf T n_strings_IndexByte xs = Run T a_strings_IndexByte xs := Cinf_eq rfl fn_strings_IndexByte
@[simp] theorem md_strings_IndexByte : T.modes n_strings_IndexByte = [] := rfl
@[simp] theorem call_strings_IndexByte (C : Oracle) (e : Env) (xs : List PV) : call T C e n_strings_IndexByte xs = callV (callK1 C n_strings_IndexByte xs (moves e [] [] xs)) := call_modes md_strings_IndexByte
@[simp] theorem callP_strings_IndexByte (C : Oracle) (e : Env) (args : List Opd) (ts : List TypeId) : evP T C e (.call n_strings_IndexByte args ts) = callP (callK1 C n_strings_IndexByte (args.map fun a => a.ev e) (moves e [] [] (args.map fun a => a.ev e))) := evP_call_modes md_strings_IndexByte
theorem fn_json_reader_four : T.fns n_json_reader_four = some a_json_reader_four := rfl
@[simp] theorem tl0_json_reader_four (e : Env) : Exec T k0_json_reader_four e = Exec T j0_json_reader_four (e.keep [0, 3, 5, 100000]) := Exec_tail _ _ _
@[simp] theorem tl1_json_reader_four (e : Env) : Exec T k1_json_reader_four e = Exec T j1_json_reader_four (e.keep [0, 3, 5, 100000]) := Exec_tail _ _ _
@[simp] theorem tl2_json_reader_four (e : Env) : Exec T k2_json_reader_four e = Exec T j2_json_reader_four (e.keep [0, 3, 5, 100000]) := Exec_tail _ _ _
@[simp] theorem tl3_json_reader_four (e : Env) : Exec T k3_json_reader_four e = Exec T j3_json_reader_four (e.keep [3, 100000]) := Exec_tail _ _ _
theorem ex0_json_reader_four (e : Env) : Exec T l0_json_reader_four e = andThen (Exec T w0_json_reader_four (e.keep [0, 3, 5, 100000])) (Exec T l0_json_reader_four) := Exec_loop _ _ _
theorem run_json_reader_four (xs : List PV) : Cinf T n_json_reader_four xs = Run T a_json_reader_four xs := Cinf_eq rfl fn_json_reader_four
@[simp] theorem md_json_reader_four : T.modes n_json_reader_four = [true] := rfl
@[simp] theorem call_json_reader_four (C : Oracle) (e : Env) (xs : List PV) : call T C e n_json_reader_four xs = callV (callK1 C n_json_reader_four xs (moves e [] [true] xs)) := call_modes md_json_reader_four
@[simp] theorem callP_json_reader_four (C : Oracle) (e : Env) (args : List Opd) (ts : List TypeId) : evP T C e (.call n_json_reader_four args ts) = callP (callK1 C n_json_reader_four (args.map fun a => a.ev e) (moves e [] [true] (args.map fun a => a.ev e))) := evP_call_modes md_json_reader_four
theorem fn_json_reader_cutOff : T.fns n_json_reader_cutOff = some a_json_reader_cutOff := rfl
@[simp] theorem tl0_json_reader_cutOff (e : Env) : Exec T k0_json_reader_cutOff e = Exec T j0_json_reader_cutOff (e.keep [1, 100000]) := Exec_tail _ _ _
theorem run_json_reader_cutOff (xs : List PV) : Cinf T n_json_reader_cutOff xs = Run T a_json_reader_cutOff xs := Cinf_eq rfl fn_json_reader_cutOff
@[simp] theorem md_json_reader_cutOff : T.modes n_json_reader_cutOff = [true, false] := rfl
@[simp] theorem call_json_reader_cutOff (C : Oracle) (e : Env) (xs : List PV) : call T C e n_json_reader_cutOff xs = callV (callK1 C n_json_reader_cutOff xs (moves e [] [true, false] xs)) := call_modes md_json_reader_cutOff
@[simp] theorem callP_json_reader_cutOff (C : Oracle) (e : Env) (args : List Opd) (ts : List TypeId) : evP T C e (.call n_json_reader_cutOff args ts) = callP (callK1 C n_json_reader_cutOff (args.map fun a => a.ev e) (moves e [] [true, false] (args.map fun a => a.ev e))) := evP_call_modes md_json_reader_cutOff
theorem fn_json_reader_escape : T.fns n_json_reader_escape = some a_json_reader_escape := rfl
@[simp] theorem tl0_json_reader_escape (e : Env) : Exec T k0_json_reader_escape e = Exec T j0_json_reader_escape (e.keep [6, 7, 100000]) := Exec_tail _ _ _
@[simp] theorem tl1_json_reader_escape (e : Env) : Exec T k1_json_reader_escape e = Exec T j1_json_reader_escape (e.keep [0, 3, 6, 100000]) := Exec_tail _ _ _
@[simp] theorem tl2_json_reader_escape (e : Env) : Exec T k2_json_reader_escape e = Exec T j2_json_reader_escape (e.keep [0, 3, 6, 100000]) := Exec_tail _ _ _
@[simp] theorem tl3_json_reader_escape (e : Env) : Exec T k3_json_reader_escape e = Exec T j3_json_reader_escape (e.keep [0, 3, 100000]) := Exec_tail _ _ _
@[simp] theorem tl4_json_reader_escape (e : Env) : Exec T k4_json_reader_escape e = Exec T j4_json_reader_escape (e.keep [0, 3, 4, 100000]) := Exec_tail _ _ _
theorem run_json_reader_escape (xs : List PV) : Cinf T n_json_reader_escape xs = Run T a_json_reader_escape xs := Cinf_eq rfl fn_json_reader_escape
@[simp] theorem md_json_reader_escape : T.modes n_json_reader_escape = [true] := rfl
@[simp] theorem call_json_reader_escape (C : Oracle) (e : Env) (xs : List PV) : call T C e n_json_reader_escape xs = callV (callK1 C n_json_reader_escape xs (moves e [] [true] xs)) := call_modes md_json_reader_escape
@[simp] theorem callP_json_reader_escape (C : Oracle) (e : Env) (args : List Opd) (ts : List TypeId) : evP T C e (.call n_json_reader_escape args ts) = callP (callK1 C n_json_reader_escape (args.map fun a => a.ev e) (moves e [] [true] (args.map fun a => a.ev e))) := evP_call_modes md_json_reader_escape
theorem fn_utf8_decodeRuneSlow : T.fns n_utf8_decodeRuneSlow = some a_utf8_decodeRuneSlow := rfl
@[simp] theorem tl0_utf8_decodeRuneSlow (e : Env) : Exec T k0_utf8_decodeRuneSlow e = Exec T j0_utf8_decodeRuneSlow (e.keep [5, 10, 11, 12]) := Exec_tail _ _ _
@[simp] theorem tl1_utf8_decodeRuneSlow (e : Env) : Exec T k1_utf8_decodeRuneSlow e = Exec T j1_utf8_decodeRuneSlow (e.keep [0, 5, 10, 11]) := Exec_tail _ _ _
@[simp] theorem tl2_utf8_decodeRuneSlow (e : Env) : Exec T k2_utf8_decodeRuneSlow e = Exec T j2_utf8_decodeRuneSlow (e.keep [0, 5, 8, 10, 11]) := Exec_tail _ _ _
@[simp] theorem tl3_utf8_decodeRuneSlow (e : Env) : Exec T k3_utf8_decodeRuneSlow e = Exec T j3_utf8_decodeRuneSlow (e.keep [0, 5, 8, 10]) := Exec_tail _ _ _
@[simp] theorem tl4_utf8_decodeRuneSlow (e : Env) : Exec T k4_utf8_decodeRuneSlow e = Exec T j4_utf8_decodeRuneSlow (e.keep [0, 5, 8, 10]) := Exec_tail _ _ _
@[simp] theorem tl5_utf8_decodeRuneSlow (e : Env) : Exec T k5_utf8_decodeRuneSlow e = Exec T j5_utf8_decodeRuneSlow (e.keep [0, 5, 8, 9]) := Exec_tail _ _ _
@[simp] theorem tl6_utf8_decodeRuneSlow (e : Env) : Exec T k6_utf8_decodeRuneSlow e = Exec T j6_utf8_decodeRuneSlow (e.keep [0, 4, 5, 6]) := Exec_tail _ _ _
@[simp] theorem tl7_utf8_decodeRuneSlow (e : Env) : Exec T k7_utf8_decodeRuneSlow e = Exec T j7_utf8_decodeRuneSlow (e.keep [0, 4]) := Exec_tail _ _ _
theorem run_utf8_decodeRuneSlow (xs : List PV) : Cinf T n_utf8_decodeRuneSlow xs = Run T a_utf8_decodeRuneSlow xs := Cinf_eq rfl fn_utf8_decodeRuneSlow
@[simp] theorem md_utf8_decodeRuneSlow : T.modes n_utf8_decodeRuneSlow = [] := rfl
@[simp] theorem call_utf8_decodeRuneSlow (C : Oracle) (e : Env) (xs : List PV) : call T C e n_utf8_decodeRuneSlow xs = callV (callK1 C n_utf8_decodeRuneSlow xs (moves e [] [] xs)) := call_modes md_utf8_decodeRuneSlow
@[simp] theorem callP_utf8_decodeRuneSlow (C : Oracle) (e : Env) (args : List Opd) (ts : List TypeId) : evP T C e (.call n_utf8_decodeRuneSlow args ts) = callP (callK1 C n_utf8_decodeRuneSlow (args.map fun a => a.ev e) (moves e [] [] (args.map fun a => a.ev e))) := evP_call_modes md_utf8_decodeRuneSlow
theorem fn_utf8_DecodeRune : T.fns n_utf8_DecodeRune = some a_utf8_DecodeRune := rfl
@[simp] theorem tl0_utf8_DecodeRune (e : Env) : Exec T k0_utf8_DecodeRune e = Exec T j0_utf8_DecodeRune (e.keep [0, 6, 7, 8]) := Exec_tail _ _ _
@[simp] theorem tl1_utf8_DecodeRune (e : Env) : Exec T k1_utf8_DecodeRune e = Exec T j1_utf8_DecodeRune (e.keep [0, 6, 8]) := Exec_tail _ _ _
@[simp] theorem tl2_utf8_DecodeRune (e : Env) : Exec T k2_utf8_DecodeRune e = Exec T j2_utf8_DecodeRune (e.keep [0]) := Exec_tail _ _ _
theorem ex0_utf8_DecodeRune (e : Env) : Exec T l0_utf8_DecodeRune e = andThen (Exec T w0_utf8_DecodeRune (e.keep [0, 6, 7, 8])) (Exec T l0_utf8_DecodeRune) := Exec_loop _ _ _
theorem run_utf8_DecodeRune (xs : List PV) : Cinf T n_utf8_DecodeRune xs = Run T a_utf8_DecodeRune xs := Cinf_eq rfl fn_utf8_DecodeRune
@[simp] theorem md_utf8_DecodeRune : T.modes n_utf8_DecodeRune = [] := rfl
@[simp] theorem call_utf8_DecodeRune (C : Oracle) (e : Env) (xs : List PV) : call T C e n_utf8_DecodeRune xs = callV (callK1 C n_utf8_DecodeRune xs (moves e [] [] xs)) := call_modes md_utf8_DecodeRune
@[simp] theorem callP_utf8_DecodeRune (C : Oracle) (e : Env) (args : List Opd) (ts : List TypeId) : evP T C e (.call n_utf8_DecodeRune args ts) = callP (callK1 C n_utf8_DecodeRune (args.map fun a => a.ev e) (moves e [] [] (args.map fun a => a.ev e))) := evP_call_modes md_utf8_DecodeRune
theorem fn_json_reader_text : T.fns n_json_reader_text = some a_json_reader_text := rfl
@[simp] theorem tl0_json_reader_text (e : Env) : Exec T k0_json_reader_text e = Exec T j0_json_reader_text (e.keep [0, 3, 6, 53, 80, 100000]) := Exec_tail _ _ _
theorem ex0_json_reader_text (e : Env) : Exec T l0_json_reader_text e = andThen (Exec T w0_json_reader_text (e.keep [0, 3, 53, 80, 100000])) (Exec T l0_json_reader_text) := Exec_loop _ _ _
theorem run_json_reader_text (xs : List PV) : Cinf T n_json_reader_text xs = Run T a_json_reader_text xs := Cinf_eq rfl fn_json_reader_text
@[simp] theorem md_json_reader_text : T.modes n_json_reader_text = [true] := rfl
@[simp] theorem call_json_reader_text (C : Oracle) (e : Env) (xs : List PV) : call T C e n_json_reader_text xs = callV (callK1 C n_json_reader_text xs (moves e [] [true] xs)) := call_modes md_json_reader_text
@[simp] theorem callP_json_reader_text (C : Oracle) (e : Env) (args : List Opd) (ts : List TypeId) : evP T C e (.call n_json_reader_text args ts) = callP (callK1 C n_json_reader_text (args.map fun a => a.ev e) (moves e [] [true] (args.map fun a => a.ev e))) := evP_call_modes md_json_reader_text
theorem fn_json_reader_takes : T.fns n_json_reader_takes = some a_json_reader_takes := rfl
@[simp] theorem tl0_json_reader_takes (e : Env) : Exec T k0_json_reader_takes e = Exec T j0_json_reader_takes (e.keep [100000]) := Exec_tail _ _ _
theorem run_json_reader_takes (xs : List PV) : Cinf T n_json_reader_takes xs = Run T a_json_reader_takes xs := Cinf_eq rfl fn_json_reader_takes
@[simp] theorem md_json_reader_takes : T.modes n_json_reader_takes = [true, false] := rfl
@[simp] theorem call_json_reader_takes (C : Oracle) (e : Env) (xs : List PV) : call T C e n_json_reader_takes xs = callV (callK1 C n_json_reader_takes xs (moves e [] [true, false] xs)) := call_modes md_json_reader_takes
@[simp] theorem callP_json_reader_takes (C : Oracle) (e : Env) (args : List Opd) (ts : List TypeId) : evP T C e (.call n_json_reader_takes args ts) = callP (callK1 C n_json_reader_takes (args.map fun a => a.ev e) (moves e [] [true, false] (args.map fun a => a.ev e))) := evP_call_modes md_json_reader_takes
theorem fn_json_reader_list : T.fns n_json_reader_list = some a_json_reader_list := rfl
@[simp] theorem tl0_json_reader_list (e : Env) : Exec T k0_json_reader_list e = Exec T j0_json_reader_list (e.keep [0, 1, 4, 5, 100000]) := Exec_tail _ _ _
theorem ex0_json_reader_list (e : Env) : Exec T l0_json_reader_list e = andThen (Exec T w0_json_reader_list (e.keep [0, 1, 4, 5, 100000])) (Exec T l0_json_reader_list) := Exec_loop _ _ _
theorem run_json_reader_list (xs : List PV) : Cinf T n_json_reader_list xs = Run T a_json_reader_list xs := Cinf_eq rfl fn_json_reader_list
@[simp] theorem md_json_reader_list : T.modes n_json_reader_list = [true, false] := rfl
@[simp] theorem call_json_reader_list (C : Oracle) (e : Env) (xs : List PV) : call T C e n_json_reader_list xs = callV (callK1 C n_json_reader_list xs (moves e [] [true, false] xs)) := call_modes md_json_reader_list
@[simp] theorem callP_json_reader_list (C : Oracle) (e : Env) (args : List Opd) (ts : List TypeId) : evP T C e (.call n_json_reader_list args ts) = callP (callK1 C n_json_reader_list (args.map fun a => a.ev e) (moves e [] [true, false] (args.map fun a => a.ev e))) := evP_call_modes md_json_reader_list
theorem fn_json_reader_object : T.fns n_json_reader_object = some a_json_reader_object := rfl
@[simp] theorem tl0_json_reader_object (e : Env) : Exec T k0_json_reader_object e = Exec T j0_json_reader_object (e.keep [0, 1, 4, 5, 6, 10, 100000]) := Exec_tail _ _ _
@[simp] theorem tl1_json_reader_object (e : Env) : Exec T k1_json_reader_object e = Exec T j1_json_reader_object (e.keep [0, 1, 4, 5, 6, 8, 10, 100000]) := Exec_tail _ _ _
@[simp] theorem tl2_json_reader_object (e : Env) : Exec T k2_json_reader_object e = Exec T j2_json_reader_object (e.keep [0, 1, 4, 5, 6, 7, 10, 100000]) := Exec_tail _ _ _
@[simp] theorem tl3_json_reader_object (e : Env) : Exec T k3_json_reader_object e = Exec T j3_json_reader_object (e.keep [0, 1, 4, 5, 6, 10, 100000]) := Exec_tail _ _ _
theorem ex0_json_reader_object (e : Env) : Exec T l0_json_reader_object e = andThen (Exec T w0_json_reader_object (e.keep [0, 1, 4, 5, 6, 10, 100000])) (Exec T l0_json_reader_object) := Exec_loop _ _ _
theorem run_json_reader_object (xs : List PV) : Cinf T n_json_reader_object xs = Run T a_json_reader_object xs := Cinf_eq rfl fn_json_reader_object
@[simp] theorem md_json_reader_object : T.modes n_json_reader_object = [true, false] := rfl
@[simp] theorem call_json_reader_object (C : Oracle) (e : Env) (xs : List PV) : call T C e n_json_reader_object xs = callV (callK1 C n_json_reader_object xs (moves e [] [true, false] xs)) := call_modes md_json_reader_object
@[simp] theorem callP_json_reader_object (C : Oracle) (e : Env) (args : List Opd) (ts : List TypeId) : evP T C e (.call n_json_reader_object args ts) = callP (callK1 C n_json_reader_object (args.map fun a => a.ev e) (moves e [] [true, false] (args.map fun a => a.ev e))) := evP_call_modes md_json_reader_object
theorem fn_json_reader_digit : T.fns n_json_reader_digit = some a_json_reader_digit := rfl
theorem run_json_reader_digit (xs : List PV) : Cinf T n_json_reader_digit xs = Run T a_json_reader_digit xs := Cinf_eq rfl fn_json_reader_digit
@[simp] theorem md_json_reader_digit : T.modes n_json_reader_digit = [true] := rfl
@[simp] theorem call_json_reader_digit (C : Oracle) (e : Env) (xs : List PV) : call T C e n_json_reader_digit xs = callV (callK1 C n_json_reader_digit xs (moves e [] [true] xs)) := call_modes md_json_reader_digit
@[simp] theorem callP_json_reader_digit (C : Oracle) (e : Env) (args : List Opd) (ts : List TypeId) : evP T C e (.call n_json_reader_digit args ts) = callP (callK1 C n_json_reader_digit (args.map fun a => a.ev e) (moves e [] [true] (args.map fun a => a.ev e))) := evP_call_modes md_json_reader_digit
theorem fn_json_reader_digits : T.fns n_json_reader_digits = some a_json_reader_digits := rfl
@[simp] theorem tl0_json_reader_digits (e : Env) : Exec T k0_json_reader_digits e = Exec T j0_json_reader_digits (e.keep [0, 100000]) := Exec_tail _ _ _
@[simp] theorem tl1_json_reader_digits (e : Env) : Exec T k1_json_reader_digits e = Exec T j1_json_reader_digits (e.keep [0, 100000]) := Exec_tail _ _ _
theorem ex0_json_reader_digits (e : Env) : Exec T l0_json_reader_digits e = andThen (Exec T w0_json_reader_digits (e.keep [0, 100000])) (Exec T l0_json_reader_digits) := Exec_loop _ _ _
theorem run_json_reader_digits (xs : List PV) : Cinf T n_json_reader_digits xs = Run T a_json_reader_digits xs := Cinf_eq rfl fn_json_reader_digits
@[simp] theorem md_json_reader_digits : T.modes n_json_reader_digits = [true] := rfl
@[simp] theorem call_json_reader_digits (C : Oracle) (e : Env) (xs : List PV) : call T C e n_json_reader_digits xs = callV (callK1 C n_json_reader_digits xs (moves e [] [true] xs)) := call_modes md_json_reader_digits
@[simp] theorem callP_json_reader_digits (C : Oracle) (e : Env) (args : List Opd) (ts : List TypeId) : evP T C e (.call n_json_reader_digits args ts) = callP (callK1 C n_json_reader_digits (args.map fun a => a.ev e) (moves e [] [true] (args.map fun a => a.ev e))) := evP_call_modes md_json_reader_digits
theorem fn_json_reader_number : T.fns n_json_reader_number = some a_json_reader_number := rfl
@[simp] theorem tl0_json_reader_number (e : Env) : Exec T k0_json_reader_number e = Exec T j0_json_reader_number (e.keep [0, 100000]) := Exec_tail _ _ _
@[simp] theorem tl1_json_reader_number (e : Env) : Exec T k1_json_reader_number e = Exec T j1_json_reader_number (e.keep [0, 100000]) := Exec_tail _ _ _
theorem run_json_reader_number (xs : List PV) : Cinf T n_json_reader_number xs = Run T a_json_reader_number xs := Cinf_eq rfl fn_json_reader_number
@[simp] theorem md_json_reader_number : T.modes n_json_reader_number = [true] := rfl
@[simp] theorem call_json_reader_number (C : Oracle) (e : Env) (xs : List PV) : call T C e n_json_reader_number xs = callV (callK1 C n_json_reader_number xs (moves e [] [true] xs)) := call_modes md_json_reader_number
@[simp] theorem callP_json_reader_number (C : Oracle) (e : Env) (args : List Opd) (ts : List TypeId) : evP T C e (.call n_json_reader_number args ts) = callP (callK1 C n_json_reader_number (args.map fun a => a.ev e) (moves e [] [true] (args.map fun a => a.ev e))) := evP_call_modes md_json_reader_number
theorem fn_json_reader_value : T.fns n_json_reader_value = some a_json_reader_value := rfl
@[simp] theorem tl0_json_reader_value (e : Env) : Exec T k0_json_reader_value e = Exec T j0_json_reader_value (e.keep [0, 1, 4, 100000]) := Exec_tail _ _ _
@[simp] theorem tl1_json_reader_value (e : Env) : Exec T k1_json_reader_value e = Exec T j1_json_reader_value (e.keep [0, 1, 4, 5, 100000]) := Exec_tail _ _ _
@[simp] theorem tl2_json_reader_value (e : Env) : Exec T k2_json_reader_value e = Exec T j2_json_reader_value (e.keep [0, 4, 100000]) := Exec_tail _ _ _
theorem run_json_reader_value (xs : List PV) : Cinf T n_json_reader_value xs = Run T a_json_reader_value xs := Cinf_eq rfl fn_json_reader_value
@[simp] theorem md_json_reader_value : T.modes n_json_reader_value = [true, false] := rfl
@[simp] theorem call_json_reader_value (C : Oracle) (e : Env) (xs : List PV) : call T C e n_json_reader_value xs = callV (callK1 C n_json_reader_value xs (moves e [] [true, false] xs)) := call_modes md_json_reader_value
@[simp] theorem callP_json_reader_value (C : Oracle) (e : Env) (args : List Opd) (ts : List TypeId) : evP T C e (.call n_json_reader_value args ts) = callP (callK1 C n_json_reader_value (args.map fun a => a.ev e) (moves e [] [true, false] (args.map fun a => a.ev e))) := evP_call_modes md_json_reader_value
theorem fn_json_Parse : T.fns n_json_Parse = some a_json_Parse := rfl
@[simp] theorem tl0_json_Parse (e : Env) : Exec T k0_json_Parse e = Exec T j0_json_Parse (e.keep [2, 3, 4, 200000, 200001, 200002]) := Exec_tail _ _ _
@[simp] theorem tl2_json_Parse (e : Env) : Exec T k2_json_Parse e = Exec T j2_json_Parse (e.keep [0, 2, 3, 4, 200000, 200001, 200002]) := Exec_tail _ _ _
theorem run_json_Parse (xs : List PV) : Cinf T n_json_Parse xs = Run T a_json_Parse xs := Cinf_eq rfl fn_json_Parse
@[simp] theorem md_json_Parse : T.modes n_json_Parse = [] := rfl
@[simp] theorem call_json_Parse (C : Oracle) (e : Env) (xs : List PV) : call T C e n_json_Parse xs = callV (callK1 C n_json_Parse xs (moves e [] [] xs)) := call_modes md_json_Parse
@[simp] theorem callP_json_Parse (C : Oracle) (e : Env) (args : List Opd) (ts : List TypeId) : evP T C e (.call n_json_Parse args ts) = callP (callK1 C n_json_Parse (args.map fun a => a.ev e) (moves e [] [] (args.map fun a => a.ev e))) := evP_call_modes md_json_Parse
theorem fn_thicketref10_reading_ok : T.fns n_thicketref10_reading_ok = some a_thicketref10_reading_ok := rfl
theorem run_thicketref10_reading_ok (xs : List PV) : Cinf T n_thicketref10_reading_ok xs = Run T a_thicketref10_reading_ok xs := Cinf_eq rfl fn_thicketref10_reading_ok
@[simp] theorem md_thicketref10_reading_ok : T.modes n_thicketref10_reading_ok = [true] := rfl
@[simp] theorem call_thicketref10_reading_ok (C : Oracle) (e : Env) (xs : List PV) : call T C e n_thicketref10_reading_ok xs = callV (callK1 C n_thicketref10_reading_ok xs (moves e [] [true] xs)) := call_modes md_thicketref10_reading_ok
@[simp] theorem callP_thicketref10_reading_ok (C : Oracle) (e : Env) (args : List Opd) (ts : List TypeId) : evP T C e (.call n_thicketref10_reading_ok args ts) = callP (callK1 C n_thicketref10_reading_ok (args.map fun a => a.ev e) (moves e [] [true] (args.map fun a => a.ev e))) := evP_call_modes md_thicketref10_reading_ok
theorem fn_thicketref10_reading_blanks : T.fns n_thicketref10_reading_blanks = some a_thicketref10_reading_blanks := rfl
@[simp] theorem tl0_thicketref10_reading_blanks (e : Env) : Exec T k0_thicketref10_reading_blanks e = Exec T j0_thicketref10_reading_blanks (e.keep [0, 100000]) := Exec_tail _ _ _
theorem ex0_thicketref10_reading_blanks (e : Env) : Exec T l0_thicketref10_reading_blanks e = andThen (Exec T w0_thicketref10_reading_blanks (e.keep [0, 100000])) (Exec T l0_thicketref10_reading_blanks) := Exec_loop _ _ _
theorem run_thicketref10_reading_blanks (xs : List PV) : Cinf T n_thicketref10_reading_blanks xs = Run T a_thicketref10_reading_blanks xs := Cinf_eq rfl fn_thicketref10_reading_blanks
@[simp] theorem md_thicketref10_reading_blanks : T.modes n_thicketref10_reading_blanks = [true] := rfl
@[simp] theorem call_thicketref10_reading_blanks (C : Oracle) (e : Env) (xs : List PV) : call T C e n_thicketref10_reading_blanks xs = callV (callK1 C n_thicketref10_reading_blanks xs (moves e [] [true] xs)) := call_modes md_thicketref10_reading_blanks
@[simp] theorem callP_thicketref10_reading_blanks (C : Oracle) (e : Env) (args : List Opd) (ts : List TypeId) : evP T C e (.call n_thicketref10_reading_blanks args ts) = callP (callK1 C n_thicketref10_reading_blanks (args.map fun a => a.ev e) (moves e [] [true] (args.map fun a => a.ev e))) := evP_call_modes md_thicketref10_reading_blanks
theorem fn_thicketref10_reading_fail : T.fns n_thicketref10_reading_fail = some a_thicketref10_reading_fail := rfl
theorem run_thicketref10_reading_fail (xs : List PV) : Cinf T n_thicketref10_reading_fail xs = Run T a_thicketref10_reading_fail xs := Cinf_eq rfl fn_thicketref10_reading_fail
@[simp] theorem md_thicketref10_reading_fail : T.modes n_thicketref10_reading_fail = [true, false, false] := rfl
@[simp] theorem call_thicketref10_reading_fail (C : Oracle) (e : Env) (xs : List PV) : call T C e n_thicketref10_reading_fail xs = callV (callK1 C n_thicketref10_reading_fail xs (moves e [] [true, false, false] xs)) := call_modes md_thicketref10_reading_fail
@[simp] theorem callP_thicketref10_reading_fail (C : Oracle) (e : Env) (args : List Opd) (ts : List TypeId) : evP T C e (.call n_thicketref10_reading_fail args ts) = callP (callK1 C n_thicketref10_reading_fail (args.map fun a => a.ev e) (moves e [] [true, false, false] (args.map fun a => a.ev e))) := evP_call_modes md_thicketref10_reading_fail
theorem fn_thicketref10_reading_must : T.fns n_thicketref10_reading_must = some a_thicketref10_reading_must := rfl
@[simp] theorem tl0_thicketref10_reading_must (e : Env) : Exec T k0_thicketref10_reading_must e = Exec T j0_thicketref10_reading_must (e.keep [0, 1, 4, 100000]) := Exec_tail _ _ _
@[simp] theorem tl1_thicketref10_reading_must (e : Env) : Exec T k1_thicketref10_reading_must e = Exec T j1_thicketref10_reading_must (e.keep [0, 1, 4, 100000]) := Exec_tail _ _ _
@[simp] theorem tl2_thicketref10_reading_must (e : Env) : Exec T k2_thicketref10_reading_must e = Exec T j2_thicketref10_reading_must (e.keep [0, 1, 4, 100000]) := Exec_tail _ _ _
theorem ex0_thicketref10_reading_must (e : Env) : Exec T l0_thicketref10_reading_must e = andThen (Exec T w0_thicketref10_reading_must (e.keep [0, 1, 4, 100000])) (Exec T l0_thicketref10_reading_must) := Exec_loop _ _ _
theorem run_thicketref10_reading_must (xs : List PV) : Cinf T n_thicketref10_reading_must xs = Run T a_thicketref10_reading_must xs := Cinf_eq rfl fn_thicketref10_reading_must
@[simp] theorem md_thicketref10_reading_must : T.modes n_thicketref10_reading_must = [true, false] := rfl
@[simp] theorem call_thicketref10_reading_must (C : Oracle) (e : Env) (xs : List PV) : call T C e n_thicketref10_reading_must xs = callV (callK1 C n_thicketref10_reading_must xs (moves e [] [true, false] xs)) := call_modes md_thicketref10_reading_must
@[simp] theorem callP_thicketref10_reading_must (C : Oracle) (e : Env) (args : List Opd) (ts : List TypeId) : evP T C e (.call n_thicketref10_reading_must args ts) = callP (callK1 C n_thicketref10_reading_must (args.map fun a => a.ev e) (moves e [] [true, false] (args.map fun a => a.ev e))) := evP_call_modes md_thicketref10_reading_must
theorem fn_thicketref10_isDigit : T.fns n_thicketref10_isDigit = some a_thicketref10_isDigit := rfl
theorem run_thicketref10_isDigit (xs : List PV) : Cinf T n_thicketref10_isDigit xs = Run T a_thicketref10_isDigit xs := Cinf_eq rfl fn_thicketref10_isDigit
@[simp] theorem md_thicketref10_isDigit : T.modes n_thicketref10_isDigit = [] := rfl
@[simp] theorem call_thicketref10_isDigit (C : Oracle) (e : Env) (xs : List PV) : call T C e n_thicketref10_isDigit xs = callV (callK1 C n_thicketref10_isDigit xs (moves e [] [] xs)) := call_modes md_thicketref10_isDigit
@[simp] theorem callP_thicketref10_isDigit (C : Oracle) (e : Env) (args : List Opd) (ts : List TypeId) : evP T C e (.call n_thicketref10_isDigit args ts) = callP (callK1 C n_thicketref10_isDigit (args.map fun a => a.ev e) (moves e [] [] (args.map fun a => a.ev e))) := evP_call_modes md_thicketref10_isDigit
theorem fn_thicketref10_reading_next : T.fns n_thicketref10_reading_next = some a_thicketref10_reading_next := rfl
@[simp] theorem tl0_thicketref10_reading_next (e : Env) : Exec T k0_thicketref10_reading_next e = Exec T j0_thicketref10_reading_next (e.keep [100000]) := Exec_tail _ _ _
theorem run_thicketref10_reading_next (xs : List PV) : Cinf T n_thicketref10_reading_next xs = Run T a_thicketref10_reading_next xs := Cinf_eq rfl fn_thicketref10_reading_next
@[simp] theorem md_thicketref10_reading_next : T.modes n_thicketref10_reading_next = [true] := rfl
@[simp] theorem call_thicketref10_reading_next (C : Oracle) (e : Env) (xs : List PV) : call T C e n_thicketref10_reading_next xs = callV (callK1 C n_thicketref10_reading_next xs (moves e [] [true] xs)) := call_modes md_thicketref10_reading_next
@[simp] theorem callP_thicketref10_reading_next (C : Oracle) (e : Env) (args : List Opd) (ts : List TypeId) : evP T C e (.call n_thicketref10_reading_next args ts) = callP (callK1 C n_thicketref10_reading_next (args.map fun a => a.ev e) (moves e [] [true] (args.map fun a => a.ev e))) := evP_call_modes md_thicketref10_reading_next
theorem fn_thicketref10_reading_digits : T.fns n_thicketref10_reading_digits = some a_thicketref10_reading_digits := rfl
@[simp] theorem tl0_thicketref10_reading_digits (e : Env) : Exec T k0_thicketref10_reading_digits e = Exec T j0_thicketref10_reading_digits (e.keep [0, 100000]) := Exec_tail _ _ _
@[simp] theorem tl1_thicketref10_reading_digits (e : Env) : Exec T k1_thicketref10_reading_digits e = Exec T j1_thicketref10_reading_digits (e.keep [0, 100000]) := Exec_tail _ _ _
theorem ex0_thicketref10_reading_digits (e : Env) : Exec T l0_thicketref10_reading_digits e = andThen (Exec T w0_thicketref10_reading_digits (e.keep [0, 100000])) (Exec T l0_thicketref10_reading_digits) := Exec_loop _ _ _
theorem run_thicketref10_reading_digits (xs : List PV) : Cinf T n_thicketref10_reading_digits xs = Run T a_thicketref10_reading_digits xs := Cinf_eq rfl fn_thicketref10_reading_digits
@[simp] theorem md_thicketref10_reading_digits : T.modes n_thicketref10_reading_digits = [true] := rfl
@[simp] theorem call_thicketref10_reading_digits (C : Oracle) (e : Env) (xs : List PV) : call T C e n_thicketref10_reading_digits xs = callV (callK1 C n_thicketref10_reading_digits xs (moves e [] [true] xs)) := call_modes md_thicketref10_reading_digits
@[simp] theorem callP_thicketref10_reading_digits (C : Oracle) (e : Env) (args : List Opd) (ts : List TypeId) : evP T C e (.call n_thicketref10_reading_digits args ts) = callP (callK1 C n_thicketref10_reading_digits (args.map fun a => a.ev e) (moves e [] [true] (args.map fun a => a.ev e))) := evP_call_modes md_thicketref10_reading_digits
theorem fn_thicketref10_reading_number : T.fns n_thicketref10_reading_number = some a_thicketref10_reading_number := rfl
@[simp] theorem tl0_thicketref10_reading_number (e : Env) : Exec T k0_thicketref10_reading_number e = Exec T j0_thicketref10_reading_number (e.keep [0, 3, 100000]) := Exec_tail _ _ _
@[simp] theorem tl1_thicketref10_reading_number (e : Env) : Exec T k1_thicketref10_reading_number e = Exec T j1_thicketref10_reading_number (e.keep [0, 3, 100000]) := Exec_tail _ _ _
@[simp] theorem tl2_thicketref10_reading_number (e : Env) : Exec T k2_thicketref10_reading_number e = Exec T j2_thicketref10_reading_number (e.keep [0, 3, 100000]) := Exec_tail _ _ _
@[simp] theorem tl3_thicketref10_reading_number (e : Env) : Exec T k3_thicketref10_reading_number e = Exec T j3_thicketref10_reading_number (e.keep [0, 3, 100000]) := Exec_tail _ _ _
@[simp] theorem tl4_thicketref10_reading_number (e : Env) : Exec T k4_thicketref10_reading_number e = Exec T j4_thicketref10_reading_number (e.keep [0, 3, 100000]) := Exec_tail _ _ _
theorem run_thicketref10_reading_number (xs : List PV) : Cinf T n_thicketref10_reading_number xs = Run T a_thicketref10_reading_number xs := Cinf_eq rfl fn_thicketref10_reading_number
@[simp] theorem md_thicketref10_reading_number : T.modes n_thicketref10_reading_number = [true] := rfl
@[simp] theorem call_thicketref10_reading_number (C : Oracle) (e : Env) (xs : List PV) : call T C e n_thicketref10_reading_number xs = callV (callK1 C n_thicketref10_reading_number xs (moves e [] [true] xs)) := call_modes md_thicketref10_reading_number
@[simp] theorem callP_thicketref10_reading_number (C : Oracle) (e : Env) (args : List Opd) (ts : List TypeId) : evP T C e (.call n_thicketref10_reading_number args ts) = callP (callK1 C n_thicketref10_reading_number (args.map fun a => a.ev e) (moves e [] [true] (args.map fun a => a.ev e))) := evP_call_modes md_thicketref10_reading_number
theorem fn_thicketref10_hex : T.fns n_thicketref10_hex = some a_thicketref10_hex := rfl
@[simp] theorem tl0_thicketref10_hex (e : Env) : Exec T k0_thicketref10_hex e = Exec T j0_thicketref10_hex (e.keep []) := Exec_tail _ _ _
theorem run_thicketref10_hex (xs : List PV) : Cinf T n_thicketref10_hex xs = Run T a_thicketref10_hex xs := Cinf_eq rfl fn_thicketref10_hex
@[simp] theorem md_thicketref10_hex : T.modes n_thicketref10_hex = [] := rfl
@[simp] theorem call_thicketref10_hex (C : Oracle) (e : Env) (xs : List PV) : call T C e n_thicketref10_hex xs = callV (callK1 C n_thicketref10_hex xs (moves e [] [] xs)) := call_modes md_thicketref10_hex
@[simp] theorem callP_thicketref10_hex (C : Oracle) (e : Env) (args : List Opd) (ts : List TypeId) : evP T C e (.call n_thicketref10_hex args ts) = callP (callK1 C n_thicketref10_hex (args.map fun a => a.ev e) (moves e [] [] (args.map fun a => a.ev e))) := evP_call_modes md_thicketref10_hex
theorem fn_thicketref10_reading_four : T.fns n_thicketref10_reading_four = some a_thicketref10_reading_four := rfl
@[simp] theorem tl0_thicketref10_reading_four (e : Env) : Exec T k0_thicketref10_reading_four e = Exec T j0_thicketref10_reading_four (e.keep [0, 3, 4, 100000]) := Exec_tail _ _ _
@[simp] theorem tl1_thicketref10_reading_four (e : Env) : Exec T k1_thicketref10_reading_four e = Exec T j1_thicketref10_reading_four (e.keep [0, 3, 4, 100000]) := Exec_tail _ _ _
@[simp] theorem tl2_thicketref10_reading_four (e : Env) : Exec T k2_thicketref10_reading_four e = Exec T j2_thicketref10_reading_four (e.keep [0, 3, 4, 100000]) := Exec_tail _ _ _
@[simp] theorem tl3_thicketref10_reading_four (e : Env) : Exec T k3_thicketref10_reading_four e = Exec T j3_thicketref10_reading_four (e.keep [3, 100000]) := Exec_tail _ _ _
theorem ex0_thicketref10_reading_four (e : Env) : Exec T l0_thicketref10_reading_four e = andThen (Exec T w0_thicketref10_reading_four (e.keep [0, 3, 4, 100000])) (Exec T l0_thicketref10_reading_four) := Exec_loop _ _ _
theorem run_thicketref10_reading_four (xs : List PV) : Cinf T n_thicketref10_reading_four xs = Run T a_thicketref10_reading_four xs := Cinf_eq rfl fn_thicketref10_reading_four
@[simp] theorem md_thicketref10_reading_four : T.modes n_thicketref10_reading_four = [true] := rfl
@[simp] theorem call_thicketref10_reading_four (C : Oracle) (e : Env) (xs : List PV) : call T C e n_thicketref10_reading_four xs = callV (callK1 C n_thicketref10_reading_four xs (moves e [] [true] xs)) := call_modes md_thicketref10_reading_four
@[simp] theorem callP_thicketref10_reading_four (C : Oracle) (e : Env) (args : List Opd) (ts : List TypeId) : evP T C e (.call n_thicketref10_reading_four args ts) = callP (callK1 C n_thicketref10_reading_four (args.map fun a => a.ev e) (moves e [] [true] (args.map fun a => a.ev e))) := evP_call_modes md_thicketref10_reading_four
theorem fn_thicketref10_utf8 : T.fns n_thicketref10_utf8 = some a_thicketref10_utf8 := rfl
@[simp] theorem tl0_thicketref10_utf8 (e : Env) : Exec T k0_thicketref10_utf8 e = Exec T j0_thicketref10_utf8 (e.keep [0]) := Exec_tail _ _ _
theorem run_thicketref10_utf8 (xs : List PV) : Cinf T n_thicketref10_utf8 xs = Run T a_thicketref10_utf8 xs := Cinf_eq rfl fn_thicketref10_utf8
@[simp] theorem md_thicketref10_utf8 : T.modes n_thicketref10_utf8 = [] := rfl
@[simp] theorem call_thicketref10_utf8 (C : Oracle) (e : Env) (xs : List PV) : call T C e n_thicketref10_utf8 xs = callV (callK1 C n_thicketref10_utf8 xs (moves e [] [] xs)) := call_modes md_thicketref10_utf8
@[simp] theorem callP_thicketref10_utf8 (C : Oracle) (e : Env) (args : List Opd) (ts : List TypeId) : evP T C e (.call n_thicketref10_utf8 args ts) = callP (callK1 C n_thicketref10_utf8 (args.map fun a => a.ev e) (moves e [] [] (args.map fun a => a.ev e))) := evP_call_modes md_thicketref10_utf8
theorem fn_thicketref10_reading_pair : T.fns n_thicketref10_reading_pair = some a_thicketref10_reading_pair := rfl
@[simp] theorem tl0_thicketref10_reading_pair (e : Env) : Exec T k0_thicketref10_reading_pair e = Exec T j0_thicketref10_reading_pair (e.keep [0, 1, 2, 7, 8, 100000]) := Exec_tail _ _ _
@[simp] theorem tl1_thicketref10_reading_pair (e : Env) : Exec T k1_thicketref10_reading_pair e = Exec T j1_thicketref10_reading_pair (e.keep [0, 1, 2, 7, 8, 100000]) := Exec_tail _ _ _
@[simp] theorem tl2_thicketref10_reading_pair (e : Env) : Exec T k2_thicketref10_reading_pair e = Exec T j2_thicketref10_reading_pair (e.keep [0, 1, 2, 7, 8, 100000]) := Exec_tail _ _ _
@[simp] theorem tl3_thicketref10_reading_pair (e : Env) : Exec T k3_thicketref10_reading_pair e = Exec T j3_thicketref10_reading_pair (e.keep [1, 9, 100000]) := Exec_tail _ _ _
@[simp] theorem tl4_thicketref10_reading_pair (e : Env) : Exec T k4_thicketref10_reading_pair e = Exec T j4_thicketref10_reading_pair (e.keep [0, 1, 2, 9, 100000]) := Exec_tail _ _ _
@[simp] theorem tl5_thicketref10_reading_pair (e : Env) : Exec T k5_thicketref10_reading_pair e = Exec T j5_thicketref10_reading_pair (e.keep [0, 1, 2, 100000]) := Exec_tail _ _ _
theorem ex0_thicketref10_reading_pair (e : Env) : Exec T l0_thicketref10_reading_pair e = andThen (Exec T w0_thicketref10_reading_pair (e.keep [0, 1, 2, 7, 8, 100000])) (Exec T l0_thicketref10_reading_pair) := Exec_loop _ _ _
theorem run_thicketref10_reading_pair (xs : List PV) : Cinf T n_thicketref10_reading_pair xs = Run T a_thicketref10_reading_pair xs := Cinf_eq rfl fn_thicketref10_reading_pair
@[simp] theorem md_thicketref10_reading_pair : T.modes n_thicketref10_reading_pair = [true, false, false] := rfl
@[simp] theorem call_thicketref10_reading_pair (C : Oracle) (e : Env) (xs : List PV) : call T C e n_thicketref10_reading_pair xs = callV (callK1 C n_thicketref10_reading_pair xs (moves e [] [true, false, false] xs)) := call_modes md_thicketref10_reading_pair
@[simp] theorem callP_thicketref10_reading_pair (C : Oracle) (e : Env) (args : List Opd) (ts : List TypeId) : evP T C e (.call n_thicketref10_reading_pair args ts) = callP (callK1 C n_thicketref10_reading_pair (args.map fun a => a.ev e) (moves e [] [true, false, false] (args.map fun a => a.ev e))) := evP_call_modes md_thicketref10_reading_pair
theorem fn_thicketref10_reading_escape : T.fns n_thicketref10_reading_escape = some a_thicketref10_reading_escape := rfl
@[simp] theorem tl0_thicketref10_reading_escape (e : Env) : Exec T k0_thicketref10_reading_escape e = Exec T j0_thicketref10_reading_escape (e.keep [0, 3, 6, 100000]) := Exec_tail _ _ _
@[simp] theorem tl1_thicketref10_reading_escape (e : Env) : Exec T k1_thicketref10_reading_escape e = Exec T j1_thicketref10_reading_escape (e.keep [0, 3, 6, 100000]) := Exec_tail _ _ _
@[simp] theorem tl2_thicketref10_reading_escape (e : Env) : Exec T k2_thicketref10_reading_escape e = Exec T j2_thicketref10_reading_escape (e.keep [0, 3, 100000]) := Exec_tail _ _ _
@[simp] theorem tl3_thicketref10_reading_escape (e : Env) : Exec T k3_thicketref10_reading_escape e = Exec T j3_thicketref10_reading_escape (e.keep [0, 3, 4, 100000]) := Exec_tail _ _ _
@[simp] theorem tl4_thicketref10_reading_escape (e : Env) : Exec T k4_thicketref10_reading_escape e = Exec T j4_thicketref10_reading_escape (e.keep [0, 3, 100000]) := Exec_tail _ _ _
theorem run_thicketref10_reading_escape (xs : List PV) : Cinf T n_thicketref10_reading_escape xs = Run T a_thicketref10_reading_escape xs := Cinf_eq rfl fn_thicketref10_reading_escape
@[simp] theorem md_thicketref10_reading_escape : T.modes n_thicketref10_reading_escape = [true] := rfl
@[simp] theorem call_thicketref10_reading_escape (C : Oracle) (e : Env) (xs : List PV) : call T C e n_thicketref10_reading_escape xs = callV (callK1 C n_thicketref10_reading_escape xs (moves e [] [true] xs)) := call_modes md_thicketref10_reading_escape
@[simp] theorem callP_thicketref10_reading_escape (C : Oracle) (e : Env) (args : List Opd) (ts : List TypeId) : evP T C e (.call n_thicketref10_reading_escape args ts) = callP (callK1 C n_thicketref10_reading_escape (args.map fun a => a.ev e) (moves e [] [true] (args.map fun a => a.ev e))) := evP_call_modes md_thicketref10_reading_escape
theorem fn_thicketref10_Char : T.fns n_thicketref10_Char = some a_thicketref10_Char := rfl
@[simp] theorem tl0_thicketref10_Char (e : Env) : Exec T k0_thicketref10_Char e = Exec T j0_thicketref10_Char (e.keep [0, 3, 4, 5, 7]) := Exec_tail _ _ _
@[simp] theorem tl1_thicketref10_Char (e : Env) : Exec T k1_thicketref10_Char e = Exec T j1_thicketref10_Char (e.keep [0, 3, 4, 5, 7]) := Exec_tail _ _ _
@[simp] theorem tl2_thicketref10_Char (e : Env) : Exec T k2_thicketref10_Char e = Exec T j2_thicketref10_Char (e.keep [0, 3, 4, 5, 7]) := Exec_tail _ _ _
@[simp] theorem tl3_thicketref10_Char (e : Env) : Exec T k3_thicketref10_Char e = Exec T j3_thicketref10_Char (e.keep [3]) := Exec_tail _ _ _
@[simp] theorem tl4_thicketref10_Char (e : Env) : Exec T k4_thicketref10_Char e = Exec T j4_thicketref10_Char (e.keep [3, 4, 5]) := Exec_tail _ _ _
@[simp] theorem tl5_thicketref10_Char (e : Env) : Exec T k5_thicketref10_Char e = Exec T j5_thicketref10_Char (e.keep [0, 3, 4, 5]) := Exec_tail _ _ _
@[simp] theorem tl6_thicketref10_Char (e : Env) : Exec T k6_thicketref10_Char e = Exec T j6_thicketref10_Char (e.keep [0, 3, 4, 5]) := Exec_tail _ _ _
@[simp] theorem tl7_thicketref10_Char (e : Env) : Exec T k7_thicketref10_Char e = Exec T j7_thicketref10_Char (e.keep [0]) := Exec_tail _ _ _
theorem ex0_thicketref10_Char (e : Env) : Exec T l0_thicketref10_Char e = andThen (Exec T w0_thicketref10_Char (e.keep [0, 3, 4, 5, 7])) (Exec T l0_thicketref10_Char) := Exec_loop _ _ _
theorem run_thicketref10_Char (xs : List PV) : Cinf T n_thicketref10_Char xs = Run T a_thicketref10_Char xs := Cinf_eq rfl fn_thicketref10_Char
@[simp] theorem md_thicketref10_Char : T.modes n_thicketref10_Char = [] := rfl
@[simp] theorem call_thicketref10_Char (C : Oracle) (e : Env) (xs : List PV) : call T C e n_thicketref10_Char xs = callV (callK1 C n_thicketref10_Char xs (moves e [] [] xs)) := call_modes md_thicketref10_Char
@[simp] theorem callP_thicketref10_Char (C : Oracle) (e : Env) (args : List Opd) (ts : List TypeId) : evP T C e (.call n_thicketref10_Char args ts) = callP (callK1 C n_thicketref10_Char (args.map fun a => a.ev e) (moves e [] [] (args.map fun a => a.ev e))) := evP_call_modes md_thicketref10_Char
theorem fn_thicketref10_reading_text : T.fns n_thicketref10_reading_text = some a_thicketref10_reading_text := rfl
@[simp] theorem tl0_thicketref10_reading_text (e : Env) : Exec T k0_thicketref10_reading_text e = Exec T j0_thicketref10_reading_text (e.keep [0, 3, 5, 70, 107, 100000]) := Exec_tail _ _ _
@[simp] theorem tl1_thicketref10_reading_text (e : Env) : Exec T k1_thicketref10_reading_text e = Exec T j1_thicketref10_reading_text (e.keep [0, 3, 70, 107, 100000]) := Exec_tail _ _ _
@[simp] theorem tl2_thicketref10_reading_text (e : Env) : Exec T k2_thicketref10_reading_text e = Exec T j2_thicketref10_reading_text (e.keep [0, 3, 70, 107, 100000]) := Exec_tail _ _ _
@[simp] theorem tl3_thicketref10_reading_text (e : Env) : Exec T k3_thicketref10_reading_text e = Exec T j3_thicketref10_reading_text (e.keep [100000]) := Exec_tail _ _ _
theorem ex0_thicketref10_reading_text (e : Env) : Exec T l0_thicketref10_reading_text e = andThen (Exec T w0_thicketref10_reading_text (e.keep [0, 3, 70, 107, 100000])) (Exec T l0_thicketref10_reading_text) := Exec_loop _ _ _
theorem run_thicketref10_reading_text (xs : List PV) : Cinf T n_thicketref10_reading_text xs = Run T a_thicketref10_reading_text xs := Cinf_eq rfl fn_thicketref10_reading_text
@[simp] theorem md_thicketref10_reading_text : T.modes n_thicketref10_reading_text = [true] := rfl
@[simp] theorem call_thicketref10_reading_text (C : Oracle) (e : Env) (xs : List PV) : call T C e n_thicketref10_reading_text xs = callV (callK1 C n_thicketref10_reading_text xs (moves e [] [true] xs)) := call_modes md_thicketref10_reading_text
@[simp] theorem callP_thicketref10_reading_text (C : Oracle) (e : Env) (args : List Opd) (ts : List TypeId) : evP T C e (.call n_thicketref10_reading_text args ts) = callP (callK1 C n_thicketref10_reading_text (args.map fun a => a.ev e) (moves e [] [true] (args.map fun a => a.ev e))) := evP_call_modes md_thicketref10_reading_text
theorem fn_thicketref10_reading_list : T.fns n_thicketref10_reading_list = some a_thicketref10_reading_list := rfl
@[simp] theorem tl0_thicketref10_reading_list (e : Env) : Exec T k0_thicketref10_reading_list e = Exec T j0_thicketref10_reading_list (e.keep [0, 1, 4, 5, 100000]) := Exec_tail _ _ _
@[simp] theorem tl1_thicketref10_reading_list (e : Env) : Exec T k1_thicketref10_reading_list e = Exec T j1_thicketref10_reading_list (e.keep [0, 1, 4, 5, 100000]) := Exec_tail _ _ _
@[simp] theorem tl2_thicketref10_reading_list (e : Env) : Exec T k2_thicketref10_reading_list e = Exec T j2_thicketref10_reading_list (e.keep [0, 1, 4, 5, 100000]) := Exec_tail _ _ _
@[simp] theorem tl3_thicketref10_reading_list (e : Env) : Exec T k3_thicketref10_reading_list e = Exec T j3_thicketref10_reading_list (e.keep [4, 5, 100000]) := Exec_tail _ _ _
@[simp] theorem tl4_thicketref10_reading_list (e : Env) : Exec T k4_thicketref10_reading_list e = Exec T j4_thicketref10_reading_list (e.keep [0, 1, 4, 5, 100000]) := Exec_tail _ _ _
theorem ex0_thicketref10_reading_list (e : Env) : Exec T l0_thicketref10_reading_list e = andThen (Exec T w0_thicketref10_reading_list (e.keep [0, 1, 4, 5, 100000])) (Exec T l0_thicketref10_reading_list) := Exec_loop _ _ _
theorem run_thicketref10_reading_list (xs : List PV) : Cinf T n_thicketref10_reading_list xs = Run T a_thicketref10_reading_list xs := Cinf_eq rfl fn_thicketref10_reading_list
@[simp] theorem md_thicketref10_reading_list : T.modes n_thicketref10_reading_list = [true, false] := rfl
@[simp] theorem call_thicketref10_reading_list (C : Oracle) (e : Env) (xs : List PV) : call T C e n_thicketref10_reading_list xs = callV (callK1 C n_thicketref10_reading_list xs (moves e [] [true, false] xs)) := call_modes md_thicketref10_reading_list
@[simp] theorem callP_thicketref10_reading_list (C : Oracle) (e : Env) (args : List Opd) (ts : List TypeId) : evP T C e (.call n_thicketref10_reading_list args ts) = callP (callK1 C n_thicketref10_reading_list (args.map fun a => a.ev e) (moves e [] [true, false] (args.map fun a => a.ev e))) := evP_call_modes md_thicketref10_reading_list
theorem fn_thicketref10_reading_object : T.fns n_thicketref10_reading_object = some a_thicketref10_reading_object := rfl
@[simp] theorem tl0_thicketref10_reading_object (e : Env) : Exec T k0_thicketref10_reading_object e = Exec T j0_thicketref10_reading_object (e.keep [0, 1, 4, 5, 6, 7, 8, 100000]) := Exec_tail _ _ _
@[simp] theorem tl1_thicketref10_reading_object (e : Env) : Exec T k1_thicketref10_reading_object e = Exec T j1_thicketref10_reading_object (e.keep [0, 1, 4, 5, 6, 7, 8, 100000]) := Exec_tail _ _ _
@[simp] theorem tl2_thicketref10_reading_object (e : Env) : Exec T k2_thicketref10_reading_object e = Exec T j2_thicketref10_reading_object (e.keep [0, 1, 4, 5, 100000]) := Exec_tail _ _ _
@[simp] theorem tl3_thicketref10_reading_object (e : Env) : Exec T k3_thicketref10_reading_object e = Exec T j3_thicketref10_reading_object (e.keep [0, 1, 4, 5, 100000]) := Exec_tail _ _ _
@[simp] theorem tl4_thicketref10_reading_object (e : Env) : Exec T k4_thicketref10_reading_object e = Exec T j4_thicketref10_reading_object (e.keep [0, 1, 4, 5, 7, 100000]) := Exec_tail _ _ _
@[simp] theorem tl5_thicketref10_reading_object (e : Env) : Exec T k5_thicketref10_reading_object e = Exec T j5_thicketref10_reading_object (e.keep [0, 1, 4, 5, 7, 100000]) := Exec_tail _ _ _
@[simp] theorem tl6_thicketref10_reading_object (e : Env) : Exec T k6_thicketref10_reading_object e = Exec T j6_thicketref10_reading_object (e.keep [0, 1, 4, 5, 100000]) := Exec_tail _ _ _
@[simp] theorem tl7_thicketref10_reading_object (e : Env) : Exec T k7_thicketref10_reading_object e = Exec T j7_thicketref10_reading_object (e.keep [4, 5, 100000]) := Exec_tail _ _ _
@[simp] theorem tl8_thicketref10_reading_object (e : Env) : Exec T k8_thicketref10_reading_object e = Exec T j8_thicketref10_reading_object (e.keep [0, 1, 4, 5, 100000]) := Exec_tail _ _ _
theorem ex1_thicketref10_reading_object (e : Env) : Exec T l1_thicketref10_reading_object e = andThen (Exec T w1_thicketref10_reading_object (e.keep [0, 1, 4, 5, 6, 7, 8, 100000])) (Exec T l1_thicketref10_reading_object) := Exec_loop _ _ _
theorem ex0_thicketref10_reading_object (e : Env) : Exec T l0_thicketref10_reading_object e = andThen (Exec T w0_thicketref10_reading_object (e.keep [0, 1, 4, 5, 100000])) (Exec T l0_thicketref10_reading_object) := Exec_loop _ _ _
theorem run_thicketref10_reading_object (xs : List PV) : Cinf T n_thicketref10_reading_object xs = Run T a_thicketref10_reading_object xs := Cinf_eq rfl fn_thicketref10_reading_object
@[simp] theorem md_thicketref10_reading_object : T.modes n_thicketref10_reading_object = [true, false] := rfl
@[simp] theorem call_thicketref10_reading_object (C : Oracle) (e : Env) (xs : List PV) : call T C e n_thicketref10_reading_object xs = callV (callK1 C n_thicketref10_reading_object xs (moves e [] [true, false] xs)) := call_modes md_thicketref10_reading_object
@[simp] theorem callP_thicketref10_reading_object (C : Oracle) (e : Env) (args : List Opd) (ts : List TypeId) : evP T C e (.call n_thicketref10_reading_object args ts) = callP (callK1 C n_thicketref10_reading_object (args.map fun a => a.ev e) (moves e [] [true, false] (args.map fun a => a.ev e))) := evP_call_modes md_thicketref10_reading_object
theorem fn_thicketref10_reading_value : T.fns n_thicketref10_reading_value = some a_thicketref10_reading_value := rfl
@[simp] theorem tl0_thicketref10_reading_value (e : Env) : Exec T k0_thicketref10_reading_value e = Exec T j0_thicketref10_reading_value (e.keep [0, 1, 4, 100000]) := Exec_tail _ _ _
@[simp] theorem tl1_thicketref10_reading_value (e : Env) : Exec T k1_thicketref10_reading_value e = Exec T j1_thicketref10_reading_value (e.keep [0, 1, 4, 5, 100000]) := Exec_tail _ _ _
@[simp] theorem tl2_thicketref10_reading_value (e : Env) : Exec T k2_thicketref10_reading_value e = Exec T j2_thicketref10_reading_value (e.keep [0, 4, 100000]) := Exec_tail _ _ _
@[simp] theorem tl3_thicketref10_reading_value (e : Env) : Exec T k3_thicketref10_reading_value e = Exec T j3_thicketref10_reading_value (e.keep [0, 1, 4, 100000]) := Exec_tail _ _ _
@[simp] theorem tl4_thicketref10_reading_value (e : Env) : Exec T k4_thicketref10_reading_value e = Exec T j4_thicketref10_reading_value (e.keep [0, 1, 4, 100000]) := Exec_tail _ _ _
theorem run_thicketref10_reading_value (xs : List PV) : Cinf T n_thicketref10_reading_value xs = Run T a_thicketref10_reading_value xs := Cinf_eq rfl fn_thicketref10_reading_value
@[simp] theorem md_thicketref10_reading_value : T.modes n_thicketref10_reading_value = [true, false] := rfl
@[simp] theorem call_thicketref10_reading_value (C : Oracle) (e : Env) (xs : List PV) : call T C e n_thicketref10_reading_value xs = callV (callK1 C n_thicketref10_reading_value xs (moves e [] [true, false] xs)) := call_modes md_thicketref10_reading_value
@[simp] theorem callP_thicketref10_reading_value (C : Oracle) (e : Env) (args : List Opd) (ts : List TypeId) : evP T C e (.call n_thicketref10_reading_value args ts) = callP (callK1 C n_thicketref10_reading_value (args.map fun a => a.ev e) (moves e [] [true, false] (args.map fun a => a.ev e))) := evP_call_modes md_thicketref10_reading_value
theorem fn_thicketref10_Parse : T.fns n_thicketref10_Parse = some a_thicketref10_Parse := rfl
@[simp] theorem tl0_thicketref10_Parse (e : Env) : Exec T k0_thicketref10_Parse e = Exec T j0_thicketref10_Parse (e.keep [2, 6]) := Exec_tail _ _ _
@[simp] theorem tl1_thicketref10_Parse (e : Env) : Exec T k1_thicketref10_Parse e = Exec T j1_thicketref10_Parse (e.keep [2, 5, 6, 13]) := Exec_tail _ _ _
@[simp] theorem tl2_thicketref10_Parse (e : Env) : Exec T k2_thicketref10_Parse e = Exec T j2_thicketref10_Parse (e.keep [0, 2]) := Exec_tail _ _ _
theorem run_thicketref10_Parse (xs : List PV) : Cinf T n_thicketref10_Parse xs = Run T a_thicketref10_Parse xs := Cinf_eq rfl fn_thicketref10_Parse
@[simp] theorem md_thicketref10_Parse : T.modes n_thicketref10_Parse = [] := rfl
@[simp] theorem call_thicketref10_Parse (C : Oracle) (e : Env) (xs : List PV) : call T C e n_thicketref10_Parse xs = callV (callK1 C n_thicketref10_Parse xs (moves e [] [] xs)) := call_modes md_thicketref10_Parse
@[simp] theorem callP_thicketref10_Parse (C : Oracle) (e : Env) (args : List Opd) (ts : List TypeId) : evP T C e (.call n_thicketref10_Parse args ts) = callP (callK1 C n_thicketref10_Parse (args.map fun a => a.ev e) (moves e [] [] (args.map fun a => a.ev e))) := evP_call_modes md_thicketref10_Parse
theorem fn_thicketref10_Same : T.fns n_thicketref10_Same = some a_thicketref10_Same := rfl
@[simp] theorem tl0_thicketref10_Same (e : Env) : Exec T k0_thicketref10_Same e = Exec T j0_thicketref10_Same (e.keep [2, 3, 5]) := Exec_tail _ _ _
@[simp] theorem tl1_thicketref10_Same (e : Env) : Exec T k1_thicketref10_Same e = Exec T j1_thicketref10_Same (e.keep [2, 3, 5]) := Exec_tail _ _ _
@[simp] theorem tl2_thicketref10_Same (e : Env) : Exec T k2_thicketref10_Same e = Exec T j2_thicketref10_Same (e.keep [2, 3, 6]) := Exec_tail _ _ _
@[simp] theorem tl3_thicketref10_Same (e : Env) : Exec T k3_thicketref10_Same e = Exec T j3_thicketref10_Same (e.keep [2, 3, 6]) := Exec_tail _ _ _
@[simp] theorem tl4_thicketref10_Same (e : Env) : Exec T k4_thicketref10_Same e = Exec T j4_thicketref10_Same (e.keep []) := Exec_tail _ _ _
@[simp] theorem tl5_thicketref10_Same (e : Env) : Exec T k5_thicketref10_Same e = Exec T j5_thicketref10_Same (e.keep [2, 3]) := Exec_tail _ _ _
@[simp] theorem tl6_thicketref10_Same (e : Env) : Exec T k6_thicketref10_Same e = Exec T j6_thicketref10_Same (e.keep [2, 3]) := Exec_tail _ _ _
theorem ex0_thicketref10_Same (e : Env) : Exec T l0_thicketref10_Same e = andThen (Exec T w0_thicketref10_Same (e.keep [2, 3, 5])) (Exec T l0_thicketref10_Same) := Exec_loop _ _ _
theorem ex1_thicketref10_Same (e : Env) : Exec T l1_thicketref10_Same e = andThen (Exec T w1_thicketref10_Same (e.keep [2, 3, 6])) (Exec T l1_thicketref10_Same) := Exec_loop _ _ _
theorem run_thicketref10_Same (xs : List PV) : Cinf T n_thicketref10_Same xs = Run T a_thicketref10_Same xs := Cinf_eq rfl fn_thicketref10_Same
@[simp] theorem md_thicketref10_Same : T.modes n_thicketref10_Same = [] := rfl
@[simp] theorem call_thicketref10_Same (C : Oracle) (e : Env) (xs : List PV) : call T C e n_thicketref10_Same xs = callV (callK1 C n_thicketref10_Same xs (moves e [] [] xs)) := call_modes md_thicketref10_Same
@[simp] theorem callP_thicketref10_Same (C : Oracle) (e : Env) (args : List Opd) (ts : List TypeId) : evP T C e (.call n_thicketref10_Same args ts) = callP (callK1 C n_thicketref10_Same (args.map fun a => a.ev e) (moves e [] [] (args.map fun a => a.ev e))) := evP_call_modes md_thicketref10_Same
theorem fn_thicketlaw10_JsonParses : T.fns n_thicketlaw10_JsonParses = some a_thicketlaw10_JsonParses := rfl
theorem run_thicketlaw10_JsonParses (xs : List PV) : Cinf T n_thicketlaw10_JsonParses xs = Run T a_thicketlaw10_JsonParses xs := Cinf_eq rfl fn_thicketlaw10_JsonParses
@[simp] theorem md_thicketlaw10_JsonParses : T.modes n_thicketlaw10_JsonParses = [] := rfl
@[simp] theorem call_thicketlaw10_JsonParses (C : Oracle) (e : Env) (xs : List PV) : call T C e n_thicketlaw10_JsonParses xs = callV (callK1 C n_thicketlaw10_JsonParses xs (moves e [] [] xs)) := call_modes md_thicketlaw10_JsonParses
@[simp] theorem callP_thicketlaw10_JsonParses (C : Oracle) (e : Env) (args : List Opd) (ts : List TypeId) : evP T C e (.call n_thicketlaw10_JsonParses args ts) = callP (callK1 C n_thicketlaw10_JsonParses (args.map fun a => a.ev e) (moves e [] [] (args.map fun a => a.ev e))) := evP_call_modes md_thicketlaw10_JsonParses
end Go.AM.F
