/- The functions of the program in the abstract machine's form, printed by a program of the session's own (ir.py); Lean checks them against the program. No conditions. -/
import Derived.Test.YtfnhfjpoeacoaaaDoorAmBld
namespace Go.AM.F
open Go Go.AM
set_option maxRecDepth 100000

abbrev n_thicketlaw03_ScanFields : FuncId := 8
abbrev n_thicketlaw03_ScanBack : FuncId := 9
abbrev n_thicketlaw03_lives : FuncId := 10
abbrev n_scan_Rows : FuncId := 12
abbrev n_scan_Words : FuncId := 14
abbrev n_scan_Fields : FuncId := 17
abbrev n_thicketref03_Fields : FuncId := 18
abbrev n_thicketref03_Texts : FuncId := 19
abbrev n_scan_Quote : FuncId := 20
abbrev n_scan_Join : FuncId := 28
abbrev n_thicketref03_Join : FuncId := 29
abbrev n_strings_HasPrefix : FuncId := 30
abbrev n_scan_of : FuncId := 31
abbrev n_scan_one : FuncId := 32
abbrev n_scan_badBy : FuncId := 38
abbrev n_strings_ContainsAny : FuncId := 40
abbrev n_strings_Builder_WriteByte : FuncId := 41
abbrev n_strings_IndexByte : FuncId := 42
abbrev n_strings_ReplaceAll : FuncId := 43
abbrev n_strings_Builder_WriteString : FuncId := 44
abbrev n_strings_Builder_String : FuncId := 45
abbrev n_stringslite_HasPrefix : FuncId := 46
abbrev n_scan_text : FuncId := 47
abbrev n_strings_IndexAny : FuncId := 49
abbrev n_stringslite_IndexByte : FuncId := 51
abbrev n_scan_escape : FuncId := 53
abbrev n_strings_IndexRune : FuncId := 54
abbrev n_strings_shouldUseASCIISet : FuncId := 55
abbrev n_strings_makeASCIISet : FuncId := 56
abbrev n_strings_asciiSet_contains : FuncId := 57
abbrev n_bytealg_IndexByteString : FuncId := 59
abbrev n_scan_hex : FuncId := 64
abbrev n_utf8_ValidRune : FuncId := 65
abbrev n_bytealg_Cutover : FuncId := 66
abbrev n_bytealg_IndexString : FuncId := 67
def glob0 : List PV := ([0, 0, 0, 0, 0, 0, 0, 0, 0, 32, 0, 0, 0, 0, 0, 0, 0, 0, 0, 0, 0, 0, 0, 0, 0, 0, 0, 0, 0, 0, 0, 0, 32, 0, 0, 0, 0, 0, 0, 0, 16, 16, 0, 4, 16, 4, 8, 0, 0, 0, 0, 0, 0, 0, 0, 0, 0, 0, 16, 16, 16, 16, 16, 0, 0, 0, 0, 0, 0, 0, 0, 0, 0, 0, 0, 0, 0, 0, 0, 0, 0, 0, 0, 0, 0, 0, 0, 0, 0, 0, 0, 16, 0, 16, 0, 1, 0, 0, 0, 0, 0, 0, 0, 0, 0, 0, 0, 0, 0, 0, 0, 0, 0, 0, 0, 0, 0, 0, 0, 0, 0, 0, 0, 16, 16, 16, 0, 0] : List Int).map fun z => .v (.int .u8 z)
def glob1 : List PV := [.selfp]
def b_stringslite_HasPrefix : IR :=
 (.seq (.reg 0 [⟨some 4, .assign (.c (Value.bool false)), none, [4]⟩] none [0, 1])
 (.seq (.reg 1 [⟨some 5, .move (.t 0), none, []⟩,
  ⟨some 6, .len 9 true (.t 5), none, [5]⟩,
  ⟨some 7, .move (.t 1), none, []⟩,
  ⟨some 8, .len 9 true (.t 7), none, [7]⟩,
  ⟨some 9, .bin .geq 3 (.t 6) (.t 8) 3, none, [6, 8]⟩,
  ⟨some 10, .move (.t 9), none, [9]⟩,
  ⟨some 11, .move (.t 0), some (5, true), [0]⟩,
  ⟨some 12, .move (.t 1), some (5, true), []⟩,
  ⟨some 13, .len 9 true (.t 12), some (5, true), [12]⟩,
  ⟨some 14, .slice 9 .str (.t 11) none (some (.t 13)) none, some (5, true), [11, 13]⟩,
  ⟨some 15, .move (.t 1), some (5, true), [1]⟩,
  ⟨some 16, .bin .eql 9 (.t 14) (.t 15) 9, some (5, true), [14, 15]⟩,
  ⟨some 17, .pick (.t 10) (.t 16) (.c (Value.bool false)), none, [10, 16]⟩,
  ⟨some 4, .assign (.t 17), none, [17]⟩] none [4])
 .ret))
def a_stringslite_HasPrefix : AFunc := ⟨18, [.tmp 4], b_stringslite_HasPrefix⟩

def b_strings_HasPrefix : IR :=
 (.seq (.reg 0 [⟨some 4, .assign (.c (Value.bool false)), none, [4]⟩] none [0, 1])
 (.seq (.reg 1 [⟨some 5, .move (.t 0), none, [0]⟩,
  ⟨some 6, .move (.t 1), none, [1]⟩,
  ⟨some 7, .call n_stringslite_HasPrefix [(.t 5), (.t 6)] [9, 9], none, [5, 6]⟩,
  ⟨some 4, .assign (.t 7), none, [7]⟩] none [4])
 .ret))
def a_strings_HasPrefix : AFunc := ⟨8, [.tmp 4], b_strings_HasPrefix⟩

def j0_scan_Rows : IR :=
 (.block 3 (.reg 6 [⟨some 27, .move (.t 5), none, []⟩,
  ⟨some 28, .bin .add 3 (.t 27) (.c (Value.int IntKind.i64 1)) 3, none, [27]⟩,
  ⟨some 5, .assign (.t 28), none, [28]⟩] none [0, 3, 4, 5, 40]))
def k0_scan_Rows : IR := .tail [0, 3, 4, 5, 40] j0_scan_Rows
def w1_scan_Rows : IR :=
 (.seq (.seq (.reg 5 [⟨some 11, .move (.t 5), none, []⟩,
  ⟨some 12, .move (.t 0), none, []⟩,
  ⟨some 13, .len 9 true (.t 12), none, [12]⟩,
  ⟨some 14, .bin .lss 3 (.t 11) (.t 13) 3, none, [11, 13]⟩,
  ⟨some 15, .move (.t 14), none, [14]⟩,
  ⟨some 16, .move (.t 0), some (4, true), []⟩,
  ⟨some 17, .move (.t 5), some (4, true), []⟩,
  ⟨some 18, .index 9 .str none (.t 16) (.t 17), some (4, true), [16, 17]⟩,
  ⟨some 19, .bin .neq 5 (.t 18) (.c (Value.int IntKind.u8 10)) 5, some (4, true), [18]⟩,
  ⟨some 20, .pick (.t 15) (.t 19) (.c (Value.bool false)), none, [15, 19]⟩,
  ⟨some 21, .move (.t 20), none, [20]⟩,
  ⟨some 22, .move (.t 0), some (10, true), []⟩,
  ⟨some 23, .move (.t 5), some (10, true), []⟩,
  ⟨some 24, .index 9 .str none (.t 22) (.t 23), some (10, true), [22, 23]⟩,
  ⟨some 25, .bin .neq 5 (.t 24) (.c (Value.int IntKind.u8 13)) 5, some (10, true), [24]⟩,
  ⟨some 26, .pick (.t 21) (.t 25) (.c (Value.bool false)), none, [21, 25]⟩] none [0, 3, 4, 5, 26, 40])
 (.cond [0, 3, 4, 5, 40] (.t 26) .skip (.exit 2)))
 k0_scan_Rows)
def l1_scan_Rows : IR := .loop [0, 3, 4, 5, 40] w1_scan_Rows
def j1_scan_Rows : IR :=
 (.reg 10 [⟨some 47, .move (.t 5), none, [5]⟩,
  ⟨some 48, .bin .add 3 (.t 47) (.c (Value.int IntKind.i64 1)) 3, none, [47]⟩,
  ⟨some 4, .assign (.t 48), none, [48]⟩] none [0, 3, 4, 40])
def k1_scan_Rows : IR := .tail [0, 3, 5, 40] j1_scan_Rows
def j2_scan_Rows : IR :=
 (.seq (.reg 7 [⟨some 29, .move (.t 3), none, []⟩,
  ⟨some 30, .move (.t 3), none, []⟩,
  ⟨some 31, .len 24 false (.t 30), none, [30]⟩,
  ⟨some 32, .bin .add 3 (.t 31) (.c (Value.int IntKind.i64 1)) 3, none, [31]⟩,
  ⟨some 33, .move (.t 4), none, []⟩,
  ⟨some 34, .move (.t 0), none, []⟩,
  ⟨some 35, .move (.t 4), none, [4]⟩,
  ⟨some 36, .move (.t 5), none, []⟩,
  ⟨some 37, .slice 9 .str (.t 34) (some (.t 35)) (some (.t 36)) none, none, [34, 35, 36]⟩,
  ⟨some 38, .build 33 [(0, 1), (1, 1), (2, 1)] [.v (.int .i64 0), .v (.int .i64 0), .v (.string ⟨#[]⟩)] [(0, (.t 32)), (1, (.t 33)), (2, (.t 37))], none, [32, 33, 37]⟩,
  ⟨some 39, .lit 24 3 [(.t 38)], none, [38]⟩,
  ⟨some 40, .append 24 24 false 3 32 (.t 29) (.t 39), none, [29, 39]⟩,
  ⟨some 3, .assign (.t 40), none, []⟩] none [0, 3, 5, 40])
 (.seq (.seq (.reg 8 [⟨some 41, .move (.t 0), none, []⟩,
  ⟨some 42, .move (.t 5), none, []⟩,
  ⟨some 43, .slice 9 .str (.t 41) (some (.t 42)) none none, none, [41, 42]⟩,
  ⟨some 44, .call n_strings_HasPrefix [(.t 43), (.c (Value.string { data := #[13, 10] }))] [9, 9], none, [43]⟩] none [0, 3, 5, 40, 44])
 (.cond [0, 3, 5, 40] (.t 44) (.reg 9 [⟨some 45, .move (.t 5), none, []⟩,
  ⟨some 46, .bin .add 3 (.t 45) (.c (Value.int IntKind.i64 1)) 3, none, [45]⟩,
  ⟨some 5, .assign (.t 46), none, [46]⟩] none [0, 3, 5, 40]) .skip))
 k1_scan_Rows))
def k2_scan_Rows : IR := .tail [0, 3, 4, 5, 40] j2_scan_Rows
def j3_scan_Rows : IR :=
 (.block 1 (.seq (.reg 4 [⟨some 10, .move (.t 4), none, []⟩,
  ⟨some 5, .assign (.t 10), none, [10]⟩] none [0, 3, 4, 5, 40])
 (.seq (.block 2 l1_scan_Rows)
 k2_scan_Rows)))
def k3_scan_Rows : IR := .tail [0, 3, 4, 40] j3_scan_Rows
def w0_scan_Rows : IR :=
 (.seq (.seq (.reg 3 [⟨some 6, .move (.t 4), none, []⟩,
  ⟨some 7, .move (.t 0), none, []⟩,
  ⟨some 8, .len 9 true (.t 7), none, [7]⟩,
  ⟨some 9, .bin .lss 3 (.t 6) (.t 8) 3, none, [6, 8]⟩] none [0, 3, 4, 9, 40])
 (.cond [0, 3, 4, 40] (.t 9) .skip (.exit 0)))
 k3_scan_Rows)
def l0_scan_Rows : IR := .loop [0, 3, 4, 40] w0_scan_Rows
def j4_scan_Rows : IR :=
 (.seq (.reg 11 [⟨some 49, .move (.t 3), none, []⟩,
  ⟨some 2, .assign (.t 49), none, []⟩] none [2, 3, 40, 49])
 .ret)
def k4_scan_Rows : IR := .tail [3, 40] j4_scan_Rows
def b_scan_Rows : IR :=
 (.seq (.reg 0 [⟨some 2, .assign (.nilS 3), none, [2]⟩] none [0])
 (.seq (.reg 1 [⟨some 3, .assign (.nilS 3), none, []⟩] none [0, 3, 40])
 (.seq (.reg 2 [⟨some 4, .assign (.c (Value.int IntKind.i64 0)), none, []⟩] none [0, 3, 4, 40])
 (.seq (.block 0 l0_scan_Rows)
 k4_scan_Rows))))
def a_scan_Rows : AFunc := ⟨50, [.tmp 2], b_scan_Rows⟩

def j0_scan_of : IR :=
 (.seq (.reg 7 [⟨some 28, .move (.t 0), none, [0]⟩,
  ⟨some 29, .iaddr 69 (.arr 128 1) (.g 0 glob0) (.t 28), none, []⟩,
  ⟨some 30, .load 49 none (.t 29), none, [28, 29]⟩,
  ⟨some 2, .assign (.t 30), none, [30]⟩] none [2])
 .ret)
def k0_scan_of : IR := .tail [0] j0_scan_of
def b_scan_of : IR :=
 (.seq (.reg 0 [⟨some 2, .assign (.c (Value.int IntKind.u8 0)), none, [2]⟩] none [0])
 (.seq (.block 0 (.seq (.reg 1 [⟨some 4, .move (.t 0), none, []⟩,
  ⟨some 5, .bin .geq 5 (.t 4) (.c (Value.int IntKind.u8 97)) 5, none, [4]⟩,
  ⟨some 6, .move (.t 5), none, [5]⟩,
  ⟨some 7, .move (.t 0), some (2, true), []⟩,
  ⟨some 8, .bin .leq 5 (.t 7) (.c (Value.int IntKind.u8 122)) 5, some (2, true), [7]⟩,
  ⟨some 9, .pick (.t 6) (.t 8) (.c (Value.bool false)), none, [6, 8]⟩,
  ⟨some 10, .move (.t 9), none, [9]⟩,
  ⟨some 11, .move (.t 0), some (6, false), []⟩,
  ⟨some 12, .bin .geq 5 (.t 11) (.c (Value.int IntKind.u8 65)) 5, some (6, false), [11]⟩,
  ⟨some 13, .move (.t 12), some (6, false), [12]⟩,
  ⟨some 14, .move (.t 0), some (9, true), []⟩,
  ⟨some 15, .bin .leq 5 (.t 14) (.c (Value.int IntKind.u8 90)) 5, some (9, true), [14]⟩,
  ⟨some 16, .pick (.t 13) (.t 15) (.c (Value.bool false)), some (6, false), [13, 15]⟩,
  ⟨some 17, .pick (.t 10) (.c (Value.bool true)) (.t 16), none, [10, 16]⟩,
  ⟨some 3, .assign (.t 17), none, [17]⟩] none [0, 3])
 (.cond [0] (.t 3) (.seq (.reg 2 [⟨some 2, .assign (.c (Value.int IntKind.u8 1)), none, []⟩] none [2])
 .ret) (.seq (.reg 3 [⟨some 19, .move (.t 0), none, []⟩,
  ⟨some 20, .bin .geq 5 (.t 19) (.c (Value.int IntKind.u8 48)) 5, none, [19]⟩,
  ⟨some 21, .move (.t 20), none, [20]⟩,
  ⟨some 22, .move (.t 0), some (2, true), []⟩,
  ⟨some 23, .bin .leq 5 (.t 22) (.c (Value.int IntKind.u8 57)) 5, some (2, true), [22]⟩,
  ⟨some 24, .pick (.t 21) (.t 23) (.c (Value.bool false)), none, [21, 23]⟩,
  ⟨some 18, .assign (.t 24), none, [24]⟩] none [0, 18])
 (.cond [0] (.t 18) (.seq (.reg 4 [⟨some 2, .assign (.c (Value.int IntKind.u8 2)), none, []⟩] none [2])
 .ret) (.seq (.reg 5 [⟨some 26, .move (.t 0), none, []⟩,
  ⟨some 27, .bin .gtr 5 (.t 26) (.c (Value.int IntKind.u8 127)) 5, none, [26]⟩,
  ⟨some 25, .assign (.t 27), none, [27]⟩] none [0, 25])
 (.cond [0] (.t 25) (.seq (.reg 6 [⟨some 2, .assign (.c (Value.int IntKind.u8 0)), none, []⟩] none [2])
 .ret) .skip)))))))
 k0_scan_of))
def a_scan_of : AFunc := ⟨31, [.tmp 2], b_scan_of⟩

def j0_scan_hex : IR :=
 (.seq (.reg 7 [⟨some 2, .assign (.c (Value.int IntKind.u8 0)), none, []⟩,
  ⟨some 3, .assign (.c (Value.bool false)), none, []⟩] none [2, 3])
 .ret)
def k0_scan_hex : IR := .tail [] j0_scan_hex
def b_scan_hex : IR :=
 (.seq (.reg 0 [⟨some 2, .assign (.c (Value.int IntKind.u8 0)), none, [2]⟩,
  ⟨some 3, .assign (.c (Value.bool false)), none, [3]⟩] none [0])
 (.seq (.block 0 (.seq (.reg 1 [⟨some 5, .move (.t 0), none, []⟩,
  ⟨some 6, .bin .geq 5 (.t 5) (.c (Value.int IntKind.u8 48)) 5, none, [5]⟩,
  ⟨some 7, .move (.t 6), none, [6]⟩,
  ⟨some 8, .move (.t 0), some (2, true), []⟩,
  ⟨some 9, .bin .leq 5 (.t 8) (.c (Value.int IntKind.u8 57)) 5, some (2, true), [8]⟩,
  ⟨some 10, .pick (.t 7) (.t 9) (.c (Value.bool false)), none, [7, 9]⟩,
  ⟨some 4, .assign (.t 10), none, [10]⟩] none [0, 4])
 (.cond [0] (.t 4) (.seq (.reg 2 [⟨some 11, .move (.t 0), none, [0]⟩,
  ⟨some 12, .bin .sub 5 (.t 11) (.c (Value.int IntKind.u8 48)) 5, none, [11]⟩,
  ⟨some 2, .assign (.t 12), none, [12]⟩,
  ⟨some 3, .assign (.c (Value.bool true)), none, []⟩] none [2, 3])
 .ret) (.seq (.reg 3 [⟨some 14, .move (.t 0), none, []⟩,
  ⟨some 15, .bin .geq 5 (.t 14) (.c (Value.int IntKind.u8 97)) 5, none, [14]⟩,
  ⟨some 16, .move (.t 15), none, [15]⟩,
  ⟨some 17, .move (.t 0), some (2, true), []⟩,
  ⟨some 18, .bin .leq 5 (.t 17) (.c (Value.int IntKind.u8 102)) 5, some (2, true), [17]⟩,
  ⟨some 19, .pick (.t 16) (.t 18) (.c (Value.bool false)), none, [16, 18]⟩,
  ⟨some 13, .assign (.t 19), none, [19]⟩] none [0, 13])
 (.cond [0] (.t 13) (.seq (.reg 4 [⟨some 20, .move (.t 0), none, [0]⟩,
  ⟨some 21, .bin .sub 5 (.t 20) (.c (Value.int IntKind.u8 97)) 5, none, [20]⟩,
  ⟨some 22, .bin .add 5 (.t 21) (.c (Value.int IntKind.u8 10)) 5, none, [21]⟩,
  ⟨some 2, .assign (.t 22), none, [22]⟩,
  ⟨some 3, .assign (.c (Value.bool true)), none, []⟩] none [2, 3])
 .ret) (.seq (.reg 5 [⟨some 24, .move (.t 0), none, []⟩,
  ⟨some 25, .bin .geq 5 (.t 24) (.c (Value.int IntKind.u8 65)) 5, none, [24]⟩,
  ⟨some 26, .move (.t 25), none, [25]⟩,
  ⟨some 27, .move (.t 0), some (2, true), []⟩,
  ⟨some 28, .bin .leq 5 (.t 27) (.c (Value.int IntKind.u8 70)) 5, some (2, true), [27]⟩,
  ⟨some 29, .pick (.t 26) (.t 28) (.c (Value.bool false)), none, [26, 28]⟩,
  ⟨some 23, .assign (.t 29), none, [29]⟩] none [0, 23])
 (.cond [0] (.t 23) (.seq (.reg 6 [⟨some 30, .move (.t 0), none, [0]⟩,
  ⟨some 31, .bin .sub 5 (.t 30) (.c (Value.int IntKind.u8 65)) 5, none, [30]⟩,
  ⟨some 32, .bin .add 5 (.t 31) (.c (Value.int IntKind.u8 10)) 5, none, [31]⟩,
  ⟨some 2, .assign (.t 32), none, [32]⟩,
  ⟨some 3, .assign (.c (Value.bool true)), none, []⟩] none [2, 3])
 .ret) .skip)))))))
 k0_scan_hex))
def a_scan_hex : AFunc := ⟨33, [.tmp 2, .tmp 3], b_scan_hex⟩

def j0_scan_escape : IR :=
 (.reg 21 [⟨some 63, .move (.t 7), none, []⟩,
  ⟨some 64, .bin .shl 5 (.t 63) (.c (Value.int IntKind.u64 4)) 57, none, [63]⟩,
  ⟨some 65, .move (.t 9), none, [9]⟩,
  ⟨some 66, .bin .or 5 (.t 64) (.t 65) 5, none, [64, 65]⟩,
  ⟨some 7, .assign (.t 66), none, [66]⟩] none [0, 1, 7, 8])
def k0_scan_escape : IR := .tail [0, 1, 7, 8, 9] j0_scan_escape
def j1_scan_escape : IR :=
 (.seq (.reg 18 [⟨some 50, .move (.t 0), none, []⟩,
  ⟨some 51, .move (.t 1), none, []⟩,
  ⟨some 52, .move (.t 8), none, []⟩,
  ⟨some 53, .bin .add 3 (.t 51) (.t 52) 3, none, [51, 52]⟩,
  ⟨some 54, .index 9 .str none (.t 50) (.t 53), none, [50, 53]⟩,
  ⟨some 55, .call n_scan_hex [(.t 54)] [5], none, [54]⟩,
  ⟨some 49, .move (.t 55), none, [55]⟩,
  ⟨some 56, .extr (.t 49) 0, none, []⟩,
  ⟨some 57, .extr (.t 49) 1, none, [49]⟩,
  ⟨some 9, .assign (.t 56), none, [56]⟩,
  ⟨some 10, .assign (.t 57), none, [57]⟩] none [0, 1, 7, 8, 9, 10])
 (.seq (.seq (.reg 19 [⟨some 58, .move (.t 10), none, [10]⟩,
  ⟨some 59, .un .not 4 (.t 58), none, [58]⟩] none [0, 1, 7, 8, 9, 59])
 (.cond [0, 1, 7, 8, 9] (.t 59) (.seq (.reg 20 [⟨some 60, .move (.t 1), none, [1]⟩,
  ⟨some 61, .move (.t 8), none, [8]⟩,
  ⟨some 62, .bin .add 3 (.t 60) (.t 61) 3, none, [60, 61]⟩,
  ⟨some 4, .assign (.c (Value.int IntKind.u8 0)), none, []⟩,
  ⟨some 5, .assign (.t 62), none, [62]⟩,
  ⟨some 6, .assign (.c (Value.bool false)), none, []⟩] none [4, 5, 6])
 .ret) .skip))
 k0_scan_escape))
def k1_scan_escape : IR := .tail [0, 1, 7, 8] j1_scan_escape
def j2_scan_escape : IR :=
 (.reg 15 [⟨some 39, .move (.t 8), none, []⟩,
  ⟨some 40, .bin .add 3 (.t 39) (.c (Value.int IntKind.i64 1)) 3, none, [39]⟩,
  ⟨some 8, .assign (.t 40), none, [40]⟩] none [0, 1, 7, 8])
def k2_scan_escape : IR := .tail [0, 1, 7, 8] j2_scan_escape
def j3_scan_escape : IR :=
 (.seq (.block 2 (.seq (.seq (.reg 16 [⟨some 41, .move (.t 1), none, []⟩,
  ⟨some 42, .move (.t 8), none, []⟩,
  ⟨some 43, .bin .add 3 (.t 41) (.t 42) 3, none, [41, 42]⟩,
  ⟨some 44, .move (.t 0), none, []⟩,
  ⟨some 45, .len 9 true (.t 44), none, [44]⟩,
  ⟨some 46, .bin .geq 3 (.t 43) (.t 45) 3, none, [43, 45]⟩] none [0, 1, 7, 8, 46])
 (.cond [0, 1, 7, 8] (.t 46) (.seq (.reg 17 [⟨some 47, .move (.t 0), none, [0]⟩,
  ⟨some 48, .len 9 true (.t 47), none, [47]⟩,
  ⟨some 4, .assign (.c (Value.int IntKind.u8 0)), none, []⟩,
  ⟨some 5, .assign (.t 48), none, [48]⟩,
  ⟨some 6, .assign (.c (Value.bool false)), none, []⟩] none [4, 5, 6])
 .ret) .skip))
 k1_scan_escape))
 k2_scan_escape)
def k3_scan_escape : IR := .tail [0, 1, 7, 8] j3_scan_escape
def w0_scan_escape : IR :=
 (.seq (.seq (.reg 14 [⟨some 37, .move (.t 8), none, []⟩,
  ⟨some 38, .bin .lss 3 (.t 37) (.c (Value.int IntKind.i64 3)) 3, none, [37]⟩] none [0, 1, 7, 8, 38])
 (.cond [0, 1, 7, 8] (.t 38) .skip (.exit 1)))
 k3_scan_escape)
def l0_scan_escape : IR := .loop [0, 1, 7, 8] w0_scan_escape
def j4_scan_escape : IR :=
 (.seq (.reg 22 [⟨some 67, .move (.t 7), none, [7]⟩,
  ⟨some 68, .move (.t 1), none, [1]⟩,
  ⟨some 69, .bin .add 3 (.t 68) (.c (Value.int IntKind.i64 3)) 3, none, [68]⟩,
  ⟨some 4, .assign (.t 67), none, [67]⟩,
  ⟨some 5, .assign (.t 69), none, [69]⟩,
  ⟨some 6, .assign (.c (Value.bool true)), none, []⟩] none [4, 5, 6])
 .ret)
def k4_scan_escape : IR := .tail [1, 7] j4_scan_escape
def j5_scan_escape : IR :=
 (.cond [0, 1, 18] (.t 19) (.seq (.reg 6 [⟨some 22, .move (.t 0), none, [0]⟩,
  ⟨some 23, .move (.t 1), none, []⟩,
  ⟨some 24, .index 9 .str none (.t 22) (.t 23), none, [22, 23]⟩,
  ⟨some 25, .move (.t 1), none, [1]⟩,
  ⟨some 26, .bin .add 3 (.t 25) (.c (Value.int IntKind.i64 1)) 3, none, [25]⟩,
  ⟨some 4, .assign (.t 24), none, [24]⟩,
  ⟨some 5, .assign (.t 26), none, [26]⟩,
  ⟨some 6, .assign (.c (Value.bool true)), none, []⟩] none [4, 5, 6])
 .ret) (.seq (.reg 7 [⟨some 28, .bin .eql 5 (.t 18) (.c (Value.int IntKind.u8 110)) 5, none, []⟩,
  ⟨some 27, .assign (.t 28), none, [28]⟩] none [0, 1, 18, 27])
 (.cond [0, 1, 18] (.t 27) (.seq (.reg 8 [⟨some 29, .move (.t 1), none, [1]⟩,
  ⟨some 30, .bin .add 3 (.t 29) (.c (Value.int IntKind.i64 1)) 3, none, [29]⟩,
  ⟨some 4, .assign (.c (Value.int IntKind.u8 10)), none, []⟩,
  ⟨some 5, .assign (.t 30), none, [30]⟩,
  ⟨some 6, .assign (.c (Value.bool true)), none, []⟩] none [4, 5, 6])
 .ret) (.seq (.reg 9 [⟨some 32, .bin .eql 5 (.t 18) (.c (Value.int IntKind.u8 116)) 5, none, []⟩,
  ⟨some 31, .assign (.t 32), none, [32]⟩] none [0, 1, 18, 31])
 (.cond [0, 1, 18] (.t 31) (.seq (.reg 10 [⟨some 33, .move (.t 1), none, [1]⟩,
  ⟨some 34, .bin .add 3 (.t 33) (.c (Value.int IntKind.i64 1)) 3, none, [33]⟩,
  ⟨some 4, .assign (.c (Value.int IntKind.u8 9)), none, []⟩,
  ⟨some 5, .assign (.t 34), none, [34]⟩,
  ⟨some 6, .assign (.c (Value.bool true)), none, []⟩] none [4, 5, 6])
 .ret) (.seq (.reg 11 [⟨some 36, .bin .eql 5 (.t 18) (.c (Value.int IntKind.u8 120)) 5, none, [18]⟩,
  ⟨some 35, .assign (.t 36), none, [36]⟩] none [0, 1, 35])
 (.cond [0, 1] (.t 35) (.seq (.reg 12 [⟨some 7, .assign (.c (Value.int IntKind.u8 0)), none, []⟩] none [0, 1, 7])
 (.seq (.seq (.reg 13 [⟨some 8, .assign (.c (Value.int IntKind.i64 1)), none, []⟩] none [0, 1, 7, 8])
 (.block 1 l0_scan_escape))
 k4_scan_escape)) .skip)))))))
def k5_scan_escape : IR := .tail [0, 1, 18, 19] j5_scan_escape
def j6_scan_escape : IR :=
 (.seq (.reg 23 [⟨some 70, .move (.t 1), none, [1]⟩,
  ⟨some 4, .assign (.c (Value.int IntKind.u8 0)), none, []⟩,
  ⟨some 5, .assign (.t 70), none, [70]⟩,
  ⟨some 6, .assign (.c (Value.bool false)), none, []⟩] none [4, 5, 6])
 .ret)
def k6_scan_escape : IR := .tail [1] j6_scan_escape
def j7_scan_escape : IR :=
 (.seq (.seq (.reg 3 [⟨some 16, .move (.t 0), none, []⟩,
  ⟨some 17, .move (.t 1), none, []⟩,
  ⟨some 18, .index 9 .str none (.t 16) (.t 17), none, [16, 17]⟩] none [0, 1, 18])
 (.block 0 (.seq (.seq (.reg 4 [⟨some 20, .bin .eql 5 (.t 18) (.c (Value.int IntKind.u8 34)) 5, none, []⟩,
  ⟨some 19, .assign (.t 20), none, [20]⟩] none [0, 1, 18, 19])
 (.cond [0, 1, 18, 19] (.t 19) .skip (.reg 5 [⟨some 21, .bin .eql 5 (.t 18) (.c (Value.int IntKind.u8 92)) 5, none, []⟩,
  ⟨some 19, .assign (.t 21), none, [21]⟩] none [0, 1, 18, 19])))
 k5_scan_escape)))
 k6_scan_escape)
def k7_scan_escape : IR := .tail [0, 1] j7_scan_escape
def b_scan_escape : IR :=
 (.seq (.reg 0 [⟨some 4, .assign (.c (Value.int IntKind.u8 0)), none, [4]⟩,
  ⟨some 5, .assign (.c (Value.int IntKind.i64 0)), none, [5]⟩,
  ⟨some 6, .assign (.c (Value.bool false)), none, [6]⟩] none [0, 1])
 (.seq (.seq (.reg 1 [⟨some 11, .move (.t 1), none, []⟩,
  ⟨some 12, .move (.t 0), none, []⟩,
  ⟨some 13, .len 9 true (.t 12), none, [12]⟩,
  ⟨some 14, .bin .geq 3 (.t 11) (.t 13) 3, none, [11, 13]⟩] none [0, 1, 14])
 (.cond [0, 1] (.t 14) (.seq (.reg 2 [⟨some 15, .move (.t 1), none, [1]⟩,
  ⟨some 4, .assign (.c (Value.int IntKind.u8 0)), none, []⟩,
  ⟨some 5, .assign (.t 15), none, [15]⟩,
  ⟨some 6, .assign (.c (Value.bool false)), none, []⟩] none [4, 5, 6])
 .ret) .skip))
 k7_scan_escape))
def a_scan_escape : AFunc := ⟨71, [.tmp 4, .tmp 5, .tmp 6], b_scan_escape⟩

def j0_scan_text : IR :=
 (.seq (.reg 13 [⟨some 50, .move (.t 8), none, []⟩,
  ⟨some 51, .move (.t 11), none, [11]⟩,
  ⟨some 52, .lit 56 1 [(.t 51)], none, [51]⟩,
  ⟨some 53, .append 56 56 false 1 1 (.t 50) (.t 52), none, [50, 52]⟩,
  ⟨some 8, .assign (.t 53), none, []⟩] none [0, 8, 12, 28, 53])
 (.reg 14 [⟨some 54, .move (.t 12), none, [12]⟩,
  ⟨some 55, .bin .sub 3 (.t 54) (.c (Value.int IntKind.i64 1)) 3, none, [54]⟩,
  ⟨some 9, .assign (.t 55), none, [55]⟩] none [0, 8, 9, 28, 53]))
def k0_scan_text : IR := .tail [0, 8, 11, 12, 28, 53] j0_scan_text
def j1_scan_text : IR :=
 (.reg 4 [⟨some 20, .move (.t 9), none, []⟩,
  ⟨some 21, .bin .add 3 (.t 20) (.c (Value.int IntKind.i64 1)) 3, none, [20]⟩,
  ⟨some 9, .assign (.t 21), none, [21]⟩] none [0, 8, 9, 28, 53])
def k1_scan_text : IR := .tail [0, 8, 9, 28, 53] j1_scan_text
def j2_scan_text : IR :=
 (.seq (.block 1 (.seq (.reg 5 [⟨some 22, .move (.t 0), none, []⟩,
  ⟨some 23, .move (.t 9), none, []⟩,
  ⟨some 24, .index 9 .str none (.t 22) (.t 23), none, [22, 23]⟩,
  ⟨some 10, .assign (.t 24), none, [24]⟩] none [0, 8, 9, 10, 28, 53])
 (.block 2 (.seq (.reg 7 [⟨some 30, .move (.t 10), none, []⟩,
  ⟨some 31, .bin .eql 5 (.t 30) (.c (Value.int IntKind.u8 34)) 5, none, [30]⟩,
  ⟨some 29, .assign (.t 31), none, [31]⟩] none [0, 8, 9, 10, 28, 29, 53])
 (.cond [0, 8, 9, 10, 28, 53] (.t 29) (.seq (.reg 8 [⟨some 32, .move (.t 8), none, []⟩,
  ⟨some 33, .conv 56 9 .bytes (.t 32), none, [8, 28, 32, 53]⟩,
  ⟨some 34, .move (.t 9), none, [9]⟩,
  ⟨some 35, .bin .add 3 (.t 34) (.c (Value.int IntKind.i64 1)) 3, none, [34]⟩,
  ⟨some 4, .assign (.t 33), none, [33]⟩,
  ⟨some 5, .assign (.t 35), none, [35]⟩,
  ⟨some 6, .assign (.c (Value.int IntKind.i64 0)), none, []⟩,
  ⟨some 7, .assign (.c (Value.int IntKind.i64 0)), none, []⟩] none [4, 5, 6, 7])
 .ret) (.seq (.reg 9 [⟨some 37, .move (.t 10), none, []⟩,
  ⟨some 38, .bin .eql 5 (.t 37) (.c (Value.int IntKind.u8 92)) 5, none, [37]⟩,
  ⟨some 36, .assign (.t 38), none, [38]⟩] none [0, 8, 9, 10, 28, 36, 53])
 (.cond [0, 8, 9, 10, 28, 53] (.t 36) (.seq (.reg 10 [⟨some 40, .move (.t 0), none, []⟩,
  ⟨some 41, .move (.t 9), none, [9]⟩,
  ⟨some 42, .bin .add 3 (.t 41) (.c (Value.int IntKind.i64 1)) 3, none, [41]⟩,
  ⟨some 43, .call n_scan_escape [(.t 40), (.t 42)] [9, 3], none, [40, 42]⟩,
  ⟨some 39, .move (.t 43), none, [43]⟩,
  ⟨some 44, .extr (.t 39) 0, none, []⟩,
  ⟨some 45, .extr (.t 39) 1, none, []⟩,
  ⟨some 46, .extr (.t 39) 2, none, [39]⟩,
  ⟨some 11, .assign (.t 44), none, [44]⟩,
  ⟨some 12, .assign (.t 45), none, [45]⟩,
  ⟨some 13, .assign (.t 46), none, [46]⟩] none [0, 8, 11, 12, 13, 28, 53])
 (.seq (.seq (.reg 11 [⟨some 47, .move (.t 13), none, [13]⟩,
  ⟨some 48, .un .not 4 (.t 47), none, [47]⟩] none [0, 8, 11, 12, 28, 48, 53])
 (.cond [0, 8, 11, 12, 28, 53] (.t 48) (.seq (.reg 12 [⟨some 49, .move (.t 12), none, [12]⟩,
  ⟨some 4, .assign (.c (Value.string { data := #[] })), none, []⟩,
  ⟨some 5, .assign (.c (Value.int IntKind.i64 0)), none, []⟩,
  ⟨some 6, .assign (.c (Value.int IntKind.i64 31)), none, []⟩,
  ⟨some 7, .assign (.t 49), none, [49]⟩] none [4, 5, 6, 7])
 .ret) .skip))
 k0_scan_text)) (.seq (.reg 15 [⟨some 57, .move (.t 10), none, []⟩,
  ⟨some 58, .bin .lss 5 (.t 57) (.c (Value.int IntKind.u8 32)) 5, none, [57]⟩,
  ⟨some 59, .move (.t 58), none, [58]⟩,
  ⟨some 60, .move (.t 10), some (2, false), []⟩,
  ⟨some 61, .bin .eql 5 (.t 60) (.c (Value.int IntKind.u8 127)) 5, some (2, false), [60]⟩,
  ⟨some 62, .pick (.t 59) (.c (Value.bool true)) (.t 61), none, [59, 61]⟩,
  ⟨some 56, .assign (.t 62), none, [62]⟩] none [0, 8, 9, 10, 28, 53, 56])
 (.cond [0, 8, 9, 10, 28, 53] (.t 56) (.seq (.reg 16 [⟨some 63, .move (.t 9), none, [9]⟩,
  ⟨some 4, .assign (.c (Value.string { data := #[] })), none, []⟩,
  ⟨some 5, .assign (.c (Value.int IntKind.i64 0)), none, []⟩,
  ⟨some 6, .assign (.c (Value.int IntKind.i64 31)), none, []⟩,
  ⟨some 7, .assign (.t 63), none, [63]⟩] none [4, 5, 6, 7])
 .ret) (.reg 6 [⟨some 25, .move (.t 8), none, []⟩,
  ⟨some 26, .move (.t 10), none, [10]⟩,
  ⟨some 27, .lit 56 1 [(.t 26)], none, [26]⟩,
  ⟨some 28, .append 56 56 false 1 1 (.t 25) (.t 27), none, [25, 27]⟩,
  ⟨some 8, .assign (.t 28), none, []⟩] none [0, 8, 9, 28, 53]))))))))))
 k1_scan_text)
def k2_scan_text : IR := .tail [0, 8, 9, 28, 53] j2_scan_text
def w0_scan_text : IR :=
 (.seq (.seq (.reg 3 [⟨some 16, .move (.t 9), none, []⟩,
  ⟨some 17, .move (.t 0), none, []⟩,
  ⟨some 18, .len 9 true (.t 17), none, [17]⟩,
  ⟨some 19, .bin .lss 3 (.t 16) (.t 18) 3, none, [16, 18]⟩] none [0, 8, 9, 19, 28, 53])
 (.cond [0, 8, 9, 28, 53] (.t 19) .skip (.exit 0)))
 k2_scan_text)
def l0_scan_text : IR := .loop [0, 8, 9, 28, 53] w0_scan_text
def j3_scan_text : IR :=
 (.seq (.reg 17 [⟨some 64, .move (.t 0), none, [0]⟩,
  ⟨some 65, .len 9 true (.t 64), none, [64]⟩,
  ⟨some 4, .assign (.c (Value.string { data := #[] })), none, []⟩,
  ⟨some 5, .assign (.c (Value.int IntKind.i64 0)), none, []⟩,
  ⟨some 6, .assign (.c (Value.int IntKind.i64 31)), none, []⟩,
  ⟨some 7, .assign (.t 65), none, [65]⟩] none [4, 5, 6, 7])
 .ret)
def k3_scan_text : IR := .tail [0] j3_scan_text
def b_scan_text : IR :=
 (.seq (.reg 0 [⟨some 4, .assign (.c (Value.string { data := #[] })), none, [4]⟩,
  ⟨some 5, .assign (.c (Value.int IntKind.i64 0)), none, [5]⟩,
  ⟨some 6, .assign (.c (Value.int IntKind.i64 0)), none, [6]⟩,
  ⟨some 7, .assign (.c (Value.int IntKind.i64 0)), none, [7]⟩] none [0, 1])
 (.seq (.reg 1 [⟨some 8, .assign (.nilS 1), none, []⟩] none [0, 1, 8, 28, 53])
 (.seq (.seq (.reg 2 [⟨some 14, .move (.t 1), none, [1]⟩,
  ⟨some 15, .bin .add 3 (.t 14) (.c (Value.int IntKind.i64 1)) 3, none, [14]⟩,
  ⟨some 9, .assign (.t 15), none, [15]⟩] none [0, 8, 9, 28, 53])
 (.block 0 l0_scan_text))
 k3_scan_text)))
def a_scan_text : AFunc := ⟨66, [.tmp 4, .tmp 5, .tmp 6, .tmp 7], b_scan_text⟩

def j0_scan_one : IR :=
 (.seq (.reg 10 [⟨some 48, .move (.t 12), none, [12]⟩,
  ⟨some 49, .move (.t 1), none, [1]⟩,
  ⟨some 50, .build 36 [(0, 1), (1, 1), (2, 1)] [.v (.int .u8 0), .v (.string ⟨#[]⟩), .v (.int .i64 0)] [(0, (.c (Value.int IntKind.u8 3))), (1, (.t 48)), (2, (.t 49))], none, [48, 49]⟩,
  ⟨some 51, .move (.t 13), none, [13]⟩,
  ⟨some 52, .move (.t 14), none, [14]⟩,
  ⟨some 53, .move (.t 15), none, [15]⟩,
  ⟨none, .store 36 (some 3) (.t 4) (.t 50), none, [50]⟩,
  ⟨some 5, .assign (.t 51), none, [51]⟩,
  ⟨some 6, .assign (.t 52), none, [52]⟩,
  ⟨some 7, .assign (.t 53), none, [53]⟩] none [4, 5, 6, 7])
 .ret)
def k0_scan_one : IR := .tail [1, 4, 12, 13, 14, 15] j0_scan_one
def j1_scan_one : IR :=
 (.block 2 (.reg 14 [⟨some 77, .move (.t 9), none, []⟩,
  ⟨some 78, .bin .add 3 (.t 77) (.c (Value.int IntKind.i64 1)) 3, none, [77]⟩,
  ⟨some 9, .assign (.t 78), none, [78]⟩] none [0, 1, 4, 8, 9, 10]))
def k1_scan_one : IR := .tail [0, 1, 4, 8, 9, 10] j1_scan_one
def w0_scan_one : IR :=
 (.seq (.seq (.reg 13 [⟨some 58, .move (.t 9), none, []⟩,
  ⟨some 59, .move (.t 0), none, []⟩,
  ⟨some 60, .len 9 true (.t 59), none, [59]⟩,
  ⟨some 61, .bin .lss 3 (.t 58) (.t 60) 3, none, [58, 60]⟩,
  ⟨some 62, .move (.t 61), none, [61]⟩,
  ⟨some 63, .move (.t 0), some (4, true), []⟩,
  ⟨some 64, .move (.t 9), some (4, true), []⟩,
  ⟨some 65, .index 9 .str none (.t 63) (.t 64), some (4, true), [63, 64]⟩,
  ⟨some 66, .call n_scan_of [(.t 65)] [5], some (4, true), [65]⟩,
  ⟨some 67, .move (.t 10), some (4, true), []⟩,
  ⟨some 68, .bin .and 49 (.t 66) (.t 67) 49, some (4, true), [66, 67]⟩,
  ⟨some 69, .bin .neq 49 (.t 68) (.c (Value.int IntKind.u8 0)) 49, some (4, true), [68]⟩,
  ⟨some 70, .move (.t 69), some (4, true), [69]⟩,
  ⟨some 71, .move (.t 0), some (12, false), []⟩,
  ⟨some 72, .move (.t 9), some (12, false), []⟩,
  ⟨some 73, .index 9 .str none (.t 71) (.t 72), some (12, false), [71, 72]⟩,
  ⟨some 74, .bin .eql 5 (.t 73) (.c (Value.int IntKind.u8 45)) 5, some (12, false), [73]⟩,
  ⟨some 75, .pick (.t 70) (.c (Value.bool true)) (.t 74), some (4, true), [70, 74]⟩,
  ⟨some 76, .pick (.t 62) (.t 75) (.c (Value.bool false)), none, [62, 75]⟩] none [0, 1, 4, 8, 9, 10, 76])
 (.cond [0, 1, 4, 8, 9, 10] (.t 76) .skip (.exit 1)))
 k1_scan_one)
def l0_scan_one : IR := .loop [0, 1, 4, 8, 9, 10] w0_scan_one
def j2_scan_one : IR :=
 (.block 4 (.reg 18 [⟨some 98, .move (.t 9), none, []⟩,
  ⟨some 99, .bin .add 3 (.t 98) (.c (Value.int IntKind.i64 1)) 3, none, [98]⟩,
  ⟨some 9, .assign (.t 99), none, [99]⟩] none [0, 1, 4, 8, 9, 10]))
def k2_scan_one : IR := .tail [0, 1, 4, 8, 9, 10] j2_scan_one
def w1_scan_one : IR :=
 (.seq (.seq (.reg 17 [⟨some 84, .move (.t 9), none, []⟩,
  ⟨some 85, .move (.t 0), none, []⟩,
  ⟨some 86, .len 9 true (.t 85), none, [85]⟩,
  ⟨some 87, .bin .lss 3 (.t 84) (.t 86) 3, none, [84, 86]⟩,
  ⟨some 88, .move (.t 87), none, [87]⟩,
  ⟨some 89, .move (.t 0), some (4, true), []⟩,
  ⟨some 90, .move (.t 9), some (4, true), []⟩,
  ⟨some 91, .index 9 .str none (.t 89) (.t 90), some (4, true), [89, 90]⟩,
  ⟨some 92, .call n_scan_of [(.t 91)] [5], some (4, true), [91]⟩,
  ⟨some 93, .move (.t 10), some (4, true), []⟩,
  ⟨some 94, .bin .or 49 (.t 93) (.c (Value.int IntKind.u8 4)) 49, some (4, true), [93]⟩,
  ⟨some 95, .bin .and 49 (.t 92) (.t 94) 49, some (4, true), [92, 94]⟩,
  ⟨some 96, .bin .neq 49 (.t 95) (.c (Value.int IntKind.u8 0)) 49, some (4, true), [95]⟩,
  ⟨some 97, .pick (.t 88) (.t 96) (.c (Value.bool false)), none, [88, 96]⟩] none [0, 1, 4, 8, 9, 10, 97])
 (.cond [0, 1, 4, 8, 9, 10] (.t 97) .skip (.exit 3)))
 k2_scan_one)
def l1_scan_one : IR := .loop [0, 1, 4, 8, 9, 10] w1_scan_one
def j3_scan_one : IR :=
 (.seq (.reg 29 [⟨some 158, .load 36 (some 3) (.t 8), none, [8]⟩,
  ⟨some 159, .move (.t 9), none, [9]⟩,
  ⟨none, .store 36 (some 3) (.t 4) (.t 158), none, [158]⟩,
  ⟨some 5, .assign (.t 159), none, [159]⟩,
  ⟨some 6, .assign (.c (Value.int IntKind.i64 0)), none, []⟩,
  ⟨some 7, .assign (.c (Value.int IntKind.i64 0)), none, []⟩] none [4, 5, 6, 7])
 .ret)
def k3_scan_one : IR := .tail [4, 8, 9] j3_scan_one
def j4_scan_one : IR :=
 (.seq (.reg 26 [⟨some 147, .move (.t 0), none, [0]⟩,
  ⟨some 148, .move (.t 1), none, []⟩,
  ⟨some 149, .move (.t 9), none, []⟩,
  ⟨some 150, .slice 9 .str (.t 147) (some (.t 148)) (some (.t 149)) none, none, [147, 148, 149]⟩,
  ⟨some 151, .faddr 36 (.t 8) 1 1, none, []⟩,
  ⟨none, .store 9 none (.t 151) (.t 150), none, [150, 151]⟩] none [1, 4, 8, 9])
 (.seq (.seq (.reg 27 [⟨some 152, .faddr 36 (.t 8) 1 1, none, []⟩,
  ⟨some 153, .load 9 none (.t 152), none, [152]⟩,
  ⟨some 154, .len 9 true (.t 153), none, [153]⟩,
  ⟨some 155, .bin .gtr 3 (.t 154) (.c (Value.int IntKind.i64 65536)) 3, none, [154]⟩] none [1, 4, 8, 9, 155])
 (.cond [1, 4, 8, 9] (.t 155) (.seq (.reg 28 [⟨some 156, .load 36 (some 3) (.t 8), none, [8]⟩,
  ⟨some 157, .move (.t 1), none, [1]⟩,
  ⟨none, .store 36 (some 3) (.t 4) (.t 156), none, [156]⟩,
  ⟨some 5, .assign (.c (Value.int IntKind.i64 0)), none, []⟩,
  ⟨some 6, .assign (.c (Value.int IntKind.i64 4)), none, []⟩,
  ⟨some 7, .assign (.t 157), none, [157]⟩] none [4, 5, 6, 7])
 .ret) .skip))
 k3_scan_one))
def k4_scan_one : IR := .tail [0, 1, 4, 8, 9] j4_scan_one
def b_scan_one : IR :=
 (.seq (.reg 0 [⟨some 4, .alloc 36 [.v (.int .u8 0), .v (.string ⟨#[]⟩), .v (.int .i64 0)], none, []⟩,
  ⟨some 5, .assign (.c (Value.int IntKind.i64 0)), none, [5]⟩,
  ⟨some 6, .assign (.c (Value.int IntKind.i64 0)), none, [6]⟩,
  ⟨some 7, .assign (.c (Value.int IntKind.i64 0)), none, [7]⟩] none [0, 1, 4])
 (.seq (.reg 1 [⟨some 17, .move (.t 1), none, []⟩,
  ⟨some 18, .build 36 [(0, 1), (1, 1), (2, 1)] [.v (.int .u8 0), .v (.string ⟨#[]⟩), .v (.int .i64 0)] [(2, (.t 17))], none, [17]⟩,
  ⟨some 8, .alloc 36 [.v (.int .u8 0), .v (.string ⟨#[]⟩), .v (.int .i64 0)], none, []⟩,
  ⟨none, .store 36 (some 3) (.t 8) (.t 18), none, [18]⟩] none [0, 1, 4, 8])
 (.seq (.reg 2 [⟨some 19, .move (.t 1), none, []⟩,
  ⟨some 20, .bin .add 3 (.t 19) (.c (Value.int IntKind.i64 1)) 3, none, [19]⟩,
  ⟨some 9, .assign (.t 20), none, [20]⟩] none [0, 1, 4, 8, 9])
 (.seq (.reg 3 [⟨some 10, .assign (.c (Value.int IntKind.u8 11)), none, []⟩] none [0, 1, 4, 8, 9, 10])
 (.seq (.seq (.reg 4 [⟨some 21, .move (.t 0), none, []⟩,
  ⟨some 22, .move (.t 1), none, []⟩,
  ⟨some 23, .index 9 .str none (.t 21) (.t 22), none, [21, 22]⟩,
  ⟨some 24, .call n_scan_of [(.t 23)] [5], none, [23]⟩,
  ⟨some 11, .assign (.t 24), none, [24]⟩] none [0, 1, 4, 8, 9, 10, 11])
 (.block 0 (.seq (.reg 6 [⟨some 28, .move (.t 0), none, []⟩,
  ⟨some 29, .move (.t 1), none, []⟩,
  ⟨some 30, .index 9 .str none (.t 28) (.t 29), none, [28, 29]⟩,
  ⟨some 31, .bin .eql 5 (.t 30) (.c (Value.int IntKind.u8 34)) 5, none, [30]⟩,
  ⟨some 27, .assign (.t 31), none, [31]⟩] none [0, 1, 4, 8, 9, 10, 11, 27])
 (.cond [0, 1, 4, 8, 9, 10, 11] (.t 27) (.seq (.reg 7 [⟨some 33, .move (.t 0), none, [0]⟩,
  ⟨some 34, .move (.t 1), none, []⟩,
  ⟨some 35, .call n_scan_text [(.t 33), (.t 34)] [9, 3], none, [33, 34]⟩,
  ⟨some 32, .move (.t 35), none, [35]⟩,
  ⟨some 36, .extr (.t 32) 0, none, []⟩,
  ⟨some 37, .extr (.t 32) 1, none, []⟩,
  ⟨some 38, .extr (.t 32) 2, none, []⟩,
  ⟨some 39, .extr (.t 32) 3, none, [32]⟩,
  ⟨some 12, .assign (.t 36), none, [36]⟩,
  ⟨some 13, .assign (.t 37), none, [37]⟩,
  ⟨some 14, .assign (.t 38), none, [38]⟩,
  ⟨some 15, .assign (.t 39), none, [39]⟩] none [1, 4, 12, 13, 14, 15])
 (.seq (.seq (.reg 8 [⟨some 40, .move (.t 14), none, []⟩,
  ⟨some 41, .bin .eql 28 (.t 40) (.c (Value.int IntKind.i64 0)) 28, none, [40]⟩,
  ⟨some 42, .move (.t 41), none, [41]⟩,
  ⟨some 43, .move (.t 12), some (2, true), []⟩,
  ⟨some 44, .len 9 true (.t 43), some (2, true), [43]⟩,
  ⟨some 45, .bin .gtr 3 (.t 44) (.c (Value.int IntKind.i64 65536)) 3, some (2, true), [44]⟩,
  ⟨some 46, .pick (.t 42) (.t 45) (.c (Value.bool false)), none, [42, 45]⟩] none [1, 4, 12, 13, 14, 15, 46])
 (.cond [1, 4, 12, 13, 14, 15] (.t 46) (.reg 9 [⟨some 47, .move (.t 1), none, []⟩,
  ⟨some 14, .assign (.c (Value.int IntKind.i64 4)), none, []⟩,
  ⟨some 15, .assign (.t 47), none, [47]⟩] none [1, 4, 12, 13, 14, 15]) .skip))
 k0_scan_one)) (.seq (.reg 11 [⟨some 55, .move (.t 11), none, []⟩,
  ⟨some 56, .bin .eql 49 (.t 55) (.c (Value.int IntKind.u8 1)) 49, none, [55]⟩,
  ⟨some 54, .assign (.t 56), none, [56]⟩] none [0, 1, 4, 8, 9, 10, 11, 54])
 (.cond [0, 1, 4, 8, 9, 10, 11] (.t 54) (.seq (.reg 12 [⟨some 57, .faddr 36 (.t 8) 0 0, none, []⟩,
  ⟨none, .store 34 none (.t 57) (.c (Value.int IntKind.u8 1)), none, [57]⟩] none [0, 1, 4, 8, 9, 10])
 (.block 1 l0_scan_one)) (.seq (.reg 15 [⟨some 80, .move (.t 11), none, []⟩,
  ⟨some 81, .bin .and 49 (.t 80) (.c (Value.int IntKind.u8 14)) 49, none, [80]⟩,
  ⟨some 82, .bin .neq 49 (.t 81) (.c (Value.int IntKind.u8 0)) 49, none, [81]⟩,
  ⟨some 79, .assign (.t 82), none, [82]⟩] none [0, 1, 4, 8, 9, 10, 11, 79])
 (.cond [0, 1, 4, 8, 9, 10, 11] (.t 79) (.seq (.reg 16 [⟨some 83, .faddr 36 (.t 8) 0 0, none, []⟩,
  ⟨none, .store 34 none (.t 83) (.c (Value.int IntKind.u8 2)), none, [83]⟩] none [0, 1, 4, 8, 9, 10])
 (.block 3 l1_scan_one)) (.seq (.reg 19 [⟨some 101, .move (.t 11), none, [11]⟩,
  ⟨some 102, .bin .eql 49 (.t 101) (.c (Value.int IntKind.u8 16)) 49, none, [101]⟩,
  ⟨some 103, .move (.t 102), none, [102]⟩,
  ⟨some 104, .move (.t 0), some (2, false), []⟩,
  ⟨some 105, .move (.t 1), some (2, false), []⟩,
  ⟨some 106, .index 9 .str none (.t 104) (.t 105), some (2, false), [104, 105]⟩,
  ⟨some 107, .bin .eql 5 (.t 106) (.c (Value.int IntKind.u8 33)) 5, some (2, false), [106]⟩,
  ⟨some 108, .pick (.t 103) (.c (Value.bool true)) (.t 107), none, [103, 107]⟩,
  ⟨some 100, .assign (.t 108), none, [108]⟩] none [0, 1, 4, 8, 9, 100])
 (.cond [0, 1, 4, 8, 9] (.t 100) (.seq (.reg 20 [⟨some 109, .faddr 36 (.t 8) 0 0, none, []⟩,
  ⟨none, .store 34 none (.t 109) (.c (Value.int IntKind.u8 4)), none, [109]⟩] none [0, 1, 4, 8, 9])
 (.seq (.reg 21 [⟨some 110, .move (.t 9), none, []⟩,
  ⟨some 111, .move (.t 0), none, []⟩,
  ⟨some 112, .len 9 true (.t 111), none, [111]⟩,
  ⟨some 113, .bin .lss 3 (.t 110) (.t 112) 3, none, [110, 112]⟩,
  ⟨some 114, .move (.t 113), none, [113]⟩,
  ⟨some 115, .move (.t 0), some (4, true), []⟩,
  ⟨some 116, .move (.t 9), some (4, true), []⟩,
  ⟨some 117, .index 9 .str none (.t 115) (.t 116), some (4, true), [115, 116]⟩,
  ⟨some 118, .bin .eql 5 (.t 117) (.c (Value.int IntKind.u8 61)) 5, some (4, true), [117]⟩,
  ⟨some 119, .pick (.t 114) (.t 118) (.c (Value.bool false)), none, [114, 118]⟩,
  ⟨some 120, .move (.t 119), none, [119]⟩,
  ⟨some 121, .move (.t 0), some (10, true), []⟩,
  ⟨some 122, .move (.t 1), some (10, true), []⟩,
  ⟨some 123, .index 9 .str none (.t 121) (.t 122), some (10, true), [121, 122]⟩,
  ⟨some 124, .bin .eql 5 (.t 123) (.c (Value.int IntKind.u8 60)) 5, some (10, true), [123]⟩,
  ⟨some 125, .move (.t 124), some (10, true), [124]⟩,
  ⟨some 126, .move (.t 0), some (15, false), []⟩,
  ⟨some 127, .move (.t 1), some (15, false), []⟩,
  ⟨some 128, .index 9 .str none (.t 126) (.t 127), some (15, false), [126, 127]⟩,
  ⟨some 129, .bin .eql 5 (.t 128) (.c (Value.int IntKind.u8 62)) 5, some (15, false), [128]⟩,
  ⟨some 130, .pick (.t 125) (.c (Value.bool true)) (.t 129), some (10, true), [125, 129]⟩,
  ⟨some 131, .move (.t 130), some (10, true), [130]⟩,
  ⟨some 132, .move (.t 0), some (21, false), []⟩,
  ⟨some 133, .move (.t 1), some (21, false), []⟩,
  ⟨some 134, .index 9 .str none (.t 132) (.t 133), some (21, false), [132, 133]⟩,
  ⟨some 135, .bin .eql 5 (.t 134) (.c (Value.int IntKind.u8 33)) 5, some (21, false), [134]⟩,
  ⟨some 136, .pick (.t 131) (.c (Value.bool true)) (.t 135), some (10, true), [131, 135]⟩,
  ⟨some 137, .pick (.t 120) (.t 136) (.c (Value.bool false)), none, [120, 136]⟩,
  ⟨some 16, .assign (.t 137), none, [137]⟩] none [0, 1, 4, 8, 9, 16])
 (.seq (.reg 22 [⟨some 138, .move (.t 16), none, [16]⟩] none [0, 1, 4, 8, 9, 138])
 (.cond [0, 1, 4, 8, 9] (.t 138) (.reg 23 [⟨some 139, .move (.t 9), none, []⟩,
  ⟨some 140, .bin .add 3 (.t 139) (.c (Value.int IntKind.i64 1)) 3, none, [139]⟩,
  ⟨some 9, .assign (.t 140), none, [140]⟩] none [0, 1, 4, 8, 9]) (.seq (.reg 24 [⟨some 141, .move (.t 0), none, []⟩,
  ⟨some 142, .move (.t 1), none, []⟩,
  ⟨some 143, .index 9 .str none (.t 141) (.t 142), none, [141, 142]⟩,
  ⟨some 144, .bin .eql 5 (.t 143) (.c (Value.int IntKind.u8 33)) 5, none, [143]⟩] none [0, 1, 4, 8, 9, 144])
 (.cond [0, 1, 4, 8, 9] (.t 144) (.seq (.reg 25 [⟨some 145, .load 36 (some 3) (.t 8), none, [8]⟩,
  ⟨some 146, .move (.t 1), none, [1]⟩,
  ⟨none, .store 36 (some 3) (.t 4) (.t 145), none, [145]⟩,
  ⟨some 5, .assign (.c (Value.int IntKind.i64 0)), none, []⟩,
  ⟨some 6, .assign (.c (Value.int IntKind.i64 30)), none, []⟩,
  ⟨some 7, .assign (.t 146), none, [146]⟩] none [4, 5, 6, 7])
 .ret) .skip)))))) (.seq (.reg 5 [⟨some 25, .load 36 (some 3) (.t 8), none, [8]⟩,
  ⟨some 26, .move (.t 1), none, [1]⟩,
  ⟨none, .store 36 (some 3) (.t 4) (.t 25), none, [25]⟩,
  ⟨some 5, .assign (.c (Value.int IntKind.i64 0)), none, []⟩,
  ⟨some 6, .assign (.c (Value.int IntKind.i64 30)), none, []⟩,
  ⟨some 7, .assign (.t 26), none, [26]⟩] none [4, 5, 6, 7])
 .ret)))))))))))
 k4_scan_one)))))
def a_scan_one : AFunc := ⟨160, [.cell 4 36 (some 3), .tmp 5, .tmp 6, .tmp 7], b_scan_one⟩

def j0_scan_Words : IR :=
 (.seq (.reg 9 [⟨some 40, .move (.t 5), none, []⟩,
  ⟨some 41, .load 36 (some 3) (.t 7), none, [7]⟩,
  ⟨some 42, .lit 27 3 [(.t 41)], none, [41]⟩,
  ⟨some 43, .append 27 27 false 3 32 (.t 40) (.t 42), none, [40, 42]⟩,
  ⟨some 5, .assign (.t 43), none, []⟩] none [0, 5, 8, 43])
 (.reg 10 [⟨some 44, .move (.t 8), none, [8]⟩,
  ⟨some 6, .assign (.t 44), none, [44]⟩] none [0, 5, 6, 43]))
def k0_scan_Words : IR := .tail [0, 5, 7, 8, 43] j0_scan_Words
def j1_scan_Words : IR :=
 (.seq (.reg 6 [⟨some 29, .move (.t 0), none, []⟩,
  ⟨some 30, .move (.t 6), none, [6]⟩,
  ⟨some 31, .call n_scan_one [(.t 29), (.t 30)] [9, 3], none, [29, 30]⟩,
  ⟨some 28, .move (.t 31), none, [31]⟩,
  ⟨some 32, .extr (.t 28) 0, none, []⟩,
  ⟨some 33, .extr (.t 28) 1, none, []⟩,
  ⟨some 34, .extr (.t 28) 2, none, []⟩,
  ⟨some 35, .extr (.t 28) 3, none, [28]⟩,
  ⟨some 7, .alloc 36 [.v (.int .u8 0), .v (.string ⟨#[]⟩), .v (.int .i64 0)], none, []⟩,
  ⟨none, .store 36 (some 3) (.t 7) (.t 32), none, [32]⟩,
  ⟨some 8, .assign (.t 33), none, [33]⟩,
  ⟨some 9, .assign (.t 34), none, [34]⟩,
  ⟨some 10, .assign (.t 35), none, [35]⟩] none [0, 5, 7, 8, 9, 10, 43])
 (.seq (.seq (.reg 7 [⟨some 36, .move (.t 9), none, []⟩,
  ⟨some 37, .bin .neq 28 (.t 36) (.c (Value.int IntKind.i64 0)) 28, none, [36]⟩] none [0, 5, 7, 8, 9, 10, 37, 43])
 (.cond [0, 5, 7, 8, 9, 10, 43] (.t 37) (.seq (.reg 8 [⟨some 38, .move (.t 9), none, [9]⟩,
  ⟨some 39, .move (.t 10), none, [10]⟩,
  ⟨some 2, .assign (.nilS 3), none, []⟩,
  ⟨some 3, .assign (.t 38), none, [38]⟩,
  ⟨some 4, .assign (.t 39), none, [39]⟩] none [2, 3, 4, 5, 43, 45])
 .ret) .skip))
 k0_scan_Words))
def k1_scan_Words : IR := .tail [0, 5, 6, 43] j1_scan_Words
def j2_scan_Words : IR :=
 (.block 1 (.seq (.seq (.reg 4 [⟨some 21, .move (.t 0), none, []⟩,
  ⟨some 22, .move (.t 6), none, []⟩,
  ⟨some 23, .index 9 .str none (.t 21) (.t 22), none, [21, 22]⟩,
  ⟨some 24, .call n_scan_of [(.t 23)] [5], none, [23]⟩,
  ⟨some 25, .bin .eql 49 (.t 24) (.c (Value.int IntKind.u8 32)) 49, none, [24]⟩] none [0, 5, 6, 25, 43])
 (.cond [0, 5, 6, 43] (.t 25) (.seq (.reg 5 [⟨some 26, .move (.t 6), none, []⟩,
  ⟨some 27, .bin .add 3 (.t 26) (.c (Value.int IntKind.i64 1)) 3, none, [26]⟩,
  ⟨some 6, .assign (.t 27), none, [27]⟩] none [0, 5, 6, 43])
 (.exit 1)) .skip))
 k1_scan_Words))
def k2_scan_Words : IR := .tail [0, 5, 6, 43] j2_scan_Words
def w0_scan_Words : IR :=
 (.seq (.seq (.reg 3 [⟨some 11, .move (.t 6), none, []⟩,
  ⟨some 12, .move (.t 0), none, []⟩,
  ⟨some 13, .len 9 true (.t 12), none, [12]⟩,
  ⟨some 14, .bin .lss 3 (.t 11) (.t 13) 3, none, [11, 13]⟩,
  ⟨some 15, .move (.t 14), none, [14]⟩,
  ⟨some 16, .move (.t 0), some (4, true), []⟩,
  ⟨some 17, .move (.t 6), some (4, true), []⟩,
  ⟨some 18, .index 9 .str none (.t 16) (.t 17), some (4, true), [16, 17]⟩,
  ⟨some 19, .bin .neq 5 (.t 18) (.c (Value.int IntKind.u8 35)) 5, some (4, true), [18]⟩,
  ⟨some 20, .pick (.t 15) (.t 19) (.c (Value.bool false)), none, [15, 19]⟩] none [0, 5, 6, 20, 43])
 (.cond [0, 5, 6, 43] (.t 20) .skip (.exit 0)))
 k2_scan_Words)
def l0_scan_Words : IR := .loop [0, 5, 6, 43] w0_scan_Words
def j3_scan_Words : IR :=
 (.seq (.reg 11 [⟨some 45, .move (.t 5), none, []⟩,
  ⟨some 2, .assign (.t 45), none, []⟩,
  ⟨some 3, .assign (.c (Value.int IntKind.i64 0)), none, []⟩,
  ⟨some 4, .assign (.c (Value.int IntKind.i64 0)), none, []⟩] none [2, 3, 4, 5, 43, 45])
 .ret)
def k3_scan_Words : IR := .tail [5, 43] j3_scan_Words
def b_scan_Words : IR :=
 (.seq (.reg 0 [⟨some 2, .assign (.nilS 3), none, [2]⟩,
  ⟨some 3, .assign (.c (Value.int IntKind.i64 0)), none, [3]⟩,
  ⟨some 4, .assign (.c (Value.int IntKind.i64 0)), none, [4]⟩] none [0])
 (.seq (.reg 1 [⟨some 5, .assign (.nilS 3), none, []⟩] none [0, 5, 43])
 (.seq (.reg 2 [⟨some 6, .assign (.c (Value.int IntKind.i64 0)), none, []⟩] none [0, 5, 6, 43])
 (.seq (.block 0 l0_scan_Words)
 k3_scan_Words))))
def a_scan_Words : AFunc := ⟨46, [.tmp 2, .tmp 3, .tmp 4], b_scan_Words⟩

def b_scan_badBy : IR :=
 (.seq (.reg 0 [⟨some 2, .assign (.c (Value.bool false)), none, [2]⟩] none [0])
 (.seq (.reg 1 [⟨some 3, .move (.t 0), none, []⟩,
  ⟨some 4, .bin .eql 5 (.t 3) (.c (Value.int IntKind.u8 34)) 5, none, [3]⟩,
  ⟨some 5, .move (.t 4), none, [4]⟩,
  ⟨some 6, .move (.t 0), some (2, false), []⟩,
  ⟨some 7, .bin .eql 5 (.t 6) (.c (Value.int IntKind.u8 10)) 5, some (2, false), [6]⟩,
  ⟨some 8, .pick (.t 5) (.c (Value.bool true)) (.t 7), none, [5, 7]⟩,
  ⟨some 9, .move (.t 8), none, [8]⟩,
  ⟨some 10, .move (.t 0), some (6, false), [0]⟩,
  ⟨some 11, .bin .eql 5 (.t 10) (.c (Value.int IntKind.u8 13)) 5, some (6, false), [10]⟩,
  ⟨some 12, .pick (.t 9) (.c (Value.bool true)) (.t 11), none, [9, 11]⟩,
  ⟨some 2, .assign (.t 12), none, [12]⟩] none [2])
 .ret))
def a_scan_badBy : AFunc := ⟨13, [.tmp 2], b_scan_badBy⟩

def j0_scan_Fields : IR :=
 (.reg 12 [⟨some 47, .move (.t 8), none, []⟩,
  ⟨some 48, .bin .add 3 (.t 47) (.c (Value.int IntKind.i64 1)) 3, none, [47]⟩,
  ⟨some 8, .assign (.t 48), none, [48]⟩] none [0, 1, 7, 8, 9, 54, 90, 95])
def k0_scan_Fields : IR := .tail [0, 1, 7, 8, 9, 54, 90, 95] j0_scan_Fields
def j1_scan_Fields : IR :=
 (.seq (.reg 13 [⟨some 49, .move (.t 9), none, []⟩,
  ⟨some 50, .move (.t 0), none, []⟩,
  ⟨some 51, .move (.t 8), none, []⟩,
  ⟨some 52, .index 9 .str none (.t 50) (.t 51), none, [50, 51]⟩,
  ⟨some 53, .lit 56 1 [(.t 52)], none, [52]⟩,
  ⟨some 54, .append 56 56 false 1 1 (.t 49) (.t 53), none, [49, 53]⟩,
  ⟨some 9, .assign (.t 54), none, []⟩] none [0, 1, 7, 8, 9, 54, 90, 95])
 (.reg 14 [⟨some 55, .move (.t 8), none, []⟩,
  ⟨some 56, .bin .add 3 (.t 55) (.c (Value.int IntKind.i64 1)) 3, none, [55]⟩,
  ⟨some 8, .assign (.t 56), none, [56]⟩] none [0, 1, 7, 8, 9, 54, 90, 95]))
def k1_scan_Fields : IR := .tail [0, 1, 7, 8, 9, 54, 90, 95] j1_scan_Fields
def j2_scan_Fields : IR :=
 (.seq (.seq (.reg 10 [⟨some 31, .move (.t 0), none, []⟩,
  ⟨some 32, .move (.t 8), none, []⟩,
  ⟨some 33, .index 9 .str none (.t 31) (.t 32), none, [31, 32]⟩,
  ⟨some 34, .bin .eql 5 (.t 33) (.c (Value.int IntKind.u8 34)) 5, none, [33]⟩] none [0, 1, 7, 8, 9, 34, 54, 90, 95])
 (.cond [0, 1, 7, 8, 9, 54, 90, 95] (.t 34) (.seq (.seq (.reg 11 [⟨some 35, .move (.t 8), none, []⟩,
  ⟨some 36, .bin .add 3 (.t 35) (.c (Value.int IntKind.i64 1)) 3, none, [35]⟩,
  ⟨some 37, .move (.t 0), none, []⟩,
  ⟨some 38, .len 9 true (.t 37), none, [37]⟩,
  ⟨some 39, .bin .geq 3 (.t 36) (.t 38) 3, none, [36, 38]⟩,
  ⟨some 40, .move (.t 39), none, [39]⟩,
  ⟨some 41, .move (.t 0), some (5, false), []⟩,
  ⟨some 42, .move (.t 8), some (5, false), []⟩,
  ⟨some 43, .bin .add 3 (.t 42) (.c (Value.int IntKind.i64 1)) 3, some (5, false), [42]⟩,
  ⟨some 44, .index 9 .str none (.t 41) (.t 43), some (5, false), [41, 43]⟩,
  ⟨some 45, .bin .neq 5 (.t 44) (.c (Value.int IntKind.u8 34)) 5, some (5, false), [44]⟩,
  ⟨some 46, .pick (.t 40) (.c (Value.bool true)) (.t 45), none, [40, 45]⟩] none [0, 1, 7, 8, 9, 46, 54, 90, 95])
 (.cond [0, 1, 7, 8, 9, 54, 90, 95] (.t 46) (.exit 2) .skip))
 k0_scan_Fields) .skip))
 k1_scan_Fields)
def k2_scan_Fields : IR := .tail [0, 1, 7, 8, 9, 54, 90, 95] j2_scan_Fields
def w1_scan_Fields : IR :=
 (.block 3 (.seq (.seq (.reg 8 [⟨some 25, .move (.t 8), none, []⟩,
  ⟨some 26, .move (.t 0), none, []⟩,
  ⟨some 27, .len 9 true (.t 26), none, [26]⟩,
  ⟨some 28, .bin .geq 3 (.t 25) (.t 27) 3, none, [25, 27]⟩] none [0, 1, 7, 8, 9, 28, 54, 90, 95])
 (.cond [0, 1, 7, 8, 9, 54, 90, 95] (.t 28) (.seq (.reg 9 [⟨some 29, .move (.t 0), none, [0]⟩,
  ⟨some 30, .len 9 true (.t 29), none, [29]⟩,
  ⟨some 4, .assign (.nilS 1), none, []⟩,
  ⟨some 5, .assign (.c (Value.int IntKind.i64 31)), none, []⟩,
  ⟨some 6, .assign (.t 30), none, [30]⟩] none [4, 5, 6, 7, 95, 100])
 .ret) .skip))
 k2_scan_Fields))
def l1_scan_Fields : IR := .loop [0, 1, 7, 8, 9, 54, 90, 95] w1_scan_Fields
def j3_scan_Fields : IR :=
 (.seq (.reg 15 [⟨some 57, .move (.t 8), none, []⟩,
  ⟨some 58, .bin .add 3 (.t 57) (.c (Value.int IntKind.i64 1)) 3, none, [57]⟩,
  ⟨some 8, .assign (.t 58), none, [58]⟩] none [0, 1, 7, 8, 9, 54, 90, 95])
 (.seq (.reg 16 [⟨some 59, .move (.t 8), none, []⟩,
  ⟨some 60, .move (.t 0), none, []⟩,
  ⟨some 61, .len 9 true (.t 60), none, [60]⟩,
  ⟨some 62, .bin .lss 3 (.t 59) (.t 61) 3, none, [59, 61]⟩,
  ⟨some 63, .move (.t 62), none, [62]⟩,
  ⟨some 64, .move (.t 0), some (4, true), []⟩,
  ⟨some 65, .move (.t 8), some (4, true), []⟩,
  ⟨some 66, .index 9 .str none (.t 64) (.t 65), some (4, true), [64, 65]⟩,
  ⟨some 67, .move (.t 1), some (4, true), []⟩,
  ⟨some 68, .bin .neq 5 (.t 66) (.t 67) 5, some (4, true), [66, 67]⟩,
  ⟨some 69, .pick (.t 63) (.t 68) (.c (Value.bool false)), none, [63, 68]⟩] none [0, 1, 7, 8, 9, 54, 69, 90, 95])
 (.cond [0, 1, 7, 8, 9, 54, 90, 95] (.t 69) (.seq (.reg 17 [⟨some 70, .move (.t 8), none, [8]⟩,
  ⟨some 4, .assign (.nilS 1), none, []⟩,
  ⟨some 5, .assign (.c (Value.int IntKind.i64 31)), none, []⟩,
  ⟨some 6, .assign (.t 70), none, [70]⟩] none [4, 5, 6, 7, 95, 100])
 .ret) .skip)))
def k3_scan_Fields : IR := .tail [0, 1, 7, 8, 9, 54, 90, 95] j3_scan_Fields
def j4_scan_Fields : IR :=
 (.block 5 (.reg 20 [⟨some 83, .move (.t 8), none, []⟩,
  ⟨some 84, .bin .add 3 (.t 83) (.c (Value.int IntKind.i64 1)) 3, none, [83]⟩,
  ⟨some 8, .assign (.t 84), none, [84]⟩] none [0, 1, 7, 8, 9, 10, 54, 90, 95]))
def k4_scan_Fields : IR := .tail [0, 1, 7, 8, 9, 10, 54, 90, 95] j4_scan_Fields
def w2_scan_Fields : IR :=
 (.seq (.seq (.reg 19 [⟨some 72, .move (.t 8), none, []⟩,
  ⟨some 73, .move (.t 0), none, []⟩,
  ⟨some 74, .len 9 true (.t 73), none, [73]⟩,
  ⟨some 75, .bin .lss 3 (.t 72) (.t 74) 3, none, [72, 74]⟩,
  ⟨some 76, .move (.t 75), none, [75]⟩,
  ⟨some 77, .move (.t 0), some (4, true), []⟩,
  ⟨some 78, .move (.t 8), some (4, true), []⟩,
  ⟨some 79, .index 9 .str none (.t 77) (.t 78), some (4, true), [77, 78]⟩,
  ⟨some 80, .move (.t 1), some (4, true), []⟩,
  ⟨some 81, .bin .neq 5 (.t 79) (.t 80) 5, some (4, true), [79, 80]⟩,
  ⟨some 82, .pick (.t 76) (.t 81) (.c (Value.bool false)), none, [76, 81]⟩] none [0, 1, 7, 8, 9, 10, 54, 82, 90, 95])
 (.cond [0, 1, 7, 8, 9, 10, 54, 90, 95] (.t 82) .skip (.exit 4)))
 k4_scan_Fields)
def l2_scan_Fields : IR := .loop [0, 1, 7, 8, 9, 10, 54, 90, 95] w2_scan_Fields
def j5_scan_Fields : IR :=
 (.reg 21 [⟨some 85, .move (.t 9), none, []⟩,
  ⟨some 86, .move (.t 0), none, []⟩,
  ⟨some 87, .move (.t 10), none, [10]⟩,
  ⟨some 88, .move (.t 8), none, []⟩,
  ⟨some 89, .slice 9 .str (.t 86) (some (.t 87)) (some (.t 88)) none, none, [86, 87, 88]⟩,
  ⟨some 90, .append 56 9 true 1 1 (.t 85) (.t 89), none, [85, 89]⟩,
  ⟨some 9, .assign (.t 90), none, []⟩] none [0, 1, 7, 8, 9, 54, 90, 95])
def k5_scan_Fields : IR := .tail [0, 1, 7, 8, 9, 10, 54, 90, 95] j5_scan_Fields
def j6_scan_Fields : IR :=
 (.reg 25 [⟨some 101, .move (.t 8), none, []⟩,
  ⟨some 102, .bin .add 3 (.t 101) (.c (Value.int IntKind.i64 1)) 3, none, [101]⟩,
  ⟨some 8, .assign (.t 102), none, [102]⟩] none [0, 1, 7, 8, 95])
def k6_scan_Fields : IR := .tail [0, 1, 7, 8, 95] j6_scan_Fields
def j7_scan_Fields : IR :=
 (.seq (.reg 22 [⟨some 91, .move (.t 7), none, []⟩,
  ⟨some 92, .move (.t 9), none, []⟩,
  ⟨some 93, .conv 56 9 .bytes (.t 92), none, [9, 54, 90, 92]⟩,
  ⟨some 94, .lit 37 1 [(.t 93)], none, [93]⟩,
  ⟨some 95, .append 37 37 false 1 16 (.t 91) (.t 94), none, [91, 94]⟩,
  ⟨some 7, .assign (.t 95), none, []⟩] none [0, 1, 7, 8, 95])
 (.seq (.seq (.reg 23 [⟨some 96, .move (.t 8), none, []⟩,
  ⟨some 97, .move (.t 0), none, []⟩,
  ⟨some 98, .len 9 true (.t 97), none, [97]⟩,
  ⟨some 99, .bin .eql 3 (.t 96) (.t 98) 3, none, [96, 98]⟩] none [0, 1, 7, 8, 95, 99])
 (.cond [0, 1, 7, 8, 95] (.t 99) (.seq (.reg 24 [⟨some 100, .move (.t 7), none, []⟩,
  ⟨some 4, .assign (.t 100), none, []⟩,
  ⟨some 5, .assign (.c (Value.int IntKind.i64 0)), none, []⟩,
  ⟨some 6, .assign (.c (Value.int IntKind.i64 0)), none, []⟩] none [4, 5, 6, 7, 95, 100])
 .ret) .skip))
 k6_scan_Fields))
def k7_scan_Fields : IR := .tail [0, 1, 7, 8, 9, 54, 90, 95] j7_scan_Fields
def w0_scan_Fields : IR :=
 (.block 1 (.seq (.reg 5 [⟨some 9, .assign (.nilS 1), none, []⟩] none [0, 1, 7, 8, 9, 54, 90, 95])
 (.seq (.seq (.reg 6 [⟨some 13, .move (.t 8), none, []⟩,
  ⟨some 14, .move (.t 0), none, []⟩,
  ⟨some 15, .len 9 true (.t 14), none, [14]⟩,
  ⟨some 16, .bin .lss 3 (.t 13) (.t 15) 3, none, [13, 15]⟩,
  ⟨some 17, .move (.t 16), none, [16]⟩,
  ⟨some 18, .move (.t 0), some (4, true), []⟩,
  ⟨some 19, .move (.t 8), some (4, true), []⟩,
  ⟨some 20, .index 9 .str none (.t 18) (.t 19), some (4, true), [18, 19]⟩,
  ⟨some 21, .bin .eql 5 (.t 20) (.c (Value.int IntKind.u8 34)) 5, some (4, true), [20]⟩,
  ⟨some 22, .pick (.t 17) (.t 21) (.c (Value.bool false)), none, [17, 21]⟩] none [0, 1, 7, 8, 9, 22, 54, 90, 95])
 (.cond [0, 1, 7, 8, 9, 54, 90, 95] (.t 22) (.seq (.reg 7 [⟨some 23, .move (.t 8), none, []⟩,
  ⟨some 24, .bin .add 3 (.t 23) (.c (Value.int IntKind.i64 1)) 3, none, [23]⟩,
  ⟨some 8, .assign (.t 24), none, [24]⟩] none [0, 1, 7, 8, 9, 54, 90, 95])
 (.seq (.block 2 l1_scan_Fields)
 k3_scan_Fields)) (.seq (.reg 18 [⟨some 71, .move (.t 8), none, []⟩,
  ⟨some 10, .assign (.t 71), none, [71]⟩] none [0, 1, 7, 8, 9, 10, 54, 90, 95])
 (.seq (.block 4 l2_scan_Fields)
 k5_scan_Fields))))
 k7_scan_Fields)))
def l0_scan_Fields : IR := .loop [0, 1, 7, 8, 95] w0_scan_Fields
def j8_scan_Fields : IR :=
 (.seq (.reg 3 [⟨some 7, .assign (.nilS 1), none, []⟩] none [0, 1, 7, 95])
 (.seq (.reg 4 [⟨some 8, .assign (.c (Value.int IntKind.i64 0)), none, []⟩] none [0, 1, 7, 8, 95])
 (.block 0 l0_scan_Fields)))
def k8_scan_Fields : IR := .tail [0, 1] j8_scan_Fields
def b_scan_Fields : IR :=
 (.seq (.reg 0 [⟨some 4, .assign (.nilS 1), none, [4]⟩,
  ⟨some 5, .assign (.c (Value.int IntKind.i64 0)), none, [5]⟩,
  ⟨some 6, .assign (.c (Value.int IntKind.i64 0)), none, [6]⟩] none [0, 1])
 (.seq (.seq (.reg 1 [⟨some 11, .move (.t 1), none, []⟩,
  ⟨some 12, .call n_scan_badBy [(.t 11)] [5], none, [11]⟩] none [0, 1, 12])
 (.cond [0, 1] (.t 12) (.seq (.reg 2 [⟨some 4, .assign (.nilS 1), none, []⟩,
  ⟨some 5, .assign (.c (Value.int IntKind.i64 2)), none, []⟩,
  ⟨some 6, .assign (.c (Value.int IntKind.i64 0)), none, []⟩] none [4, 5, 6, 7, 95, 100])
 .ret) .skip))
 k8_scan_Fields))
def a_scan_Fields : AFunc := ⟨103, [.tmp 4, .tmp 5, .tmp 6], b_scan_Fields⟩

def j0_scan_Quote : IR :=
 (.reg 15 [⟨some 58, .bin .add 3 (.t 9) (.c (Value.int IntKind.i64 1)) 3, none, []⟩,
  ⟨some 9, .move (.t 58), none, [58]⟩] none [0, 3, 6, 8, 9, 18, 29, 35, 41, 57])
def k0_scan_Quote : IR := .tail [0, 3, 6, 8, 9, 18, 29, 35, 41, 57] j0_scan_Quote
def j1_scan_Quote : IR :=
 (.seq (.block 1 (.seq (.reg 4 [⟨some 11, .move (.t 9), none, []⟩,
  ⟨some 4, .assign (.t 11), none, [11]⟩] none [0, 3, 4, 6, 8, 9, 18, 29, 35, 41, 57])
 (.seq (.reg 5 [⟨some 12, .move (.t 0), none, []⟩,
  ⟨some 13, .move (.t 4), none, [4]⟩,
  ⟨some 14, .index 9 .str none (.t 12) (.t 13), none, [12, 13]⟩,
  ⟨some 5, .assign (.t 14), none, [14]⟩] none [0, 3, 5, 6, 8, 9, 18, 29, 35, 41, 57])
 (.block 2 (.seq (.reg 7 [⟨some 20, .move (.t 5), none, []⟩,
  ⟨some 21, .bin .eql 5 (.t 20) (.c (Value.int IntKind.u8 34)) 5, none, [20]⟩,
  ⟨some 22, .move (.t 21), none, [21]⟩,
  ⟨some 23, .move (.t 5), some (2, false), []⟩,
  ⟨some 24, .bin .eql 5 (.t 23) (.c (Value.int IntKind.u8 92)) 5, some (2, false), [23]⟩,
  ⟨some 25, .pick (.t 22) (.c (Value.bool true)) (.t 24), none, [22, 24]⟩,
  ⟨some 19, .assign (.t 25), none, [25]⟩] none [0, 3, 5, 6, 8, 9, 18, 19, 29, 35, 41, 57])
 (.cond [0, 3, 5, 6, 8, 9, 18, 29, 35, 41, 57] (.t 19) (.reg 8 [⟨some 26, .move (.t 3), none, []⟩,
  ⟨some 27, .move (.t 5), none, [5]⟩,
  ⟨some 28, .lit 56 1 [(.c (Value.int IntKind.u8 92)), (.t 27)], none, [27]⟩,
  ⟨some 29, .append 56 56 false 1 1 (.t 26) (.t 28), none, [26, 28]⟩,
  ⟨some 3, .assign (.t 29), none, []⟩] none [0, 3, 6, 8, 9, 18, 29, 35, 41, 57]) (.seq (.reg 9 [⟨some 31, .move (.t 5), none, []⟩,
  ⟨some 32, .bin .eql 5 (.t 31) (.c (Value.int IntKind.u8 10)) 5, none, [31]⟩,
  ⟨some 30, .assign (.t 32), none, [32]⟩] none [0, 3, 5, 6, 8, 9, 18, 29, 30, 35, 41, 57])
 (.cond [0, 3, 5, 6, 8, 9, 18, 29, 35, 41, 57] (.t 30) (.reg 10 [⟨some 33, .move (.t 3), none, []⟩,
  ⟨some 34, .lit 56 1 [(.c (Value.int IntKind.u8 92)), (.c (Value.int IntKind.u8 110))], none, []⟩,
  ⟨some 35, .append 56 56 false 1 1 (.t 33) (.t 34), none, [33, 34]⟩,
  ⟨some 3, .assign (.t 35), none, []⟩] none [0, 3, 6, 8, 9, 18, 29, 35, 41, 57]) (.seq (.reg 11 [⟨some 37, .move (.t 5), none, []⟩,
  ⟨some 38, .bin .eql 5 (.t 37) (.c (Value.int IntKind.u8 9)) 5, none, [37]⟩,
  ⟨some 36, .assign (.t 38), none, [38]⟩] none [0, 3, 5, 6, 8, 9, 18, 29, 35, 36, 41, 57])
 (.cond [0, 3, 5, 6, 8, 9, 18, 29, 35, 41, 57] (.t 36) (.reg 12 [⟨some 39, .move (.t 3), none, []⟩,
  ⟨some 40, .lit 56 1 [(.c (Value.int IntKind.u8 92)), (.c (Value.int IntKind.u8 116))], none, []⟩,
  ⟨some 41, .append 56 56 false 1 1 (.t 39) (.t 40), none, [39, 40]⟩,
  ⟨some 3, .assign (.t 41), none, []⟩] none [0, 3, 6, 8, 9, 18, 29, 35, 41, 57]) (.seq (.reg 13 [⟨some 43, .move (.t 5), none, []⟩,
  ⟨some 44, .bin .lss 5 (.t 43) (.c (Value.int IntKind.u8 32)) 5, none, [43]⟩,
  ⟨some 45, .move (.t 44), none, [44]⟩,
  ⟨some 46, .move (.t 5), some (2, false), []⟩,
  ⟨some 47, .bin .eql 5 (.t 46) (.c (Value.int IntKind.u8 127)) 5, some (2, false), [46]⟩,
  ⟨some 48, .pick (.t 45) (.c (Value.bool true)) (.t 47), none, [45, 47]⟩,
  ⟨some 42, .assign (.t 48), none, [48]⟩] none [0, 3, 5, 6, 8, 9, 18, 29, 35, 41, 42, 57])
 (.cond [0, 3, 5, 6, 8, 9, 18, 29, 35, 41, 57] (.t 42) (.reg 14 [⟨some 49, .move (.t 3), none, []⟩,
  ⟨some 50, .move (.t 5), none, []⟩,
  ⟨some 51, .bin .shr 5 (.t 50) (.c (Value.int IntKind.u64 4)) 57, none, [50]⟩,
  ⟨some 52, .index 9 .str none (.c (Value.string { data := #[48, 49, 50, 51, 52, 53, 54, 55, 56, 57, 97, 98, 99, 100, 101, 102] })) (.t 51), none, [51]⟩,
  ⟨some 53, .move (.t 5), none, [5]⟩,
  ⟨some 54, .bin .and 5 (.t 53) (.c (Value.int IntKind.u8 15)) 5, none, [53]⟩,
  ⟨some 55, .index 9 .str none (.c (Value.string { data := #[48, 49, 50, 51, 52, 53, 54, 55, 56, 57, 97, 98, 99, 100, 101, 102] })) (.t 54), none, [54]⟩,
  ⟨some 56, .lit 56 1 [(.c (Value.int IntKind.u8 92)), (.c (Value.int IntKind.u8 120)), (.t 52), (.t 55)], none, [52, 55]⟩,
  ⟨some 57, .append 56 56 false 1 1 (.t 49) (.t 56), none, [49, 56]⟩,
  ⟨some 3, .assign (.t 57), none, []⟩] (some [⟨0, []⟩, ⟨1, []⟩, ⟨2, []⟩, ⟨3, []⟩, ⟨4, []⟩, ⟨5, []⟩, ⟨6, []⟩, ⟨7, []⟩, ⟨8, []⟩, ⟨9, []⟩]) [0, 3, 6, 8, 9, 18, 29, 35, 41, 57]) (.reg 6 [⟨some 15, .move (.t 3), none, []⟩,
  ⟨some 16, .move (.t 5), none, [5]⟩,
  ⟨some 17, .lit 56 1 [(.t 16)], none, [16]⟩,
  ⟨some 18, .append 56 56 false 1 1 (.t 15) (.t 17), none, [15, 17]⟩,
  ⟨some 3, .assign (.t 18), none, []⟩] none [0, 3, 6, 8, 9, 18, 29, 35, 41, 57])))))))))))))
 k0_scan_Quote)
def k1_scan_Quote : IR := .tail [0, 3, 6, 8, 9, 18, 29, 35, 41, 57] j1_scan_Quote
def w0_scan_Quote : IR :=
 (.seq (.reg 3 [⟨some 10, .bin .lss 3 (.t 9) (.t 8) 3, none, []⟩] none [0, 3, 6, 8, 9, 10, 18, 29, 35, 41, 57])
 (.seq (.cond [0, 3, 6, 8, 9, 18, 29, 35, 41, 57] (.t 10) .skip (.exit 0))
 k1_scan_Quote))
def l0_scan_Quote : IR := .loop [0, 3, 6, 8, 9, 18, 29, 35, 41, 57] w0_scan_Quote
def j2_scan_Quote : IR :=
 (.seq (.reg 16 [⟨some 59, .move (.t 3), none, []⟩,
  ⟨some 60, .lit 56 1 [(.c (Value.int IntKind.u8 34))], none, []⟩,
  ⟨some 61, .append 56 56 false 1 1 (.t 59) (.t 60), none, [3, 6, 18, 29, 35, 41, 57, 59, 60]⟩,
  ⟨some 62, .conv 56 9 .bytes (.t 61), none, [61]⟩,
  ⟨some 2, .assign (.t 62), none, [62]⟩] none [2])
 .ret)
def k2_scan_Quote : IR := .tail [3, 6, 18, 29, 35, 41, 57] j2_scan_Quote
def b_scan_Quote : IR :=
 (.seq (.reg 0 [⟨some 2, .assign (.c (Value.string { data := #[] })), none, [2]⟩] none [0])
 (.seq (.reg 1 [⟨some 6, .lit 56 1 [(.c (Value.int IntKind.u8 34))], none, []⟩,
  ⟨some 3, .assign (.t 6), none, []⟩] none [0, 3, 6, 18, 29, 35, 41, 57])
 (.seq (.seq (.reg 2 [⟨some 7, .move (.t 0), none, []⟩,
  ⟨some 8, .len 9 true (.t 7), none, [7]⟩,
  ⟨some 9, .move (.c (Value.int IntKind.i64 0)), none, []⟩] none [0, 3, 6, 8, 9, 18, 29, 35, 41, 57])
 (.block 0 l0_scan_Quote))
 k2_scan_Quote)))
def a_scan_Quote : AFunc := ⟨63, [.tmp 2], b_scan_Quote⟩

def b_thicketlaw03_lives : IR :=
 (.seq (.reg 0 [⟨some 0, .assign (.c (Value.bool false)), none, [0]⟩] none [])
 (.seq (.reg 1 [⟨some 9, .call n_scan_Words [(.c (Value.string { data := #[115, 112, 108, 105, 116, 32, 97, 103, 101, 60, 61, 45, 48, 46, 53, 32, 35, 32, 120] }))] [9], none, []⟩,
  ⟨some 8, .move (.t 9), none, []⟩,
  ⟨some 10, .extr (.t 8) 0, none, []⟩,
  ⟨some 11, .extr (.t 8) 1, none, []⟩,
  ⟨some 12, .extr (.t 8) 2, none, []⟩,
  ⟨some 1, .assign (.t 10), none, []⟩,
  ⟨some 2, .assign (.t 11), none, [11]⟩,
  ⟨some 3, .assign (.t 12), none, [3, 12]⟩] none [1, 2, 8, 9, 10])
 (.seq (.reg 2 [⟨some 14, .call n_scan_Fields [(.c (Value.string { data := #[97, 44, 34, 98, 34, 34, 34] })), (.c (Value.int IntKind.u8 44))] [9, 5], none, []⟩,
  ⟨some 13, .move (.t 14), none, []⟩,
  ⟨some 15, .extr (.t 13) 0, none, []⟩,
  ⟨some 16, .extr (.t 13) 1, none, []⟩,
  ⟨some 17, .extr (.t 13) 2, none, []⟩,
  ⟨some 4, .assign (.t 15), none, []⟩,
  ⟨some 5, .assign (.t 16), none, [16]⟩,
  ⟨some 6, .assign (.t 17), none, [6, 17]⟩] none [1, 2, 4, 5, 8, 9, 10, 13, 14, 15])
 (.seq (.reg 3 [⟨some 18, .call n_scan_Rows [(.c (Value.string { data := #[97, 13, 10, 98] }))] [9], none, []⟩,
  ⟨some 7, .assign (.t 18), none, []⟩] none [1, 2, 4, 5, 7, 8, 9, 10, 13, 14, 15, 18])
 (.seq (.reg 4 [⟨some 19, .move (.t 2), none, [2]⟩,
  ⟨some 20, .bin .eql 28 (.t 19) (.c (Value.int IntKind.i64 0)) 28, none, [19]⟩,
  ⟨some 21, .move (.t 20), none, [20]⟩,
  ⟨some 22, .move (.t 1), some (2, true), []⟩,
  ⟨some 23, .len 27 false (.t 22), some (2, true), [22]⟩,
  ⟨some 24, .bin .eql 3 (.t 23) (.c (Value.int IntKind.i64 4)) 3, some (2, true), [23]⟩,
  ⟨some 25, .pick (.t 21) (.t 24) (.c (Value.bool false)), none, [21, 24]⟩,
  ⟨some 26, .move (.t 25), none, [25]⟩,
  ⟨some 27, .move (.t 1), some (7, true), []⟩,
  ⟨some 28, .iaddr 27 (.sl 3) (.t 27) (.c (Value.int IntKind.i64 2)), some (7, true), []⟩,
  ⟨some 29, .load 36 (some 3) (.t 28), some (7, true), [1, 8, 9, 10, 27, 28]⟩,
  ⟨some 30, .build 36 [(0, 1), (1, 1), (2, 1)] [.v (.int .u8 0), .v (.string ⟨#[]⟩), .v (.int .i64 0)] [(0, (.c (Value.int IntKind.u8 4))), (1, (.c (Value.string { data := #[60, 61] }))), (2, (.c (Value.int IntKind.i64 9)))], some (7, true), []⟩,
  ⟨some 31, .eqs false 36 (.st [.int, .str, .int]) (.t 29) (.t 30) 36, some (7, true), [29, 30]⟩,
  ⟨some 32, .pick (.t 26) (.t 31) (.c (Value.bool false)), none, [26, 31]⟩,
  ⟨some 33, .move (.t 32), none, [32]⟩,
  ⟨some 34, .move (.t 5), some (14, true), [5]⟩,
  ⟨some 35, .bin .eql 28 (.t 34) (.c (Value.int IntKind.i64 0)) 28, some (14, true), [34]⟩,
  ⟨some 36, .pick (.t 33) (.t 35) (.c (Value.bool false)), none, [33, 35]⟩,
  ⟨some 37, .move (.t 36), none, [36]⟩,
  ⟨some 38, .move (.t 4), some (18, true), []⟩,
  ⟨some 39, .len 37 false (.t 38), some (18, true), [38]⟩,
  ⟨some 40, .bin .eql 3 (.t 39) (.c (Value.int IntKind.i64 2)) 3, some (18, true), [39]⟩,
  ⟨some 41, .pick (.t 37) (.t 40) (.c (Value.bool false)), none, [37, 40]⟩,
  ⟨some 42, .move (.t 41), none, [41]⟩,
  ⟨some 43, .move (.t 4), some (23, true), []⟩,
  ⟨some 44, .iaddr 37 (.sl 1) (.t 43) (.c (Value.int IntKind.i64 1)), some (23, true), []⟩,
  ⟨some 45, .load 9 none (.t 44), some (23, true), [4, 13, 14, 15, 43, 44]⟩,
  ⟨some 46, .bin .eql 9 (.t 45) (.c (Value.string { data := #[98, 34] })) 9, some (23, true), [45]⟩,
  ⟨some 47, .pick (.t 42) (.t 46) (.c (Value.bool false)), none, [42, 46]⟩,
  ⟨some 48, .move (.t 47), none, [47]⟩,
  ⟨some 49, .move (.t 7), some (29, true), []⟩,
  ⟨some 50, .len 24 false (.t 49), some (29, true), [49]⟩,
  ⟨some 51, .bin .eql 3 (.t 50) (.c (Value.int IntKind.i64 2)) 3, some (29, true), [50]⟩,
  ⟨some 52, .pick (.t 48) (.t 51) (.c (Value.bool false)), none, [48, 51]⟩,
  ⟨some 53, .move (.t 52), none, [52]⟩,
  ⟨some 54, .move (.t 7), some (34, true), []⟩,
  ⟨some 55, .iaddr 24 (.sl 3) (.t 54) (.c (Value.int IntKind.i64 1)), some (34, true), []⟩,
  ⟨some 56, .load 33 (some 3) (.t 55), some (34, true), [7, 18, 54, 55]⟩,
  ⟨some 57, .build 33 [(0, 1), (1, 1), (2, 1)] [.v (.int .i64 0), .v (.int .i64 0), .v (.string ⟨#[]⟩)] [(0, (.c (Value.int IntKind.i64 2))), (1, (.c (Value.int IntKind.i64 3))), (2, (.c (Value.string { data := #[98] })))], some (34, true), []⟩,
  ⟨some 58, .eqs false 33 (.st [.int, .int, .str]) (.t 56) (.t 57) 33, some (34, true), [56, 57]⟩,
  ⟨some 59, .pick (.t 53) (.t 58) (.c (Value.bool false)), none, [53, 58]⟩,
  ⟨some 60, .move (.t 59), none, [59]⟩,
  ⟨some 61, .call n_scan_Quote [(.c (Value.string { data := #[10] }))] [9], some (41, true), []⟩,
  ⟨some 62, .bin .eql 9 (.t 61) (.c (Value.string { data := #[34, 92, 110, 34] })) 9, some (41, true), [61]⟩,
  ⟨some 63, .pick (.t 60) (.t 62) (.c (Value.bool false)), none, [60, 62]⟩,
  ⟨some 0, .assign (.t 63), none, [63]⟩] none [0])
 .ret)))))
def a_thicketlaw03_lives : AFunc := ⟨64, [.tmp 0], b_thicketlaw03_lives⟩

def j0_thicketref03_Texts : IR :=
 (.reg 8 [⟨some 25, .bin .add 3 (.t 13) (.c (Value.int IntKind.i64 1)) 3, none, []⟩,
  ⟨some 13, .move (.t 25), none, [25]⟩] none [0, 1, 12, 13])
def k0_thicketref03_Texts : IR := .tail [0, 1, 12, 13] j0_thicketref03_Texts
def j1_thicketref03_Texts : IR :=
 (.seq (.block 1 (.seq (.reg 5 [⟨some 15, .move (.t 13), none, []⟩,
  ⟨some 5, .assign (.t 15), none, [15]⟩] none [0, 1, 5, 12, 13])
 (.seq (.reg 6 [⟨some 16, .move (.t 0), none, []⟩,
  ⟨some 17, .move (.t 5), none, []⟩,
  ⟨some 18, .iaddr 37 (.sl 1) (.t 16) (.t 17), none, []⟩,
  ⟨some 19, .load 9 none (.t 18), none, [16, 17, 18]⟩,
  ⟨some 20, .move (.t 1), none, []⟩,
  ⟨some 21, .move (.t 5), none, [5]⟩,
  ⟨some 22, .iaddr 37 (.sl 1) (.t 20) (.t 21), none, []⟩,
  ⟨some 23, .load 9 none (.t 22), none, [20, 21, 22]⟩,
  ⟨some 24, .bin .neq 9 (.t 19) (.t 23) 9, none, [19, 23]⟩] (some [⟨0, []⟩, ⟨1, []⟩, ⟨2, []⟩, ⟨4, []⟩, ⟨5, []⟩, ⟨6, []⟩, ⟨3, []⟩, ⟨7, []⟩, ⟨8, []⟩]) [0, 1, 12, 13, 24])
 (.cond [0, 1, 12, 13] (.t 24) (.seq (.reg 7 [⟨some 4, .assign (.c (Value.bool false)), none, []⟩] none [4])
 .ret) .skip))))
 k0_thicketref03_Texts)
def k1_thicketref03_Texts : IR := .tail [0, 1, 12, 13] j1_thicketref03_Texts
def w0_thicketref03_Texts : IR :=
 (.seq (.reg 4 [⟨some 14, .bin .lss 3 (.t 13) (.t 12) 3, none, []⟩] none [0, 1, 12, 13, 14])
 (.seq (.cond [0, 1, 12, 13] (.t 14) .skip (.exit 0))
 k1_thicketref03_Texts))
def l0_thicketref03_Texts : IR := .loop [0, 1, 12, 13] w0_thicketref03_Texts
def j2_thicketref03_Texts : IR :=
 (.seq (.reg 9 [⟨some 4, .assign (.c (Value.bool true)), none, []⟩] none [4])
 .ret)
def k2_thicketref03_Texts : IR := .tail [] j2_thicketref03_Texts
def j3_thicketref03_Texts : IR :=
 (.seq (.seq (.reg 3 [⟨some 11, .move (.t 0), none, []⟩,
  ⟨some 12, .len 37 false (.t 11), none, [11]⟩,
  ⟨some 13, .move (.c (Value.int IntKind.i64 0)), none, []⟩] none [0, 1, 12, 13])
 (.block 0 l0_thicketref03_Texts))
 k2_thicketref03_Texts)
def k3_thicketref03_Texts : IR := .tail [0, 1] j3_thicketref03_Texts
def b_thicketref03_Texts : IR :=
 (.seq (.reg 0 [⟨some 4, .assign (.c (Value.bool false)), none, [4]⟩] none [0, 1])
 (.seq (.seq (.reg 1 [⟨some 6, .move (.t 0), none, []⟩,
  ⟨some 7, .len 37 false (.t 6), none, [6]⟩,
  ⟨some 8, .move (.t 1), none, []⟩,
  ⟨some 9, .len 37 false (.t 8), none, [8]⟩,
  ⟨some 10, .bin .neq 3 (.t 7) (.t 9) 3, none, [7, 9]⟩] none [0, 1, 10])
 (.cond [0, 1] (.t 10) (.seq (.reg 2 [⟨some 4, .assign (.c (Value.bool false)), none, []⟩] none [4])
 .ret) .skip))
 k3_thicketref03_Texts))
def a_thicketref03_Texts : AFunc := ⟨26, [.tmp 4], b_thicketref03_Texts⟩

def b_stringslite_IndexByte : IR :=
 (.seq (.reg 0 [⟨some 4, .assign (.c (Value.int IntKind.i64 0)), none, [4]⟩] none [0, 1])
 (.seq (.reg 1 [⟨some 5, .move (.t 0), none, [0]⟩,
  ⟨some 6, .move (.t 1), none, [1]⟩,
  ⟨some 7, .ext n_bytealg_IndexByteString .idxByteStr [(.t 5), (.t 6)] [9, 5], none, [5, 6]⟩,
  ⟨some 4, .assign (.t 7), none, [7]⟩] none [4])
 .ret))
def a_stringslite_IndexByte : AFunc := ⟨8, [.tmp 4], b_stringslite_IndexByte⟩

def b_strings_IndexByte : IR :=
 (.seq (.reg 0 [⟨some 4, .assign (.c (Value.int IntKind.i64 0)), none, [4]⟩] none [0, 1])
 (.seq (.reg 1 [⟨some 5, .move (.t 0), none, [0]⟩,
  ⟨some 6, .move (.t 1), none, [1]⟩,
  ⟨some 7, .call n_stringslite_IndexByte [(.t 5), (.t 6)] [9, 5], none, [5, 6]⟩,
  ⟨some 4, .assign (.t 7), none, [7]⟩] none [4])
 .ret))
def a_strings_IndexByte : AFunc := ⟨8, [.tmp 4], b_strings_IndexByte⟩

def j0_utf8_ValidRune : IR :=
 (.seq (.reg 5 [⟨some 2, .assign (.c (Value.bool false)), none, []⟩] none [2])
 .ret)
def k0_utf8_ValidRune : IR := .tail [] j0_utf8_ValidRune
def b_utf8_ValidRune : IR :=
 (.seq (.reg 0 [⟨some 2, .assign (.c (Value.bool false)), none, [2]⟩] none [0])
 (.seq (.block 0 (.seq (.reg 1 [⟨some 4, .move (.t 0), none, []⟩,
  ⟨some 5, .bin .leq 21 (.c (Value.int IntKind.i32 0)) (.t 4) 21, none, [4]⟩,
  ⟨some 6, .move (.t 5), none, [5]⟩,
  ⟨some 7, .move (.t 0), some (2, true), []⟩,
  ⟨some 8, .bin .lss 21 (.t 7) (.c (Value.int IntKind.i32 55296)) 21, some (2, true), [7]⟩,
  ⟨some 9, .pick (.t 6) (.t 8) (.c (Value.bool false)), none, [6, 8]⟩,
  ⟨some 3, .assign (.t 9), none, [9]⟩] none [0, 3])
 (.cond [0] (.t 3) (.seq (.reg 2 [⟨some 2, .assign (.c (Value.bool true)), none, []⟩] none [2])
 .ret) (.seq (.reg 3 [⟨some 11, .move (.t 0), none, []⟩,
  ⟨some 12, .bin .lss 21 (.c (Value.int IntKind.i32 57343)) (.t 11) 21, none, [11]⟩,
  ⟨some 13, .move (.t 12), none, [12]⟩,
  ⟨some 14, .move (.t 0), some (2, true), [0]⟩,
  ⟨some 15, .bin .leq 21 (.t 14) (.c (Value.int IntKind.i32 1114111)) 21, some (2, true), [14]⟩,
  ⟨some 16, .pick (.t 13) (.t 15) (.c (Value.bool false)), none, [13, 15]⟩,
  ⟨some 10, .assign (.t 16), none, [16]⟩] none [10])
 (.cond [] (.t 10) (.seq (.reg 4 [⟨some 2, .assign (.c (Value.bool true)), none, []⟩] none [2])
 .ret) .skip)))))
 k0_utf8_ValidRune))
def a_utf8_ValidRune : AFunc := ⟨17, [.tmp 2], b_utf8_ValidRune⟩

def b_bytealg_Cutover : IR :=
 (.seq (.reg 0 [⟨some 2, .assign (.c (Value.int IntKind.i64 0)), none, [2]⟩] none [0])
 (.seq (.reg 1 [⟨some 3, .move (.t 0), none, [0]⟩,
  ⟨some 4, .bin .add 3 (.t 3) (.c (Value.int IntKind.i64 16)) 3, none, [3]⟩,
  ⟨some 5, .bin .quo 3 (.t 4) (.c (Value.int IntKind.i64 8)) 3, none, [4]⟩,
  ⟨some 2, .assign (.t 5), none, [5]⟩] none [2])
 .ret))
def a_bytealg_Cutover : AFunc := ⟨6, [.tmp 2], b_bytealg_Cutover⟩

-- strings_IndexRune: code Code.goto; code Code.goto; no body: "internal/bytealg.IndexString"
def j0_strings_IndexRune : IR :=
 (.block 10 (.seq (.reg 39 [⟨some 178, .extr (.t 176) 1, none, []⟩,
  ⟨some 179, .extr (.t 176) 2, none, [176]⟩,
  ⟨some 5, .assign (.t 178), none, [178]⟩,
  ⟨some 6, .assign (.t 179), none, [179]⟩] none [5, 6, 175])
 (.seq (.reg 40 [⟨some 180, .move (.t 6), none, [6]⟩,
  ⟨some 181, .bin .eql 21 (.t 180) (.c (Value.int IntKind.i32 65533)) 21, none, [180]⟩] none [5, 175, 181])
 (.cond [5, 175] (.t 181) (.seq (.reg 41 [⟨some 182, .move (.t 5), none, [5]⟩,
  ⟨some 4, .assign (.t 182), none, [182]⟩] none [4])
 .ret) .skip))))
def k0_strings_IndexRune : IR := .tail [175, 176] j0_strings_IndexRune
def w0_strings_IndexRune : IR :=
 (.seq (.reg 38 [⟨some 176, .next (.t 175), none, []⟩,
  ⟨some 177, .extr (.t 176) 0, none, []⟩] none [175, 176, 177])
 (.seq (.cond [175, 176] (.t 177) .skip (.exit 9))
 k0_strings_IndexRune))
def l0_strings_IndexRune : IR := .loop [175] w0_strings_IndexRune
def j1_strings_IndexRune : IR :=
 (.seq (.reg 42 [⟨some 4, .assign (.c (Value.int IntKind.i64 (-1))), none, []⟩] none [4])
 .ret)
def k1_strings_IndexRune : IR := .tail [] j1_strings_IndexRune
def j2_strings_IndexRune : IR :=
 (.reg 10 [⟨some 44, .move (.t 9), none, []⟩,
  ⟨some 45, .move (.t 11), none, [11]⟩,
  ⟨some 46, .bin .add 3 (.t 45) (.c (Value.int IntKind.i64 1)) 3, none, [45]⟩,
  ⟨some 47, .bin .add 3 (.t 44) (.t 46) 3, none, [44, 46]⟩,
  ⟨some 9, .assign (.t 47), none, [47]⟩] none [0, 7, 8, 9])
def k2_strings_IndexRune : IR := .tail [0, 7, 8, 9, 11] j2_strings_IndexRune
def j3_strings_IndexRune : IR :=
 (.reg 13 [⟨some 52, .move (.t 12), none, []⟩,
  ⟨some 53, .bin .add 3 (.t 52) (.c (Value.int IntKind.i64 1)) 3, none, [52]⟩,
  ⟨some 12, .assign (.t 53), none, [53]⟩] none [0, 7, 8, 9, 12])
def k3_strings_IndexRune : IR := .tail [0, 7, 8, 9, 12] j3_strings_IndexRune
def j4_strings_IndexRune : IR :=
 (.seq (.block 4 (.seq (.reg 14 [⟨some 54, .move (.t 0), none, []⟩,
  ⟨some 55, .move (.t 9), none, []⟩,
  ⟨some 56, .move (.t 12), none, []⟩,
  ⟨some 57, .bin .sub 3 (.t 55) (.t 56) 3, none, [55, 56]⟩,
  ⟨some 58, .index 9 .str none (.t 54) (.t 57), none, [54, 57]⟩,
  ⟨some 59, .move (.t 7), none, []⟩,
  ⟨some 60, .move (.t 8), none, []⟩,
  ⟨some 61, .move (.t 12), none, []⟩,
  ⟨some 62, .bin .sub 3 (.t 60) (.t 61) 3, none, [60, 61]⟩,
  ⟨some 63, .index 9 .str none (.t 59) (.t 62), none, [59, 62]⟩,
  ⟨some 64, .bin .neq 5 (.t 58) (.t 63) 5, none, [58, 63]⟩] (some [⟨0, []⟩, ⟨1, []⟩, ⟨2, []⟩, ⟨3, []⟩, ⟨4, []⟩, ⟨5, []⟩, ⟨6, []⟩, ⟨7, []⟩, ⟨8, []⟩, ⟨9, []⟩, ⟨10, []⟩]) [0, 7, 8, 9, 12, 64])
 (.cond [0, 7, 8, 9, 12] (.t 64) .other .skip)))
 k3_strings_IndexRune)
def k4_strings_IndexRune : IR := .tail [0, 7, 8, 9, 12] j4_strings_IndexRune
def w2_strings_IndexRune : IR :=
 (.seq (.seq (.reg 12 [⟨some 48, .move (.t 12), none, []⟩,
  ⟨some 49, .move (.t 7), none, []⟩,
  ⟨some 50, .len 9 true (.t 49), none, [49]⟩,
  ⟨some 51, .bin .lss 3 (.t 48) (.t 50) 3, none, [48, 50]⟩] none [0, 7, 8, 9, 12, 51])
 (.cond [0, 7, 8, 9, 12] (.t 51) .skip (.exit 3)))
 k4_strings_IndexRune)
def l2_strings_IndexRune : IR := .loop [0, 7, 8, 9, 12] w2_strings_IndexRune
def j5_strings_IndexRune : IR :=
 (.seq (.seq (.reg 15 [⟨some 65, .move (.t 9), none, [9]⟩,
  ⟨some 66, .move (.t 8), none, [8]⟩,
  ⟨some 67, .bin .sub 3 (.t 65) (.t 66) 3, none, [65, 66]⟩,
  ⟨some 4, .assign (.t 67), none, [67]⟩] none [4])
 .ret)
 (.seq (.label 0)
 (.seq (.reg 16 [⟨some 68, .move (.t 10), none, []⟩,
  ⟨some 69, .bin .add 3 (.t 68) (.c (Value.int IntKind.i64 1)) 3, none, [68]⟩,
  ⟨some 10, .assign (.t 69), none, [69]⟩] none [0, 7, 8, 9, 10])
 (.seq (.reg 17 [⟨some 70, .move (.t 9), none, []⟩,
  ⟨some 71, .bin .add 3 (.t 70) (.c (Value.int IntKind.i64 1)) 3, none, [70]⟩,
  ⟨some 9, .assign (.t 71), none, [71]⟩] none [0, 7, 8, 9, 10])
 (.seq (.reg 18 [⟨some 72, .move (.c (Value.bool true)), none, []⟩,
  ⟨some 73, .move (.t 10), some (0, true), []⟩,
  ⟨some 74, .move (.t 9), some (0, true), []⟩,
  ⟨some 75, .call n_bytealg_Cutover [(.t 74)] [3], some (0, true), [74]⟩,
  ⟨some 76, .bin .gtr 3 (.t 73) (.t 75) 3, some (0, true), [73, 75]⟩,
  ⟨some 77, .pick (.t 72) (.t 76) (.c (Value.bool false)), none, [72, 76]⟩,
  ⟨some 78, .move (.t 77), none, [77]⟩,
  ⟨some 79, .move (.t 9), some (6, true), []⟩,
  ⟨some 80, .move (.t 0), some (6, true), []⟩,
  ⟨some 81, .len 9 true (.t 80), some (6, true), [80]⟩,
  ⟨some 82, .bin .lss 3 (.t 79) (.t 81) 3, some (6, true), [79, 81]⟩,
  ⟨some 83, .pick (.t 78) (.t 82) (.c (Value.bool false)), none, [78, 82]⟩,
  ⟨some 84, .move (.t 83), none, [83]⟩,
  ⟨some 85, .move (.c (Value.bool false)), some (12, false), []⟩,
  ⟨some 86, .move (.t 10), some (13, true), [10]⟩,
  ⟨some 87, .move (.t 9), some (13, true), []⟩,
  ⟨some 88, .bin .shr 3 (.t 87) (.c (Value.int IntKind.u64 4)) 57, some (13, true), [87]⟩,
  ⟨some 89, .bin .add 3 (.c (Value.int IntKind.i64 4)) (.t 88) 3, some (13, true), [88]⟩,
  ⟨some 90, .bin .geq 3 (.t 86) (.t 89) 3, some (13, true), [86, 89]⟩,
  ⟨some 91, .pick (.t 85) (.t 90) (.c (Value.bool false)), some (12, false), [85, 90]⟩,
  ⟨some 92, .move (.t 91), some (12, false), [91]⟩,
  ⟨some 93, .move (.t 9), some (20, true), []⟩,
  ⟨some 94, .move (.t 0), some (20, true), []⟩,
  ⟨some 95, .len 9 true (.t 94), some (20, true), [94]⟩,
  ⟨some 96, .bin .lss 3 (.t 93) (.t 95) 3, some (20, true), [93, 95]⟩,
  ⟨some 97, .pick (.t 92) (.t 96) (.c (Value.bool false)), some (12, false), [92, 96]⟩,
  ⟨some 98, .pick (.t 84) (.c (Value.bool true)) (.t 97), none, [84, 97]⟩] none [0, 7, 8, 9, 98])
 (.cond [0, 7, 8, 9] (.t 98) .other .skip))))))
def k5_strings_IndexRune : IR := .tail [8, 9] j5_strings_IndexRune
def j6_strings_IndexRune : IR :=
 (.seq (.seq (.reg 11 [⟨some 12, .assign (.c (Value.int IntKind.i64 1)), none, []⟩] none [0, 7, 8, 9, 12])
 (.block 3 l2_strings_IndexRune))
 k5_strings_IndexRune)
def k6_strings_IndexRune : IR := .tail [0, 7, 8, 9] j6_strings_IndexRune
def j7_strings_IndexRune : IR :=
 (.block 2 (.scope (.seq (.seq (.reg 6 [⟨some 27, .move (.t 0), none, []⟩,
  ⟨some 28, .move (.t 9), none, []⟩,
  ⟨some 29, .index 9 .str none (.t 27) (.t 28), none, [27, 28]⟩,
  ⟨some 30, .move (.t 7), none, []⟩,
  ⟨some 31, .move (.t 8), none, []⟩,
  ⟨some 32, .index 9 .str none (.t 30) (.t 31), none, [30, 31]⟩,
  ⟨some 33, .bin .neq 5 (.t 29) (.t 32) 5, none, [29, 32]⟩] (some [⟨0, []⟩, ⟨1, []⟩, ⟨2, []⟩, ⟨3, []⟩, ⟨4, []⟩, ⟨5, []⟩, ⟨6, []⟩]) [0, 7, 8, 9, 33])
 (.cond [0, 7, 8, 9] (.t 33) (.seq (.reg 7 [⟨some 34, .move (.t 0), none, []⟩,
  ⟨some 35, .move (.t 9), none, []⟩,
  ⟨some 36, .bin .add 3 (.t 35) (.c (Value.int IntKind.i64 1)) 3, none, [35]⟩,
  ⟨some 37, .slice 9 .str (.t 34) (some (.t 36)) none none, none, [34, 36]⟩,
  ⟨some 38, .move (.t 7), none, []⟩,
  ⟨some 39, .move (.t 8), none, []⟩,
  ⟨some 40, .index 9 .str none (.t 38) (.t 39), none, [38, 39]⟩,
  ⟨some 41, .call n_strings_IndexByte [(.t 37), (.t 40)] [9, 5], none, [37, 40]⟩,
  ⟨some 11, .assign (.t 41), none, [41]⟩] (some [⟨0, []⟩, ⟨1, []⟩, ⟨2, []⟩, ⟨3, []⟩, ⟨4, []⟩, ⟨5, []⟩, ⟨6, []⟩, ⟨7, []⟩, ⟨8, []⟩]) [0, 7, 8, 9, 11])
 (.seq (.seq (.reg 8 [⟨some 42, .move (.t 11), none, []⟩,
  ⟨some 43, .bin .lss 3 (.t 42) (.c (Value.int IntKind.i64 0)) 3, none, [42]⟩] none [0, 7, 8, 9, 11, 43])
 (.cond [0, 7, 8, 9, 11] (.t 43) (.seq (.reg 9 [⟨some 4, .assign (.c (Value.int IntKind.i64 (-1))), none, []⟩] none [4])
 .ret) .skip))
 k2_strings_IndexRune)) .skip))
 k6_strings_IndexRune)))
def k7_strings_IndexRune : IR := .tail [0, 7, 8, 9] j7_strings_IndexRune
def w1_strings_IndexRune : IR :=
 (.seq (.seq (.reg 5 [⟨some 23, .move (.t 9), none, []⟩,
  ⟨some 24, .move (.t 0), none, []⟩,
  ⟨some 25, .len 9 true (.t 24), none, [24]⟩,
  ⟨some 26, .bin .lss 3 (.t 23) (.t 25) 3, none, [23, 25]⟩] none [0, 7, 8, 9, 26])
 (.cond [0, 7, 8, 9] (.t 26) .skip (.exit 1)))
 k7_strings_IndexRune)
def l1_strings_IndexRune : IR := .loop [0, 7, 8, 9] w1_strings_IndexRune
def j8_strings_IndexRune : IR :=
 (.reg 30 [⟨some 144, .move (.t 16), none, []⟩,
  ⟨some 145, .bin .add 3 (.t 144) (.c (Value.int IntKind.i64 1)) 3, none, [144]⟩,
  ⟨some 16, .assign (.t 145), none, [145]⟩] none [0, 7, 8, 9, 14, 15, 16])
def k8_strings_IndexRune : IR := .tail [0, 7, 8, 9, 14, 15, 16] j8_strings_IndexRune
def j9_strings_IndexRune : IR :=
 (.seq (.block 8 (.seq (.reg 31 [⟨some 146, .move (.t 0), none, []⟩,
  ⟨some 147, .move (.t 9), none, []⟩,
  ⟨some 148, .move (.t 16), none, []⟩,
  ⟨some 149, .bin .sub 3 (.t 147) (.t 148) 3, none, [147, 148]⟩,
  ⟨some 150, .index 9 .str none (.t 146) (.t 149), none, [146, 149]⟩,
  ⟨some 151, .move (.t 7), none, []⟩,
  ⟨some 152, .move (.t 8), none, []⟩,
  ⟨some 153, .move (.t 16), none, []⟩,
  ⟨some 154, .bin .sub 3 (.t 152) (.t 153) 3, none, [152, 153]⟩,
  ⟨some 155, .index 9 .str none (.t 151) (.t 154), none, [151, 154]⟩,
  ⟨some 156, .bin .neq 5 (.t 150) (.t 155) 5, none, [150, 155]⟩] (some [⟨0, []⟩, ⟨1, []⟩, ⟨2, []⟩, ⟨3, []⟩, ⟨4, []⟩, ⟨5, []⟩, ⟨6, []⟩, ⟨7, []⟩, ⟨8, []⟩, ⟨9, []⟩, ⟨10, []⟩]) [0, 7, 8, 9, 14, 15, 16, 156])
 (.cond [0, 7, 8, 9, 14, 15, 16] (.t 156) (.exit 6) .skip)))
 k8_strings_IndexRune)
def k9_strings_IndexRune : IR := .tail [0, 7, 8, 9, 14, 15, 16] j9_strings_IndexRune
def w4_strings_IndexRune : IR :=
 (.seq (.seq (.reg 29 [⟨some 140, .move (.t 16), none, []⟩,
  ⟨some 141, .move (.t 7), none, []⟩,
  ⟨some 142, .len 9 true (.t 141), none, [141]⟩,
  ⟨some 143, .bin .lss 3 (.t 140) (.t 142) 3, none, [140, 142]⟩] none [0, 7, 8, 9, 14, 15, 16, 143])
 (.cond [0, 7, 8, 9, 14, 15, 16] (.t 143) .skip (.exit 7)))
 k9_strings_IndexRune)
def l4_strings_IndexRune : IR := .loop [0, 7, 8, 9, 14, 15, 16] w4_strings_IndexRune
def j10_strings_IndexRune : IR :=
 (.seq (.reg 32 [⟨some 157, .move (.t 9), none, [9]⟩,
  ⟨some 158, .move (.t 8), none, [8]⟩,
  ⟨some 159, .bin .sub 3 (.t 157) (.t 158) 3, none, [157, 158]⟩,
  ⟨some 4, .assign (.t 159), none, [159]⟩] none [4])
 .ret)
def k10_strings_IndexRune : IR := .tail [8, 9] j10_strings_IndexRune
def j11_strings_IndexRune : IR :=
 (.reg 26 [⟨some 125, .move (.t 9), none, []⟩,
  ⟨some 126, .bin .add 3 (.t 125) (.c (Value.int IntKind.i64 1)) 3, none, [125]⟩,
  ⟨some 9, .assign (.t 126), none, [126]⟩] none [0, 7, 8, 9, 14, 15])
def k11_strings_IndexRune : IR := .tail [0, 7, 8, 9, 14, 15] j11_strings_IndexRune
def j12_strings_IndexRune : IR :=
 (.seq (.block 6 (.seq (.reg 27 [⟨some 127, .move (.t 0), none, []⟩,
  ⟨some 128, .move (.t 9), none, []⟩,
  ⟨some 129, .index 9 .str none (.t 127) (.t 128), none, [127, 128]⟩,
  ⟨some 130, .move (.t 14), none, []⟩,
  ⟨some 131, .bin .eql 5 (.t 129) (.t 130) 5, none, [129, 130]⟩,
  ⟨some 132, .move (.t 131), none, [131]⟩,
  ⟨some 133, .move (.t 0), some (5, true), []⟩,
  ⟨some 134, .move (.t 9), some (5, true), []⟩,
  ⟨some 135, .bin .sub 3 (.t 134) (.c (Value.int IntKind.i64 1)) 3, some (5, true), [134]⟩,
  ⟨some 136, .index 9 .str none (.t 133) (.t 135), some (5, true), [133, 135]⟩,
  ⟨some 137, .move (.t 15), some (5, true), []⟩,
  ⟨some 138, .bin .eql 5 (.t 136) (.t 137) 5, some (5, true), [136, 137]⟩,
  ⟨some 139, .pick (.t 132) (.t 138) (.c (Value.bool false)), none, [132, 138]⟩] none [0, 7, 8, 9, 14, 15, 139])
 (.cond [0, 7, 8, 9, 14, 15] (.t 139) (.seq (.seq (.reg 28 [⟨some 16, .assign (.c (Value.int IntKind.i64 2)), none, []⟩] none [0, 7, 8, 9, 14, 15, 16])
 (.block 7 l4_strings_IndexRune))
 k10_strings_IndexRune) .skip)))
 k11_strings_IndexRune)
def k12_strings_IndexRune : IR := .tail [0, 7, 8, 9, 14, 15] j12_strings_IndexRune
def w3_strings_IndexRune : IR :=
 (.seq (.seq (.reg 25 [⟨some 121, .move (.t 9), none, []⟩,
  ⟨some 122, .move (.t 0), none, []⟩,
  ⟨some 123, .len 9 true (.t 122), none, [122]⟩,
  ⟨some 124, .bin .lss 3 (.t 121) (.t 123) 3, none, [121, 123]⟩] none [0, 7, 8, 9, 14, 15, 124])
 (.cond [0, 7, 8, 9, 14, 15] (.t 124) .skip (.exit 5)))
 k12_strings_IndexRune)
def l3_strings_IndexRune : IR := .loop [0, 7, 8, 9, 14, 15] w3_strings_IndexRune
def j13_strings_IndexRune : IR :=
 (.seq (.reg 33 [⟨some 4, .assign (.c (Value.int IntKind.i64 (-1))), none, []⟩] none [4])
 .ret)
def k13_strings_IndexRune : IR := .tail [] j13_strings_IndexRune
def j14_strings_IndexRune : IR :=
 (.seq (.seq (.reg 19 [⟨some 4, .assign (.c (Value.int IntKind.i64 (-1))), none, []⟩] none [4])
 .ret)
 (.seq (.label 1)
 (.seq (.cond [0, 1, 7, 8, 9] (.c (Value.bool true)) (.seq (.reg 20 [⟨some 99, .move (.t 0), none, [0]⟩,
  ⟨some 100, .move (.t 9), none, []⟩,
  ⟨some 101, .move (.t 8), none, []⟩,
  ⟨some 102, .bin .sub 3 (.t 100) (.t 101) 3, none, [100, 101]⟩,
  ⟨some 103, .slice 9 .str (.t 99) (some (.t 102)) none none, none, [99, 102]⟩,
  ⟨some 104, .move (.t 1), none, [1]⟩,
  ⟨some 105, .conv 21 9 .rune (.t 104), none, [104]⟩,
  ⟨some 106, .other (Op.call { callee := (Callee.value (Operand.func 67)), args := #[(Operand.tmp 103), (Operand.tmp 105)], argTypes := #[9, 9] }), none, [103, 105]⟩,
  ⟨some 13, .assign (.t 106), none, [106]⟩] none [8, 9, 13])
 (.seq (.reg 21 [⟨some 107, .move (.t 13), none, []⟩,
  ⟨some 108, .bin .geq 3 (.t 107) (.c (Value.int IntKind.i64 0)) 3, none, [107]⟩] none [8, 9, 13, 108])
 (.cond [8, 9, 13] (.t 108) (.seq (.reg 22 [⟨some 109, .move (.t 9), none, [9]⟩,
  ⟨some 110, .move (.t 13), none, [13]⟩,
  ⟨some 111, .bin .add 3 (.t 109) (.t 110) 3, none, [109, 110]⟩,
  ⟨some 112, .move (.t 8), none, [8]⟩,
  ⟨some 113, .bin .sub 3 (.t 111) (.t 112) 3, none, [111, 112]⟩,
  ⟨some 4, .assign (.t 113), none, [113]⟩] none [4])
 .ret) .skip))) (.scope (.seq (.reg 23 [⟨some 114, .move (.t 7), none, []⟩,
  ⟨some 115, .move (.t 8), none, []⟩,
  ⟨some 116, .index 9 .str none (.t 114) (.t 115), none, [114, 115]⟩,
  ⟨some 14, .assign (.t 116), none, [116]⟩] none [0, 7, 8, 9, 14])
 (.seq (.reg 24 [⟨some 117, .move (.t 7), none, []⟩,
  ⟨some 118, .move (.t 8), none, []⟩,
  ⟨some 119, .bin .sub 3 (.t 118) (.c (Value.int IntKind.i64 1)) 3, none, [118]⟩,
  ⟨some 120, .index 9 .str none (.t 117) (.t 119), none, [117, 119]⟩,
  ⟨some 15, .assign (.t 120), none, [120]⟩] none [0, 7, 8, 9, 14, 15])
 (.seq (.label 2)
 (.block 5 l3_strings_IndexRune))))))
 k13_strings_IndexRune)))
def k14_strings_IndexRune : IR := .tail [] j14_strings_IndexRune
def b_strings_IndexRune : IR :=
 (.seq (.reg 0 [⟨some 4, .assign (.c (Value.int IntKind.i64 0)), none, [4]⟩] none [0, 1])
 (.block 0 (.seq (.reg 34 [⟨some 161, .move (.t 1), none, []⟩,
  ⟨some 162, .bin .leq 21 (.c (Value.int IntKind.i32 0)) (.t 161) 21, none, [161]⟩,
  ⟨some 163, .move (.t 162), none, [162]⟩,
  ⟨some 164, .move (.t 1), some (2, true), []⟩,
  ⟨some 165, .bin .lss 21 (.t 164) (.c (Value.int IntKind.i32 128)) 21, some (2, true), [164]⟩,
  ⟨some 166, .pick (.t 163) (.t 165) (.c (Value.bool false)), none, [163, 165]⟩,
  ⟨some 160, .assign (.t 166), none, [166]⟩] none [0, 1, 160])
 (.cond [0, 1] (.t 160) (.seq (.reg 35 [⟨some 167, .move (.t 0), none, [0]⟩,
  ⟨some 168, .move (.t 1), none, [1]⟩,
  ⟨some 169, .conv 21 5 (.int .u8) (.t 168), none, [168]⟩,
  ⟨some 170, .call n_strings_IndexByte [(.t 167), (.t 169)] [9, 5], none, [167, 169]⟩,
  ⟨some 4, .assign (.t 170), none, [170]⟩] none [4])
 .ret) (.seq (.reg 36 [⟨some 172, .move (.t 1), none, []⟩,
  ⟨some 173, .bin .eql 21 (.t 172) (.c (Value.int IntKind.i32 65533)) 21, none, [172]⟩,
  ⟨some 171, .assign (.t 173), none, [173]⟩] none [0, 1, 171])
 (.cond [0, 1] (.t 171) (.seq (.seq (.reg 37 [⟨some 174, .move (.t 0), none, [0]⟩,
  ⟨some 175, .range 9 (.t 174), none, [174]⟩] none [175])
 (.block 9 l0_strings_IndexRune))
 k1_strings_IndexRune) (.seq (.reg 43 [⟨some 184, .move (.t 1), none, []⟩,
  ⟨some 185, .call n_utf8_ValidRune [(.t 184)] [21], none, [184]⟩,
  ⟨some 186, .un .not 4 (.t 185), none, [185]⟩,
  ⟨some 183, .assign (.t 186), none, [186]⟩] none [0, 1, 183])
 (.cond [0, 1] (.t 183) (.seq (.reg 44 [⟨some 4, .assign (.c (Value.int IntKind.i64 (-1))), none, []⟩] none [4])
 .ret) (.scope (.seq (.reg 1 [⟨some 17, .move (.t 1), none, [1]⟩,
  ⟨some 18, .conv 21 9 .rune (.t 17), none, [17]⟩,
  ⟨some 7, .assign (.t 18), none, [18]⟩] none [0, 7])
 (.seq (.reg 2 [⟨some 19, .move (.t 7), none, []⟩,
  ⟨some 20, .len 9 true (.t 19), none, [19]⟩,
  ⟨some 21, .bin .sub 3 (.t 20) (.c (Value.int IntKind.i64 1)) 3, none, [20]⟩,
  ⟨some 8, .assign (.t 21), none, [21]⟩] none [0, 7, 8])
 (.seq (.reg 3 [⟨some 22, .move (.t 8), none, []⟩,
  ⟨some 9, .assign (.t 22), none, [22]⟩] none [0, 7, 8, 9])
 (.seq (.reg 4 [⟨some 10, .assign (.c (Value.int IntKind.i64 0)), none, [10]⟩] none [0, 7, 8, 9])
 (.seq (.block 1 l1_strings_IndexRune)
 k14_strings_IndexRune))))))))))))))
def a_strings_IndexRune : AFunc := ⟨187, [.tmp 4], b_strings_IndexRune⟩

def b_strings_shouldUseASCIISet : IR :=
 (.seq (.reg 0 [⟨some 2, .assign (.c (Value.bool false)), none, [2]⟩] none [0])
 (.seq (.reg 1 [⟨some 3, .move (.t 0), none, [0]⟩,
  ⟨some 4, .bin .gtr 3 (.t 3) (.c (Value.int IntKind.i64 8)) 3, none, [3]⟩,
  ⟨some 2, .assign (.t 4), none, [4]⟩] none [2])
 .ret))
def a_strings_shouldUseASCIISet : AFunc := ⟨5, [.tmp 2], b_strings_shouldUseASCIISet⟩

def j0_strings_makeASCIISet : IR :=
 (.reg 7 [⟨some 18, .move (.t 5), none, [5]⟩,
  ⟨some 19, .iaddr 81 (.arr 256 1) (.t 2) (.t 18), none, []⟩,
  ⟨none, .store 4 none (.t 19) (.c (Value.bool true)), none, [18, 19]⟩] none [0, 2, 4])
def k0_strings_makeASCIISet : IR := .tail [0, 2, 4, 5] j0_strings_makeASCIISet
def j1_strings_makeASCIISet : IR :=
 (.reg 3 [⟨some 10, .move (.t 4), none, []⟩,
  ⟨some 11, .bin .add 3 (.t 10) (.c (Value.int IntKind.i64 1)) 3, none, [10]⟩,
  ⟨some 4, .assign (.t 11), none, [11]⟩] none [0, 2, 4])
def k1_strings_makeASCIISet : IR := .tail [0, 2, 4] j1_strings_makeASCIISet
def j2_strings_makeASCIISet : IR :=
 (.seq (.block 1 (.seq (.reg 4 [⟨some 12, .move (.t 0), none, []⟩,
  ⟨some 13, .move (.t 4), none, []⟩,
  ⟨some 14, .index 9 .str none (.t 12) (.t 13), none, [12, 13]⟩,
  ⟨some 5, .assign (.t 14), none, [14]⟩] none [0, 2, 4, 5])
 (.seq (.seq (.reg 5 [⟨some 15, .move (.t 5), none, []⟩,
  ⟨some 16, .bin .geq 5 (.t 15) (.c (Value.int IntKind.u8 128)) 5, none, [15]⟩] none [0, 2, 4, 5, 16])
 (.cond [0, 2, 4, 5] (.t 16) (.seq (.reg 6 [⟨some 17, .load 81 (some 256) (.t 2), none, []⟩,
  ⟨none, .store 81 (some 256) (.t 2) (.t 17), none, [17]⟩,
  ⟨some 3, .assign (.c (Value.bool false)), none, []⟩] none [2, 3])
 .ret) .skip))
 k0_strings_makeASCIISet)))
 k1_strings_makeASCIISet)
def k2_strings_makeASCIISet : IR := .tail [0, 2, 4] j2_strings_makeASCIISet
def w0_strings_makeASCIISet : IR :=
 (.seq (.seq (.reg 2 [⟨some 6, .move (.t 4), none, []⟩,
  ⟨some 7, .move (.t 0), none, []⟩,
  ⟨some 8, .len 9 true (.t 7), none, [7]⟩,
  ⟨some 9, .bin .lss 3 (.t 6) (.t 8) 3, none, [6, 8]⟩] none [0, 2, 4, 9])
 (.cond [0, 2, 4] (.t 9) .skip (.exit 0)))
 k2_strings_makeASCIISet)
def l0_strings_makeASCIISet : IR := .loop [0, 2, 4] w0_strings_makeASCIISet
def j3_strings_makeASCIISet : IR :=
 (.seq (.reg 8 [⟨some 20, .load 81 (some 256) (.t 2), none, []⟩,
  ⟨none, .store 81 (some 256) (.t 2) (.t 20), none, [20]⟩,
  ⟨some 3, .assign (.c (Value.bool true)), none, []⟩] none [2, 3])
 .ret)
def k3_strings_makeASCIISet : IR := .tail [2] j3_strings_makeASCIISet
def b_strings_makeASCIISet : IR :=
 (.seq (.reg 0 [⟨some 2, .alloc 81 [.v (.bool false), .v (.bool false), .v (.bool false), .v (.bool false), .v (.bool false), .v (.bool false), .v (.bool false), .v (.bool false), .v (.bool false), .v (.bool false), .v (.bool false), .v (.bool false), .v (.bool false), .v (.bool false), .v (.bool false), .v (.bool false), .v (.bool false), .v (.bool false), .v (.bool false), .v (.bool false), .v (.bool false), .v (.bool false), .v (.bool false), .v (.bool false), .v (.bool false), .v (.bool false), .v (.bool false), .v (.bool false), .v (.bool false), .v (.bool false), .v (.bool false), .v (.bool false), .v (.bool false), .v (.bool false), .v (.bool false), .v (.bool false), .v (.bool false), .v (.bool false), .v (.bool false), .v (.bool false), .v (.bool false), .v (.bool false), .v (.bool false), .v (.bool false), .v (.bool false), .v (.bool false), .v (.bool false), .v (.bool false), .v (.bool false), .v (.bool false), .v (.bool false), .v (.bool false), .v (.bool false), .v (.bool false), .v (.bool false), .v (.bool false), .v (.bool false), .v (.bool false), .v (.bool false), .v (.bool false), .v (.bool false), .v (.bool false), .v (.bool false), .v (.bool false), .v (.bool false), .v (.bool false), .v (.bool false), .v (.bool false), .v (.bool false), .v (.bool false), .v (.bool false), .v (.bool false), .v (.bool false), .v (.bool false), .v (.bool false), .v (.bool false), .v (.bool false), .v (.bool false), .v (.bool false), .v (.bool false), .v (.bool false), .v (.bool false), .v (.bool false), .v (.bool false), .v (.bool false), .v (.bool false), .v (.bool false), .v (.bool false), .v (.bool false), .v (.bool false), .v (.bool false), .v (.bool false), .v (.bool false), .v (.bool false), .v (.bool false), .v (.bool false), .v (.bool false), .v (.bool false), .v (.bool false), .v (.bool false), .v (.bool false), .v (.bool false), .v (.bool false), .v (.bool false), .v (.bool false), .v (.bool false), .v (.bool false), .v (.bool false), .v (.bool false), .v (.bool false), .v (.bool false), .v (.bool false), .v (.bool false), .v (.bool false), .v (.bool false), .v (.bool false), .v (.bool false), .v (.bool false), .v (.bool false), .v (.bool false), .v (.bool false), .v (.bool false), .v (.bool false), .v (.bool false), .v (.bool false), .v (.bool false), .v (.bool false), .v (.bool false), .v (.bool false), .v (.bool false), .v (.bool false), .v (.bool false), .v (.bool false), .v (.bool false), .v (.bool false), .v (.bool false), .v (.bool false), .v (.bool false), .v (.bool false), .v (.bool false), .v (.bool false), .v (.bool false), .v (.bool false), .v (.bool false), .v (.bool false), .v (.bool false), .v (.bool false), .v (.bool false), .v (.bool false), .v (.bool false), .v (.bool false), .v (.bool false), .v (.bool false), .v (.bool false), .v (.bool false), .v (.bool false), .v (.bool false), .v (.bool false), .v (.bool false), .v (.bool false), .v (.bool false), .v (.bool false), .v (.bool false), .v (.bool false), .v (.bool false), .v (.bool false), .v (.bool false), .v (.bool false), .v (.bool false), .v (.bool false), .v (.bool false), .v (.bool false), .v (.bool false), .v (.bool false), .v (.bool false), .v (.bool false), .v (.bool false), .v (.bool false), .v (.bool false), .v (.bool false), .v (.bool false), .v (.bool false), .v (.bool false), .v (.bool false), .v (.bool false), .v (.bool false), .v (.bool false), .v (.bool false), .v (.bool false), .v (.bool false), .v (.bool false), .v (.bool false), .v (.bool false), .v (.bool false), .v (.bool false), .v (.bool false), .v (.bool false), .v (.bool false), .v (.bool false), .v (.bool false), .v (.bool false), .v (.bool false), .v (.bool false), .v (.bool false), .v (.bool false), .v (.bool false), .v (.bool false), .v (.bool false), .v (.bool false), .v (.bool false), .v (.bool false), .v (.bool false), .v (.bool false), .v (.bool false), .v (.bool false), .v (.bool false), .v (.bool false), .v (.bool false), .v (.bool false), .v (.bool false), .v (.bool false), .v (.bool false), .v (.bool false), .v (.bool false), .v (.bool false), .v (.bool false), .v (.bool false), .v (.bool false), .v (.bool false), .v (.bool false), .v (.bool false), .v (.bool false), .v (.bool false), .v (.bool false), .v (.bool false), .v (.bool false), .v (.bool false), .v (.bool false), .v (.bool false), .v (.bool false), .v (.bool false), .v (.bool false), .v (.bool false), .v (.bool false), .v (.bool false), .v (.bool false), .v (.bool false), .v (.bool false), .v (.bool false), .v (.bool false), .v (.bool false), .v (.bool false), .v (.bool false), .v (.bool false), .v (.bool false), .v (.bool false)], none, []⟩,
  ⟨some 3, .assign (.c (Value.bool false)), none, [3]⟩] none [0, 2])
 (.seq (.seq (.reg 1 [⟨some 4, .assign (.c (Value.int IntKind.i64 0)), none, []⟩] none [0, 2, 4])
 (.block 0 l0_strings_makeASCIISet))
 k3_strings_makeASCIISet))
def a_strings_makeASCIISet : AFunc := ⟨21, [.cell 2 81 (some 256), .tmp 3], b_strings_makeASCIISet⟩

def b_strings_asciiSet_contains : IR :=
 (.seq (.reg 0 [⟨some 4, .assign (.c (Value.bool false)), none, [4]⟩] none [0, 1, 100000])
 (.seq (.reg 1 [⟨some 5, .move (.t 0), none, []⟩,
  ⟨some 6, .move (.t 1), none, [1]⟩,
  ⟨some 7, .nilck (.t 5), none, []⟩,
  ⟨some 8, .iaddr 81 (.arr 256 1) (.t 7) (.t 6), none, []⟩,
  ⟨some 9, .load 4 none (.t 8), none, [0, 5, 6, 7, 8]⟩,
  ⟨some 4, .assign (.t 9), none, [9]⟩] none [4, 100000])
 .ret))
def a_strings_asciiSet_contains : AFunc := ⟨10, [.tmp 4], b_strings_asciiSet_contains⟩

def j0_strings_IndexAny : IR :=
 (.seq (.reg 7 [⟨some 21, .move (.t 0), none, [0]⟩,
  ⟨some 22, .move (.t 5), none, [5]⟩,
  ⟨some 23, .call n_strings_IndexRune [(.t 21), (.t 22)] [9, 21], none, [21, 22]⟩,
  ⟨some 4, .assign (.t 23), none, [23]⟩] none [4])
 .ret)
def k0_strings_IndexAny : IR := .tail [0, 5] j0_strings_IndexAny
def j1_strings_IndexAny : IR :=
 (.reg 13 [⟨some 37, .move (.t 8), none, []⟩,
  ⟨some 38, .bin .add 3 (.t 37) (.c (Value.int IntKind.i64 1)) 3, none, [37]⟩,
  ⟨some 8, .assign (.t 38), none, [38]⟩] none [0, 6, 8])
def k1_strings_IndexAny : IR := .tail [0, 6, 8] j1_strings_IndexAny
def j2_strings_IndexAny : IR :=
 (.seq (.block 1 (.seq (.reg 14 [⟨some 39, .move (.t 0), none, []⟩,
  ⟨some 40, .move (.t 8), none, []⟩,
  ⟨some 41, .index 9 .str none (.t 39) (.t 40), none, [39, 40]⟩,
  ⟨some 42, .call n_strings_asciiSet_contains [(.t 6), (.t 41)] [81, 5], none, [41]⟩] none [0, 6, 8, 42])
 (.cond [0, 6, 8] (.t 42) (.seq (.reg 15 [⟨some 43, .move (.t 8), none, [8]⟩,
  ⟨some 4, .assign (.t 43), none, [43]⟩] none [4])
 .ret) .skip)))
 k1_strings_IndexAny)
def k2_strings_IndexAny : IR := .tail [0, 6, 8] j2_strings_IndexAny
def w0_strings_IndexAny : IR :=
 (.seq (.seq (.reg 12 [⟨some 33, .move (.t 8), none, []⟩,
  ⟨some 34, .move (.t 0), none, []⟩,
  ⟨some 35, .len 9 true (.t 34), none, [34]⟩,
  ⟨some 36, .bin .lss 3 (.t 33) (.t 35) 3, none, [33, 35]⟩] none [0, 6, 8, 36])
 (.cond [0, 6, 8] (.t 36) .skip (.exit 0)))
 k2_strings_IndexAny)
def l0_strings_IndexAny : IR := .loop [0, 6, 8] w0_strings_IndexAny
def j3_strings_IndexAny : IR :=
 (.seq (.reg 16 [⟨some 4, .assign (.c (Value.int IntKind.i64 (-1))), none, []⟩] none [4])
 .ret)
def k3_strings_IndexAny : IR := .tail [] j3_strings_IndexAny
def j4_strings_IndexAny : IR :=
 (.block 3 (.seq (.reg 19 [⟨some 48, .extr (.t 46) 1, none, []⟩,
  ⟨some 49, .extr (.t 46) 2, none, [46]⟩,
  ⟨some 9, .assign (.t 48), none, [48]⟩,
  ⟨some 10, .assign (.t 49), none, [49]⟩] none [1, 9, 10, 45])
 (.seq (.reg 20 [⟨some 50, .move (.t 1), none, []⟩,
  ⟨some 51, .move (.t 10), none, [10]⟩,
  ⟨some 52, .call n_strings_IndexRune [(.t 50), (.t 51)] [9, 21], none, [50, 51]⟩,
  ⟨some 53, .bin .geq 3 (.t 52) (.c (Value.int IntKind.i64 0)) 3, none, [52]⟩] none [1, 9, 45, 53])
 (.cond [1, 9, 45] (.t 53) (.seq (.reg 21 [⟨some 54, .move (.t 9), none, [9]⟩,
  ⟨some 4, .assign (.t 54), none, [54]⟩] none [4])
 .ret) .skip))))
def k4_strings_IndexAny : IR := .tail [1, 45, 46] j4_strings_IndexAny
def w1_strings_IndexAny : IR :=
 (.seq (.reg 18 [⟨some 46, .next (.t 45), none, []⟩,
  ⟨some 47, .extr (.t 46) 0, none, []⟩] none [1, 45, 46, 47])
 (.seq (.cond [1, 45, 46] (.t 47) .skip (.exit 2))
 k4_strings_IndexAny))
def l1_strings_IndexAny : IR := .loop [1, 45] w1_strings_IndexAny
def j5_strings_IndexAny : IR :=
 (.seq (.reg 22 [⟨some 4, .assign (.c (Value.int IntKind.i64 (-1))), none, []⟩] none [4])
 .ret)
def k5_strings_IndexAny : IR := .tail [] j5_strings_IndexAny
def j6_strings_IndexAny : IR :=
 (.seq (.seq (.reg 17 [⟨some 44, .move (.t 0), none, [0]⟩,
  ⟨some 45, .range 9 (.t 44), none, [44]⟩] none [1, 45])
 (.block 2 l1_strings_IndexAny))
 k5_strings_IndexAny)
def k6_strings_IndexAny : IR := .tail [0, 1] j6_strings_IndexAny
def j7_strings_IndexAny : IR :=
 (.seq (.seq (.reg 8 [⟨some 24, .move (.t 0), none, []⟩,
  ⟨some 25, .len 9 true (.t 24), none, [24]⟩,
  ⟨some 26, .call n_strings_shouldUseASCIISet [(.t 25)] [3], none, [25]⟩] none [0, 1, 26])
 (.cond [0, 1] (.t 26) (.seq (.reg 9 [⟨some 28, .move (.t 1), none, []⟩,
  ⟨some 29, .call n_strings_makeASCIISet [(.t 28)] [9], none, [28]⟩,
  ⟨some 27, .move (.t 29), none, [29]⟩,
  ⟨some 30, .extr (.t 27) 0, none, []⟩,
  ⟨some 31, .extr (.t 27) 1, none, [27]⟩,
  ⟨some 6, .alloc 81 [.v (.bool false), .v (.bool false), .v (.bool false), .v (.bool false), .v (.bool false), .v (.bool false), .v (.bool false), .v (.bool false), .v (.bool false), .v (.bool false), .v (.bool false), .v (.bool false), .v (.bool false), .v (.bool false), .v (.bool false), .v (.bool false), .v (.bool false), .v (.bool false), .v (.bool false), .v (.bool false), .v (.bool false), .v (.bool false), .v (.bool false), .v (.bool false), .v (.bool false), .v (.bool false), .v (.bool false), .v (.bool false), .v (.bool false), .v (.bool false), .v (.bool false), .v (.bool false), .v (.bool false), .v (.bool false), .v (.bool false), .v (.bool false), .v (.bool false), .v (.bool false), .v (.bool false), .v (.bool false), .v (.bool false), .v (.bool false), .v (.bool false), .v (.bool false), .v (.bool false), .v (.bool false), .v (.bool false), .v (.bool false), .v (.bool false), .v (.bool false), .v (.bool false), .v (.bool false), .v (.bool false), .v (.bool false), .v (.bool false), .v (.bool false), .v (.bool false), .v (.bool false), .v (.bool false), .v (.bool false), .v (.bool false), .v (.bool false), .v (.bool false), .v (.bool false), .v (.bool false), .v (.bool false), .v (.bool false), .v (.bool false), .v (.bool false), .v (.bool false), .v (.bool false), .v (.bool false), .v (.bool false), .v (.bool false), .v (.bool false), .v (.bool false), .v (.bool false), .v (.bool false), .v (.bool false), .v (.bool false), .v (.bool false), .v (.bool false), .v (.bool false), .v (.bool false), .v (.bool false), .v (.bool false), .v (.bool false), .v (.bool false), .v (.bool false), .v (.bool false), .v (.bool false), .v (.bool false), .v (.bool false), .v (.bool false), .v (.bool false), .v (.bool false), .v (.bool false), .v (.bool false), .v (.bool false), .v (.bool false), .v (.bool false), .v (.bool false), .v (.bool false), .v (.bool false), .v (.bool false), .v (.bool false), .v (.bool false), .v (.bool false), .v (.bool false), .v (.bool false), .v (.bool false), .v (.bool false), .v (.bool false), .v (.bool false), .v (.bool false), .v (.bool false), .v (.bool false), .v (.bool false), .v (.bool false), .v (.bool false), .v (.bool false), .v (.bool false), .v (.bool false), .v (.bool false), .v (.bool false), .v (.bool false), .v (.bool false), .v (.bool false), .v (.bool false), .v (.bool false), .v (.bool false), .v (.bool false), .v (.bool false), .v (.bool false), .v (.bool false), .v (.bool false), .v (.bool false), .v (.bool false), .v (.bool false), .v (.bool false), .v (.bool false), .v (.bool false), .v (.bool false), .v (.bool false), .v (.bool false), .v (.bool false), .v (.bool false), .v (.bool false), .v (.bool false), .v (.bool false), .v (.bool false), .v (.bool false), .v (.bool false), .v (.bool false), .v (.bool false), .v (.bool false), .v (.bool false), .v (.bool false), .v (.bool false), .v (.bool false), .v (.bool false), .v (.bool false), .v (.bool false), .v (.bool false), .v (.bool false), .v (.bool false), .v (.bool false), .v (.bool false), .v (.bool false), .v (.bool false), .v (.bool false), .v (.bool false), .v (.bool false), .v (.bool false), .v (.bool false), .v (.bool false), .v (.bool false), .v (.bool false), .v (.bool false), .v (.bool false), .v (.bool false), .v (.bool false), .v (.bool false), .v (.bool false), .v (.bool false), .v (.bool false), .v (.bool false), .v (.bool false), .v (.bool false), .v (.bool false), .v (.bool false), .v (.bool false), .v (.bool false), .v (.bool false), .v (.bool false), .v (.bool false), .v (.bool false), .v (.bool false), .v (.bool false), .v (.bool false), .v (.bool false), .v (.bool false), .v (.bool false), .v (.bool false), .v (.bool false), .v (.bool false), .v (.bool false), .v (.bool false), .v (.bool false), .v (.bool false), .v (.bool false), .v (.bool false), .v (.bool false), .v (.bool false), .v (.bool false), .v (.bool false), .v (.bool false), .v (.bool false), .v (.bool false), .v (.bool false), .v (.bool false), .v (.bool false), .v (.bool false), .v (.bool false), .v (.bool false), .v (.bool false), .v (.bool false), .v (.bool false), .v (.bool false), .v (.bool false), .v (.bool false), .v (.bool false), .v (.bool false), .v (.bool false), .v (.bool false), .v (.bool false), .v (.bool false), .v (.bool false), .v (.bool false), .v (.bool false), .v (.bool false), .v (.bool false), .v (.bool false), .v (.bool false), .v (.bool false), .v (.bool false), .v (.bool false), .v (.bool false), .v (.bool false), .v (.bool false), .v (.bool false), .v (.bool false), .v (.bool false), .v (.bool false), .v (.bool false), .v (.bool false)], none, []⟩,
  ⟨none, .store 81 (some 256) (.t 6) (.t 30), none, [30]⟩,
  ⟨some 7, .assign (.t 31), none, [31]⟩] none [0, 1, 6, 7])
 (.seq (.reg 10 [⟨some 32, .move (.t 7), none, [7]⟩] none [0, 1, 6, 32])
 (.cond [0, 1, 6] (.t 32) (.seq (.seq (.reg 11 [⟨some 8, .assign (.c (Value.int IntKind.i64 0)), none, []⟩] none [0, 6, 8])
 (.block 0 l0_strings_IndexAny))
 k3_strings_IndexAny) .skip))) .skip))
 k6_strings_IndexAny)
def k7_strings_IndexAny : IR := .tail [0, 1] j7_strings_IndexAny
def j8_strings_IndexAny : IR :=
 (.seq (.seq (.reg 3 [⟨some 13, .move (.t 1), none, []⟩,
  ⟨some 14, .len 9 true (.t 13), none, [13]⟩,
  ⟨some 15, .bin .eql 3 (.t 14) (.c (Value.int IntKind.i64 1)) 3, none, [14]⟩] none [0, 1, 15])
 (.cond [0, 1] (.t 15) (.seq (.reg 4 [⟨some 16, .move (.t 1), none, [1]⟩,
  ⟨some 17, .index 9 .str none (.t 16) (.c (Value.int IntKind.i64 0)), none, [16]⟩,
  ⟨some 18, .conv 5 21 (.int .i32) (.t 17), none, [17]⟩,
  ⟨some 5, .assign (.t 18), none, [18]⟩] none [0, 5])
 (.seq (.seq (.reg 5 [⟨some 19, .move (.t 5), none, []⟩,
  ⟨some 20, .bin .geq 21 (.t 19) (.c (Value.int IntKind.i32 128)) 21, none, [19]⟩] none [0, 5, 20])
 (.cond [0, 5] (.t 20) (.reg 6 [⟨some 5, .assign (.c (Value.int IntKind.i32 65533)), none, []⟩] none [0, 5]) .skip))
 k0_strings_IndexAny)) .skip))
 k7_strings_IndexAny)
def k8_strings_IndexAny : IR := .tail [0, 1] j8_strings_IndexAny
def b_strings_IndexAny : IR :=
 (.seq (.reg 0 [⟨some 4, .assign (.c (Value.int IntKind.i64 0)), none, [4]⟩] none [0, 1])
 (.seq (.seq (.reg 1 [⟨some 11, .move (.t 1), none, []⟩,
  ⟨some 12, .bin .eql 9 (.t 11) (.c (Value.string { data := #[] })) 9, none, [11]⟩] none [0, 1, 12])
 (.cond [0, 1] (.t 12) (.seq (.reg 2 [⟨some 4, .assign (.c (Value.int IntKind.i64 (-1))), none, []⟩] none [4])
 .ret) .skip))
 k8_strings_IndexAny))
def a_strings_IndexAny : AFunc := ⟨55, [.tmp 4], b_strings_IndexAny⟩

def b_strings_ContainsAny : IR :=
 (.seq (.reg 0 [⟨some 4, .assign (.c (Value.bool false)), none, [4]⟩] none [0, 1])
 (.seq (.reg 1 [⟨some 5, .move (.t 0), none, [0]⟩,
  ⟨some 6, .move (.t 1), none, [1]⟩,
  ⟨some 7, .call n_strings_IndexAny [(.t 5), (.t 6)] [9, 9], none, [5, 6]⟩,
  ⟨some 8, .bin .geq 3 (.t 7) (.c (Value.int IntKind.i64 0)) 3, none, [7]⟩,
  ⟨some 4, .assign (.t 8), none, [8]⟩] none [4])
 .ret))
def a_strings_ContainsAny : AFunc := ⟨9, [.tmp 4], b_strings_ContainsAny⟩

def j0_scan_Join : IR :=
 (.reg 8 [⟨some 21, .bin .add 3 (.t 15) (.c (Value.int IntKind.i64 1)) 3, none, []⟩,
  ⟨some 15, .move (.t 21), none, [21]⟩] none [0, 1, 13, 14, 15])
def k0_scan_Join : IR := .tail [0, 1, 13, 14, 15] j0_scan_Join
def j1_scan_Join : IR :=
 (.seq (.block 1 (.seq (.reg 5 [⟨some 17, .iaddr 37 (.sl 1) (.t 13) (.t 15), none, []⟩,
  ⟨some 18, .load 9 none (.t 17), none, [17]⟩,
  ⟨some 7, .assign (.t 18), none, [18]⟩] none [0, 1, 7, 13, 14, 15])
 (.seq (.reg 6 [⟨some 19, .move (.t 7), none, [7]⟩,
  ⟨some 20, .call n_strings_ContainsAny [(.t 19), (.c (Value.string { data := #[13, 10] }))] [9, 9], none, [19]⟩] none [0, 1, 13, 14, 15, 20])
 (.cond [0, 1, 13, 14, 15] (.t 20) (.seq (.reg 7 [⟨some 4, .assign (.c (Value.string { data := #[] })), none, []⟩,
  ⟨some 5, .assign (.c (Value.int IntKind.i64 30)), none, []⟩] none [4, 5])
 .ret) .skip))))
 k0_scan_Join)
def k1_scan_Join : IR := .tail [0, 1, 13, 14, 15] j1_scan_Join
def w0_scan_Join : IR :=
 (.seq (.reg 4 [⟨some 16, .bin .lss 3 (.t 15) (.t 14) 3, none, []⟩] none [0, 1, 13, 14, 15, 16])
 (.seq (.cond [0, 1, 13, 14, 15] (.t 16) .skip (.exit 0))
 k1_scan_Join))
def l0_scan_Join : IR := .loop [0, 1, 13, 14, 15] w0_scan_Join
def j2_scan_Join : IR :=
 (.reg 19 [⟨some 48, .move (.t 10), none, [10]⟩,
  ⟨some 49, .call n_strings_Builder_WriteString [(.t 8), (.t 48)] [60, 9], none, [48, 49]⟩] none [0, 1, 8, 25, 26, 27])
def k2_scan_Join : IR := .tail [0, 1, 8, 10, 25, 26, 27] j2_scan_Join
def j3_scan_Join : IR :=
 (.seq (.seq (.reg 17 [⟨some 36, .move (.t 10), none, []⟩,
  ⟨some 37, .move (.t 1), none, []⟩,
  ⟨some 38, .call n_strings_IndexByte [(.t 36), (.t 37)] [9, 5], none, [36, 37]⟩,
  ⟨some 39, .bin .geq 3 (.t 38) (.c (Value.int IntKind.i64 0)) 3, none, [38]⟩,
  ⟨some 40, .move (.t 39), none, [39]⟩,
  ⟨some 41, .move (.t 10), some (4, false), []⟩,
  ⟨some 42, .call n_strings_HasPrefix [(.t 41), (.c (Value.string { data := #[34] }))] [9, 9], some (4, false), [41]⟩,
  ⟨some 43, .pick (.t 40) (.c (Value.bool true)) (.t 42), none, [40, 42]⟩] none [0, 1, 8, 10, 25, 26, 27, 43])
 (.cond [0, 1, 8, 10, 25, 26, 27] (.t 43) (.reg 18 [⟨some 44, .move (.t 10), none, []⟩,
  ⟨some 45, .call n_strings_ReplaceAll [(.t 44), (.c (Value.string { data := #[34] })), (.c (Value.string { data := #[34, 34] }))] [9, 9, 9], none, [44]⟩,
  ⟨some 46, .bin .add 9 (.c (Value.string { data := #[34] })) (.t 45) 9, none, [45]⟩,
  ⟨some 47, .bin .add 9 (.t 46) (.c (Value.string { data := #[34] })) 9, none, [46]⟩,
  ⟨some 10, .assign (.t 47), none, [47]⟩] none [0, 1, 8, 10, 25, 26, 27]) .skip))
 k2_scan_Join)
def k3_scan_Join : IR := .tail [0, 1, 8, 10, 25, 26, 27] j3_scan_Join
def j4_scan_Join : IR :=
 (.reg 20 [⟨some 50, .bin .add 3 (.t 27) (.c (Value.int IntKind.i64 1)) 3, none, []⟩,
  ⟨some 27, .move (.t 50), none, [50]⟩] none [0, 1, 8, 25, 26, 27])
def k4_scan_Join : IR := .tail [0, 1, 8, 25, 26, 27] j4_scan_Join
def j5_scan_Join : IR :=
 (.seq (.block 3 (.seq (.reg 14 [⟨some 29, .move (.t 27), none, []⟩,
  ⟨some 30, .iaddr 37 (.sl 1) (.t 25) (.t 27), none, []⟩,
  ⟨some 31, .load 9 none (.t 30), none, [30]⟩,
  ⟨some 9, .assign (.t 29), none, [29]⟩,
  ⟨some 10, .assign (.t 31), none, [31]⟩] none [0, 1, 8, 9, 10, 25, 26, 27])
 (.seq (.seq (.reg 15 [⟨some 32, .move (.t 9), none, [9]⟩,
  ⟨some 33, .bin .gtr 3 (.t 32) (.c (Value.int IntKind.i64 0)) 3, none, [32]⟩] none [0, 1, 8, 10, 25, 26, 27, 33])
 (.cond [0, 1, 8, 10, 25, 26, 27] (.t 33) (.reg 16 [⟨some 34, .move (.t 1), none, []⟩,
  ⟨some 35, .call n_strings_Builder_WriteByte [(.t 8), (.t 34)] [60, 5], none, [34, 35]⟩] none [0, 1, 8, 10, 25, 26, 27]) .skip))
 k3_scan_Join)))
 k4_scan_Join)
def k5_scan_Join : IR := .tail [0, 1, 8, 25, 26, 27] j5_scan_Join
def w1_scan_Join : IR :=
 (.seq (.reg 13 [⟨some 28, .bin .lss 3 (.t 27) (.t 26) 3, none, []⟩] none [0, 1, 8, 25, 26, 27, 28])
 (.seq (.cond [0, 1, 8, 25, 26, 27] (.t 28) .skip (.exit 2))
 k5_scan_Join))
def l1_scan_Join : IR := .loop [0, 1, 8, 25, 26, 27] w1_scan_Join
def j6_scan_Join : IR :=
 (.seq (.reg 21 [⟨some 51, .call n_strings_Builder_String [(.t 8)] [60], none, [8]⟩,
  ⟨some 4, .assign (.t 51), none, [51]⟩,
  ⟨some 5, .assign (.c (Value.int IntKind.i64 0)), none, []⟩] none [4, 5])
 .ret)
def k6_scan_Join : IR := .tail [8] j6_scan_Join
def j7_scan_Join : IR :=
 (.seq (.reg 11 [⟨some 8, .allocB 60 5, none, []⟩] none [0, 1, 8])
 (.seq (.seq (.reg 12 [⟨some 25, .move (.t 0), none, []⟩,
  ⟨some 26, .len 37 false (.t 25), none, []⟩,
  ⟨some 27, .move (.c (Value.int IntKind.i64 0)), none, []⟩] none [0, 1, 8, 25, 26, 27])
 (.block 2 l1_scan_Join))
 k6_scan_Join))
def k7_scan_Join : IR := .tail [0, 1] j7_scan_Join
def j8_scan_Join : IR :=
 (.seq (.seq (.reg 9 [⟨some 22, .move (.t 0), none, []⟩,
  ⟨some 23, .len 37 false (.t 22), none, [22]⟩,
  ⟨some 24, .bin .eql 3 (.t 23) (.c (Value.int IntKind.i64 0)) 3, none, [23]⟩] none [0, 1, 24])
 (.cond [0, 1] (.t 24) (.seq (.reg 10 [⟨some 4, .assign (.c (Value.string { data := #[] })), none, []⟩,
  ⟨some 5, .assign (.c (Value.int IntKind.i64 3)), none, []⟩] none [4, 5])
 .ret) .skip))
 k7_scan_Join)
def k8_scan_Join : IR := .tail [0, 1] j8_scan_Join
def j9_scan_Join : IR :=
 (.seq (.seq (.reg 3 [⟨some 13, .move (.t 0), none, []⟩,
  ⟨some 14, .len 37 false (.t 13), none, []⟩,
  ⟨some 15, .move (.c (Value.int IntKind.i64 0)), none, []⟩] none [0, 1, 13, 14, 15])
 (.block 0 l0_scan_Join))
 k8_scan_Join)
def k9_scan_Join : IR := .tail [0, 1] j9_scan_Join
def b_scan_Join : IR :=
 (.seq (.reg 0 [⟨some 4, .assign (.c (Value.string { data := #[] })), none, [4]⟩,
  ⟨some 5, .assign (.c (Value.int IntKind.i64 0)), none, [5]⟩] none [0, 1])
 (.seq (.seq (.reg 1 [⟨some 11, .move (.t 1), none, []⟩,
  ⟨some 12, .call n_scan_badBy [(.t 11)] [5], none, [11]⟩] none [0, 1, 12])
 (.cond [0, 1] (.t 12) (.seq (.reg 2 [⟨some 4, .assign (.c (Value.string { data := #[] })), none, []⟩,
  ⟨some 5, .assign (.c (Value.int IntKind.i64 2)), none, []⟩] none [4, 5])
 .ret) .skip))
 k9_scan_Join))
def a_scan_Join : AFunc := ⟨52, [.tmp 4, .tmp 5], b_scan_Join⟩

def j0_thicketlaw03_ScanBack : IR :=
 (.seq (.reg 12 [⟨some 51, .move (.t 10), none, [10]⟩,
  ⟨some 52, .move (.t 2), none, [2]⟩,
  ⟨some 53, .call n_scan_Fields [(.t 51), (.t 52)] [9, 5], none, [51, 52]⟩,
  ⟨some 50, .move (.t 53), none, []⟩,
  ⟨some 54, .extr (.t 50) 0, none, []⟩,
  ⟨some 55, .extr (.t 50) 1, none, []⟩,
  ⟨some 56, .extr (.t 50) 2, none, []⟩,
  ⟨some 11, .assign (.t 54), none, []⟩,
  ⟨some 8, .assign (.t 55), none, [55]⟩,
  ⟨some 12, .assign (.t 56), none, [12, 56]⟩] none [1, 8, 11, 50, 53, 54])
 (.seq (.reg 13 [⟨some 57, .move (.t 8), none, [8]⟩,
  ⟨some 58, .bin .eql 28 (.t 57) (.c (Value.int IntKind.i64 0)) 28, none, [57]⟩,
  ⟨some 59, .move (.t 58), none, [58]⟩,
  ⟨some 60, .move (.t 11), some (2, true), []⟩,
  ⟨some 61, .move (.t 1), some (2, true), []⟩,
  ⟨some 62, .call n_thicketref03_Texts [(.t 60), (.t 61)] [37, 37], some (2, true), [1, 11, 50, 53, 54, 60, 61]⟩,
  ⟨some 63, .pick (.t 59) (.t 62) (.c (Value.bool false)), none, [59, 62]⟩,
  ⟨some 6, .assign (.t 63), none, [63]⟩] none [6])
 .ret))
def k0_thicketlaw03_ScanBack : IR := .tail [1, 2, 10] j0_thicketlaw03_ScanBack
def j1_thicketlaw03_ScanBack : IR :=
 (.seq (.reg 9 [⟨some 43, .move (.t 1), none, []⟩,
  ⟨some 44, .move (.t 2), none, []⟩,
  ⟨some 45, .call n_scan_Join [(.t 43), (.t 44)] [37, 5], none, [43, 44]⟩,
  ⟨some 42, .move (.t 45), none, [45]⟩,
  ⟨some 46, .extr (.t 42) 0, none, []⟩,
  ⟨some 47, .extr (.t 42) 1, none, [42]⟩,
  ⟨some 10, .assign (.t 46), none, [46]⟩,
  ⟨some 8, .assign (.t 47), none, [47]⟩] none [1, 2, 8, 10])
 (.seq (.seq (.reg 10 [⟨some 48, .move (.t 8), none, [8]⟩,
  ⟨some 49, .bin .neq 28 (.t 48) (.c (Value.int IntKind.i64 0)) 28, none, [48]⟩] none [1, 2, 10, 49])
 (.cond [1, 2, 10] (.t 49) (.seq (.reg 11 [⟨some 6, .assign (.c (Value.bool true)), none, []⟩] none [6])
 .ret) .skip))
 k0_thicketlaw03_ScanBack))
def k1_thicketlaw03_ScanBack : IR := .tail [1, 2] j1_thicketlaw03_ScanBack
def j2_thicketlaw03_ScanBack : IR :=
 (.seq (.reg 3 [⟨some 16, .move (.t 0), none, []⟩,
  ⟨some 17, .call n_scan_Quote [(.t 16)] [9], none, [16]⟩,
  ⟨some 18, .call n_scan_Words [(.t 17)] [9], none, [17]⟩,
  ⟨some 15, .move (.t 18), none, []⟩,
  ⟨some 19, .extr (.t 15) 0, none, []⟩,
  ⟨some 20, .extr (.t 15) 1, none, []⟩,
  ⟨some 21, .extr (.t 15) 2, none, []⟩,
  ⟨some 7, .assign (.t 19), none, []⟩,
  ⟨some 8, .assign (.t 20), none, [20]⟩,
  ⟨some 9, .assign (.t 21), none, [9, 21]⟩] none [0, 1, 2, 7, 8, 15, 18, 19])
 (.seq (.seq (.reg 4 [⟨some 22, .move (.t 0), none, []⟩,
  ⟨some 23, .len 9 true (.t 22), none, [22]⟩,
  ⟨some 24, .bin .gtr 3 (.t 23) (.c (Value.int IntKind.i64 65536)) 3, none, [23]⟩] none [0, 1, 2, 7, 8, 15, 18, 19, 24])
 (.cond [0, 1, 2, 7, 8, 15, 18, 19] (.t 24) (.seq (.reg 5 [⟨some 25, .move (.t 8), none, [8]⟩,
  ⟨some 26, .bin .neq 28 (.t 25) (.c (Value.int IntKind.i64 4)) 28, none, [25]⟩] none [1, 2, 26])
 (.cond [1, 2] (.t 26) (.seq (.reg 6 [⟨some 6, .assign (.c (Value.bool false)), none, []⟩] none [6])
 .ret) .skip)) (.seq (.reg 7 [⟨some 27, .move (.t 8), none, [8]⟩,
  ⟨some 28, .bin .neq 28 (.t 27) (.c (Value.int IntKind.i64 0)) 28, none, [27]⟩,
  ⟨some 29, .move (.t 28), none, [28]⟩,
  ⟨some 30, .move (.t 7), some (2, false), []⟩,
  ⟨some 31, .len 27 false (.t 30), some (2, false), [30]⟩,
  ⟨some 32, .bin .neq 3 (.t 31) (.c (Value.int IntKind.i64 1)) 3, some (2, false), [31]⟩,
  ⟨some 33, .pick (.t 29) (.c (Value.bool true)) (.t 32), none, [29, 32]⟩,
  ⟨some 34, .move (.t 33), none, [33]⟩,
  ⟨some 35, .move (.t 7), some (7, false), []⟩,
  ⟨some 36, .iaddr 27 (.sl 3) (.t 35) (.c (Value.int IntKind.i64 0)), some (7, false), []⟩,
  ⟨some 37, .load 36 (some 3) (.t 36), some (7, false), [7, 15, 18, 19, 35, 36]⟩,
  ⟨some 38, .move (.t 0), some (7, false), [0]⟩,
  ⟨some 39, .build 36 [(0, 1), (1, 1), (2, 1)] [.v (.int .u8 0), .v (.string ⟨#[]⟩), .v (.int .i64 0)] [(0, (.c (Value.int IntKind.u8 3))), (1, (.t 38))], some (7, false), [38]⟩,
  ⟨some 40, .eqs true 36 (.st [.int, .str, .int]) (.t 37) (.t 39) 36, some (7, false), [37, 39]⟩,
  ⟨some 41, .pick (.t 34) (.c (Value.bool true)) (.t 40), none, [34, 40]⟩] none [1, 2, 41])
 (.cond [1, 2] (.t 41) (.seq (.reg 8 [⟨some 6, .assign (.c (Value.bool false)), none, []⟩] none [6])
 .ret) .skip))))
 k1_thicketlaw03_ScanBack))
def k2_thicketlaw03_ScanBack : IR := .tail [0, 1, 2] j2_thicketlaw03_ScanBack
def b_thicketlaw03_ScanBack : IR :=
 (.seq (.reg 0 [⟨some 6, .assign (.c (Value.bool false)), none, [6]⟩] none [0, 1, 2])
 (.seq (.seq (.reg 1 [⟨some 13, .call n_thicketlaw03_lives [] [], none, []⟩,
  ⟨some 14, .un .not 4 (.t 13), none, [13]⟩] none [0, 1, 2, 14])
 (.cond [0, 1, 2] (.t 14) (.seq (.reg 2 [⟨some 6, .assign (.c (Value.bool false)), none, []⟩] none [6])
 .ret) .skip))
 k2_thicketlaw03_ScanBack))
def a_thicketlaw03_ScanBack : AFunc := ⟨64, [.tmp 6], b_thicketlaw03_ScanBack⟩

def j0_thicketref03_Fields : IR :=
 (.seq (.reg 13 [⟨some 54, .move (.t 9), none, []⟩,
  ⟨some 55, .move (.t 0), none, []⟩,
  ⟨some 56, .move (.t 8), none, []⟩,
  ⟨some 57, .index 9 .str none (.t 55) (.t 56), none, [55, 56]⟩,
  ⟨some 58, .lit 56 1 [(.t 57)], none, [57]⟩,
  ⟨some 59, .append 56 56 false 1 1 (.t 54) (.t 58), none, [54, 58]⟩,
  ⟨some 9, .assign (.t 59), none, []⟩] none [0, 1, 7, 8, 9, 59, 90, 97])
 (.reg 14 [⟨some 60, .move (.t 8), none, []⟩,
  ⟨some 61, .bin .add 3 (.t 60) (.c (Value.int IntKind.i64 1)) 3, none, [60]⟩,
  ⟨some 8, .assign (.t 61), none, [61]⟩] none [0, 1, 7, 8, 9, 59, 90, 97]))
def k0_thicketref03_Fields : IR := .tail [0, 1, 7, 8, 9, 59, 90, 97] j0_thicketref03_Fields
def j1_thicketref03_Fields : IR :=
 (.seq (.seq (.reg 10 [⟨some 38, .move (.t 0), none, []⟩,
  ⟨some 39, .move (.t 8), none, []⟩,
  ⟨some 40, .index 9 .str none (.t 38) (.t 39), none, [38, 39]⟩,
  ⟨some 41, .bin .eql 5 (.t 40) (.c (Value.int IntKind.u8 34)) 5, none, [40]⟩] none [0, 1, 7, 8, 9, 41, 59, 90, 97])
 (.cond [0, 1, 7, 8, 9, 59, 90, 97] (.t 41) (.seq (.reg 11 [⟨some 42, .move (.t 8), none, []⟩,
  ⟨some 43, .bin .add 3 (.t 42) (.c (Value.int IntKind.i64 1)) 3, none, [42]⟩,
  ⟨some 8, .assign (.t 43), none, [43]⟩] none [0, 1, 7, 8, 9, 59, 90, 97])
 (.seq (.reg 12 [⟨some 44, .move (.t 8), none, []⟩,
  ⟨some 45, .move (.t 0), none, []⟩,
  ⟨some 46, .len 9 true (.t 45), none, [45]⟩,
  ⟨some 47, .bin .geq 3 (.t 44) (.t 46) 3, none, [44, 46]⟩,
  ⟨some 48, .move (.t 47), none, [47]⟩,
  ⟨some 49, .move (.t 0), some (4, false), []⟩,
  ⟨some 50, .move (.t 8), some (4, false), []⟩,
  ⟨some 51, .index 9 .str none (.t 49) (.t 50), some (4, false), [49, 50]⟩,
  ⟨some 52, .bin .neq 5 (.t 51) (.c (Value.int IntKind.u8 34)) 5, some (4, false), [51]⟩,
  ⟨some 53, .pick (.t 48) (.c (Value.bool true)) (.t 52), none, [48, 52]⟩] none [0, 1, 7, 8, 9, 53, 59, 90, 97])
 (.cond [0, 1, 7, 8, 9, 59, 90, 97] (.t 53) (.exit 2) .skip))) .skip))
 k0_thicketref03_Fields)
def k1_thicketref03_Fields : IR := .tail [0, 1, 7, 8, 9, 59, 90, 97] j1_thicketref03_Fields
def w1_thicketref03_Fields : IR :=
 (.block 3 (.seq (.seq (.reg 8 [⟨some 32, .move (.t 8), none, []⟩,
  ⟨some 33, .move (.t 0), none, []⟩,
  ⟨some 34, .len 9 true (.t 33), none, [33]⟩,
  ⟨some 35, .bin .geq 3 (.t 32) (.t 34) 3, none, [32, 34]⟩] none [0, 1, 7, 8, 9, 35, 59, 90, 97])
 (.cond [0, 1, 7, 8, 9, 59, 90, 97] (.t 35) (.seq (.reg 9 [⟨some 36, .move (.t 0), none, [0]⟩,
  ⟨some 37, .len 9 true (.t 36), none, [36]⟩,
  ⟨some 4, .assign (.nilS 1), none, []⟩,
  ⟨some 5, .assign (.c (Value.int IntKind.i64 31)), none, []⟩,
  ⟨some 6, .assign (.t 37), none, [37]⟩] none [4, 5, 6, 7, 97, 102])
 .ret) .skip))
 k1_thicketref03_Fields))
def l1_thicketref03_Fields : IR := .loop [0, 1, 7, 8, 9, 59, 90, 97] w1_thicketref03_Fields
def j2_thicketref03_Fields : IR :=
 (.seq (.reg 15 [⟨some 62, .move (.t 8), none, []⟩,
  ⟨some 63, .move (.t 0), none, []⟩,
  ⟨some 64, .len 9 true (.t 63), none, [63]⟩,
  ⟨some 65, .bin .lss 3 (.t 62) (.t 64) 3, none, [62, 64]⟩,
  ⟨some 66, .move (.t 65), none, [65]⟩,
  ⟨some 67, .move (.t 0), some (4, true), []⟩,
  ⟨some 68, .move (.t 8), some (4, true), []⟩,
  ⟨some 69, .index 9 .str none (.t 67) (.t 68), some (4, true), [67, 68]⟩,
  ⟨some 70, .move (.t 1), some (4, true), []⟩,
  ⟨some 71, .bin .neq 5 (.t 69) (.t 70) 5, some (4, true), [69, 70]⟩,
  ⟨some 72, .pick (.t 66) (.t 71) (.c (Value.bool false)), none, [66, 71]⟩] none [0, 1, 7, 8, 9, 59, 72, 90, 97])
 (.cond [0, 1, 7, 8, 9, 59, 90, 97] (.t 72) (.seq (.reg 16 [⟨some 73, .move (.t 8), none, [8]⟩,
  ⟨some 4, .assign (.nilS 1), none, []⟩,
  ⟨some 5, .assign (.c (Value.int IntKind.i64 31)), none, []⟩,
  ⟨some 6, .assign (.t 73), none, [73]⟩] none [4, 5, 6, 7, 97, 102])
 .ret) .skip))
def k2_thicketref03_Fields : IR := .tail [0, 1, 7, 8, 9, 59, 90, 97] j2_thicketref03_Fields
def j3_thicketref03_Fields : IR :=
 (.block 5 (.seq (.reg 18 [⟨some 85, .move (.t 9), none, []⟩,
  ⟨some 86, .move (.t 0), none, []⟩,
  ⟨some 87, .move (.t 8), none, []⟩,
  ⟨some 88, .index 9 .str none (.t 86) (.t 87), none, [86, 87]⟩,
  ⟨some 89, .lit 56 1 [(.t 88)], none, [88]⟩,
  ⟨some 90, .append 56 56 false 1 1 (.t 85) (.t 89), none, [85, 89]⟩,
  ⟨some 9, .assign (.t 90), none, []⟩] none [0, 1, 7, 8, 9, 59, 90, 97])
 (.reg 19 [⟨some 91, .move (.t 8), none, []⟩,
  ⟨some 92, .bin .add 3 (.t 91) (.c (Value.int IntKind.i64 1)) 3, none, [91]⟩,
  ⟨some 8, .assign (.t 92), none, [92]⟩] none [0, 1, 7, 8, 9, 59, 90, 97])))
def k3_thicketref03_Fields : IR := .tail [0, 1, 7, 8, 9, 59, 90, 97] j3_thicketref03_Fields
def w2_thicketref03_Fields : IR :=
 (.seq (.seq (.reg 17 [⟨some 74, .move (.t 8), none, []⟩,
  ⟨some 75, .move (.t 0), none, []⟩,
  ⟨some 76, .len 9 true (.t 75), none, [75]⟩,
  ⟨some 77, .bin .lss 3 (.t 74) (.t 76) 3, none, [74, 76]⟩,
  ⟨some 78, .move (.t 77), none, [77]⟩,
  ⟨some 79, .move (.t 0), some (4, true), []⟩,
  ⟨some 80, .move (.t 8), some (4, true), []⟩,
  ⟨some 81, .index 9 .str none (.t 79) (.t 80), some (4, true), [79, 80]⟩,
  ⟨some 82, .move (.t 1), some (4, true), []⟩,
  ⟨some 83, .bin .neq 5 (.t 81) (.t 82) 5, some (4, true), [81, 82]⟩,
  ⟨some 84, .pick (.t 78) (.t 83) (.c (Value.bool false)), none, [78, 83]⟩] none [0, 1, 7, 8, 9, 59, 84, 90, 97])
 (.cond [0, 1, 7, 8, 9, 59, 90, 97] (.t 84) .skip (.exit 4)))
 k3_thicketref03_Fields)
def l2_thicketref03_Fields : IR := .loop [0, 1, 7, 8, 9, 59, 90, 97] w2_thicketref03_Fields
def j4_thicketref03_Fields : IR :=
 (.reg 23 [⟨some 103, .move (.t 8), none, []⟩,
  ⟨some 104, .bin .add 3 (.t 103) (.c (Value.int IntKind.i64 1)) 3, none, [103]⟩,
  ⟨some 8, .assign (.t 104), none, [104]⟩] none [0, 1, 7, 8, 97])
def k4_thicketref03_Fields : IR := .tail [0, 1, 7, 8, 97] j4_thicketref03_Fields
def j5_thicketref03_Fields : IR :=
 (.seq (.reg 20 [⟨some 93, .move (.t 7), none, []⟩,
  ⟨some 94, .move (.t 9), none, []⟩,
  ⟨some 95, .conv 56 9 .bytes (.t 94), none, [9, 59, 90, 94]⟩,
  ⟨some 96, .lit 37 1 [(.t 95)], none, [95]⟩,
  ⟨some 97, .append 37 37 false 1 16 (.t 93) (.t 96), none, [93, 96]⟩,
  ⟨some 7, .assign (.t 97), none, []⟩] none [0, 1, 7, 8, 97])
 (.seq (.seq (.reg 21 [⟨some 98, .move (.t 8), none, []⟩,
  ⟨some 99, .move (.t 0), none, []⟩,
  ⟨some 100, .len 9 true (.t 99), none, [99]⟩,
  ⟨some 101, .bin .geq 3 (.t 98) (.t 100) 3, none, [98, 100]⟩] none [0, 1, 7, 8, 97, 101])
 (.cond [0, 1, 7, 8, 97] (.t 101) (.seq (.reg 22 [⟨some 102, .move (.t 7), none, []⟩,
  ⟨some 4, .assign (.t 102), none, []⟩,
  ⟨some 5, .assign (.c (Value.int IntKind.i64 0)), none, []⟩,
  ⟨some 6, .assign (.c (Value.int IntKind.i64 0)), none, []⟩] none [4, 5, 6, 7, 97, 102])
 .ret) .skip))
 k4_thicketref03_Fields))
def k5_thicketref03_Fields : IR := .tail [0, 1, 7, 8, 9, 59, 90, 97] j5_thicketref03_Fields
def w0_thicketref03_Fields : IR :=
 (.block 1 (.seq (.reg 5 [⟨some 9, .assign (.nilS 1), none, []⟩] none [0, 1, 7, 8, 9, 59, 90, 97])
 (.seq (.seq (.reg 6 [⟨some 20, .move (.t 8), none, []⟩,
  ⟨some 21, .move (.t 0), none, []⟩,
  ⟨some 22, .len 9 true (.t 21), none, [21]⟩,
  ⟨some 23, .bin .lss 3 (.t 20) (.t 22) 3, none, [20, 22]⟩,
  ⟨some 24, .move (.t 23), none, [23]⟩,
  ⟨some 25, .move (.t 0), some (4, true), []⟩,
  ⟨some 26, .move (.t 8), some (4, true), []⟩,
  ⟨some 27, .index 9 .str none (.t 25) (.t 26), some (4, true), [25, 26]⟩,
  ⟨some 28, .bin .eql 5 (.t 27) (.c (Value.int IntKind.u8 34)) 5, some (4, true), [27]⟩,
  ⟨some 29, .pick (.t 24) (.t 28) (.c (Value.bool false)), none, [24, 28]⟩] none [0, 1, 7, 8, 9, 29, 59, 90, 97])
 (.cond [0, 1, 7, 8, 9, 59, 90, 97] (.t 29) (.seq (.reg 7 [⟨some 30, .move (.t 8), none, []⟩,
  ⟨some 31, .bin .add 3 (.t 30) (.c (Value.int IntKind.i64 1)) 3, none, [30]⟩,
  ⟨some 8, .assign (.t 31), none, [31]⟩] none [0, 1, 7, 8, 9, 59, 90, 97])
 (.seq (.block 2 l1_thicketref03_Fields)
 k2_thicketref03_Fields)) (.block 4 l2_thicketref03_Fields)))
 k5_thicketref03_Fields)))
def l0_thicketref03_Fields : IR := .loop [0, 1, 7, 8, 97] w0_thicketref03_Fields
def j6_thicketref03_Fields : IR :=
 (.seq (.reg 3 [⟨some 7, .assign (.nilS 1), none, []⟩] none [0, 1, 7, 97])
 (.seq (.reg 4 [⟨some 8, .assign (.c (Value.int IntKind.i64 0)), none, []⟩] none [0, 1, 7, 8, 97])
 (.block 0 l0_thicketref03_Fields)))
def k6_thicketref03_Fields : IR := .tail [0, 1] j6_thicketref03_Fields
def b_thicketref03_Fields : IR :=
 (.seq (.reg 0 [⟨some 4, .assign (.nilS 1), none, [4]⟩,
  ⟨some 5, .assign (.c (Value.int IntKind.i64 0)), none, [5]⟩,
  ⟨some 6, .assign (.c (Value.int IntKind.i64 0)), none, [6]⟩] none [0, 1])
 (.seq (.seq (.reg 1 [⟨some 10, .move (.t 1), none, []⟩,
  ⟨some 11, .bin .eql 5 (.t 10) (.c (Value.int IntKind.u8 34)) 5, none, [10]⟩,
  ⟨some 12, .move (.t 11), none, [11]⟩,
  ⟨some 13, .move (.t 1), some (2, false), []⟩,
  ⟨some 14, .bin .eql 5 (.t 13) (.c (Value.int IntKind.u8 10)) 5, some (2, false), [13]⟩,
  ⟨some 15, .pick (.t 12) (.c (Value.bool true)) (.t 14), none, [12, 14]⟩,
  ⟨some 16, .move (.t 15), none, [15]⟩,
  ⟨some 17, .move (.t 1), some (6, false), []⟩,
  ⟨some 18, .bin .eql 5 (.t 17) (.c (Value.int IntKind.u8 13)) 5, some (6, false), [17]⟩,
  ⟨some 19, .pick (.t 16) (.c (Value.bool true)) (.t 18), none, [16, 18]⟩] none [0, 1, 19])
 (.cond [0, 1] (.t 19) (.seq (.reg 2 [⟨some 4, .assign (.nilS 1), none, []⟩,
  ⟨some 5, .assign (.c (Value.int IntKind.i64 2)), none, []⟩,
  ⟨some 6, .assign (.c (Value.int IntKind.i64 0)), none, []⟩] none [4, 5, 6, 7, 97, 102])
 .ret) .skip))
 k6_thicketref03_Fields))
def a_thicketref03_Fields : AFunc := ⟨105, [.tmp 4, .tmp 5, .tmp 6], b_thicketref03_Fields⟩

def j0_thicketref03_Join : IR :=
 (.reg 8 [⟨some 35, .move (.t 8), none, []⟩,
  ⟨some 36, .bin .add 3 (.t 35) (.c (Value.int IntKind.i64 1)) 3, none, [35]⟩,
  ⟨some 8, .assign (.t 36), none, [36]⟩] none [0, 1, 7, 8, 25, 26, 27])
def k0_thicketref03_Join : IR := .tail [0, 1, 7, 8, 25, 26, 27] j0_thicketref03_Join
def j1_thicketref03_Join : IR :=
 (.seq (.block 3 (.seq (.reg 9 [⟨some 37, .move (.t 7), none, []⟩,
  ⟨some 38, .move (.t 8), none, []⟩,
  ⟨some 39, .index 9 .str none (.t 37) (.t 38), none, [37, 38]⟩,
  ⟨some 40, .bin .eql 5 (.t 39) (.c (Value.int IntKind.u8 10)) 5, none, [39]⟩,
  ⟨some 41, .move (.t 40), none, [40]⟩,
  ⟨some 42, .move (.t 7), some (4, false), []⟩,
  ⟨some 43, .move (.t 8), some (4, false), []⟩,
  ⟨some 44, .index 9 .str none (.t 42) (.t 43), some (4, false), [42, 43]⟩,
  ⟨some 45, .bin .eql 5 (.t 44) (.c (Value.int IntKind.u8 13)) 5, some (4, false), [44]⟩,
  ⟨some 46, .pick (.t 41) (.c (Value.bool true)) (.t 45), none, [41, 45]⟩] none [0, 1, 7, 8, 25, 26, 27, 46])
 (.cond [0, 1, 7, 8, 25, 26, 27] (.t 46) (.seq (.reg 10 [⟨some 4, .assign (.c (Value.string { data := #[] })), none, []⟩,
  ⟨some 5, .assign (.c (Value.int IntKind.i64 30)), none, []⟩] none [4, 5])
 .ret) .skip)))
 k0_thicketref03_Join)
def k1_thicketref03_Join : IR := .tail [0, 1, 7, 8, 25, 26, 27] j1_thicketref03_Join
def w1_thicketref03_Join : IR :=
 (.seq (.seq (.reg 7 [⟨some 31, .move (.t 8), none, []⟩,
  ⟨some 32, .move (.t 7), none, []⟩,
  ⟨some 33, .len 9 true (.t 32), none, [32]⟩,
  ⟨some 34, .bin .lss 3 (.t 31) (.t 33) 3, none, [31, 33]⟩] none [0, 1, 7, 8, 25, 26, 27, 34])
 (.cond [0, 1, 7, 8, 25, 26, 27] (.t 34) .skip (.exit 2)))
 k1_thicketref03_Join)
def l1_thicketref03_Join : IR := .loop [0, 1, 7, 8, 25, 26, 27] w1_thicketref03_Join
def j2_thicketref03_Join : IR :=
 (.reg 11 [⟨some 47, .bin .add 3 (.t 27) (.c (Value.int IntKind.i64 1)) 3, none, []⟩,
  ⟨some 27, .move (.t 47), none, [47]⟩] none [0, 1, 25, 26, 27])
def k2_thicketref03_Join : IR := .tail [0, 1, 25, 26, 27] j2_thicketref03_Join
def j3_thicketref03_Join : IR :=
 (.seq (.block 1 (.seq (.reg 5 [⟨some 29, .iaddr 37 (.sl 1) (.t 25) (.t 27), none, []⟩,
  ⟨some 30, .load 9 none (.t 29), none, [29]⟩,
  ⟨some 7, .assign (.t 30), none, [30]⟩] none [0, 1, 7, 25, 26, 27])
 (.seq (.reg 6 [⟨some 8, .assign (.c (Value.int IntKind.i64 0)), none, []⟩] none [0, 1, 7, 8, 25, 26, 27])
 (.block 2 l1_thicketref03_Join))))
 k2_thicketref03_Join)
def k3_thicketref03_Join : IR := .tail [0, 1, 25, 26, 27] j3_thicketref03_Join
def w0_thicketref03_Join : IR :=
 (.seq (.reg 4 [⟨some 28, .bin .lss 3 (.t 27) (.t 26) 3, none, []⟩] none [0, 1, 25, 26, 27, 28])
 (.seq (.cond [0, 1, 25, 26, 27] (.t 28) .skip (.exit 0))
 k3_thicketref03_Join))
def l0_thicketref03_Join : IR := .loop [0, 1, 25, 26, 27] w0_thicketref03_Join
def j4_thicketref03_Join : IR :=
 (.reg 23 [⟨some 76, .move (.t 13), none, []⟩,
  ⟨some 77, .bin .add 3 (.t 76) (.c (Value.int IntKind.i64 1)) 3, none, [76]⟩,
  ⟨some 13, .assign (.t 77), none, [77]⟩] none [0, 1, 9, 11, 12, 13, 51, 52, 53, 63, 90, 93, 106, 112, 115])
def k4_thicketref03_Join : IR := .tail [0, 1, 9, 11, 12, 13, 51, 52, 53, 63, 90, 93, 106, 112, 115] j4_thicketref03_Join
def j5_thicketref03_Join : IR :=
 (.seq (.block 7 (.reg 24 [⟨some 78, .move (.t 12), none, []⟩,
  ⟨some 79, .move (.t 78), none, [78]⟩,
  ⟨some 80, .move (.t 11), some (1, false), []⟩,
  ⟨some 81, .move (.t 13), some (1, false), []⟩,
  ⟨some 82, .index 9 .str none (.t 80) (.t 81), some (1, false), [80, 81]⟩,
  ⟨some 83, .move (.t 1), some (1, false), []⟩,
  ⟨some 84, .bin .eql 5 (.t 82) (.t 83) 5, some (1, false), [82, 83]⟩,
  ⟨some 85, .pick (.t 79) (.c (Value.bool true)) (.t 84), none, [79, 84]⟩,
  ⟨some 12, .assign (.t 85), none, [85]⟩] none [0, 1, 9, 11, 12, 13, 51, 52, 53, 63, 90, 93, 106, 112, 115]))
 k4_thicketref03_Join)
def k5_thicketref03_Join : IR := .tail [0, 1, 9, 11, 12, 13, 51, 52, 53, 63, 90, 93, 106, 112, 115] j5_thicketref03_Join
def w3_thicketref03_Join : IR :=
 (.seq (.seq (.reg 22 [⟨some 72, .move (.t 13), none, []⟩,
  ⟨some 73, .move (.t 11), none, []⟩,
  ⟨some 74, .len 9 true (.t 73), none, [73]⟩,
  ⟨some 75, .bin .lss 3 (.t 72) (.t 74) 3, none, [72, 74]⟩] none [0, 1, 9, 11, 12, 13, 51, 52, 53, 63, 75, 90, 93, 106, 112, 115])
 (.cond [0, 1, 9, 11, 12, 13, 51, 52, 53, 63, 90, 93, 106, 112, 115] (.t 75) .skip (.exit 6)))
 k5_thicketref03_Join)
def l3_thicketref03_Join : IR := .loop [0, 1, 9, 11, 12, 13, 51, 52, 53, 63, 90, 93, 106, 112, 115] w3_thicketref03_Join
def j6_thicketref03_Join : IR :=
 (.reg 33 [⟨some 107, .move (.t 9), none, []⟩,
  ⟨some 108, .move (.t 11), none, []⟩,
  ⟨some 109, .move (.t 14), none, []⟩,
  ⟨some 110, .index 9 .str none (.t 108) (.t 109), none, [108, 109]⟩,
  ⟨some 111, .lit 56 1 [(.t 110)], none, [110]⟩,
  ⟨some 112, .append 56 56 false 1 1 (.t 107) (.t 111), none, [107, 111]⟩,
  ⟨some 9, .assign (.t 112), none, []⟩] none [0, 1, 9, 11, 14, 51, 52, 53, 63, 90, 93, 106, 112, 115])
def k6_thicketref03_Join : IR := .tail [0, 1, 9, 11, 14, 51, 52, 53, 63, 90, 93, 106, 112, 115] j6_thicketref03_Join
def j7_thicketref03_Join : IR :=
 (.reg 30 [⟨some 98, .move (.t 14), none, []⟩,
  ⟨some 99, .bin .add 3 (.t 98) (.c (Value.int IntKind.i64 1)) 3, none, [98]⟩,
  ⟨some 14, .assign (.t 99), none, [99]⟩] none [0, 1, 9, 11, 14, 51, 52, 53, 63, 90, 93, 106, 112, 115])
def k7_thicketref03_Join : IR := .tail [0, 1, 9, 11, 14, 51, 52, 53, 63, 90, 93, 106, 112, 115] j7_thicketref03_Join
def j8_thicketref03_Join : IR :=
 (.seq (.block 9 (.seq (.seq (.reg 31 [⟨some 100, .move (.t 11), none, []⟩,
  ⟨some 101, .move (.t 14), none, []⟩,
  ⟨some 102, .index 9 .str none (.t 100) (.t 101), none, [100, 101]⟩,
  ⟨some 103, .bin .eql 5 (.t 102) (.c (Value.int IntKind.u8 34)) 5, none, [102]⟩] none [0, 1, 9, 11, 14, 51, 52, 53, 63, 90, 93, 103, 106, 112, 115])
 (.cond [0, 1, 9, 11, 14, 51, 52, 53, 63, 90, 93, 106, 112, 115] (.t 103) (.reg 32 [⟨some 104, .move (.t 9), none, []⟩,
  ⟨some 105, .lit 56 1 [(.c (Value.int IntKind.u8 34))], none, []⟩,
  ⟨some 106, .append 56 56 false 1 1 (.t 104) (.t 105), none, [104, 105]⟩,
  ⟨some 9, .assign (.t 106), none, []⟩] none [0, 1, 9, 11, 14, 51, 52, 53, 63, 90, 93, 106, 112, 115]) .skip))
 k6_thicketref03_Join))
 k7_thicketref03_Join)
def k8_thicketref03_Join : IR := .tail [0, 1, 9, 11, 14, 51, 52, 53, 63, 90, 93, 106, 112, 115] j8_thicketref03_Join
def w4_thicketref03_Join : IR :=
 (.seq (.seq (.reg 29 [⟨some 94, .move (.t 14), none, []⟩,
  ⟨some 95, .move (.t 11), none, []⟩,
  ⟨some 96, .len 9 true (.t 95), none, [95]⟩,
  ⟨some 97, .bin .lss 3 (.t 94) (.t 96) 3, none, [94, 96]⟩] none [0, 1, 9, 11, 14, 51, 52, 53, 63, 90, 93, 97, 106, 112, 115])
 (.cond [0, 1, 9, 11, 14, 51, 52, 53, 63, 90, 93, 106, 112, 115] (.t 97) .skip (.exit 8)))
 k8_thicketref03_Join)
def l4_thicketref03_Join : IR := .loop [0, 1, 9, 11, 14, 51, 52, 53, 63, 90, 93, 106, 112, 115] w4_thicketref03_Join
def j9_thicketref03_Join : IR :=
 (.reg 34 [⟨some 113, .move (.t 9), none, []⟩,
  ⟨some 114, .lit 56 1 [(.c (Value.int IntKind.u8 34))], none, []⟩,
  ⟨some 115, .append 56 56 false 1 1 (.t 113) (.t 114), none, [113, 114]⟩,
  ⟨some 9, .assign (.t 115), none, []⟩] none [0, 1, 9, 51, 52, 53, 63, 90, 93, 106, 112, 115])
def k9_thicketref03_Join : IR := .tail [0, 1, 9, 51, 52, 53, 63, 90, 93, 106, 112, 115] j9_thicketref03_Join
def j10_thicketref03_Join : IR :=
 (.seq (.reg 27 [⟨some 91, .move (.t 9), none, []⟩,
  ⟨some 92, .lit 56 1 [(.c (Value.int IntKind.u8 34))], none, []⟩,
  ⟨some 93, .append 56 56 false 1 1 (.t 91) (.t 92), none, [91, 92]⟩,
  ⟨some 9, .assign (.t 93), none, []⟩] none [0, 1, 9, 11, 51, 52, 53, 63, 90, 93, 106, 112, 115])
 (.seq (.seq (.reg 28 [⟨some 14, .assign (.c (Value.int IntKind.i64 0)), none, []⟩] none [0, 1, 9, 11, 14, 51, 52, 53, 63, 90, 93, 106, 112, 115])
 (.block 8 l4_thicketref03_Join))
 k9_thicketref03_Join))
def k10_thicketref03_Join : IR := .tail [0, 1, 9, 11, 51, 52, 53, 63, 90, 93, 106, 112, 115] j10_thicketref03_Join
def j11_thicketref03_Join : IR :=
 (.seq (.seq (.reg 25 [⟨some 86, .move (.t 12), none, [12]⟩,
  ⟨some 87, .un .not 4 (.t 86), none, [86]⟩] none [0, 1, 9, 11, 51, 52, 53, 63, 87, 90, 93, 106, 112, 115])
 (.cond [0, 1, 9, 11, 51, 52, 53, 63, 90, 93, 106, 112, 115] (.t 87) (.seq (.reg 26 [⟨some 88, .move (.t 9), none, []⟩,
  ⟨some 89, .move (.t 11), none, [11]⟩,
  ⟨some 90, .append 56 9 true 1 1 (.t 88) (.t 89), none, [88, 89]⟩,
  ⟨some 9, .assign (.t 90), none, []⟩] none [0, 1, 9, 51, 52, 53, 63, 90, 93, 106, 112, 115])
 (.exit 5)) .skip))
 k10_thicketref03_Join)
def k11_thicketref03_Join : IR := .tail [0, 1, 9, 11, 12, 51, 52, 53, 63, 90, 93, 106, 112, 115] j11_thicketref03_Join
def j12_thicketref03_Join : IR :=
 (.seq (.reg 20 [⟨some 64, .move (.t 11), none, []⟩,
  ⟨some 65, .len 9 true (.t 64), none, [64]⟩,
  ⟨some 66, .bin .gtr 3 (.t 65) (.c (Value.int IntKind.i64 0)) 3, none, [65]⟩,
  ⟨some 67, .move (.t 66), none, [66]⟩,
  ⟨some 68, .move (.t 11), some (3, true), []⟩,
  ⟨some 69, .index 9 .str none (.t 68) (.c (Value.int IntKind.i64 0)), some (3, true), [68]⟩,
  ⟨some 70, .bin .eql 5 (.t 69) (.c (Value.int IntKind.u8 34)) 5, some (3, true), [69]⟩,
  ⟨some 71, .pick (.t 67) (.t 70) (.c (Value.bool false)), none, [67, 70]⟩,
  ⟨some 12, .assign (.t 71), none, [71]⟩] none [0, 1, 9, 11, 12, 51, 52, 53, 63, 90, 93, 106, 112, 115])
 (.seq (.seq (.reg 21 [⟨some 13, .assign (.c (Value.int IntKind.i64 0)), none, []⟩] none [0, 1, 9, 11, 12, 13, 51, 52, 53, 63, 90, 93, 106, 112, 115])
 (.block 6 l3_thicketref03_Join))
 k11_thicketref03_Join))
def k12_thicketref03_Join : IR := .tail [0, 1, 9, 11, 51, 52, 53, 63, 90, 93, 106, 112, 115] j12_thicketref03_Join
def j13_thicketref03_Join : IR :=
 (.reg 35 [⟨some 116, .bin .add 3 (.t 53) (.c (Value.int IntKind.i64 1)) 3, none, []⟩,
  ⟨some 53, .move (.t 116), none, [116]⟩] none [0, 1, 9, 51, 52, 53, 63, 90, 93, 106, 112, 115])
def k13_thicketref03_Join : IR := .tail [0, 1, 9, 51, 52, 53, 63, 90, 93, 106, 112, 115] j13_thicketref03_Join
def j14_thicketref03_Join : IR :=
 (.seq (.block 5 (.seq (.reg 17 [⟨some 55, .move (.t 53), none, []⟩,
  ⟨some 56, .iaddr 37 (.sl 1) (.t 51) (.t 53), none, []⟩,
  ⟨some 57, .load 9 none (.t 56), none, [56]⟩,
  ⟨some 10, .assign (.t 55), none, [55]⟩,
  ⟨some 11, .assign (.t 57), none, [57]⟩] none [0, 1, 9, 10, 11, 51, 52, 53, 63, 90, 93, 106, 112, 115])
 (.seq (.seq (.reg 18 [⟨some 58, .move (.t 10), none, [10]⟩,
  ⟨some 59, .bin .gtr 3 (.t 58) (.c (Value.int IntKind.i64 0)) 3, none, [58]⟩] none [0, 1, 9, 11, 51, 52, 53, 59, 63, 90, 93, 106, 112, 115])
 (.cond [0, 1, 9, 11, 51, 52, 53, 63, 90, 93, 106, 112, 115] (.t 59) (.reg 19 [⟨some 60, .move (.t 9), none, []⟩,
  ⟨some 61, .move (.t 1), none, []⟩,
  ⟨some 62, .lit 56 1 [(.t 61)], none, [61]⟩,
  ⟨some 63, .append 56 56 false 1 1 (.t 60) (.t 62), none, [60, 62]⟩,
  ⟨some 9, .assign (.t 63), none, []⟩] none [0, 1, 9, 11, 51, 52, 53, 63, 90, 93, 106, 112, 115]) .skip))
 k12_thicketref03_Join)))
 k13_thicketref03_Join)
def k14_thicketref03_Join : IR := .tail [0, 1, 9, 51, 52, 53, 63, 90, 93, 106, 112, 115] j14_thicketref03_Join
def w2_thicketref03_Join : IR :=
 (.seq (.reg 16 [⟨some 54, .bin .lss 3 (.t 53) (.t 52) 3, none, []⟩] none [0, 1, 9, 51, 52, 53, 54, 63, 90, 93, 106, 112, 115])
 (.seq (.cond [0, 1, 9, 51, 52, 53, 63, 90, 93, 106, 112, 115] (.t 54) .skip (.exit 4))
 k14_thicketref03_Join))
def l2_thicketref03_Join : IR := .loop [0, 1, 9, 51, 52, 53, 63, 90, 93, 106, 112, 115] w2_thicketref03_Join
def j15_thicketref03_Join : IR :=
 (.seq (.reg 36 [⟨some 117, .move (.t 9), none, []⟩,
  ⟨some 118, .conv 56 9 .bytes (.t 117), none, [9, 63, 90, 93, 106, 112, 115, 117]⟩,
  ⟨some 4, .assign (.t 118), none, [118]⟩,
  ⟨some 5, .assign (.c (Value.int IntKind.i64 0)), none, []⟩] none [4, 5])
 .ret)
def k15_thicketref03_Join : IR := .tail [9, 63, 90, 93, 106, 112, 115] j15_thicketref03_Join
def j16_thicketref03_Join : IR :=
 (.seq (.reg 14 [⟨some 9, .assign (.nilS 1), none, []⟩] none [0, 1, 9, 63, 90, 93, 106, 112, 115])
 (.seq (.seq (.reg 15 [⟨some 51, .move (.t 0), none, []⟩,
  ⟨some 52, .len 37 false (.t 51), none, []⟩,
  ⟨some 53, .move (.c (Value.int IntKind.i64 0)), none, []⟩] none [0, 1, 9, 51, 52, 53, 63, 90, 93, 106, 112, 115])
 (.block 4 l2_thicketref03_Join))
 k15_thicketref03_Join))
def k16_thicketref03_Join : IR := .tail [0, 1] j16_thicketref03_Join
def j17_thicketref03_Join : IR :=
 (.seq (.seq (.reg 12 [⟨some 48, .move (.t 0), none, []⟩,
  ⟨some 49, .len 37 false (.t 48), none, [48]⟩,
  ⟨some 50, .bin .eql 3 (.t 49) (.c (Value.int IntKind.i64 0)) 3, none, [49]⟩] none [0, 1, 50])
 (.cond [0, 1] (.t 50) (.seq (.reg 13 [⟨some 4, .assign (.c (Value.string { data := #[] })), none, []⟩,
  ⟨some 5, .assign (.c (Value.int IntKind.i64 3)), none, []⟩] none [4, 5])
 .ret) .skip))
 k16_thicketref03_Join)
def k17_thicketref03_Join : IR := .tail [0, 1] j17_thicketref03_Join
def j18_thicketref03_Join : IR :=
 (.seq (.seq (.reg 3 [⟨some 25, .move (.t 0), none, []⟩,
  ⟨some 26, .len 37 false (.t 25), none, []⟩,
  ⟨some 27, .move (.c (Value.int IntKind.i64 0)), none, []⟩] none [0, 1, 25, 26, 27])
 (.block 0 l0_thicketref03_Join))
 k17_thicketref03_Join)
def k18_thicketref03_Join : IR := .tail [0, 1] j18_thicketref03_Join
def b_thicketref03_Join : IR :=
 (.seq (.reg 0 [⟨some 4, .assign (.c (Value.string { data := #[] })), none, [4]⟩,
  ⟨some 5, .assign (.c (Value.int IntKind.i64 0)), none, [5]⟩] none [0, 1])
 (.seq (.seq (.reg 1 [⟨some 15, .move (.t 1), none, []⟩,
  ⟨some 16, .bin .eql 5 (.t 15) (.c (Value.int IntKind.u8 34)) 5, none, [15]⟩,
  ⟨some 17, .move (.t 16), none, [16]⟩,
  ⟨some 18, .move (.t 1), some (2, false), []⟩,
  ⟨some 19, .bin .eql 5 (.t 18) (.c (Value.int IntKind.u8 10)) 5, some (2, false), [18]⟩,
  ⟨some 20, .pick (.t 17) (.c (Value.bool true)) (.t 19), none, [17, 19]⟩,
  ⟨some 21, .move (.t 20), none, [20]⟩,
  ⟨some 22, .move (.t 1), some (6, false), []⟩,
  ⟨some 23, .bin .eql 5 (.t 22) (.c (Value.int IntKind.u8 13)) 5, some (6, false), [22]⟩,
  ⟨some 24, .pick (.t 21) (.c (Value.bool true)) (.t 23), none, [21, 23]⟩] none [0, 1, 24])
 (.cond [0, 1] (.t 24) (.seq (.reg 2 [⟨some 4, .assign (.c (Value.string { data := #[] })), none, []⟩,
  ⟨some 5, .assign (.c (Value.int IntKind.i64 2)), none, []⟩] none [4, 5])
 .ret) .skip))
 k18_thicketref03_Join))
def a_thicketref03_Join : AFunc := ⟨119, [.tmp 4, .tmp 5], b_thicketref03_Join⟩

def b_thicketlaw03_ScanFields : IR :=
 (.seq (.reg 0 [⟨some 6, .assign (.c (Value.bool false)), none, [6]⟩] none [0, 1, 2])
 (.seq (.reg 1 [⟨some 18, .move (.t 0), none, []⟩,
  ⟨some 19, .move (.t 2), none, []⟩,
  ⟨some 20, .call n_scan_Fields [(.t 18), (.t 19)] [9, 5], none, [18, 19]⟩,
  ⟨some 17, .move (.t 20), none, []⟩,
  ⟨some 21, .extr (.t 17) 0, none, []⟩,
  ⟨some 22, .extr (.t 17) 1, none, []⟩,
  ⟨some 23, .extr (.t 17) 2, none, []⟩,
  ⟨some 7, .assign (.t 21), none, []⟩,
  ⟨some 8, .assign (.t 22), none, [22]⟩,
  ⟨some 9, .assign (.t 23), none, [23]⟩] none [0, 1, 2, 7, 8, 9, 17, 20, 21])
 (.seq (.reg 2 [⟨some 25, .move (.t 0), none, [0]⟩,
  ⟨some 26, .move (.t 2), none, []⟩,
  ⟨some 27, .call n_thicketref03_Fields [(.t 25), (.t 26)] [9, 5], none, [25, 26]⟩,
  ⟨some 24, .move (.t 27), none, []⟩,
  ⟨some 28, .extr (.t 24) 0, none, []⟩,
  ⟨some 29, .extr (.t 24) 1, none, []⟩,
  ⟨some 30, .extr (.t 24) 2, none, []⟩,
  ⟨some 10, .assign (.t 28), none, []⟩,
  ⟨some 11, .assign (.t 29), none, [29]⟩,
  ⟨some 12, .assign (.t 30), none, [30]⟩] none [1, 2, 7, 8, 9, 10, 11, 12, 17, 20, 21, 24, 27, 28])
 (.seq (.reg 3 [⟨some 32, .move (.t 1), none, []⟩,
  ⟨some 33, .move (.t 2), none, []⟩,
  ⟨some 34, .call n_scan_Join [(.t 32), (.t 33)] [37, 5], none, [32, 33]⟩,
  ⟨some 31, .move (.t 34), none, [34]⟩,
  ⟨some 35, .extr (.t 31) 0, none, []⟩,
  ⟨some 36, .extr (.t 31) 1, none, [31]⟩,
  ⟨some 13, .assign (.t 35), none, [35]⟩,
  ⟨some 14, .assign (.t 36), none, [36]⟩] none [1, 2, 7, 8, 9, 10, 11, 12, 13, 14, 17, 20, 21, 24, 27, 28])
 (.seq (.reg 4 [⟨some 38, .move (.t 1), none, []⟩,
  ⟨some 39, .move (.t 2), none, [2]⟩,
  ⟨some 40, .call n_thicketref03_Join [(.t 38), (.t 39)] [37, 5], none, [1, 38, 39]⟩,
  ⟨some 37, .move (.t 40), none, [40]⟩,
  ⟨some 41, .extr (.t 37) 0, none, []⟩,
  ⟨some 42, .extr (.t 37) 1, none, [37]⟩,
  ⟨some 15, .assign (.t 41), none, [41]⟩,
  ⟨some 16, .assign (.t 42), none, [42]⟩] none [7, 8, 9, 10, 11, 12, 13, 14, 15, 16, 17, 20, 21, 24, 27, 28])
 (.seq (.reg 5 [⟨some 43, .call n_thicketlaw03_lives [] [], none, []⟩,
  ⟨some 44, .move (.t 43), none, [43]⟩,
  ⟨some 45, .move (.t 7), some (1, true), []⟩,
  ⟨some 46, .move (.t 10), some (1, true), []⟩,
  ⟨some 47, .call n_thicketref03_Texts [(.t 45), (.t 46)] [37, 37], some (1, true), [7, 10, 17, 20, 21, 24, 27, 28, 45, 46]⟩,
  ⟨some 48, .pick (.t 44) (.t 47) (.c (Value.bool false)), none, [44, 47]⟩,
  ⟨some 49, .move (.t 48), none, [48]⟩,
  ⟨some 50, .move (.t 8), some (6, true), [8]⟩,
  ⟨some 51, .move (.t 11), some (6, true), [11]⟩,
  ⟨some 52, .bin .eql 28 (.t 50) (.t 51) 28, some (6, true), [50, 51]⟩,
  ⟨some 53, .pick (.t 49) (.t 52) (.c (Value.bool false)), none, [49, 52]⟩,
  ⟨some 54, .move (.t 53), none, [53]⟩,
  ⟨some 55, .move (.t 9), some (11, true), [9]⟩,
  ⟨some 56, .move (.t 12), some (11, true), [12]⟩,
  ⟨some 57, .bin .eql 3 (.t 55) (.t 56) 3, some (11, true), [55, 56]⟩,
  ⟨some 58, .pick (.t 54) (.t 57) (.c (Value.bool false)), none, [54, 57]⟩,
  ⟨some 59, .move (.t 58), none, [58]⟩,
  ⟨some 60, .move (.t 13), some (16, true), [13]⟩,
  ⟨some 61, .move (.t 15), some (16, true), [15]⟩,
  ⟨some 62, .bin .eql 9 (.t 60) (.t 61) 9, some (16, true), [60, 61]⟩,
  ⟨some 63, .pick (.t 59) (.t 62) (.c (Value.bool false)), none, [59, 62]⟩,
  ⟨some 64, .move (.t 63), none, [63]⟩,
  ⟨some 65, .move (.t 14), some (21, true), [14]⟩,
  ⟨some 66, .move (.t 16), some (21, true), [16]⟩,
  ⟨some 67, .bin .eql 28 (.t 65) (.t 66) 28, some (21, true), [65, 66]⟩,
  ⟨some 68, .pick (.t 64) (.t 67) (.c (Value.bool false)), none, [64, 67]⟩,
  ⟨some 6, .assign (.t 68), none, [68]⟩] none [6])
 .ret))))))
def a_thicketlaw03_ScanFields : AFunc := ⟨69, [.tmp 6], b_thicketlaw03_ScanFields⟩

def fnTab : List (FuncId × AFunc) := [(n_stringslite_HasPrefix, a_stringslite_HasPrefix), (n_strings_HasPrefix, a_strings_HasPrefix), (n_scan_Rows, a_scan_Rows), (n_scan_of, a_scan_of), (n_scan_hex, a_scan_hex), (n_scan_escape, a_scan_escape), (n_scan_text, a_scan_text), (n_scan_one, a_scan_one), (n_scan_Words, a_scan_Words), (n_scan_badBy, a_scan_badBy), (n_scan_Fields, a_scan_Fields), (n_scan_Quote, a_scan_Quote), (n_thicketlaw03_lives, a_thicketlaw03_lives), (n_thicketref03_Texts, a_thicketref03_Texts), (n_stringslite_IndexByte, a_stringslite_IndexByte), (n_strings_IndexByte, a_strings_IndexByte), (n_utf8_ValidRune, a_utf8_ValidRune), (n_bytealg_Cutover, a_bytealg_Cutover), (n_strings_IndexRune, a_strings_IndexRune), (n_strings_shouldUseASCIISet, a_strings_shouldUseASCIISet), (n_strings_makeASCIISet, a_strings_makeASCIISet), (n_strings_asciiSet_contains, a_strings_asciiSet_contains), (n_strings_IndexAny, a_strings_IndexAny), (n_strings_ContainsAny, a_strings_ContainsAny), (n_scan_Join, a_scan_Join), (n_thicketlaw03_ScanBack, a_thicketlaw03_ScanBack), (n_thicketref03_Fields, a_thicketref03_Fields), (n_thicketref03_Join, a_thicketref03_Join), (n_thicketlaw03_ScanFields, a_thicketlaw03_ScanFields)]
def modeTab : List (FuncId × List Bool) := [(n_strings_asciiSet_contains, [true, false]), (n_strings_Builder_WriteByte, [true, false]), (n_strings_ReplaceAll, [false, false, false]), (n_strings_Builder_WriteString, [true, false]), (n_strings_Builder_String, [true])]
def G (n : Nat) : List PV := match n with | 0 => glob0 | 1 => glob1 | _ => []
def extT : Oracle := fun f xs => if f = n_strings_Builder_WriteByte then xWriteByte 60 5 xs else if f = n_strings_ReplaceAll then xReplaceAll xs else if f = n_strings_Builder_WriteString then xWriteString 60 5 xs else if f = n_strings_Builder_String then xStringE 60 5 xs else none
def T : Tab := { fns := fun f => fnTab.lookup f, ext := extT, modes := fun f => (modeTab.lookup f).getD [], glob := G }
theorem fn_stringslite_HasPrefix : T.fns n_stringslite_HasPrefix = some a_stringslite_HasPrefix := rfl
theorem run_stringslite_HasPrefix (xs : List PV) : Cinf T n_stringslite_HasPrefix xs = Run T a_stringslite_HasPrefix xs := Cinf_eq rfl fn_stringslite_HasPrefix
@[simp] theorem md_stringslite_HasPrefix : T.modes n_stringslite_HasPrefix = [] := rfl
@[simp] theorem call_stringslite_HasPrefix (C : Oracle) (e : Env) (xs : List PV) : call T C e n_stringslite_HasPrefix xs = callK1 C n_stringslite_HasPrefix xs (moves e [] [] xs) := call_modes md_stringslite_HasPrefix
theorem fn_strings_HasPrefix : T.fns n_strings_HasPrefix = some a_strings_HasPrefix := rfl
theorem run_strings_HasPrefix (xs : List PV) : Cinf T n_strings_HasPrefix xs = Run T a_strings_HasPrefix xs := Cinf_eq rfl fn_strings_HasPrefix
@[simp] theorem md_strings_HasPrefix : T.modes n_strings_HasPrefix = [] := rfl
@[simp] theorem call_strings_HasPrefix (C : Oracle) (e : Env) (xs : List PV) : call T C e n_strings_HasPrefix xs = callK1 C n_strings_HasPrefix xs (moves e [] [] xs) := call_modes md_strings_HasPrefix
theorem fn_scan_Rows : T.fns n_scan_Rows = some a_scan_Rows := rfl
@[simp] theorem tl0_scan_Rows (e : Env) : Exec T k0_scan_Rows e = Exec T j0_scan_Rows (e.keep [0, 3, 4, 5, 40]) := Exec_tail _ _ _
@[simp] theorem tl1_scan_Rows (e : Env) : Exec T k1_scan_Rows e = Exec T j1_scan_Rows (e.keep [0, 3, 5, 40]) := Exec_tail _ _ _
@[simp] theorem tl2_scan_Rows (e : Env) : Exec T k2_scan_Rows e = Exec T j2_scan_Rows (e.keep [0, 3, 4, 5, 40]) := Exec_tail _ _ _
@[simp] theorem tl3_scan_Rows (e : Env) : Exec T k3_scan_Rows e = Exec T j3_scan_Rows (e.keep [0, 3, 4, 40]) := Exec_tail _ _ _
@[simp] theorem tl4_scan_Rows (e : Env) : Exec T k4_scan_Rows e = Exec T j4_scan_Rows (e.keep [3, 40]) := Exec_tail _ _ _
theorem ex1_scan_Rows (e : Env) : Exec T l1_scan_Rows e = andThen (Exec T w1_scan_Rows (e.keep [0, 3, 4, 5, 40])) (Exec T l1_scan_Rows) := Exec_loop _ _ _
theorem ex0_scan_Rows (e : Env) : Exec T l0_scan_Rows e = andThen (Exec T w0_scan_Rows (e.keep [0, 3, 4, 40])) (Exec T l0_scan_Rows) := Exec_loop _ _ _
theorem run_scan_Rows (xs : List PV) : Cinf T n_scan_Rows xs = Run T a_scan_Rows xs := Cinf_eq rfl fn_scan_Rows
@[simp] theorem md_scan_Rows : T.modes n_scan_Rows = [] := rfl
@[simp] theorem call_scan_Rows (C : Oracle) (e : Env) (xs : List PV) : call T C e n_scan_Rows xs = callK1 C n_scan_Rows xs (moves e [] [] xs) := call_modes md_scan_Rows
theorem fn_scan_of : T.fns n_scan_of = some a_scan_of := rfl
@[simp] theorem tl0_scan_of (e : Env) : Exec T k0_scan_of e = Exec T j0_scan_of (e.keep [0]) := Exec_tail _ _ _
theorem run_scan_of (xs : List PV) : Cinf T n_scan_of xs = Run T a_scan_of xs := Cinf_eq rfl fn_scan_of
@[simp] theorem md_scan_of : T.modes n_scan_of = [] := rfl
@[simp] theorem call_scan_of (C : Oracle) (e : Env) (xs : List PV) : call T C e n_scan_of xs = callK1 C n_scan_of xs (moves e [] [] xs) := call_modes md_scan_of
theorem fn_scan_hex : T.fns n_scan_hex = some a_scan_hex := rfl
@[simp] theorem tl0_scan_hex (e : Env) : Exec T k0_scan_hex e = Exec T j0_scan_hex (e.keep []) := Exec_tail _ _ _
theorem run_scan_hex (xs : List PV) : Cinf T n_scan_hex xs = Run T a_scan_hex xs := Cinf_eq rfl fn_scan_hex
@[simp] theorem md_scan_hex : T.modes n_scan_hex = [] := rfl
@[simp] theorem call_scan_hex (C : Oracle) (e : Env) (xs : List PV) : call T C e n_scan_hex xs = callK1 C n_scan_hex xs (moves e [] [] xs) := call_modes md_scan_hex
theorem fn_scan_escape : T.fns n_scan_escape = some a_scan_escape := rfl
@[simp] theorem tl0_scan_escape (e : Env) : Exec T k0_scan_escape e = Exec T j0_scan_escape (e.keep [0, 1, 7, 8, 9]) := Exec_tail _ _ _
@[simp] theorem tl1_scan_escape (e : Env) : Exec T k1_scan_escape e = Exec T j1_scan_escape (e.keep [0, 1, 7, 8]) := Exec_tail _ _ _
@[simp] theorem tl2_scan_escape (e : Env) : Exec T k2_scan_escape e = Exec T j2_scan_escape (e.keep [0, 1, 7, 8]) := Exec_tail _ _ _
@[simp] theorem tl3_scan_escape (e : Env) : Exec T k3_scan_escape e = Exec T j3_scan_escape (e.keep [0, 1, 7, 8]) := Exec_tail _ _ _
@[simp] theorem tl4_scan_escape (e : Env) : Exec T k4_scan_escape e = Exec T j4_scan_escape (e.keep [1, 7]) := Exec_tail _ _ _
@[simp] theorem tl5_scan_escape (e : Env) : Exec T k5_scan_escape e = Exec T j5_scan_escape (e.keep [0, 1, 18, 19]) := Exec_tail _ _ _
@[simp] theorem tl6_scan_escape (e : Env) : Exec T k6_scan_escape e = Exec T j6_scan_escape (e.keep [1]) := Exec_tail _ _ _
@[simp] theorem tl7_scan_escape (e : Env) : Exec T k7_scan_escape e = Exec T j7_scan_escape (e.keep [0, 1]) := Exec_tail _ _ _
theorem ex0_scan_escape (e : Env) : Exec T l0_scan_escape e = andThen (Exec T w0_scan_escape (e.keep [0, 1, 7, 8])) (Exec T l0_scan_escape) := Exec_loop _ _ _
theorem run_scan_escape (xs : List PV) : Cinf T n_scan_escape xs = Run T a_scan_escape xs := Cinf_eq rfl fn_scan_escape
@[simp] theorem md_scan_escape : T.modes n_scan_escape = [] := rfl
@[simp] theorem call_scan_escape (C : Oracle) (e : Env) (xs : List PV) : call T C e n_scan_escape xs = callK1 C n_scan_escape xs (moves e [] [] xs) := call_modes md_scan_escape
theorem fn_scan_text : T.fns n_scan_text = some a_scan_text := rfl
@[simp] theorem tl0_scan_text (e : Env) : Exec T k0_scan_text e = Exec T j0_scan_text (e.keep [0, 8, 11, 12, 28, 53]) := Exec_tail _ _ _
@[simp] theorem tl1_scan_text (e : Env) : Exec T k1_scan_text e = Exec T j1_scan_text (e.keep [0, 8, 9, 28, 53]) := Exec_tail _ _ _
@[simp] theorem tl2_scan_text (e : Env) : Exec T k2_scan_text e = Exec T j2_scan_text (e.keep [0, 8, 9, 28, 53]) := Exec_tail _ _ _
@[simp] theorem tl3_scan_text (e : Env) : Exec T k3_scan_text e = Exec T j3_scan_text (e.keep [0]) := Exec_tail _ _ _
theorem ex0_scan_text (e : Env) : Exec T l0_scan_text e = andThen (Exec T w0_scan_text (e.keep [0, 8, 9, 28, 53])) (Exec T l0_scan_text) := Exec_loop _ _ _
theorem run_scan_text (xs : List PV) : Cinf T n_scan_text xs = Run T a_scan_text xs := Cinf_eq rfl fn_scan_text
@[simp] theorem md_scan_text : T.modes n_scan_text = [] := rfl
@[simp] theorem call_scan_text (C : Oracle) (e : Env) (xs : List PV) : call T C e n_scan_text xs = callK1 C n_scan_text xs (moves e [] [] xs) := call_modes md_scan_text
theorem fn_scan_one : T.fns n_scan_one = some a_scan_one := rfl
@[simp] theorem tl0_scan_one (e : Env) : Exec T k0_scan_one e = Exec T j0_scan_one (e.keep [1, 4, 12, 13, 14, 15]) := Exec_tail _ _ _
@[simp] theorem tl1_scan_one (e : Env) : Exec T k1_scan_one e = Exec T j1_scan_one (e.keep [0, 1, 4, 8, 9, 10]) := Exec_tail _ _ _
@[simp] theorem tl2_scan_one (e : Env) : Exec T k2_scan_one e = Exec T j2_scan_one (e.keep [0, 1, 4, 8, 9, 10]) := Exec_tail _ _ _
@[simp] theorem tl3_scan_one (e : Env) : Exec T k3_scan_one e = Exec T j3_scan_one (e.keep [4, 8, 9]) := Exec_tail _ _ _
@[simp] theorem tl4_scan_one (e : Env) : Exec T k4_scan_one e = Exec T j4_scan_one (e.keep [0, 1, 4, 8, 9]) := Exec_tail _ _ _
theorem ex0_scan_one (e : Env) : Exec T l0_scan_one e = andThen (Exec T w0_scan_one (e.keep [0, 1, 4, 8, 9, 10])) (Exec T l0_scan_one) := Exec_loop _ _ _
theorem ex1_scan_one (e : Env) : Exec T l1_scan_one e = andThen (Exec T w1_scan_one (e.keep [0, 1, 4, 8, 9, 10])) (Exec T l1_scan_one) := Exec_loop _ _ _
theorem run_scan_one (xs : List PV) : Cinf T n_scan_one xs = Run T a_scan_one xs := Cinf_eq rfl fn_scan_one
@[simp] theorem md_scan_one : T.modes n_scan_one = [] := rfl
@[simp] theorem call_scan_one (C : Oracle) (e : Env) (xs : List PV) : call T C e n_scan_one xs = callK1 C n_scan_one xs (moves e [] [] xs) := call_modes md_scan_one
theorem fn_scan_Words : T.fns n_scan_Words = some a_scan_Words := rfl
@[simp] theorem tl0_scan_Words (e : Env) : Exec T k0_scan_Words e = Exec T j0_scan_Words (e.keep [0, 5, 7, 8, 43]) := Exec_tail _ _ _
@[simp] theorem tl1_scan_Words (e : Env) : Exec T k1_scan_Words e = Exec T j1_scan_Words (e.keep [0, 5, 6, 43]) := Exec_tail _ _ _
@[simp] theorem tl2_scan_Words (e : Env) : Exec T k2_scan_Words e = Exec T j2_scan_Words (e.keep [0, 5, 6, 43]) := Exec_tail _ _ _
@[simp] theorem tl3_scan_Words (e : Env) : Exec T k3_scan_Words e = Exec T j3_scan_Words (e.keep [5, 43]) := Exec_tail _ _ _
theorem ex0_scan_Words (e : Env) : Exec T l0_scan_Words e = andThen (Exec T w0_scan_Words (e.keep [0, 5, 6, 43])) (Exec T l0_scan_Words) := Exec_loop _ _ _
theorem run_scan_Words (xs : List PV) : Cinf T n_scan_Words xs = Run T a_scan_Words xs := Cinf_eq rfl fn_scan_Words
@[simp] theorem md_scan_Words : T.modes n_scan_Words = [] := rfl
@[simp] theorem call_scan_Words (C : Oracle) (e : Env) (xs : List PV) : call T C e n_scan_Words xs = callK1 C n_scan_Words xs (moves e [] [] xs) := call_modes md_scan_Words
theorem fn_scan_badBy : T.fns n_scan_badBy = some a_scan_badBy := rfl
theorem run_scan_badBy (xs : List PV) : Cinf T n_scan_badBy xs = Run T a_scan_badBy xs := Cinf_eq rfl fn_scan_badBy
@[simp] theorem md_scan_badBy : T.modes n_scan_badBy = [] := rfl
@[simp] theorem call_scan_badBy (C : Oracle) (e : Env) (xs : List PV) : call T C e n_scan_badBy xs = callK1 C n_scan_badBy xs (moves e [] [] xs) := call_modes md_scan_badBy
theorem fn_scan_Fields : T.fns n_scan_Fields = some a_scan_Fields := rfl
@[simp] theorem tl0_scan_Fields (e : Env) : Exec T k0_scan_Fields e = Exec T j0_scan_Fields (e.keep [0, 1, 7, 8, 9, 54, 90, 95]) := Exec_tail _ _ _
@[simp] theorem tl1_scan_Fields (e : Env) : Exec T k1_scan_Fields e = Exec T j1_scan_Fields (e.keep [0, 1, 7, 8, 9, 54, 90, 95]) := Exec_tail _ _ _
@[simp] theorem tl2_scan_Fields (e : Env) : Exec T k2_scan_Fields e = Exec T j2_scan_Fields (e.keep [0, 1, 7, 8, 9, 54, 90, 95]) := Exec_tail _ _ _
@[simp] theorem tl3_scan_Fields (e : Env) : Exec T k3_scan_Fields e = Exec T j3_scan_Fields (e.keep [0, 1, 7, 8, 9, 54, 90, 95]) := Exec_tail _ _ _
@[simp] theorem tl4_scan_Fields (e : Env) : Exec T k4_scan_Fields e = Exec T j4_scan_Fields (e.keep [0, 1, 7, 8, 9, 10, 54, 90, 95]) := Exec_tail _ _ _
@[simp] theorem tl5_scan_Fields (e : Env) : Exec T k5_scan_Fields e = Exec T j5_scan_Fields (e.keep [0, 1, 7, 8, 9, 10, 54, 90, 95]) := Exec_tail _ _ _
@[simp] theorem tl6_scan_Fields (e : Env) : Exec T k6_scan_Fields e = Exec T j6_scan_Fields (e.keep [0, 1, 7, 8, 95]) := Exec_tail _ _ _
@[simp] theorem tl7_scan_Fields (e : Env) : Exec T k7_scan_Fields e = Exec T j7_scan_Fields (e.keep [0, 1, 7, 8, 9, 54, 90, 95]) := Exec_tail _ _ _
@[simp] theorem tl8_scan_Fields (e : Env) : Exec T k8_scan_Fields e = Exec T j8_scan_Fields (e.keep [0, 1]) := Exec_tail _ _ _
theorem ex1_scan_Fields (e : Env) : Exec T l1_scan_Fields e = andThen (Exec T w1_scan_Fields (e.keep [0, 1, 7, 8, 9, 54, 90, 95])) (Exec T l1_scan_Fields) := Exec_loop _ _ _
theorem ex2_scan_Fields (e : Env) : Exec T l2_scan_Fields e = andThen (Exec T w2_scan_Fields (e.keep [0, 1, 7, 8, 9, 10, 54, 90, 95])) (Exec T l2_scan_Fields) := Exec_loop _ _ _
theorem ex0_scan_Fields (e : Env) : Exec T l0_scan_Fields e = andThen (Exec T w0_scan_Fields (e.keep [0, 1, 7, 8, 95])) (Exec T l0_scan_Fields) := Exec_loop _ _ _
theorem run_scan_Fields (xs : List PV) : Cinf T n_scan_Fields xs = Run T a_scan_Fields xs := Cinf_eq rfl fn_scan_Fields
@[simp] theorem md_scan_Fields : T.modes n_scan_Fields = [] := rfl
@[simp] theorem call_scan_Fields (C : Oracle) (e : Env) (xs : List PV) : call T C e n_scan_Fields xs = callK1 C n_scan_Fields xs (moves e [] [] xs) := call_modes md_scan_Fields
theorem fn_scan_Quote : T.fns n_scan_Quote = some a_scan_Quote := rfl
@[simp] theorem tl0_scan_Quote (e : Env) : Exec T k0_scan_Quote e = Exec T j0_scan_Quote (e.keep [0, 3, 6, 8, 9, 18, 29, 35, 41, 57]) := Exec_tail _ _ _
@[simp] theorem tl1_scan_Quote (e : Env) : Exec T k1_scan_Quote e = Exec T j1_scan_Quote (e.keep [0, 3, 6, 8, 9, 18, 29, 35, 41, 57]) := Exec_tail _ _ _
@[simp] theorem tl2_scan_Quote (e : Env) : Exec T k2_scan_Quote e = Exec T j2_scan_Quote (e.keep [3, 6, 18, 29, 35, 41, 57]) := Exec_tail _ _ _
theorem ex0_scan_Quote (e : Env) : Exec T l0_scan_Quote e = andThen (Exec T w0_scan_Quote (e.keep [0, 3, 6, 8, 9, 18, 29, 35, 41, 57])) (Exec T l0_scan_Quote) := Exec_loop _ _ _
theorem run_scan_Quote (xs : List PV) : Cinf T n_scan_Quote xs = Run T a_scan_Quote xs := Cinf_eq rfl fn_scan_Quote
@[simp] theorem md_scan_Quote : T.modes n_scan_Quote = [] := rfl
@[simp] theorem call_scan_Quote (C : Oracle) (e : Env) (xs : List PV) : call T C e n_scan_Quote xs = callK1 C n_scan_Quote xs (moves e [] [] xs) := call_modes md_scan_Quote
theorem fn_thicketlaw03_lives : T.fns n_thicketlaw03_lives = some a_thicketlaw03_lives := rfl
theorem run_thicketlaw03_lives (xs : List PV) : Cinf T n_thicketlaw03_lives xs = Run T a_thicketlaw03_lives xs := Cinf_eq rfl fn_thicketlaw03_lives
@[simp] theorem md_thicketlaw03_lives : T.modes n_thicketlaw03_lives = [] := rfl
@[simp] theorem call_thicketlaw03_lives (C : Oracle) (e : Env) (xs : List PV) : call T C e n_thicketlaw03_lives xs = callK1 C n_thicketlaw03_lives xs (moves e [] [] xs) := call_modes md_thicketlaw03_lives
theorem fn_thicketref03_Texts : T.fns n_thicketref03_Texts = some a_thicketref03_Texts := rfl
@[simp] theorem tl0_thicketref03_Texts (e : Env) : Exec T k0_thicketref03_Texts e = Exec T j0_thicketref03_Texts (e.keep [0, 1, 12, 13]) := Exec_tail _ _ _
@[simp] theorem tl1_thicketref03_Texts (e : Env) : Exec T k1_thicketref03_Texts e = Exec T j1_thicketref03_Texts (e.keep [0, 1, 12, 13]) := Exec_tail _ _ _
@[simp] theorem tl2_thicketref03_Texts (e : Env) : Exec T k2_thicketref03_Texts e = Exec T j2_thicketref03_Texts (e.keep []) := Exec_tail _ _ _
@[simp] theorem tl3_thicketref03_Texts (e : Env) : Exec T k3_thicketref03_Texts e = Exec T j3_thicketref03_Texts (e.keep [0, 1]) := Exec_tail _ _ _
theorem ex0_thicketref03_Texts (e : Env) : Exec T l0_thicketref03_Texts e = andThen (Exec T w0_thicketref03_Texts (e.keep [0, 1, 12, 13])) (Exec T l0_thicketref03_Texts) := Exec_loop _ _ _
theorem run_thicketref03_Texts (xs : List PV) : Cinf T n_thicketref03_Texts xs = Run T a_thicketref03_Texts xs := Cinf_eq rfl fn_thicketref03_Texts
@[simp] theorem md_thicketref03_Texts : T.modes n_thicketref03_Texts = [] := rfl
@[simp] theorem call_thicketref03_Texts (C : Oracle) (e : Env) (xs : List PV) : call T C e n_thicketref03_Texts xs = callK1 C n_thicketref03_Texts xs (moves e [] [] xs) := call_modes md_thicketref03_Texts
theorem fn_stringslite_IndexByte : T.fns n_stringslite_IndexByte = some a_stringslite_IndexByte := rfl
theorem run_stringslite_IndexByte (xs : List PV) : Cinf T n_stringslite_IndexByte xs = Run T a_stringslite_IndexByte xs := Cinf_eq rfl fn_stringslite_IndexByte
@[simp] theorem md_stringslite_IndexByte : T.modes n_stringslite_IndexByte = [] := rfl
@[simp] theorem call_stringslite_IndexByte (C : Oracle) (e : Env) (xs : List PV) : call T C e n_stringslite_IndexByte xs = callK1 C n_stringslite_IndexByte xs (moves e [] [] xs) := call_modes md_stringslite_IndexByte
theorem fn_strings_IndexByte : T.fns n_strings_IndexByte = some a_strings_IndexByte := rfl
theorem run_strings_IndexByte (xs : List PV) : Cinf T n_strings_IndexByte xs = Run T a_strings_IndexByte xs := Cinf_eq rfl fn_strings_IndexByte
@[simp] theorem md_strings_IndexByte : T.modes n_strings_IndexByte = [] := rfl
@[simp] theorem call_strings_IndexByte (C : Oracle) (e : Env) (xs : List PV) : call T C e n_strings_IndexByte xs = callK1 C n_strings_IndexByte xs (moves e [] [] xs) := call_modes md_strings_IndexByte
theorem fn_utf8_ValidRune : T.fns n_utf8_ValidRune = some a_utf8_ValidRune := rfl
@[simp] theorem tl0_utf8_ValidRune (e : Env) : Exec T k0_utf8_ValidRune e = Exec T j0_utf8_ValidRune (e.keep []) := Exec_tail _ _ _
theorem run_utf8_ValidRune (xs : List PV) : Cinf T n_utf8_ValidRune xs = Run T a_utf8_ValidRune xs := Cinf_eq rfl fn_utf8_ValidRune
@[simp] theorem md_utf8_ValidRune : T.modes n_utf8_ValidRune = [] := rfl
@[simp] theorem call_utf8_ValidRune (C : Oracle) (e : Env) (xs : List PV) : call T C e n_utf8_ValidRune xs = callK1 C n_utf8_ValidRune xs (moves e [] [] xs) := call_modes md_utf8_ValidRune
theorem fn_bytealg_Cutover : T.fns n_bytealg_Cutover = some a_bytealg_Cutover := rfl
theorem run_bytealg_Cutover (xs : List PV) : Cinf T n_bytealg_Cutover xs = Run T a_bytealg_Cutover xs := Cinf_eq rfl fn_bytealg_Cutover
@[simp] theorem md_bytealg_Cutover : T.modes n_bytealg_Cutover = [] := rfl
@[simp] theorem call_bytealg_Cutover (C : Oracle) (e : Env) (xs : List PV) : call T C e n_bytealg_Cutover xs = callK1 C n_bytealg_Cutover xs (moves e [] [] xs) := call_modes md_bytealg_Cutover
theorem fn_strings_IndexRune : T.fns n_strings_IndexRune = some a_strings_IndexRune := rfl
@[simp] theorem tl0_strings_IndexRune (e : Env) : Exec T k0_strings_IndexRune e = Exec T j0_strings_IndexRune (e.keep [175, 176]) := Exec_tail _ _ _
@[simp] theorem tl1_strings_IndexRune (e : Env) : Exec T k1_strings_IndexRune e = Exec T j1_strings_IndexRune (e.keep []) := Exec_tail _ _ _
@[simp] theorem tl2_strings_IndexRune (e : Env) : Exec T k2_strings_IndexRune e = Exec T j2_strings_IndexRune (e.keep [0, 7, 8, 9, 11]) := Exec_tail _ _ _
@[simp] theorem tl3_strings_IndexRune (e : Env) : Exec T k3_strings_IndexRune e = Exec T j3_strings_IndexRune (e.keep [0, 7, 8, 9, 12]) := Exec_tail _ _ _
@[simp] theorem tl4_strings_IndexRune (e : Env) : Exec T k4_strings_IndexRune e = Exec T j4_strings_IndexRune (e.keep [0, 7, 8, 9, 12]) := Exec_tail _ _ _
@[simp] theorem tl5_strings_IndexRune (e : Env) : Exec T k5_strings_IndexRune e = Exec T j5_strings_IndexRune (e.keep [8, 9]) := Exec_tail _ _ _
@[simp] theorem tl6_strings_IndexRune (e : Env) : Exec T k6_strings_IndexRune e = Exec T j6_strings_IndexRune (e.keep [0, 7, 8, 9]) := Exec_tail _ _ _
@[simp] theorem tl7_strings_IndexRune (e : Env) : Exec T k7_strings_IndexRune e = Exec T j7_strings_IndexRune (e.keep [0, 7, 8, 9]) := Exec_tail _ _ _
@[simp] theorem tl8_strings_IndexRune (e : Env) : Exec T k8_strings_IndexRune e = Exec T j8_strings_IndexRune (e.keep [0, 7, 8, 9, 14, 15, 16]) := Exec_tail _ _ _
@[simp] theorem tl9_strings_IndexRune (e : Env) : Exec T k9_strings_IndexRune e = Exec T j9_strings_IndexRune (e.keep [0, 7, 8, 9, 14, 15, 16]) := Exec_tail _ _ _
@[simp] theorem tl10_strings_IndexRune (e : Env) : Exec T k10_strings_IndexRune e = Exec T j10_strings_IndexRune (e.keep [8, 9]) := Exec_tail _ _ _
@[simp] theorem tl11_strings_IndexRune (e : Env) : Exec T k11_strings_IndexRune e = Exec T j11_strings_IndexRune (e.keep [0, 7, 8, 9, 14, 15]) := Exec_tail _ _ _
@[simp] theorem tl12_strings_IndexRune (e : Env) : Exec T k12_strings_IndexRune e = Exec T j12_strings_IndexRune (e.keep [0, 7, 8, 9, 14, 15]) := Exec_tail _ _ _
@[simp] theorem tl13_strings_IndexRune (e : Env) : Exec T k13_strings_IndexRune e = Exec T j13_strings_IndexRune (e.keep []) := Exec_tail _ _ _
@[simp] theorem tl14_strings_IndexRune (e : Env) : Exec T k14_strings_IndexRune e = Exec T j14_strings_IndexRune (e.keep []) := Exec_tail _ _ _
theorem ex0_strings_IndexRune (e : Env) : Exec T l0_strings_IndexRune e = andThen (Exec T w0_strings_IndexRune (e.keep [175])) (Exec T l0_strings_IndexRune) := Exec_loop _ _ _
theorem ex2_strings_IndexRune (e : Env) : Exec T l2_strings_IndexRune e = andThen (Exec T w2_strings_IndexRune (e.keep [0, 7, 8, 9, 12])) (Exec T l2_strings_IndexRune) := Exec_loop _ _ _
theorem ex1_strings_IndexRune (e : Env) : Exec T l1_strings_IndexRune e = andThen (Exec T w1_strings_IndexRune (e.keep [0, 7, 8, 9])) (Exec T l1_strings_IndexRune) := Exec_loop _ _ _
theorem ex4_strings_IndexRune (e : Env) : Exec T l4_strings_IndexRune e = andThen (Exec T w4_strings_IndexRune (e.keep [0, 7, 8, 9, 14, 15, 16])) (Exec T l4_strings_IndexRune) := Exec_loop _ _ _
theorem ex3_strings_IndexRune (e : Env) : Exec T l3_strings_IndexRune e = andThen (Exec T w3_strings_IndexRune (e.keep [0, 7, 8, 9, 14, 15])) (Exec T l3_strings_IndexRune) := Exec_loop _ _ _
theorem run_strings_IndexRune (xs : List PV) : Cinf T n_strings_IndexRune xs = Run T a_strings_IndexRune xs := Cinf_eq rfl fn_strings_IndexRune
@[simp] theorem md_strings_IndexRune : T.modes n_strings_IndexRune = [] := rfl
@[simp] theorem call_strings_IndexRune (C : Oracle) (e : Env) (xs : List PV) : call T C e n_strings_IndexRune xs = callK1 C n_strings_IndexRune xs (moves e [] [] xs) := call_modes md_strings_IndexRune
theorem fn_strings_shouldUseASCIISet : T.fns n_strings_shouldUseASCIISet = some a_strings_shouldUseASCIISet := rfl
theorem run_strings_shouldUseASCIISet (xs : List PV) : Cinf T n_strings_shouldUseASCIISet xs = Run T a_strings_shouldUseASCIISet xs := Cinf_eq rfl fn_strings_shouldUseASCIISet
@[simp] theorem md_strings_shouldUseASCIISet : T.modes n_strings_shouldUseASCIISet = [] := rfl
@[simp] theorem call_strings_shouldUseASCIISet (C : Oracle) (e : Env) (xs : List PV) : call T C e n_strings_shouldUseASCIISet xs = callK1 C n_strings_shouldUseASCIISet xs (moves e [] [] xs) := call_modes md_strings_shouldUseASCIISet
theorem fn_strings_makeASCIISet : T.fns n_strings_makeASCIISet = some a_strings_makeASCIISet := rfl
@[simp] theorem tl0_strings_makeASCIISet (e : Env) : Exec T k0_strings_makeASCIISet e = Exec T j0_strings_makeASCIISet (e.keep [0, 2, 4, 5]) := Exec_tail _ _ _
@[simp] theorem tl1_strings_makeASCIISet (e : Env) : Exec T k1_strings_makeASCIISet e = Exec T j1_strings_makeASCIISet (e.keep [0, 2, 4]) := Exec_tail _ _ _
@[simp] theorem tl2_strings_makeASCIISet (e : Env) : Exec T k2_strings_makeASCIISet e = Exec T j2_strings_makeASCIISet (e.keep [0, 2, 4]) := Exec_tail _ _ _
@[simp] theorem tl3_strings_makeASCIISet (e : Env) : Exec T k3_strings_makeASCIISet e = Exec T j3_strings_makeASCIISet (e.keep [2]) := Exec_tail _ _ _
theorem ex0_strings_makeASCIISet (e : Env) : Exec T l0_strings_makeASCIISet e = andThen (Exec T w0_strings_makeASCIISet (e.keep [0, 2, 4])) (Exec T l0_strings_makeASCIISet) := Exec_loop _ _ _
theorem run_strings_makeASCIISet (xs : List PV) : Cinf T n_strings_makeASCIISet xs = Run T a_strings_makeASCIISet xs := Cinf_eq rfl fn_strings_makeASCIISet
@[simp] theorem md_strings_makeASCIISet : T.modes n_strings_makeASCIISet = [] := rfl
@[simp] theorem call_strings_makeASCIISet (C : Oracle) (e : Env) (xs : List PV) : call T C e n_strings_makeASCIISet xs = callK1 C n_strings_makeASCIISet xs (moves e [] [] xs) := call_modes md_strings_makeASCIISet
theorem fn_strings_asciiSet_contains : T.fns n_strings_asciiSet_contains = some a_strings_asciiSet_contains := rfl
theorem run_strings_asciiSet_contains (xs : List PV) : Cinf T n_strings_asciiSet_contains xs = Run T a_strings_asciiSet_contains xs := Cinf_eq rfl fn_strings_asciiSet_contains
@[simp] theorem md_strings_asciiSet_contains : T.modes n_strings_asciiSet_contains = [true, false] := rfl
@[simp] theorem call_strings_asciiSet_contains (C : Oracle) (e : Env) (xs : List PV) : call T C e n_strings_asciiSet_contains xs = callK1 C n_strings_asciiSet_contains xs (moves e [] [true, false] xs) := call_modes md_strings_asciiSet_contains
theorem fn_strings_IndexAny : T.fns n_strings_IndexAny = some a_strings_IndexAny := rfl
@[simp] theorem tl0_strings_IndexAny (e : Env) : Exec T k0_strings_IndexAny e = Exec T j0_strings_IndexAny (e.keep [0, 5]) := Exec_tail _ _ _
@[simp] theorem tl1_strings_IndexAny (e : Env) : Exec T k1_strings_IndexAny e = Exec T j1_strings_IndexAny (e.keep [0, 6, 8]) := Exec_tail _ _ _
@[simp] theorem tl2_strings_IndexAny (e : Env) : Exec T k2_strings_IndexAny e = Exec T j2_strings_IndexAny (e.keep [0, 6, 8]) := Exec_tail _ _ _
@[simp] theorem tl3_strings_IndexAny (e : Env) : Exec T k3_strings_IndexAny e = Exec T j3_strings_IndexAny (e.keep []) := Exec_tail _ _ _
@[simp] theorem tl4_strings_IndexAny (e : Env) : Exec T k4_strings_IndexAny e = Exec T j4_strings_IndexAny (e.keep [1, 45, 46]) := Exec_tail _ _ _
@[simp] theorem tl5_strings_IndexAny (e : Env) : Exec T k5_strings_IndexAny e = Exec T j5_strings_IndexAny (e.keep []) := Exec_tail _ _ _
@[simp] theorem tl6_strings_IndexAny (e : Env) : Exec T k6_strings_IndexAny e = Exec T j6_strings_IndexAny (e.keep [0, 1]) := Exec_tail _ _ _
@[simp] theorem tl7_strings_IndexAny (e : Env) : Exec T k7_strings_IndexAny e = Exec T j7_strings_IndexAny (e.keep [0, 1]) := Exec_tail _ _ _
@[simp] theorem tl8_strings_IndexAny (e : Env) : Exec T k8_strings_IndexAny e = Exec T j8_strings_IndexAny (e.keep [0, 1]) := Exec_tail _ _ _
theorem ex0_strings_IndexAny (e : Env) : Exec T l0_strings_IndexAny e = andThen (Exec T w0_strings_IndexAny (e.keep [0, 6, 8])) (Exec T l0_strings_IndexAny) := Exec_loop _ _ _
theorem ex1_strings_IndexAny (e : Env) : Exec T l1_strings_IndexAny e = andThen (Exec T w1_strings_IndexAny (e.keep [1, 45])) (Exec T l1_strings_IndexAny) := Exec_loop _ _ _
theorem run_strings_IndexAny (xs : List PV) : Cinf T n_strings_IndexAny xs = Run T a_strings_IndexAny xs := Cinf_eq rfl fn_strings_IndexAny
@[simp] theorem md_strings_IndexAny : T.modes n_strings_IndexAny = [] := rfl
@[simp] theorem call_strings_IndexAny (C : Oracle) (e : Env) (xs : List PV) : call T C e n_strings_IndexAny xs = callK1 C n_strings_IndexAny xs (moves e [] [] xs) := call_modes md_strings_IndexAny
theorem fn_strings_ContainsAny : T.fns n_strings_ContainsAny = some a_strings_ContainsAny := rfl
theorem run_strings_ContainsAny (xs : List PV) : Cinf T n_strings_ContainsAny xs = Run T a_strings_ContainsAny xs := Cinf_eq rfl fn_strings_ContainsAny
@[simp] theorem md_strings_ContainsAny : T.modes n_strings_ContainsAny = [] := rfl
@[simp] theorem call_strings_ContainsAny (C : Oracle) (e : Env) (xs : List PV) : call T C e n_strings_ContainsAny xs = callK1 C n_strings_ContainsAny xs (moves e [] [] xs) := call_modes md_strings_ContainsAny
theorem fn_scan_Join : T.fns n_scan_Join = some a_scan_Join := rfl
@[simp] theorem tl0_scan_Join (e : Env) : Exec T k0_scan_Join e = Exec T j0_scan_Join (e.keep [0, 1, 13, 14, 15]) := Exec_tail _ _ _
@[simp] theorem tl1_scan_Join (e : Env) : Exec T k1_scan_Join e = Exec T j1_scan_Join (e.keep [0, 1, 13, 14, 15]) := Exec_tail _ _ _
@[simp] theorem tl2_scan_Join (e : Env) : Exec T k2_scan_Join e = Exec T j2_scan_Join (e.keep [0, 1, 8, 10, 25, 26, 27]) := Exec_tail _ _ _
@[simp] theorem tl3_scan_Join (e : Env) : Exec T k3_scan_Join e = Exec T j3_scan_Join (e.keep [0, 1, 8, 10, 25, 26, 27]) := Exec_tail _ _ _
@[simp] theorem tl4_scan_Join (e : Env) : Exec T k4_scan_Join e = Exec T j4_scan_Join (e.keep [0, 1, 8, 25, 26, 27]) := Exec_tail _ _ _
@[simp] theorem tl5_scan_Join (e : Env) : Exec T k5_scan_Join e = Exec T j5_scan_Join (e.keep [0, 1, 8, 25, 26, 27]) := Exec_tail _ _ _
@[simp] theorem tl6_scan_Join (e : Env) : Exec T k6_scan_Join e = Exec T j6_scan_Join (e.keep [8]) := Exec_tail _ _ _
@[simp] theorem tl7_scan_Join (e : Env) : Exec T k7_scan_Join e = Exec T j7_scan_Join (e.keep [0, 1]) := Exec_tail _ _ _
@[simp] theorem tl8_scan_Join (e : Env) : Exec T k8_scan_Join e = Exec T j8_scan_Join (e.keep [0, 1]) := Exec_tail _ _ _
@[simp] theorem tl9_scan_Join (e : Env) : Exec T k9_scan_Join e = Exec T j9_scan_Join (e.keep [0, 1]) := Exec_tail _ _ _
theorem ex0_scan_Join (e : Env) : Exec T l0_scan_Join e = andThen (Exec T w0_scan_Join (e.keep [0, 1, 13, 14, 15])) (Exec T l0_scan_Join) := Exec_loop _ _ _
theorem ex1_scan_Join (e : Env) : Exec T l1_scan_Join e = andThen (Exec T w1_scan_Join (e.keep [0, 1, 8, 25, 26, 27])) (Exec T l1_scan_Join) := Exec_loop _ _ _
theorem run_scan_Join (xs : List PV) : Cinf T n_scan_Join xs = Run T a_scan_Join xs := Cinf_eq rfl fn_scan_Join
@[simp] theorem md_scan_Join : T.modes n_scan_Join = [] := rfl
@[simp] theorem call_scan_Join (C : Oracle) (e : Env) (xs : List PV) : call T C e n_scan_Join xs = callK1 C n_scan_Join xs (moves e [] [] xs) := call_modes md_scan_Join
theorem fn_thicketlaw03_ScanBack : T.fns n_thicketlaw03_ScanBack = some a_thicketlaw03_ScanBack := rfl
@[simp] theorem tl0_thicketlaw03_ScanBack (e : Env) : Exec T k0_thicketlaw03_ScanBack e = Exec T j0_thicketlaw03_ScanBack (e.keep [1, 2, 10]) := Exec_tail _ _ _
@[simp] theorem tl1_thicketlaw03_ScanBack (e : Env) : Exec T k1_thicketlaw03_ScanBack e = Exec T j1_thicketlaw03_ScanBack (e.keep [1, 2]) := Exec_tail _ _ _
@[simp] theorem tl2_thicketlaw03_ScanBack (e : Env) : Exec T k2_thicketlaw03_ScanBack e = Exec T j2_thicketlaw03_ScanBack (e.keep [0, 1, 2]) := Exec_tail _ _ _
theorem run_thicketlaw03_ScanBack (xs : List PV) : Cinf T n_thicketlaw03_ScanBack xs = Run T a_thicketlaw03_ScanBack xs := Cinf_eq rfl fn_thicketlaw03_ScanBack
@[simp] theorem md_thicketlaw03_ScanBack : T.modes n_thicketlaw03_ScanBack = [] := rfl
@[simp] theorem call_thicketlaw03_ScanBack (C : Oracle) (e : Env) (xs : List PV) : call T C e n_thicketlaw03_ScanBack xs = callK1 C n_thicketlaw03_ScanBack xs (moves e [] [] xs) := call_modes md_thicketlaw03_ScanBack
theorem fn_thicketref03_Fields : T.fns n_thicketref03_Fields = some a_thicketref03_Fields := rfl
@[simp] theorem tl0_thicketref03_Fields (e : Env) : Exec T k0_thicketref03_Fields e = Exec T j0_thicketref03_Fields (e.keep [0, 1, 7, 8, 9, 59, 90, 97]) := Exec_tail _ _ _
@[simp] theorem tl1_thicketref03_Fields (e : Env) : Exec T k1_thicketref03_Fields e = Exec T j1_thicketref03_Fields (e.keep [0, 1, 7, 8, 9, 59, 90, 97]) := Exec_tail _ _ _
@[simp] theorem tl2_thicketref03_Fields (e : Env) : Exec T k2_thicketref03_Fields e = Exec T j2_thicketref03_Fields (e.keep [0, 1, 7, 8, 9, 59, 90, 97]) := Exec_tail _ _ _
@[simp] theorem tl3_thicketref03_Fields (e : Env) : Exec T k3_thicketref03_Fields e = Exec T j3_thicketref03_Fields (e.keep [0, 1, 7, 8, 9, 59, 90, 97]) := Exec_tail _ _ _
@[simp] theorem tl4_thicketref03_Fields (e : Env) : Exec T k4_thicketref03_Fields e = Exec T j4_thicketref03_Fields (e.keep [0, 1, 7, 8, 97]) := Exec_tail _ _ _
@[simp] theorem tl5_thicketref03_Fields (e : Env) : Exec T k5_thicketref03_Fields e = Exec T j5_thicketref03_Fields (e.keep [0, 1, 7, 8, 9, 59, 90, 97]) := Exec_tail _ _ _
@[simp] theorem tl6_thicketref03_Fields (e : Env) : Exec T k6_thicketref03_Fields e = Exec T j6_thicketref03_Fields (e.keep [0, 1]) := Exec_tail _ _ _
theorem ex1_thicketref03_Fields (e : Env) : Exec T l1_thicketref03_Fields e = andThen (Exec T w1_thicketref03_Fields (e.keep [0, 1, 7, 8, 9, 59, 90, 97])) (Exec T l1_thicketref03_Fields) := Exec_loop _ _ _
theorem ex2_thicketref03_Fields (e : Env) : Exec T l2_thicketref03_Fields e = andThen (Exec T w2_thicketref03_Fields (e.keep [0, 1, 7, 8, 9, 59, 90, 97])) (Exec T l2_thicketref03_Fields) := Exec_loop _ _ _
theorem ex0_thicketref03_Fields (e : Env) : Exec T l0_thicketref03_Fields e = andThen (Exec T w0_thicketref03_Fields (e.keep [0, 1, 7, 8, 97])) (Exec T l0_thicketref03_Fields) := Exec_loop _ _ _
theorem run_thicketref03_Fields (xs : List PV) : Cinf T n_thicketref03_Fields xs = Run T a_thicketref03_Fields xs := Cinf_eq rfl fn_thicketref03_Fields
@[simp] theorem md_thicketref03_Fields : T.modes n_thicketref03_Fields = [] := rfl
@[simp] theorem call_thicketref03_Fields (C : Oracle) (e : Env) (xs : List PV) : call T C e n_thicketref03_Fields xs = callK1 C n_thicketref03_Fields xs (moves e [] [] xs) := call_modes md_thicketref03_Fields
theorem fn_thicketref03_Join : T.fns n_thicketref03_Join = some a_thicketref03_Join := rfl
@[simp] theorem tl0_thicketref03_Join (e : Env) : Exec T k0_thicketref03_Join e = Exec T j0_thicketref03_Join (e.keep [0, 1, 7, 8, 25, 26, 27]) := Exec_tail _ _ _
@[simp] theorem tl1_thicketref03_Join (e : Env) : Exec T k1_thicketref03_Join e = Exec T j1_thicketref03_Join (e.keep [0, 1, 7, 8, 25, 26, 27]) := Exec_tail _ _ _
@[simp] theorem tl2_thicketref03_Join (e : Env) : Exec T k2_thicketref03_Join e = Exec T j2_thicketref03_Join (e.keep [0, 1, 25, 26, 27]) := Exec_tail _ _ _
@[simp] theorem tl3_thicketref03_Join (e : Env) : Exec T k3_thicketref03_Join e = Exec T j3_thicketref03_Join (e.keep [0, 1, 25, 26, 27]) := Exec_tail _ _ _
@[simp] theorem tl4_thicketref03_Join (e : Env) : Exec T k4_thicketref03_Join e = Exec T j4_thicketref03_Join (e.keep [0, 1, 9, 11, 12, 13, 51, 52, 53, 63, 90, 93, 106, 112, 115]) := Exec_tail _ _ _
@[simp] theorem tl5_thicketref03_Join (e : Env) : Exec T k5_thicketref03_Join e = Exec T j5_thicketref03_Join (e.keep [0, 1, 9, 11, 12, 13, 51, 52, 53, 63, 90, 93, 106, 112, 115]) := Exec_tail _ _ _
@[simp] theorem tl6_thicketref03_Join (e : Env) : Exec T k6_thicketref03_Join e = Exec T j6_thicketref03_Join (e.keep [0, 1, 9, 11, 14, 51, 52, 53, 63, 90, 93, 106, 112, 115]) := Exec_tail _ _ _
@[simp] theorem tl7_thicketref03_Join (e : Env) : Exec T k7_thicketref03_Join e = Exec T j7_thicketref03_Join (e.keep [0, 1, 9, 11, 14, 51, 52, 53, 63, 90, 93, 106, 112, 115]) := Exec_tail _ _ _
@[simp] theorem tl8_thicketref03_Join (e : Env) : Exec T k8_thicketref03_Join e = Exec T j8_thicketref03_Join (e.keep [0, 1, 9, 11, 14, 51, 52, 53, 63, 90, 93, 106, 112, 115]) := Exec_tail _ _ _
@[simp] theorem tl9_thicketref03_Join (e : Env) : Exec T k9_thicketref03_Join e = Exec T j9_thicketref03_Join (e.keep [0, 1, 9, 51, 52, 53, 63, 90, 93, 106, 112, 115]) := Exec_tail _ _ _
@[simp] theorem tl10_thicketref03_Join (e : Env) : Exec T k10_thicketref03_Join e = Exec T j10_thicketref03_Join (e.keep [0, 1, 9, 11, 51, 52, 53, 63, 90, 93, 106, 112, 115]) := Exec_tail _ _ _
@[simp] theorem tl11_thicketref03_Join (e : Env) : Exec T k11_thicketref03_Join e = Exec T j11_thicketref03_Join (e.keep [0, 1, 9, 11, 12, 51, 52, 53, 63, 90, 93, 106, 112, 115]) := Exec_tail _ _ _
@[simp] theorem tl12_thicketref03_Join (e : Env) : Exec T k12_thicketref03_Join e = Exec T j12_thicketref03_Join (e.keep [0, 1, 9, 11, 51, 52, 53, 63, 90, 93, 106, 112, 115]) := Exec_tail _ _ _
@[simp] theorem tl13_thicketref03_Join (e : Env) : Exec T k13_thicketref03_Join e = Exec T j13_thicketref03_Join (e.keep [0, 1, 9, 51, 52, 53, 63, 90, 93, 106, 112, 115]) := Exec_tail _ _ _
@[simp] theorem tl14_thicketref03_Join (e : Env) : Exec T k14_thicketref03_Join e = Exec T j14_thicketref03_Join (e.keep [0, 1, 9, 51, 52, 53, 63, 90, 93, 106, 112, 115]) := Exec_tail _ _ _
@[simp] theorem tl15_thicketref03_Join (e : Env) : Exec T k15_thicketref03_Join e = Exec T j15_thicketref03_Join (e.keep [9, 63, 90, 93, 106, 112, 115]) := Exec_tail _ _ _
@[simp] theorem tl16_thicketref03_Join (e : Env) : Exec T k16_thicketref03_Join e = Exec T j16_thicketref03_Join (e.keep [0, 1]) := Exec_tail _ _ _
@[simp] theorem tl17_thicketref03_Join (e : Env) : Exec T k17_thicketref03_Join e = Exec T j17_thicketref03_Join (e.keep [0, 1]) := Exec_tail _ _ _
@[simp] theorem tl18_thicketref03_Join (e : Env) : Exec T k18_thicketref03_Join e = Exec T j18_thicketref03_Join (e.keep [0, 1]) := Exec_tail _ _ _
theorem ex1_thicketref03_Join (e : Env) : Exec T l1_thicketref03_Join e = andThen (Exec T w1_thicketref03_Join (e.keep [0, 1, 7, 8, 25, 26, 27])) (Exec T l1_thicketref03_Join) := Exec_loop _ _ _
theorem ex0_thicketref03_Join (e : Env) : Exec T l0_thicketref03_Join e = andThen (Exec T w0_thicketref03_Join (e.keep [0, 1, 25, 26, 27])) (Exec T l0_thicketref03_Join) := Exec_loop _ _ _
theorem ex3_thicketref03_Join (e : Env) : Exec T l3_thicketref03_Join e = andThen (Exec T w3_thicketref03_Join (e.keep [0, 1, 9, 11, 12, 13, 51, 52, 53, 63, 90, 93, 106, 112, 115])) (Exec T l3_thicketref03_Join) := Exec_loop _ _ _
theorem ex4_thicketref03_Join (e : Env) : Exec T l4_thicketref03_Join e = andThen (Exec T w4_thicketref03_Join (e.keep [0, 1, 9, 11, 14, 51, 52, 53, 63, 90, 93, 106, 112, 115])) (Exec T l4_thicketref03_Join) := Exec_loop _ _ _
theorem ex2_thicketref03_Join (e : Env) : Exec T l2_thicketref03_Join e = andThen (Exec T w2_thicketref03_Join (e.keep [0, 1, 9, 51, 52, 53, 63, 90, 93, 106, 112, 115])) (Exec T l2_thicketref03_Join) := Exec_loop _ _ _
theorem run_thicketref03_Join (xs : List PV) : Cinf T n_thicketref03_Join xs = Run T a_thicketref03_Join xs := Cinf_eq rfl fn_thicketref03_Join
@[simp] theorem md_thicketref03_Join : T.modes n_thicketref03_Join = [] := rfl
@[simp] theorem call_thicketref03_Join (C : Oracle) (e : Env) (xs : List PV) : call T C e n_thicketref03_Join xs = callK1 C n_thicketref03_Join xs (moves e [] [] xs) := call_modes md_thicketref03_Join
theorem fn_thicketlaw03_ScanFields : T.fns n_thicketlaw03_ScanFields = some a_thicketlaw03_ScanFields := rfl
theorem run_thicketlaw03_ScanFields (xs : List PV) : Cinf T n_thicketlaw03_ScanFields xs = Run T a_thicketlaw03_ScanFields xs := Cinf_eq rfl fn_thicketlaw03_ScanFields
@[simp] theorem md_thicketlaw03_ScanFields : T.modes n_thicketlaw03_ScanFields = [] := rfl
@[simp] theorem call_thicketlaw03_ScanFields (C : Oracle) (e : Env) (xs : List PV) : call T C e n_thicketlaw03_ScanFields xs = callK1 C n_thicketlaw03_ScanFields xs (moves e [] [] xs) := call_modes md_thicketlaw03_ScanFields
theorem x_strings_Builder_WriteByte (xs : List PV) {r : PV × List PV} (h : xWriteByte 60 5 xs = some r) : Cinf T n_strings_Builder_WriteByte xs = some r := Cinf_iff.2 ⟨1, by show (match xWriteByte 60 5 xs with | some r => some r | none => _) = some r; rw [h]⟩
@[simp] theorem md_strings_Builder_WriteByte : T.modes n_strings_Builder_WriteByte = [true, false] := rfl
@[simp] theorem call_strings_Builder_WriteByte (C : Oracle) (e : Env) (xs : List PV) : call T C e n_strings_Builder_WriteByte xs = callK1 C n_strings_Builder_WriteByte xs (moves e [] [true, false] xs) := call_modes md_strings_Builder_WriteByte
theorem x_strings_ReplaceAll (xs : List PV) {r : PV × List PV} (h : xReplaceAll xs = some r) : Cinf T n_strings_ReplaceAll xs = some r := Cinf_iff.2 ⟨1, by show (match xReplaceAll xs with | some r => some r | none => _) = some r; rw [h]⟩
@[simp] theorem md_strings_ReplaceAll : T.modes n_strings_ReplaceAll = [false, false, false] := rfl
@[simp] theorem call_strings_ReplaceAll (C : Oracle) (e : Env) (xs : List PV) : call T C e n_strings_ReplaceAll xs = callK1 C n_strings_ReplaceAll xs (moves e [] [false, false, false] xs) := call_modes md_strings_ReplaceAll
theorem x_strings_Builder_WriteString (xs : List PV) {r : PV × List PV} (h : xWriteString 60 5 xs = some r) : Cinf T n_strings_Builder_WriteString xs = some r := Cinf_iff.2 ⟨1, by show (match xWriteString 60 5 xs with | some r => some r | none => _) = some r; rw [h]⟩
@[simp] theorem md_strings_Builder_WriteString : T.modes n_strings_Builder_WriteString = [true, false] := rfl
@[simp] theorem call_strings_Builder_WriteString (C : Oracle) (e : Env) (xs : List PV) : call T C e n_strings_Builder_WriteString xs = callK1 C n_strings_Builder_WriteString xs (moves e [] [true, false] xs) := call_modes md_strings_Builder_WriteString
theorem x_strings_Builder_String (xs : List PV) {r : PV × List PV} (h : xStringE 60 5 xs = some r) : Cinf T n_strings_Builder_String xs = some r := Cinf_iff.2 ⟨1, by show (match xStringE 60 5 xs with | some r => some r | none => _) = some r; rw [h]⟩
@[simp] theorem md_strings_Builder_String : T.modes n_strings_Builder_String = [true] := rfl
@[simp] theorem call_strings_Builder_String (C : Oracle) (e : Env) (xs : List PV) : call T C e n_strings_Builder_String xs = callK1 C n_strings_Builder_String xs (moves e [] [true] xs) := call_modes md_strings_Builder_String
end Go.AM.F
