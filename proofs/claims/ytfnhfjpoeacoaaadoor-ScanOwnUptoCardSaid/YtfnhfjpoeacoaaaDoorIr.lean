/- The functions of the program in the abstract machine's form, printed by a program of the session's own (ir.py); Lean checks them against the program. No conditions. -/
import Derived.Test.YtfnhfjpoeacoaaaDoorAmBld
namespace Go.AM.F
open Go Go.AM
set_option maxRecDepth 100000

abbrev n_thicketlaw03_ScanOwn : FuncId := 5
abbrev n_thicketlaw03_lives : FuncId := 10
abbrev n_thicketlaw03_rows : FuncId := 11
abbrev n_scan_Rows : FuncId := 12
abbrev n_thicketref03_Rows : FuncId := 13
abbrev n_scan_Words : FuncId := 14
abbrev n_thicketref03_Words : FuncId := 15
abbrev n_thicketref03_Same : FuncId := 16
abbrev n_scan_Fields : FuncId := 17
abbrev n_thicketref03_Fields : FuncId := 18
abbrev n_thicketref03_Texts : FuncId := 19
abbrev n_scan_Quote : FuncId := 20
abbrev n_strings_HasPrefix : FuncId := 30
abbrev n_scan_of : FuncId := 31
abbrev n_scan_one : FuncId := 32
abbrev n_thicketref03_blank : FuncId := 33
abbrev n_thicketref03_letter : FuncId := 34
abbrev n_thicketref03_digit : FuncId := 35
abbrev n_thicketref03_quoted : FuncId := 36
abbrev n_thicketref03_mark : FuncId := 37
abbrev n_scan_badBy : FuncId := 38
abbrev n_stringslite_HasPrefix : FuncId := 46
abbrev n_scan_text : FuncId := 47
abbrev n_thicketref03_hex : FuncId := 48
abbrev n_scan_escape : FuncId := 53
abbrev n_scan_hex : FuncId := 64
def glob0 : List PV := ([0, 0, 0, 0, 0, 0, 0, 0, 0, 32, 0, 0, 0, 0, 0, 0, 0, 0, 0, 0, 0, 0, 0, 0, 0, 0, 0, 0, 0, 0, 0, 0, 32, 0, 0, 0, 0, 0, 0, 0, 16, 16, 0, 4, 16, 4, 8, 0, 0, 0, 0, 0, 0, 0, 0, 0, 0, 0, 16, 16, 16, 16, 16, 0, 0, 0, 0, 0, 0, 0, 0, 0, 0, 0, 0, 0, 0, 0, 0, 0, 0, 0, 0, 0, 0, 0, 0, 0, 0, 0, 0, 16, 0, 16, 0, 1, 0, 0, 0, 0, 0, 0, 0, 0, 0, 0, 0, 0, 0, 0, 0, 0, 0, 0, 0, 0, 0, 0, 0, 0, 0, 0, 0, 16, 16, 16, 0, 0] : List Int).map fun z => .v (.int .u8 z)
def b_stringslite_HasPrefix : IR :=
 (.seq (.reg 0 [⟨some 4, .assign (.c (Value.bool false)), none, [4]⟩] none [0, 1])
 (.seq (.reg 1 [⟨some 5, .move (.t 0), none, []⟩,
  ⟨some 6, .len 9 true (.t 5), none, [5]⟩,
  ⟨some 7, .move (.t 1), none, []⟩,
  ⟨some 8, .len 9 true (.t 7), none, [7]⟩,
  ⟨some 9, .bin .geq 3 (.t 6) (.t 8) 3, none, [6, 8]⟩,
  ⟨some 10, .move (.t 9), none, [9]⟩,
  ⟨some 11, .move (.t 0), some (5, true), [0]⟩,
  ⟨some 12, .move (.t 1), some (5, true), []⟩,
  ⟨some 13, .len 9 true (.t 12), some (5, true), [12]⟩,
  ⟨some 14, .slice 9 .str (.t 11) none (some (.t 13)) none, some (5, true), [11, 13]⟩,
  ⟨some 15, .move (.t 1), some (5, true), [1]⟩,
  ⟨some 16, .bin .eql 9 (.t 14) (.t 15) 9, some (5, true), [14, 15]⟩,
  ⟨some 17, .pick (.t 10) (.t 16) (.c (Value.bool false)), none, [10, 16]⟩,
  ⟨some 4, .assign (.t 17), none, [17]⟩] none [4])
 .ret))
def a_stringslite_HasPrefix : AFunc := ⟨18, [.tmp 4], b_stringslite_HasPrefix⟩

def b_strings_HasPrefix : IR :=
 (.seq (.reg 0 [⟨some 4, .assign (.c (Value.bool false)), none, [4]⟩] none [0, 1])
 (.seq (.reg 1 [⟨some 5, .move (.t 0), none, [0]⟩,
  ⟨some 6, .move (.t 1), none, [1]⟩,
  ⟨some 7, .call n_stringslite_HasPrefix [(.t 5), (.t 6)] [9, 9], none, [5, 6]⟩,
  ⟨some 4, .assign (.t 7), none, [7]⟩] none [4])
 .ret))
def a_strings_HasPrefix : AFunc := ⟨8, [.tmp 4], b_strings_HasPrefix⟩

def j0_scan_Rows : IR :=
 (.block 3 (.reg 6 [⟨some 27, .move (.t 5), none, []⟩,
  ⟨some 28, .bin .add 3 (.t 27) (.c (Value.int IntKind.i64 1)) 3, none, [27]⟩,
  ⟨some 5, .assign (.t 28), none, [28]⟩] none [0, 3, 4, 5, 40]))
def k0_scan_Rows : IR := .tail [0, 3, 4, 5, 40] j0_scan_Rows
def w1_scan_Rows : IR :=
 (.seq (.seq (.reg 5 [⟨some 11, .move (.t 5), none, []⟩,
  ⟨some 12, .move (.t 0), none, []⟩,
  ⟨some 13, .len 9 true (.t 12), none, [12]⟩,
  ⟨some 14, .bin .lss 3 (.t 11) (.t 13) 3, none, [11, 13]⟩,
  ⟨some 15, .move (.t 14), none, [14]⟩,
  ⟨some 16, .move (.t 0), some (4, true), []⟩,
  ⟨some 17, .move (.t 5), some (4, true), []⟩,
  ⟨some 18, .index 9 .str none (.t 16) (.t 17), some (4, true), [16, 17]⟩,
  ⟨some 19, .bin .neq 5 (.t 18) (.c (Value.int IntKind.u8 10)) 5, some (4, true), [18]⟩,
  ⟨some 20, .pick (.t 15) (.t 19) (.c (Value.bool false)), none, [15, 19]⟩,
  ⟨some 21, .move (.t 20), none, [20]⟩,
  ⟨some 22, .move (.t 0), some (10, true), []⟩,
  ⟨some 23, .move (.t 5), some (10, true), []⟩,
  ⟨some 24, .index 9 .str none (.t 22) (.t 23), some (10, true), [22, 23]⟩,
  ⟨some 25, .bin .neq 5 (.t 24) (.c (Value.int IntKind.u8 13)) 5, some (10, true), [24]⟩,
  ⟨some 26, .pick (.t 21) (.t 25) (.c (Value.bool false)), none, [21, 25]⟩] none [0, 3, 4, 5, 26, 40])
 (.cond [0, 3, 4, 5, 40] (.t 26) .skip (.exit 2)))
 k0_scan_Rows)
def l1_scan_Rows : IR := .loop [0, 3, 4, 5, 40] w1_scan_Rows
def j1_scan_Rows : IR :=
 (.reg 10 [⟨some 47, .move (.t 5), none, [5]⟩,
  ⟨some 48, .bin .add 3 (.t 47) (.c (Value.int IntKind.i64 1)) 3, none, [47]⟩,
  ⟨some 4, .assign (.t 48), none, [48]⟩] none [0, 3, 4, 40])
def k1_scan_Rows : IR := .tail [0, 3, 5, 40] j1_scan_Rows
def j2_scan_Rows : IR :=
 (.seq (.reg 7 [⟨some 29, .move (.t 3), none, []⟩,
  ⟨some 30, .move (.t 3), none, []⟩,
  ⟨some 31, .len 24 false (.t 30), none, [30]⟩,
  ⟨some 32, .bin .add 3 (.t 31) (.c (Value.int IntKind.i64 1)) 3, none, [31]⟩,
  ⟨some 33, .move (.t 4), none, []⟩,
  ⟨some 34, .move (.t 0), none, []⟩,
  ⟨some 35, .move (.t 4), none, [4]⟩,
  ⟨some 36, .move (.t 5), none, []⟩,
  ⟨some 37, .slice 9 .str (.t 34) (some (.t 35)) (some (.t 36)) none, none, [34, 35, 36]⟩,
  ⟨some 38, .build 33 [(0, 1), (1, 1), (2, 1)] [.v (.int .i64 0), .v (.int .i64 0), .v (.string ⟨#[]⟩)] [(0, (.t 32)), (1, (.t 33)), (2, (.t 37))], none, [32, 33, 37]⟩,
  ⟨some 39, .lit 24 3 [(.t 38)], none, [38]⟩,
  ⟨some 40, .append 24 24 false 3 32 (.t 29) (.t 39), none, [29, 39]⟩,
  ⟨some 3, .assign (.t 40), none, []⟩] none [0, 3, 5, 40])
 (.seq (.seq (.reg 8 [⟨some 41, .move (.t 0), none, []⟩,
  ⟨some 42, .move (.t 5), none, []⟩,
  ⟨some 43, .slice 9 .str (.t 41) (some (.t 42)) none none, none, [41, 42]⟩,
  ⟨some 44, .call n_strings_HasPrefix [(.t 43), (.c (Value.string { data := #[13, 10] }))] [9, 9], none, [43]⟩] none [0, 3, 5, 40, 44])
 (.cond [0, 3, 5, 40] (.t 44) (.reg 9 [⟨some 45, .move (.t 5), none, []⟩,
  ⟨some 46, .bin .add 3 (.t 45) (.c (Value.int IntKind.i64 1)) 3, none, [45]⟩,
  ⟨some 5, .assign (.t 46), none, [46]⟩] none [0, 3, 5, 40]) .skip))
 k1_scan_Rows))
def k2_scan_Rows : IR := .tail [0, 3, 4, 5, 40] j2_scan_Rows
def j3_scan_Rows : IR :=
 (.block 1 (.seq (.reg 4 [⟨some 10, .move (.t 4), none, []⟩,
  ⟨some 5, .assign (.t 10), none, [10]⟩] none [0, 3, 4, 5, 40])
 (.seq (.block 2 l1_scan_Rows)
 k2_scan_Rows)))
def k3_scan_Rows : IR := .tail [0, 3, 4, 40] j3_scan_Rows
def w0_scan_Rows : IR :=
 (.seq (.seq (.reg 3 [⟨some 6, .move (.t 4), none, []⟩,
  ⟨some 7, .move (.t 0), none, []⟩,
  ⟨some 8, .len 9 true (.t 7), none, [7]⟩,
  ⟨some 9, .bin .lss 3 (.t 6) (.t 8) 3, none, [6, 8]⟩] none [0, 3, 4, 9, 40])
 (.cond [0, 3, 4, 40] (.t 9) .skip (.exit 0)))
 k3_scan_Rows)
def l0_scan_Rows : IR := .loop [0, 3, 4, 40] w0_scan_Rows
def j4_scan_Rows : IR :=
 (.seq (.reg 11 [⟨some 49, .move (.t 3), none, []⟩,
  ⟨some 2, .assign (.t 49), none, []⟩] none [2, 3, 40, 49])
 .ret)
def k4_scan_Rows : IR := .tail [3, 40] j4_scan_Rows
def b_scan_Rows : IR :=
 (.seq (.reg 0 [⟨some 2, .assign (.nilS 3), none, [2]⟩] none [0])
 (.seq (.reg 1 [⟨some 3, .assign (.nilS 3), none, []⟩] none [0, 3, 40])
 (.seq (.reg 2 [⟨some 4, .assign (.c (Value.int IntKind.i64 0)), none, []⟩] none [0, 3, 4, 40])
 (.seq (.block 0 l0_scan_Rows)
 k4_scan_Rows))))
def a_scan_Rows : AFunc := ⟨50, [.tmp 2], b_scan_Rows⟩

def j0_scan_of : IR :=
 (.seq (.reg 7 [⟨some 28, .move (.t 0), none, [0]⟩,
  ⟨some 29, .iaddr 69 (.arr 128 1) (.g 0 glob0) (.t 28), none, []⟩,
  ⟨some 30, .load 49 none (.t 29), none, [28, 29]⟩,
  ⟨some 2, .assign (.t 30), none, [30]⟩] none [2])
 .ret)
def k0_scan_of : IR := .tail [0] j0_scan_of
def b_scan_of : IR :=
 (.seq (.reg 0 [⟨some 2, .assign (.c (Value.int IntKind.u8 0)), none, [2]⟩] none [0])
 (.seq (.block 0 (.seq (.reg 1 [⟨some 4, .move (.t 0), none, []⟩,
  ⟨some 5, .bin .geq 5 (.t 4) (.c (Value.int IntKind.u8 97)) 5, none, [4]⟩,
  ⟨some 6, .move (.t 5), none, [5]⟩,
  ⟨some 7, .move (.t 0), some (2, true), []⟩,
  ⟨some 8, .bin .leq 5 (.t 7) (.c (Value.int IntKind.u8 122)) 5, some (2, true), [7]⟩,
  ⟨some 9, .pick (.t 6) (.t 8) (.c (Value.bool false)), none, [6, 8]⟩,
  ⟨some 10, .move (.t 9), none, [9]⟩,
  ⟨some 11, .move (.t 0), some (6, false), []⟩,
  ⟨some 12, .bin .geq 5 (.t 11) (.c (Value.int IntKind.u8 65)) 5, some (6, false), [11]⟩,
  ⟨some 13, .move (.t 12), some (6, false), [12]⟩,
  ⟨some 14, .move (.t 0), some (9, true), []⟩,
  ⟨some 15, .bin .leq 5 (.t 14) (.c (Value.int IntKind.u8 90)) 5, some (9, true), [14]⟩,
  ⟨some 16, .pick (.t 13) (.t 15) (.c (Value.bool false)), some (6, false), [13, 15]⟩,
  ⟨some 17, .pick (.t 10) (.c (Value.bool true)) (.t 16), none, [10, 16]⟩,
  ⟨some 3, .assign (.t 17), none, [17]⟩] none [0, 3])
 (.cond [0] (.t 3) (.seq (.reg 2 [⟨some 2, .assign (.c (Value.int IntKind.u8 1)), none, []⟩] none [2])
 .ret) (.seq (.reg 3 [⟨some 19, .move (.t 0), none, []⟩,
  ⟨some 20, .bin .geq 5 (.t 19) (.c (Value.int IntKind.u8 48)) 5, none, [19]⟩,
  ⟨some 21, .move (.t 20), none, [20]⟩,
  ⟨some 22, .move (.t 0), some (2, true), []⟩,
  ⟨some 23, .bin .leq 5 (.t 22) (.c (Value.int IntKind.u8 57)) 5, some (2, true), [22]⟩,
  ⟨some 24, .pick (.t 21) (.t 23) (.c (Value.bool false)), none, [21, 23]⟩,
  ⟨some 18, .assign (.t 24), none, [24]⟩] none [0, 18])
 (.cond [0] (.t 18) (.seq (.reg 4 [⟨some 2, .assign (.c (Value.int IntKind.u8 2)), none, []⟩] none [2])
 .ret) (.seq (.reg 5 [⟨some 26, .move (.t 0), none, []⟩,
  ⟨some 27, .bin .gtr 5 (.t 26) (.c (Value.int IntKind.u8 127)) 5, none, [26]⟩,
  ⟨some 25, .assign (.t 27), none, [27]⟩] none [0, 25])
 (.cond [0] (.t 25) (.seq (.reg 6 [⟨some 2, .assign (.c (Value.int IntKind.u8 0)), none, []⟩] none [2])
 .ret) .skip)))))))
 k0_scan_of))
def a_scan_of : AFunc := ⟨31, [.tmp 2], b_scan_of⟩

def j0_scan_hex : IR :=
 (.seq (.reg 7 [⟨some 2, .assign (.c (Value.int IntKind.u8 0)), none, []⟩,
  ⟨some 3, .assign (.c (Value.bool false)), none, []⟩] none [2, 3])
 .ret)
def k0_scan_hex : IR := .tail [] j0_scan_hex
def b_scan_hex : IR :=
 (.seq (.reg 0 [⟨some 2, .assign (.c (Value.int IntKind.u8 0)), none, [2]⟩,
  ⟨some 3, .assign (.c (Value.bool false)), none, [3]⟩] none [0])
 (.seq (.block 0 (.seq (.reg 1 [⟨some 5, .move (.t 0), none, []⟩,
  ⟨some 6, .bin .geq 5 (.t 5) (.c (Value.int IntKind.u8 48)) 5, none, [5]⟩,
  ⟨some 7, .move (.t 6), none, [6]⟩,
  ⟨some 8, .move (.t 0), some (2, true), []⟩,
  ⟨some 9, .bin .leq 5 (.t 8) (.c (Value.int IntKind.u8 57)) 5, some (2, true), [8]⟩,
  ⟨some 10, .pick (.t 7) (.t 9) (.c (Value.bool false)), none, [7, 9]⟩,
  ⟨some 4, .assign (.t 10), none, [10]⟩] none [0, 4])
 (.cond [0] (.t 4) (.seq (.reg 2 [⟨some 11, .move (.t 0), none, [0]⟩,
  ⟨some 12, .bin .sub 5 (.t 11) (.c (Value.int IntKind.u8 48)) 5, none, [11]⟩,
  ⟨some 2, .assign (.t 12), none, [12]⟩,
  ⟨some 3, .assign (.c (Value.bool true)), none, []⟩] none [2, 3])
 .ret) (.seq (.reg 3 [⟨some 14, .move (.t 0), none, []⟩,
  ⟨some 15, .bin .geq 5 (.t 14) (.c (Value.int IntKind.u8 97)) 5, none, [14]⟩,
  ⟨some 16, .move (.t 15), none, [15]⟩,
  ⟨some 17, .move (.t 0), some (2, true), []⟩,
  ⟨some 18, .bin .leq 5 (.t 17) (.c (Value.int IntKind.u8 102)) 5, some (2, true), [17]⟩,
  ⟨some 19, .pick (.t 16) (.t 18) (.c (Value.bool false)), none, [16, 18]⟩,
  ⟨some 13, .assign (.t 19), none, [19]⟩] none [0, 13])
 (.cond [0] (.t 13) (.seq (.reg 4 [⟨some 20, .move (.t 0), none, [0]⟩,
  ⟨some 21, .bin .sub 5 (.t 20) (.c (Value.int IntKind.u8 97)) 5, none, [20]⟩,
  ⟨some 22, .bin .add 5 (.t 21) (.c (Value.int IntKind.u8 10)) 5, none, [21]⟩,
  ⟨some 2, .assign (.t 22), none, [22]⟩,
  ⟨some 3, .assign (.c (Value.bool true)), none, []⟩] none [2, 3])
 .ret) (.seq (.reg 5 [⟨some 24, .move (.t 0), none, []⟩,
  ⟨some 25, .bin .geq 5 (.t 24) (.c (Value.int IntKind.u8 65)) 5, none, [24]⟩,
  ⟨some 26, .move (.t 25), none, [25]⟩,
  ⟨some 27, .move (.t 0), some (2, true), []⟩,
  ⟨some 28, .bin .leq 5 (.t 27) (.c (Value.int IntKind.u8 70)) 5, some (2, true), [27]⟩,
  ⟨some 29, .pick (.t 26) (.t 28) (.c (Value.bool false)), none, [26, 28]⟩,
  ⟨some 23, .assign (.t 29), none, [29]⟩] none [0, 23])
 (.cond [0] (.t 23) (.seq (.reg 6 [⟨some 30, .move (.t 0), none, [0]⟩,
  ⟨some 31, .bin .sub 5 (.t 30) (.c (Value.int IntKind.u8 65)) 5, none, [30]⟩,
  ⟨some 32, .bin .add 5 (.t 31) (.c (Value.int IntKind.u8 10)) 5, none, [31]⟩,
  ⟨some 2, .assign (.t 32), none, [32]⟩,
  ⟨some 3, .assign (.c (Value.bool true)), none, []⟩] none [2, 3])
 .ret) .skip)))))))
 k0_scan_hex))
def a_scan_hex : AFunc := ⟨33, [.tmp 2, .tmp 3], b_scan_hex⟩

def j0_scan_escape : IR :=
 (.reg 21 [⟨some 63, .move (.t 7), none, []⟩,
  ⟨some 64, .bin .shl 5 (.t 63) (.c (Value.int IntKind.u64 4)) 57, none, [63]⟩,
  ⟨some 65, .move (.t 9), none, [9]⟩,
  ⟨some 66, .bin .or 5 (.t 64) (.t 65) 5, none, [64, 65]⟩,
  ⟨some 7, .assign (.t 66), none, [66]⟩] none [0, 1, 7, 8])
def k0_scan_escape : IR := .tail [0, 1, 7, 8, 9] j0_scan_escape
def j1_scan_escape : IR :=
 (.seq (.reg 18 [⟨some 50, .move (.t 0), none, []⟩,
  ⟨some 51, .move (.t 1), none, []⟩,
  ⟨some 52, .move (.t 8), none, []⟩,
  ⟨some 53, .bin .add 3 (.t 51) (.t 52) 3, none, [51, 52]⟩,
  ⟨some 54, .index 9 .str none (.t 50) (.t 53), none, [50, 53]⟩,
  ⟨some 55, .call n_scan_hex [(.t 54)] [5], none, [54]⟩,
  ⟨some 49, .move (.t 55), none, [55]⟩,
  ⟨some 56, .extr (.t 49) 0, none, []⟩,
  ⟨some 57, .extr (.t 49) 1, none, [49]⟩,
  ⟨some 9, .assign (.t 56), none, [56]⟩,
  ⟨some 10, .assign (.t 57), none, [57]⟩] none [0, 1, 7, 8, 9, 10])
 (.seq (.seq (.reg 19 [⟨some 58, .move (.t 10), none, [10]⟩,
  ⟨some 59, .un .not 4 (.t 58), none, [58]⟩] none [0, 1, 7, 8, 9, 59])
 (.cond [0, 1, 7, 8, 9] (.t 59) (.seq (.reg 20 [⟨some 60, .move (.t 1), none, [1]⟩,
  ⟨some 61, .move (.t 8), none, [8]⟩,
  ⟨some 62, .bin .add 3 (.t 60) (.t 61) 3, none, [60, 61]⟩,
  ⟨some 4, .assign (.c (Value.int IntKind.u8 0)), none, []⟩,
  ⟨some 5, .assign (.t 62), none, [62]⟩,
  ⟨some 6, .assign (.c (Value.bool false)), none, []⟩] none [4, 5, 6])
 .ret) .skip))
 k0_scan_escape))
def k1_scan_escape : IR := .tail [0, 1, 7, 8] j1_scan_escape
def j2_scan_escape : IR :=
 (.reg 15 [⟨some 39, .move (.t 8), none, []⟩,
  ⟨some 40, .bin .add 3 (.t 39) (.c (Value.int IntKind.i64 1)) 3, none, [39]⟩,
  ⟨some 8, .assign (.t 40), none, [40]⟩] none [0, 1, 7, 8])
def k2_scan_escape : IR := .tail [0, 1, 7, 8] j2_scan_escape
def j3_scan_escape : IR :=
 (.seq (.block 2 (.seq (.seq (.reg 16 [⟨some 41, .move (.t 1), none, []⟩,
  ⟨some 42, .move (.t 8), none, []⟩,
  ⟨some 43, .bin .add 3 (.t 41) (.t 42) 3, none, [41, 42]⟩,
  ⟨some 44, .move (.t 0), none, []⟩,
  ⟨some 45, .len 9 true (.t 44), none, [44]⟩,
  ⟨some 46, .bin .geq 3 (.t 43) (.t 45) 3, none, [43, 45]⟩] none [0, 1, 7, 8, 46])
 (.cond [0, 1, 7, 8] (.t 46) (.seq (.reg 17 [⟨some 47, .move (.t 0), none, [0]⟩,
  ⟨some 48, .len 9 true (.t 47), none, [47]⟩,
  ⟨some 4, .assign (.c (Value.int IntKind.u8 0)), none, []⟩,
  ⟨some 5, .assign (.t 48), none, [48]⟩,
  ⟨some 6, .assign (.c (Value.bool false)), none, []⟩] none [4, 5, 6])
 .ret) .skip))
 k1_scan_escape))
 k2_scan_escape)
def k3_scan_escape : IR := .tail [0, 1, 7, 8] j3_scan_escape
def w0_scan_escape : IR :=
 (.seq (.seq (.reg 14 [⟨some 37, .move (.t 8), none, []⟩,
  ⟨some 38, .bin .lss 3 (.t 37) (.c (Value.int IntKind.i64 3)) 3, none, [37]⟩] none [0, 1, 7, 8, 38])
 (.cond [0, 1, 7, 8] (.t 38) .skip (.exit 1)))
 k3_scan_escape)
def l0_scan_escape : IR := .loop [0, 1, 7, 8] w0_scan_escape
def j4_scan_escape : IR :=
 (.seq (.reg 22 [⟨some 67, .move (.t 7), none, [7]⟩,
  ⟨some 68, .move (.t 1), none, [1]⟩,
  ⟨some 69, .bin .add 3 (.t 68) (.c (Value.int IntKind.i64 3)) 3, none, [68]⟩,
  ⟨some 4, .assign (.t 67), none, [67]⟩,
  ⟨some 5, .assign (.t 69), none, [69]⟩,
  ⟨some 6, .assign (.c (Value.bool true)), none, []⟩] none [4, 5, 6])
 .ret)
def k4_scan_escape : IR := .tail [1, 7] j4_scan_escape
def j5_scan_escape : IR :=
 (.cond [0, 1, 18] (.t 19) (.seq (.reg 6 [⟨some 22, .move (.t 0), none, [0]⟩,
  ⟨some 23, .move (.t 1), none, []⟩,
  ⟨some 24, .index 9 .str none (.t 22) (.t 23), none, [22, 23]⟩,
  ⟨some 25, .move (.t 1), none, [1]⟩,
  ⟨some 26, .bin .add 3 (.t 25) (.c (Value.int IntKind.i64 1)) 3, none, [25]⟩,
  ⟨some 4, .assign (.t 24), none, [24]⟩,
  ⟨some 5, .assign (.t 26), none, [26]⟩,
  ⟨some 6, .assign (.c (Value.bool true)), none, []⟩] none [4, 5, 6])
 .ret) (.seq (.reg 7 [⟨some 28, .bin .eql 5 (.t 18) (.c (Value.int IntKind.u8 110)) 5, none, []⟩,
  ⟨some 27, .assign (.t 28), none, [28]⟩] none [0, 1, 18, 27])
 (.cond [0, 1, 18] (.t 27) (.seq (.reg 8 [⟨some 29, .move (.t 1), none, [1]⟩,
  ⟨some 30, .bin .add 3 (.t 29) (.c (Value.int IntKind.i64 1)) 3, none, [29]⟩,
  ⟨some 4, .assign (.c (Value.int IntKind.u8 10)), none, []⟩,
  ⟨some 5, .assign (.t 30), none, [30]⟩,
  ⟨some 6, .assign (.c (Value.bool true)), none, []⟩] none [4, 5, 6])
 .ret) (.seq (.reg 9 [⟨some 32, .bin .eql 5 (.t 18) (.c (Value.int IntKind.u8 116)) 5, none, []⟩,
  ⟨some 31, .assign (.t 32), none, [32]⟩] none [0, 1, 18, 31])
 (.cond [0, 1, 18] (.t 31) (.seq (.reg 10 [⟨some 33, .move (.t 1), none, [1]⟩,
  ⟨some 34, .bin .add 3 (.t 33) (.c (Value.int IntKind.i64 1)) 3, none, [33]⟩,
  ⟨some 4, .assign (.c (Value.int IntKind.u8 9)), none, []⟩,
  ⟨some 5, .assign (.t 34), none, [34]⟩,
  ⟨some 6, .assign (.c (Value.bool true)), none, []⟩] none [4, 5, 6])
 .ret) (.seq (.reg 11 [⟨some 36, .bin .eql 5 (.t 18) (.c (Value.int IntKind.u8 120)) 5, none, [18]⟩,
  ⟨some 35, .assign (.t 36), none, [36]⟩] none [0, 1, 35])
 (.cond [0, 1] (.t 35) (.seq (.reg 12 [⟨some 7, .assign (.c (Value.int IntKind.u8 0)), none, []⟩] none [0, 1, 7])
 (.seq (.seq (.reg 13 [⟨some 8, .assign (.c (Value.int IntKind.i64 1)), none, []⟩] none [0, 1, 7, 8])
 (.block 1 l0_scan_escape))
 k4_scan_escape)) .skip)))))))
def k5_scan_escape : IR := .tail [0, 1, 18, 19] j5_scan_escape
def j6_scan_escape : IR :=
 (.seq (.reg 23 [⟨some 70, .move (.t 1), none, [1]⟩,
  ⟨some 4, .assign (.c (Value.int IntKind.u8 0)), none, []⟩,
  ⟨some 5, .assign (.t 70), none, [70]⟩,
  ⟨some 6, .assign (.c (Value.bool false)), none, []⟩] none [4, 5, 6])
 .ret)
def k6_scan_escape : IR := .tail [1] j6_scan_escape
def j7_scan_escape : IR :=
 (.seq (.seq (.reg 3 [⟨some 16, .move (.t 0), none, []⟩,
  ⟨some 17, .move (.t 1), none, []⟩,
  ⟨some 18, .index 9 .str none (.t 16) (.t 17), none, [16, 17]⟩] none [0, 1, 18])
 (.block 0 (.seq (.seq (.reg 4 [⟨some 20, .bin .eql 5 (.t 18) (.c (Value.int IntKind.u8 34)) 5, none, []⟩,
  ⟨some 19, .assign (.t 20), none, [20]⟩] none [0, 1, 18, 19])
 (.cond [0, 1, 18, 19] (.t 19) .skip (.reg 5 [⟨some 21, .bin .eql 5 (.t 18) (.c (Value.int IntKind.u8 92)) 5, none, []⟩,
  ⟨some 19, .assign (.t 21), none, [21]⟩] none [0, 1, 18, 19])))
 k5_scan_escape)))
 k6_scan_escape)
def k7_scan_escape : IR := .tail [0, 1] j7_scan_escape
def b_scan_escape : IR :=
 (.seq (.reg 0 [⟨some 4, .assign (.c (Value.int IntKind.u8 0)), none, [4]⟩,
  ⟨some 5, .assign (.c (Value.int IntKind.i64 0)), none, [5]⟩,
  ⟨some 6, .assign (.c (Value.bool false)), none, [6]⟩] none [0, 1])
 (.seq (.seq (.reg 1 [⟨some 11, .move (.t 1), none, []⟩,
  ⟨some 12, .move (.t 0), none, []⟩,
  ⟨some 13, .len 9 true (.t 12), none, [12]⟩,
  ⟨some 14, .bin .geq 3 (.t 11) (.t 13) 3, none, [11, 13]⟩] none [0, 1, 14])
 (.cond [0, 1] (.t 14) (.seq (.reg 2 [⟨some 15, .move (.t 1), none, [1]⟩,
  ⟨some 4, .assign (.c (Value.int IntKind.u8 0)), none, []⟩,
  ⟨some 5, .assign (.t 15), none, [15]⟩,
  ⟨some 6, .assign (.c (Value.bool false)), none, []⟩] none [4, 5, 6])
 .ret) .skip))
 k7_scan_escape))
def a_scan_escape : AFunc := ⟨71, [.tmp 4, .tmp 5, .tmp 6], b_scan_escape⟩

def j0_scan_text : IR :=
 (.seq (.reg 13 [⟨some 50, .move (.t 8), none, []⟩,
  ⟨some 51, .move (.t 11), none, [11]⟩,
  ⟨some 52, .lit 56 1 [(.t 51)], none, [51]⟩,
  ⟨some 53, .append 56 56 false 1 1 (.t 50) (.t 52), none, [50, 52]⟩,
  ⟨some 8, .assign (.t 53), none, []⟩] none [0, 8, 12, 28, 53])
 (.reg 14 [⟨some 54, .move (.t 12), none, [12]⟩,
  ⟨some 55, .bin .sub 3 (.t 54) (.c (Value.int IntKind.i64 1)) 3, none, [54]⟩,
  ⟨some 9, .assign (.t 55), none, [55]⟩] none [0, 8, 9, 28, 53]))
def k0_scan_text : IR := .tail [0, 8, 11, 12, 28, 53] j0_scan_text
def j1_scan_text : IR :=
 (.reg 4 [⟨some 20, .move (.t 9), none, []⟩,
  ⟨some 21, .bin .add 3 (.t 20) (.c (Value.int IntKind.i64 1)) 3, none, [20]⟩,
  ⟨some 9, .assign (.t 21), none, [21]⟩] none [0, 8, 9, 28, 53])
def k1_scan_text : IR := .tail [0, 8, 9, 28, 53] j1_scan_text
def j2_scan_text : IR :=
 (.seq (.block 1 (.seq (.reg 5 [⟨some 22, .move (.t 0), none, []⟩,
  ⟨some 23, .move (.t 9), none, []⟩,
  ⟨some 24, .index 9 .str none (.t 22) (.t 23), none, [22, 23]⟩,
  ⟨some 10, .assign (.t 24), none, [24]⟩] none [0, 8, 9, 10, 28, 53])
 (.block 2 (.seq (.reg 7 [⟨some 30, .move (.t 10), none, []⟩,
  ⟨some 31, .bin .eql 5 (.t 30) (.c (Value.int IntKind.u8 34)) 5, none, [30]⟩,
  ⟨some 29, .assign (.t 31), none, [31]⟩] none [0, 8, 9, 10, 28, 29, 53])
 (.cond [0, 8, 9, 10, 28, 53] (.t 29) (.seq (.reg 8 [⟨some 32, .move (.t 8), none, []⟩,
  ⟨some 33, .conv 56 9 .bytes (.t 32), none, [8, 28, 32, 53]⟩,
  ⟨some 34, .move (.t 9), none, [9]⟩,
  ⟨some 35, .bin .add 3 (.t 34) (.c (Value.int IntKind.i64 1)) 3, none, [34]⟩,
  ⟨some 4, .assign (.t 33), none, [33]⟩,
  ⟨some 5, .assign (.t 35), none, [35]⟩,
  ⟨some 6, .assign (.c (Value.int IntKind.i64 0)), none, []⟩,
  ⟨some 7, .assign (.c (Value.int IntKind.i64 0)), none, []⟩] none [4, 5, 6, 7])
 .ret) (.seq (.reg 9 [⟨some 37, .move (.t 10), none, []⟩,
  ⟨some 38, .bin .eql 5 (.t 37) (.c (Value.int IntKind.u8 92)) 5, none, [37]⟩,
  ⟨some 36, .assign (.t 38), none, [38]⟩] none [0, 8, 9, 10, 28, 36, 53])
 (.cond [0, 8, 9, 10, 28, 53] (.t 36) (.seq (.reg 10 [⟨some 40, .move (.t 0), none, []⟩,
  ⟨some 41, .move (.t 9), none, [9]⟩,
  ⟨some 42, .bin .add 3 (.t 41) (.c (Value.int IntKind.i64 1)) 3, none, [41]⟩,
  ⟨some 43, .call n_scan_escape [(.t 40), (.t 42)] [9, 3], none, [40, 42]⟩,
  ⟨some 39, .move (.t 43), none, [43]⟩,
  ⟨some 44, .extr (.t 39) 0, none, []⟩,
  ⟨some 45, .extr (.t 39) 1, none, []⟩,
  ⟨some 46, .extr (.t 39) 2, none, [39]⟩,
  ⟨some 11, .assign (.t 44), none, [44]⟩,
  ⟨some 12, .assign (.t 45), none, [45]⟩,
  ⟨some 13, .assign (.t 46), none, [46]⟩] none [0, 8, 11, 12, 13, 28, 53])
 (.seq (.seq (.reg 11 [⟨some 47, .move (.t 13), none, [13]⟩,
  ⟨some 48, .un .not 4 (.t 47), none, [47]⟩] none [0, 8, 11, 12, 28, 48, 53])
 (.cond [0, 8, 11, 12, 28, 53] (.t 48) (.seq (.reg 12 [⟨some 49, .move (.t 12), none, [12]⟩,
  ⟨some 4, .assign (.c (Value.string { data := #[] })), none, []⟩,
  ⟨some 5, .assign (.c (Value.int IntKind.i64 0)), none, []⟩,
  ⟨some 6, .assign (.c (Value.int IntKind.i64 31)), none, []⟩,
  ⟨some 7, .assign (.t 49), none, [49]⟩] none [4, 5, 6, 7])
 .ret) .skip))
 k0_scan_text)) (.seq (.reg 15 [⟨some 57, .move (.t 10), none, []⟩,
  ⟨some 58, .bin .lss 5 (.t 57) (.c (Value.int IntKind.u8 32)) 5, none, [57]⟩,
  ⟨some 59, .move (.t 58), none, [58]⟩,
  ⟨some 60, .move (.t 10), some (2, false), []⟩,
  ⟨some 61, .bin .eql 5 (.t 60) (.c (Value.int IntKind.u8 127)) 5, some (2, false), [60]⟩,
  ⟨some 62, .pick (.t 59) (.c (Value.bool true)) (.t 61), none, [59, 61]⟩,
  ⟨some 56, .assign (.t 62), none, [62]⟩] none [0, 8, 9, 10, 28, 53, 56])
 (.cond [0, 8, 9, 10, 28, 53] (.t 56) (.seq (.reg 16 [⟨some 63, .move (.t 9), none, [9]⟩,
  ⟨some 4, .assign (.c (Value.string { data := #[] })), none, []⟩,
  ⟨some 5, .assign (.c (Value.int IntKind.i64 0)), none, []⟩,
  ⟨some 6, .assign (.c (Value.int IntKind.i64 31)), none, []⟩,
  ⟨some 7, .assign (.t 63), none, [63]⟩] none [4, 5, 6, 7])
 .ret) (.reg 6 [⟨some 25, .move (.t 8), none, []⟩,
  ⟨some 26, .move (.t 10), none, [10]⟩,
  ⟨some 27, .lit 56 1 [(.t 26)], none, [26]⟩,
  ⟨some 28, .append 56 56 false 1 1 (.t 25) (.t 27), none, [25, 27]⟩,
  ⟨some 8, .assign (.t 28), none, []⟩] none [0, 8, 9, 28, 53]))))))))))
 k1_scan_text)
def k2_scan_text : IR := .tail [0, 8, 9, 28, 53] j2_scan_text
def w0_scan_text : IR :=
 (.seq (.seq (.reg 3 [⟨some 16, .move (.t 9), none, []⟩,
  ⟨some 17, .move (.t 0), none, []⟩,
  ⟨some 18, .len 9 true (.t 17), none, [17]⟩,
  ⟨some 19, .bin .lss 3 (.t 16) (.t 18) 3, none, [16, 18]⟩] none [0, 8, 9, 19, 28, 53])
 (.cond [0, 8, 9, 28, 53] (.t 19) .skip (.exit 0)))
 k2_scan_text)
def l0_scan_text : IR := .loop [0, 8, 9, 28, 53] w0_scan_text
def j3_scan_text : IR :=
 (.seq (.reg 17 [⟨some 64, .move (.t 0), none, [0]⟩,
  ⟨some 65, .len 9 true (.t 64), none, [64]⟩,
  ⟨some 4, .assign (.c (Value.string { data := #[] })), none, []⟩,
  ⟨some 5, .assign (.c (Value.int IntKind.i64 0)), none, []⟩,
  ⟨some 6, .assign (.c (Value.int IntKind.i64 31)), none, []⟩,
  ⟨some 7, .assign (.t 65), none, [65]⟩] none [4, 5, 6, 7])
 .ret)
def k3_scan_text : IR := .tail [0] j3_scan_text
def b_scan_text : IR :=
 (.seq (.reg 0 [⟨some 4, .assign (.c (Value.string { data := #[] })), none, [4]⟩,
  ⟨some 5, .assign (.c (Value.int IntKind.i64 0)), none, [5]⟩,
  ⟨some 6, .assign (.c (Value.int IntKind.i64 0)), none, [6]⟩,
  ⟨some 7, .assign (.c (Value.int IntKind.i64 0)), none, [7]⟩] none [0, 1])
 (.seq (.reg 1 [⟨some 8, .assign (.nilS 1), none, []⟩] none [0, 1, 8, 28, 53])
 (.seq (.seq (.reg 2 [⟨some 14, .move (.t 1), none, [1]⟩,
  ⟨some 15, .bin .add 3 (.t 14) (.c (Value.int IntKind.i64 1)) 3, none, [14]⟩,
  ⟨some 9, .assign (.t 15), none, [15]⟩] none [0, 8, 9, 28, 53])
 (.block 0 l0_scan_text))
 k3_scan_text)))
def a_scan_text : AFunc := ⟨66, [.tmp 4, .tmp 5, .tmp 6, .tmp 7], b_scan_text⟩

def j0_scan_one : IR :=
 (.seq (.reg 10 [⟨some 48, .move (.t 12), none, [12]⟩,
  ⟨some 49, .move (.t 1), none, [1]⟩,
  ⟨some 50, .build 36 [(0, 1), (1, 1), (2, 1)] [.v (.int .u8 0), .v (.string ⟨#[]⟩), .v (.int .i64 0)] [(0, (.c (Value.int IntKind.u8 3))), (1, (.t 48)), (2, (.t 49))], none, [48, 49]⟩,
  ⟨some 51, .move (.t 13), none, [13]⟩,
  ⟨some 52, .move (.t 14), none, [14]⟩,
  ⟨some 53, .move (.t 15), none, [15]⟩,
  ⟨none, .store 36 (some 3) (.t 4) (.t 50), none, [50]⟩,
  ⟨some 5, .assign (.t 51), none, [51]⟩,
  ⟨some 6, .assign (.t 52), none, [52]⟩,
  ⟨some 7, .assign (.t 53), none, [53]⟩] none [4, 5, 6, 7])
 .ret)
def k0_scan_one : IR := .tail [1, 4, 12, 13, 14, 15] j0_scan_one
def j1_scan_one : IR :=
 (.block 2 (.reg 14 [⟨some 77, .move (.t 9), none, []⟩,
  ⟨some 78, .bin .add 3 (.t 77) (.c (Value.int IntKind.i64 1)) 3, none, [77]⟩,
  ⟨some 9, .assign (.t 78), none, [78]⟩] none [0, 1, 4, 8, 9, 10]))
def k1_scan_one : IR := .tail [0, 1, 4, 8, 9, 10] j1_scan_one
def w0_scan_one : IR :=
 (.seq (.seq (.reg 13 [⟨some 58, .move (.t 9), none, []⟩,
  ⟨some 59, .move (.t 0), none, []⟩,
  ⟨some 60, .len 9 true (.t 59), none, [59]⟩,
  ⟨some 61, .bin .lss 3 (.t 58) (.t 60) 3, none, [58, 60]⟩,
  ⟨some 62, .move (.t 61), none, [61]⟩,
  ⟨some 63, .move (.t 0), some (4, true), []⟩,
  ⟨some 64, .move (.t 9), some (4, true), []⟩,
  ⟨some 65, .index 9 .str none (.t 63) (.t 64), some (4, true), [63, 64]⟩,
  ⟨some 66, .call n_scan_of [(.t 65)] [5], some (4, true), [65]⟩,
  ⟨some 67, .move (.t 10), some (4, true), []⟩,
  ⟨some 68, .bin .and 49 (.t 66) (.t 67) 49, some (4, true), [66, 67]⟩,
  ⟨some 69, .bin .neq 49 (.t 68) (.c (Value.int IntKind.u8 0)) 49, some (4, true), [68]⟩,
  ⟨some 70, .move (.t 69), some (4, true), [69]⟩,
  ⟨some 71, .move (.t 0), some (12, false), []⟩,
  ⟨some 72, .move (.t 9), some (12, false), []⟩,
  ⟨some 73, .index 9 .str none (.t 71) (.t 72), some (12, false), [71, 72]⟩,
  ⟨some 74, .bin .eql 5 (.t 73) (.c (Value.int IntKind.u8 45)) 5, some (12, false), [73]⟩,
  ⟨some 75, .pick (.t 70) (.c (Value.bool true)) (.t 74), some (4, true), [70, 74]⟩,
  ⟨some 76, .pick (.t 62) (.t 75) (.c (Value.bool false)), none, [62, 75]⟩] none [0, 1, 4, 8, 9, 10, 76])
 (.cond [0, 1, 4, 8, 9, 10] (.t 76) .skip (.exit 1)))
 k1_scan_one)
def l0_scan_one : IR := .loop [0, 1, 4, 8, 9, 10] w0_scan_one
def j2_scan_one : IR :=
 (.block 4 (.reg 18 [⟨some 98, .move (.t 9), none, []⟩,
  ⟨some 99, .bin .add 3 (.t 98) (.c (Value.int IntKind.i64 1)) 3, none, [98]⟩,
  ⟨some 9, .assign (.t 99), none, [99]⟩] none [0, 1, 4, 8, 9, 10]))
def k2_scan_one : IR := .tail [0, 1, 4, 8, 9, 10] j2_scan_one
def w1_scan_one : IR :=
 (.seq (.seq (.reg 17 [⟨some 84, .move (.t 9), none, []⟩,
  ⟨some 85, .move (.t 0), none, []⟩,
  ⟨some 86, .len 9 true (.t 85), none, [85]⟩,
  ⟨some 87, .bin .lss 3 (.t 84) (.t 86) 3, none, [84, 86]⟩,
  ⟨some 88, .move (.t 87), none, [87]⟩,
  ⟨some 89, .move (.t 0), some (4, true), []⟩,
  ⟨some 90, .move (.t 9), some (4, true), []⟩,
  ⟨some 91, .index 9 .str none (.t 89) (.t 90), some (4, true), [89, 90]⟩,
  ⟨some 92, .call n_scan_of [(.t 91)] [5], some (4, true), [91]⟩,
  ⟨some 93, .move (.t 10), some (4, true), []⟩,
  ⟨some 94, .bin .or 49 (.t 93) (.c (Value.int IntKind.u8 4)) 49, some (4, true), [93]⟩,
  ⟨some 95, .bin .and 49 (.t 92) (.t 94) 49, some (4, true), [92, 94]⟩,
  ⟨some 96, .bin .neq 49 (.t 95) (.c (Value.int IntKind.u8 0)) 49, some (4, true), [95]⟩,
  ⟨some 97, .pick (.t 88) (.t 96) (.c (Value.bool false)), none, [88, 96]⟩] none [0, 1, 4, 8, 9, 10, 97])
 (.cond [0, 1, 4, 8, 9, 10] (.t 97) .skip (.exit 3)))
 k2_scan_one)
def l1_scan_one : IR := .loop [0, 1, 4, 8, 9, 10] w1_scan_one
def j3_scan_one : IR :=
 (.seq (.reg 29 [⟨some 158, .load 36 (some 3) (.t 8), none, [8]⟩,
  ⟨some 159, .move (.t 9), none, [9]⟩,
  ⟨none, .store 36 (some 3) (.t 4) (.t 158), none, [158]⟩,
  ⟨some 5, .assign (.t 159), none, [159]⟩,
  ⟨some 6, .assign (.c (Value.int IntKind.i64 0)), none, []⟩,
  ⟨some 7, .assign (.c (Value.int IntKind.i64 0)), none, []⟩] none [4, 5, 6, 7])
 .ret)
def k3_scan_one : IR := .tail [4, 8, 9] j3_scan_one
def j4_scan_one : IR :=
 (.seq (.reg 26 [⟨some 147, .move (.t 0), none, [0]⟩,
  ⟨some 148, .move (.t 1), none, []⟩,
  ⟨some 149, .move (.t 9), none, []⟩,
  ⟨some 150, .slice 9 .str (.t 147) (some (.t 148)) (some (.t 149)) none, none, [147, 148, 149]⟩,
  ⟨some 151, .faddr 36 (.t 8) 1 1, none, []⟩,
  ⟨none, .store 9 none (.t 151) (.t 150), none, [150, 151]⟩] none [1, 4, 8, 9])
 (.seq (.seq (.reg 27 [⟨some 152, .faddr 36 (.t 8) 1 1, none, []⟩,
  ⟨some 153, .load 9 none (.t 152), none, [152]⟩,
  ⟨some 154, .len 9 true (.t 153), none, [153]⟩,
  ⟨some 155, .bin .gtr 3 (.t 154) (.c (Value.int IntKind.i64 65536)) 3, none, [154]⟩] none [1, 4, 8, 9, 155])
 (.cond [1, 4, 8, 9] (.t 155) (.seq (.reg 28 [⟨some 156, .load 36 (some 3) (.t 8), none, [8]⟩,
  ⟨some 157, .move (.t 1), none, [1]⟩,
  ⟨none, .store 36 (some 3) (.t 4) (.t 156), none, [156]⟩,
  ⟨some 5, .assign (.c (Value.int IntKind.i64 0)), none, []⟩,
  ⟨some 6, .assign (.c (Value.int IntKind.i64 4)), none, []⟩,
  ⟨some 7, .assign (.t 157), none, [157]⟩] none [4, 5, 6, 7])
 .ret) .skip))
 k3_scan_one))
def k4_scan_one : IR := .tail [0, 1, 4, 8, 9] j4_scan_one
def b_scan_one : IR :=
 (.seq (.reg 0 [⟨some 4, .alloc 36 [.v (.int .u8 0), .v (.string ⟨#[]⟩), .v (.int .i64 0)], none, []⟩,
  ⟨some 5, .assign (.c (Value.int IntKind.i64 0)), none, [5]⟩,
  ⟨some 6, .assign (.c (Value.int IntKind.i64 0)), none, [6]⟩,
  ⟨some 7, .assign (.c (Value.int IntKind.i64 0)), none, [7]⟩] none [0, 1, 4])
 (.seq (.reg 1 [⟨some 17, .move (.t 1), none, []⟩,
  ⟨some 18, .build 36 [(0, 1), (1, 1), (2, 1)] [.v (.int .u8 0), .v (.string ⟨#[]⟩), .v (.int .i64 0)] [(2, (.t 17))], none, [17]⟩,
  ⟨some 8, .alloc 36 [.v (.int .u8 0), .v (.string ⟨#[]⟩), .v (.int .i64 0)], none, []⟩,
  ⟨none, .store 36 (some 3) (.t 8) (.t 18), none, [18]⟩] none [0, 1, 4, 8])
 (.seq (.reg 2 [⟨some 19, .move (.t 1), none, []⟩,
  ⟨some 20, .bin .add 3 (.t 19) (.c (Value.int IntKind.i64 1)) 3, none, [19]⟩,
  ⟨some 9, .assign (.t 20), none, [20]⟩] none [0, 1, 4, 8, 9])
 (.seq (.reg 3 [⟨some 10, .assign (.c (Value.int IntKind.u8 11)), none, []⟩] none [0, 1, 4, 8, 9, 10])
 (.seq (.seq (.reg 4 [⟨some 21, .move (.t 0), none, []⟩,
  ⟨some 22, .move (.t 1), none, []⟩,
  ⟨some 23, .index 9 .str none (.t 21) (.t 22), none, [21, 22]⟩,
  ⟨some 24, .call n_scan_of [(.t 23)] [5], none, [23]⟩,
  ⟨some 11, .assign (.t 24), none, [24]⟩] none [0, 1, 4, 8, 9, 10, 11])
 (.block 0 (.seq (.reg 6 [⟨some 28, .move (.t 0), none, []⟩,
  ⟨some 29, .move (.t 1), none, []⟩,
  ⟨some 30, .index 9 .str none (.t 28) (.t 29), none, [28, 29]⟩,
  ⟨some 31, .bin .eql 5 (.t 30) (.c (Value.int IntKind.u8 34)) 5, none, [30]⟩,
  ⟨some 27, .assign (.t 31), none, [31]⟩] none [0, 1, 4, 8, 9, 10, 11, 27])
 (.cond [0, 1, 4, 8, 9, 10, 11] (.t 27) (.seq (.reg 7 [⟨some 33, .move (.t 0), none, [0]⟩,
  ⟨some 34, .move (.t 1), none, []⟩,
  ⟨some 35, .call n_scan_text [(.t 33), (.t 34)] [9, 3], none, [33, 34]⟩,
  ⟨some 32, .move (.t 35), none, [35]⟩,
  ⟨some 36, .extr (.t 32) 0, none, []⟩,
  ⟨some 37, .extr (.t 32) 1, none, []⟩,
  ⟨some 38, .extr (.t 32) 2, none, []⟩,
  ⟨some 39, .extr (.t 32) 3, none, [32]⟩,
  ⟨some 12, .assign (.t 36), none, [36]⟩,
  ⟨some 13, .assign (.t 37), none, [37]⟩,
  ⟨some 14, .assign (.t 38), none, [38]⟩,
  ⟨some 15, .assign (.t 39), none, [39]⟩] none [1, 4, 12, 13, 14, 15])
 (.seq (.seq (.reg 8 [⟨some 40, .move (.t 14), none, []⟩,
  ⟨some 41, .bin .eql 28 (.t 40) (.c (Value.int IntKind.i64 0)) 28, none, [40]⟩,
  ⟨some 42, .move (.t 41), none, [41]⟩,
  ⟨some 43, .move (.t 12), some (2, true), []⟩,
  ⟨some 44, .len 9 true (.t 43), some (2, true), [43]⟩,
  ⟨some 45, .bin .gtr 3 (.t 44) (.c (Value.int IntKind.i64 65536)) 3, some (2, true), [44]⟩,
  ⟨some 46, .pick (.t 42) (.t 45) (.c (Value.bool false)), none, [42, 45]⟩] none [1, 4, 12, 13, 14, 15, 46])
 (.cond [1, 4, 12, 13, 14, 15] (.t 46) (.reg 9 [⟨some 47, .move (.t 1), none, []⟩,
  ⟨some 14, .assign (.c (Value.int IntKind.i64 4)), none, []⟩,
  ⟨some 15, .assign (.t 47), none, [47]⟩] none [1, 4, 12, 13, 14, 15]) .skip))
 k0_scan_one)) (.seq (.reg 11 [⟨some 55, .move (.t 11), none, []⟩,
  ⟨some 56, .bin .eql 49 (.t 55) (.c (Value.int IntKind.u8 1)) 49, none, [55]⟩,
  ⟨some 54, .assign (.t 56), none, [56]⟩] none [0, 1, 4, 8, 9, 10, 11, 54])
 (.cond [0, 1, 4, 8, 9, 10, 11] (.t 54) (.seq (.reg 12 [⟨some 57, .faddr 36 (.t 8) 0 0, none, []⟩,
  ⟨none, .store 34 none (.t 57) (.c (Value.int IntKind.u8 1)), none, [57]⟩] none [0, 1, 4, 8, 9, 10])
 (.block 1 l0_scan_one)) (.seq (.reg 15 [⟨some 80, .move (.t 11), none, []⟩,
  ⟨some 81, .bin .and 49 (.t 80) (.c (Value.int IntKind.u8 14)) 49, none, [80]⟩,
  ⟨some 82, .bin .neq 49 (.t 81) (.c (Value.int IntKind.u8 0)) 49, none, [81]⟩,
  ⟨some 79, .assign (.t 82), none, [82]⟩] none [0, 1, 4, 8, 9, 10, 11, 79])
 (.cond [0, 1, 4, 8, 9, 10, 11] (.t 79) (.seq (.reg 16 [⟨some 83, .faddr 36 (.t 8) 0 0, none, []⟩,
  ⟨none, .store 34 none (.t 83) (.c (Value.int IntKind.u8 2)), none, [83]⟩] none [0, 1, 4, 8, 9, 10])
 (.block 3 l1_scan_one)) (.seq (.reg 19 [⟨some 101, .move (.t 11), none, [11]⟩,
  ⟨some 102, .bin .eql 49 (.t 101) (.c (Value.int IntKind.u8 16)) 49, none, [101]⟩,
  ⟨some 103, .move (.t 102), none, [102]⟩,
  ⟨some 104, .move (.t 0), some (2, false), []⟩,
  ⟨some 105, .move (.t 1), some (2, false), []⟩,
  ⟨some 106, .index 9 .str none (.t 104) (.t 105), some (2, false), [104, 105]⟩,
  ⟨some 107, .bin .eql 5 (.t 106) (.c (Value.int IntKind.u8 33)) 5, some (2, false), [106]⟩,
  ⟨some 108, .pick (.t 103) (.c (Value.bool true)) (.t 107), none, [103, 107]⟩,
  ⟨some 100, .assign (.t 108), none, [108]⟩] none [0, 1, 4, 8, 9, 100])
 (.cond [0, 1, 4, 8, 9] (.t 100) (.seq (.reg 20 [⟨some 109, .faddr 36 (.t 8) 0 0, none, []⟩,
  ⟨none, .store 34 none (.t 109) (.c (Value.int IntKind.u8 4)), none, [109]⟩] none [0, 1, 4, 8, 9])
 (.seq (.reg 21 [⟨some 110, .move (.t 9), none, []⟩,
  ⟨some 111, .move (.t 0), none, []⟩,
  ⟨some 112, .len 9 true (.t 111), none, [111]⟩,
  ⟨some 113, .bin .lss 3 (.t 110) (.t 112) 3, none, [110, 112]⟩,
  ⟨some 114, .move (.t 113), none, [113]⟩,
  ⟨some 115, .move (.t 0), some (4, true), []⟩,
  ⟨some 116, .move (.t 9), some (4, true), []⟩,
  ⟨some 117, .index 9 .str none (.t 115) (.t 116), some (4, true), [115, 116]⟩,
  ⟨some 118, .bin .eql 5 (.t 117) (.c (Value.int IntKind.u8 61)) 5, some (4, true), [117]⟩,
  ⟨some 119, .pick (.t 114) (.t 118) (.c (Value.bool false)), none, [114, 118]⟩,
  ⟨some 120, .move (.t 119), none, [119]⟩,
  ⟨some 121, .move (.t 0), some (10, true), []⟩,
  ⟨some 122, .move (.t 1), some (10, true), []⟩,
  ⟨some 123, .index 9 .str none (.t 121) (.t 122), some (10, true), [121, 122]⟩,
  ⟨some 124, .bin .eql 5 (.t 123) (.c (Value.int IntKind.u8 60)) 5, some (10, true), [123]⟩,
  ⟨some 125, .move (.t 124), some (10, true), [124]⟩,
  ⟨some 126, .move (.t 0), some (15, false), []⟩,
  ⟨some 127, .move (.t 1), some (15, false), []⟩,
  ⟨some 128, .index 9 .str none (.t 126) (.t 127), some (15, false), [126, 127]⟩,
  ⟨some 129, .bin .eql 5 (.t 128) (.c (Value.int IntKind.u8 62)) 5, some (15, false), [128]⟩,
  ⟨some 130, .pick (.t 125) (.c (Value.bool true)) (.t 129), some (10, true), [125, 129]⟩,
  ⟨some 131, .move (.t 130), some (10, true), [130]⟩,
  ⟨some 132, .move (.t 0), some (21, false), []⟩,
  ⟨some 133, .move (.t 1), some (21, false), []⟩,
  ⟨some 134, .index 9 .str none (.t 132) (.t 133), some (21, false), [132, 133]⟩,
  ⟨some 135, .bin .eql 5 (.t 134) (.c (Value.int IntKind.u8 33)) 5, some (21, false), [134]⟩,
  ⟨some 136, .pick (.t 131) (.c (Value.bool true)) (.t 135), some (10, true), [131, 135]⟩,
  ⟨some 137, .pick (.t 120) (.t 136) (.c (Value.bool false)), none, [120, 136]⟩,
  ⟨some 16, .assign (.t 137), none, [137]⟩] none [0, 1, 4, 8, 9, 16])
 (.seq (.reg 22 [⟨some 138, .move (.t 16), none, [16]⟩] none [0, 1, 4, 8, 9, 138])
 (.cond [0, 1, 4, 8, 9] (.t 138) (.reg 23 [⟨some 139, .move (.t 9), none, []⟩,
  ⟨some 140, .bin .add 3 (.t 139) (.c (Value.int IntKind.i64 1)) 3, none, [139]⟩,
  ⟨some 9, .assign (.t 140), none, [140]⟩] none [0, 1, 4, 8, 9]) (.seq (.reg 24 [⟨some 141, .move (.t 0), none, []⟩,
  ⟨some 142, .move (.t 1), none, []⟩,
  ⟨some 143, .index 9 .str none (.t 141) (.t 142), none, [141, 142]⟩,
  ⟨some 144, .bin .eql 5 (.t 143) (.c (Value.int IntKind.u8 33)) 5, none, [143]⟩] none [0, 1, 4, 8, 9, 144])
 (.cond [0, 1, 4, 8, 9] (.t 144) (.seq (.reg 25 [⟨some 145, .load 36 (some 3) (.t 8), none, [8]⟩,
  ⟨some 146, .move (.t 1), none, [1]⟩,
  ⟨none, .store 36 (some 3) (.t 4) (.t 145), none, [145]⟩,
  ⟨some 5, .assign (.c (Value.int IntKind.i64 0)), none, []⟩,
  ⟨some 6, .assign (.c (Value.int IntKind.i64 30)), none, []⟩,
  ⟨some 7, .assign (.t 146), none, [146]⟩] none [4, 5, 6, 7])
 .ret) .skip)))))) (.seq (.reg 5 [⟨some 25, .load 36 (some 3) (.t 8), none, [8]⟩,
  ⟨some 26, .move (.t 1), none, [1]⟩,
  ⟨none, .store 36 (some 3) (.t 4) (.t 25), none, [25]⟩,
  ⟨some 5, .assign (.c (Value.int IntKind.i64 0)), none, []⟩,
  ⟨some 6, .assign (.c (Value.int IntKind.i64 30)), none, []⟩,
  ⟨some 7, .assign (.t 26), none, [26]⟩] none [4, 5, 6, 7])
 .ret)))))))))))
 k4_scan_one)))))
def a_scan_one : AFunc := ⟨160, [.cell 4 36 (some 3), .tmp 5, .tmp 6, .tmp 7], b_scan_one⟩

def j0_scan_Words : IR :=
 (.seq (.reg 9 [⟨some 40, .move (.t 5), none, []⟩,
  ⟨some 41, .load 36 (some 3) (.t 7), none, [7]⟩,
  ⟨some 42, .lit 27 3 [(.t 41)], none, [41]⟩,
  ⟨some 43, .append 27 27 false 3 32 (.t 40) (.t 42), none, [40, 42]⟩,
  ⟨some 5, .assign (.t 43), none, []⟩] none [0, 5, 8, 43])
 (.reg 10 [⟨some 44, .move (.t 8), none, [8]⟩,
  ⟨some 6, .assign (.t 44), none, [44]⟩] none [0, 5, 6, 43]))
def k0_scan_Words : IR := .tail [0, 5, 7, 8, 43] j0_scan_Words
def j1_scan_Words : IR :=
 (.seq (.reg 6 [⟨some 29, .move (.t 0), none, []⟩,
  ⟨some 30, .move (.t 6), none, [6]⟩,
  ⟨some 31, .call n_scan_one [(.t 29), (.t 30)] [9, 3], none, [29, 30]⟩,
  ⟨some 28, .move (.t 31), none, [31]⟩,
  ⟨some 32, .extr (.t 28) 0, none, []⟩,
  ⟨some 33, .extr (.t 28) 1, none, []⟩,
  ⟨some 34, .extr (.t 28) 2, none, []⟩,
  ⟨some 35, .extr (.t 28) 3, none, [28]⟩,
  ⟨some 7, .alloc 36 [.v (.int .u8 0), .v (.string ⟨#[]⟩), .v (.int .i64 0)], none, []⟩,
  ⟨none, .store 36 (some 3) (.t 7) (.t 32), none, [32]⟩,
  ⟨some 8, .assign (.t 33), none, [33]⟩,
  ⟨some 9, .assign (.t 34), none, [34]⟩,
  ⟨some 10, .assign (.t 35), none, [35]⟩] none [0, 5, 7, 8, 9, 10, 43])
 (.seq (.seq (.reg 7 [⟨some 36, .move (.t 9), none, []⟩,
  ⟨some 37, .bin .neq 28 (.t 36) (.c (Value.int IntKind.i64 0)) 28, none, [36]⟩] none [0, 5, 7, 8, 9, 10, 37, 43])
 (.cond [0, 5, 7, 8, 9, 10, 43] (.t 37) (.seq (.reg 8 [⟨some 38, .move (.t 9), none, [9]⟩,
  ⟨some 39, .move (.t 10), none, [10]⟩,
  ⟨some 2, .assign (.nilS 3), none, []⟩,
  ⟨some 3, .assign (.t 38), none, [38]⟩,
  ⟨some 4, .assign (.t 39), none, [39]⟩] none [2, 3, 4, 5, 43, 45])
 .ret) .skip))
 k0_scan_Words))
def k1_scan_Words : IR := .tail [0, 5, 6, 43] j1_scan_Words
def j2_scan_Words : IR :=
 (.block 1 (.seq (.seq (.reg 4 [⟨some 21, .move (.t 0), none, []⟩,
  ⟨some 22, .move (.t 6), none, []⟩,
  ⟨some 23, .index 9 .str none (.t 21) (.t 22), none, [21, 22]⟩,
  ⟨some 24, .call n_scan_of [(.t 23)] [5], none, [23]⟩,
  ⟨some 25, .bin .eql 49 (.t 24) (.c (Value.int IntKind.u8 32)) 49, none, [24]⟩] none [0, 5, 6, 25, 43])
 (.cond [0, 5, 6, 43] (.t 25) (.seq (.reg 5 [⟨some 26, .move (.t 6), none, []⟩,
  ⟨some 27, .bin .add 3 (.t 26) (.c (Value.int IntKind.i64 1)) 3, none, [26]⟩,
  ⟨some 6, .assign (.t 27), none, [27]⟩] none [0, 5, 6, 43])
 (.exit 1)) .skip))
 k1_scan_Words))
def k2_scan_Words : IR := .tail [0, 5, 6, 43] j2_scan_Words
def w0_scan_Words : IR :=
 (.seq (.seq (.reg 3 [⟨some 11, .move (.t 6), none, []⟩,
  ⟨some 12, .move (.t 0), none, []⟩,
  ⟨some 13, .len 9 true (.t 12), none, [12]⟩,
  ⟨some 14, .bin .lss 3 (.t 11) (.t 13) 3, none, [11, 13]⟩,
  ⟨some 15, .move (.t 14), none, [14]⟩,
  ⟨some 16, .move (.t 0), some (4, true), []⟩,
  ⟨some 17, .move (.t 6), some (4, true), []⟩,
  ⟨some 18, .index 9 .str none (.t 16) (.t 17), some (4, true), [16, 17]⟩,
  ⟨some 19, .bin .neq 5 (.t 18) (.c (Value.int IntKind.u8 35)) 5, some (4, true), [18]⟩,
  ⟨some 20, .pick (.t 15) (.t 19) (.c (Value.bool false)), none, [15, 19]⟩] none [0, 5, 6, 20, 43])
 (.cond [0, 5, 6, 43] (.t 20) .skip (.exit 0)))
 k2_scan_Words)
def l0_scan_Words : IR := .loop [0, 5, 6, 43] w0_scan_Words
def j3_scan_Words : IR :=
 (.seq (.reg 11 [⟨some 45, .move (.t 5), none, []⟩,
  ⟨some 2, .assign (.t 45), none, []⟩,
  ⟨some 3, .assign (.c (Value.int IntKind.i64 0)), none, []⟩,
  ⟨some 4, .assign (.c (Value.int IntKind.i64 0)), none, []⟩] none [2, 3, 4, 5, 43, 45])
 .ret)
def k3_scan_Words : IR := .tail [5, 43] j3_scan_Words
def b_scan_Words : IR :=
 (.seq (.reg 0 [⟨some 2, .assign (.nilS 3), none, [2]⟩,
  ⟨some 3, .assign (.c (Value.int IntKind.i64 0)), none, [3]⟩,
  ⟨some 4, .assign (.c (Value.int IntKind.i64 0)), none, [4]⟩] none [0])
 (.seq (.reg 1 [⟨some 5, .assign (.nilS 3), none, []⟩] none [0, 5, 43])
 (.seq (.reg 2 [⟨some 6, .assign (.c (Value.int IntKind.i64 0)), none, []⟩] none [0, 5, 6, 43])
 (.seq (.block 0 l0_scan_Words)
 k3_scan_Words))))
def a_scan_Words : AFunc := ⟨46, [.tmp 2, .tmp 3, .tmp 4], b_scan_Words⟩

def b_scan_badBy : IR :=
 (.seq (.reg 0 [⟨some 2, .assign (.c (Value.bool false)), none, [2]⟩] none [0])
 (.seq (.reg 1 [⟨some 3, .move (.t 0), none, []⟩,
  ⟨some 4, .bin .eql 5 (.t 3) (.c (Value.int IntKind.u8 34)) 5, none, [3]⟩,
  ⟨some 5, .move (.t 4), none, [4]⟩,
  ⟨some 6, .move (.t 0), some (2, false), []⟩,
  ⟨some 7, .bin .eql 5 (.t 6) (.c (Value.int IntKind.u8 10)) 5, some (2, false), [6]⟩,
  ⟨some 8, .pick (.t 5) (.c (Value.bool true)) (.t 7), none, [5, 7]⟩,
  ⟨some 9, .move (.t 8), none, [8]⟩,
  ⟨some 10, .move (.t 0), some (6, false), [0]⟩,
  ⟨some 11, .bin .eql 5 (.t 10) (.c (Value.int IntKind.u8 13)) 5, some (6, false), [10]⟩,
  ⟨some 12, .pick (.t 9) (.c (Value.bool true)) (.t 11), none, [9, 11]⟩,
  ⟨some 2, .assign (.t 12), none, [12]⟩] none [2])
 .ret))
def a_scan_badBy : AFunc := ⟨13, [.tmp 2], b_scan_badBy⟩

def j0_scan_Fields : IR :=
 (.reg 12 [⟨some 47, .move (.t 8), none, []⟩,
  ⟨some 48, .bin .add 3 (.t 47) (.c (Value.int IntKind.i64 1)) 3, none, [47]⟩,
  ⟨some 8, .assign (.t 48), none, [48]⟩] none [0, 1, 7, 8, 9, 54, 90, 95])
def k0_scan_Fields : IR := .tail [0, 1, 7, 8, 9, 54, 90, 95] j0_scan_Fields
def j1_scan_Fields : IR :=
 (.seq (.reg 13 [⟨some 49, .move (.t 9), none, []⟩,
  ⟨some 50, .move (.t 0), none, []⟩,
  ⟨some 51, .move (.t 8), none, []⟩,
  ⟨some 52, .index 9 .str none (.t 50) (.t 51), none, [50, 51]⟩,
  ⟨some 53, .lit 56 1 [(.t 52)], none, [52]⟩,
  ⟨some 54, .append 56 56 false 1 1 (.t 49) (.t 53), none, [49, 53]⟩,
  ⟨some 9, .assign (.t 54), none, []⟩] none [0, 1, 7, 8, 9, 54, 90, 95])
 (.reg 14 [⟨some 55, .move (.t 8), none, []⟩,
  ⟨some 56, .bin .add 3 (.t 55) (.c (Value.int IntKind.i64 1)) 3, none, [55]⟩,
  ⟨some 8, .assign (.t 56), none, [56]⟩] none [0, 1, 7, 8, 9, 54, 90, 95]))
def k1_scan_Fields : IR := .tail [0, 1, 7, 8, 9, 54, 90, 95] j1_scan_Fields
def j2_scan_Fields : IR :=
 (.seq (.seq (.reg 10 [⟨some 31, .move (.t 0), none, []⟩,
  ⟨some 32, .move (.t 8), none, []⟩,
  ⟨some 33, .index 9 .str none (.t 31) (.t 32), none, [31, 32]⟩,
  ⟨some 34, .bin .eql 5 (.t 33) (.c (Value.int IntKind.u8 34)) 5, none, [33]⟩] none [0, 1, 7, 8, 9, 34, 54, 90, 95])
 (.cond [0, 1, 7, 8, 9, 54, 90, 95] (.t 34) (.seq (.seq (.reg 11 [⟨some 35, .move (.t 8), none, []⟩,
  ⟨some 36, .bin .add 3 (.t 35) (.c (Value.int IntKind.i64 1)) 3, none, [35]⟩,
  ⟨some 37, .move (.t 0), none, []⟩,
  ⟨some 38, .len 9 true (.t 37), none, [37]⟩,
  ⟨some 39, .bin .geq 3 (.t 36) (.t 38) 3, none, [36, 38]⟩,
  ⟨some 40, .move (.t 39), none, [39]⟩,
  ⟨some 41, .move (.t 0), some (5, false), []⟩,
  ⟨some 42, .move (.t 8), some (5, false), []⟩,
  ⟨some 43, .bin .add 3 (.t 42) (.c (Value.int IntKind.i64 1)) 3, some (5, false), [42]⟩,
  ⟨some 44, .index 9 .str none (.t 41) (.t 43), some (5, false), [41, 43]⟩,
  ⟨some 45, .bin .neq 5 (.t 44) (.c (Value.int IntKind.u8 34)) 5, some (5, false), [44]⟩,
  ⟨some 46, .pick (.t 40) (.c (Value.bool true)) (.t 45), none, [40, 45]⟩] none [0, 1, 7, 8, 9, 46, 54, 90, 95])
 (.cond [0, 1, 7, 8, 9, 54, 90, 95] (.t 46) (.exit 2) .skip))
 k0_scan_Fields) .skip))
 k1_scan_Fields)
def k2_scan_Fields : IR := .tail [0, 1, 7, 8, 9, 54, 90, 95] j2_scan_Fields
def w1_scan_Fields : IR :=
 (.block 3 (.seq (.seq (.reg 8 [⟨some 25, .move (.t 8), none, []⟩,
  ⟨some 26, .move (.t 0), none, []⟩,
  ⟨some 27, .len 9 true (.t 26), none, [26]⟩,
  ⟨some 28, .bin .geq 3 (.t 25) (.t 27) 3, none, [25, 27]⟩] none [0, 1, 7, 8, 9, 28, 54, 90, 95])
 (.cond [0, 1, 7, 8, 9, 54, 90, 95] (.t 28) (.seq (.reg 9 [⟨some 29, .move (.t 0), none, [0]⟩,
  ⟨some 30, .len 9 true (.t 29), none, [29]⟩,
  ⟨some 4, .assign (.nilS 1), none, []⟩,
  ⟨some 5, .assign (.c (Value.int IntKind.i64 31)), none, []⟩,
  ⟨some 6, .assign (.t 30), none, [30]⟩] none [4, 5, 6, 7, 95, 100])
 .ret) .skip))
 k2_scan_Fields))
def l1_scan_Fields : IR := .loop [0, 1, 7, 8, 9, 54, 90, 95] w1_scan_Fields
def j3_scan_Fields : IR :=
 (.seq (.reg 15 [⟨some 57, .move (.t 8), none, []⟩,
  ⟨some 58, .bin .add 3 (.t 57) (.c (Value.int IntKind.i64 1)) 3, none, [57]⟩,
  ⟨some 8, .assign (.t 58), none, [58]⟩] none [0, 1, 7, 8, 9, 54, 90, 95])
 (.seq (.reg 16 [⟨some 59, .move (.t 8), none, []⟩,
  ⟨some 60, .move (.t 0), none, []⟩,
  ⟨some 61, .len 9 true (.t 60), none, [60]⟩,
  ⟨some 62, .bin .lss 3 (.t 59) (.t 61) 3, none, [59, 61]⟩,
  ⟨some 63, .move (.t 62), none, [62]⟩,
  ⟨some 64, .move (.t 0), some (4, true), []⟩,
  ⟨some 65, .move (.t 8), some (4, true), []⟩,
  ⟨some 66, .index 9 .str none (.t 64) (.t 65), some (4, true), [64, 65]⟩,
  ⟨some 67, .move (.t 1), some (4, true), []⟩,
  ⟨some 68, .bin .neq 5 (.t 66) (.t 67) 5, some (4, true), [66, 67]⟩,
  ⟨some 69, .pick (.t 63) (.t 68) (.c (Value.bool false)), none, [63, 68]⟩] none [0, 1, 7, 8, 9, 54, 69, 90, 95])
 (.cond [0, 1, 7, 8, 9, 54, 90, 95] (.t 69) (.seq (.reg 17 [⟨some 70, .move (.t 8), none, [8]⟩,
  ⟨some 4, .assign (.nilS 1), none, []⟩,
  ⟨some 5, .assign (.c (Value.int IntKind.i64 31)), none, []⟩,
  ⟨some 6, .assign (.t 70), none, [70]⟩] none [4, 5, 6, 7, 95, 100])
 .ret) .skip)))
def k3_scan_Fields : IR := .tail [0, 1, 7, 8, 9, 54, 90, 95] j3_scan_Fields
def j4_scan_Fields : IR :=
 (.block 5 (.reg 20 [⟨some 83, .move (.t 8), none, []⟩,
  ⟨some 84, .bin .add 3 (.t 83) (.c (Value.int IntKind.i64 1)) 3, none, [83]⟩,
  ⟨some 8, .assign (.t 84), none, [84]⟩] none [0, 1, 7, 8, 9, 10, 54, 90, 95]))
def k4_scan_Fields : IR := .tail [0, 1, 7, 8, 9, 10, 54, 90, 95] j4_scan_Fields
def w2_scan_Fields : IR :=
 (.seq (.seq (.reg 19 [⟨some 72, .move (.t 8), none, []⟩,
  ⟨some 73, .move (.t 0), none, []⟩,
  ⟨some 74, .len 9 true (.t 73), none, [73]⟩,
  ⟨some 75, .bin .lss 3 (.t 72) (.t 74) 3, none, [72, 74]⟩,
  ⟨some 76, .move (.t 75), none, [75]⟩,
  ⟨some 77, .move (.t 0), some (4, true), []⟩,
  ⟨some 78, .move (.t 8), some (4, true), []⟩,
  ⟨some 79, .index 9 .str none (.t 77) (.t 78), some (4, true), [77, 78]⟩,
  ⟨some 80, .move (.t 1), some (4, true), []⟩,
  ⟨some 81, .bin .neq 5 (.t 79) (.t 80) 5, some (4, true), [79, 80]⟩,
  ⟨some 82, .pick (.t 76) (.t 81) (.c (Value.bool false)), none, [76, 81]⟩] none [0, 1, 7, 8, 9, 10, 54, 82, 90, 95])
 (.cond [0, 1, 7, 8, 9, 10, 54, 90, 95] (.t 82) .skip (.exit 4)))
 k4_scan_Fields)
def l2_scan_Fields : IR := .loop [0, 1, 7, 8, 9, 10, 54, 90, 95] w2_scan_Fields
def j5_scan_Fields : IR :=
 (.reg 21 [⟨some 85, .move (.t 9), none, []⟩,
  ⟨some 86, .move (.t 0), none, []⟩,
  ⟨some 87, .move (.t 10), none, [10]⟩,
  ⟨some 88, .move (.t 8), none, []⟩,
  ⟨some 89, .slice 9 .str (.t 86) (some (.t 87)) (some (.t 88)) none, none, [86, 87, 88]⟩,
  ⟨some 90, .append 56 9 true 1 1 (.t 85) (.t 89), none, [85, 89]⟩,
  ⟨some 9, .assign (.t 90), none, []⟩] none [0, 1, 7, 8, 9, 54, 90, 95])
def k5_scan_Fields : IR := .tail [0, 1, 7, 8, 9, 10, 54, 90, 95] j5_scan_Fields
def j6_scan_Fields : IR :=
 (.reg 25 [⟨some 101, .move (.t 8), none, []⟩,
  ⟨some 102, .bin .add 3 (.t 101) (.c (Value.int IntKind.i64 1)) 3, none, [101]⟩,
  ⟨some 8, .assign (.t 102), none, [102]⟩] none [0, 1, 7, 8, 95])
def k6_scan_Fields : IR := .tail [0, 1, 7, 8, 95] j6_scan_Fields
def j7_scan_Fields : IR :=
 (.seq (.reg 22 [⟨some 91, .move (.t 7), none, []⟩,
  ⟨some 92, .move (.t 9), none, []⟩,
  ⟨some 93, .conv 56 9 .bytes (.t 92), none, [9, 54, 90, 92]⟩,
  ⟨some 94, .lit 37 1 [(.t 93)], none, [93]⟩,
  ⟨some 95, .append 37 37 false 1 16 (.t 91) (.t 94), none, [91, 94]⟩,
  ⟨some 7, .assign (.t 95), none, []⟩] none [0, 1, 7, 8, 95])
 (.seq (.seq (.reg 23 [⟨some 96, .move (.t 8), none, []⟩,
  ⟨some 97, .move (.t 0), none, []⟩,
  ⟨some 98, .len 9 true (.t 97), none, [97]⟩,
  ⟨some 99, .bin .eql 3 (.t 96) (.t 98) 3, none, [96, 98]⟩] none [0, 1, 7, 8, 95, 99])
 (.cond [0, 1, 7, 8, 95] (.t 99) (.seq (.reg 24 [⟨some 100, .move (.t 7), none, []⟩,
  ⟨some 4, .assign (.t 100), none, []⟩,
  ⟨some 5, .assign (.c (Value.int IntKind.i64 0)), none, []⟩,
  ⟨some 6, .assign (.c (Value.int IntKind.i64 0)), none, []⟩] none [4, 5, 6, 7, 95, 100])
 .ret) .skip))
 k6_scan_Fields))
def k7_scan_Fields : IR := .tail [0, 1, 7, 8, 9, 54, 90, 95] j7_scan_Fields
def w0_scan_Fields : IR :=
 (.block 1 (.seq (.reg 5 [⟨some 9, .assign (.nilS 1), none, []⟩] none [0, 1, 7, 8, 9, 54, 90, 95])
 (.seq (.seq (.reg 6 [⟨some 13, .move (.t 8), none, []⟩,
  ⟨some 14, .move (.t 0), none, []⟩,
  ⟨some 15, .len 9 true (.t 14), none, [14]⟩,
  ⟨some 16, .bin .lss 3 (.t 13) (.t 15) 3, none, [13, 15]⟩,
  ⟨some 17, .move (.t 16), none, [16]⟩,
  ⟨some 18, .move (.t 0), some (4, true), []⟩,
  ⟨some 19, .move (.t 8), some (4, true), []⟩,
  ⟨some 20, .index 9 .str none (.t 18) (.t 19), some (4, true), [18, 19]⟩,
  ⟨some 21, .bin .eql 5 (.t 20) (.c (Value.int IntKind.u8 34)) 5, some (4, true), [20]⟩,
  ⟨some 22, .pick (.t 17) (.t 21) (.c (Value.bool false)), none, [17, 21]⟩] none [0, 1, 7, 8, 9, 22, 54, 90, 95])
 (.cond [0, 1, 7, 8, 9, 54, 90, 95] (.t 22) (.seq (.reg 7 [⟨some 23, .move (.t 8), none, []⟩,
  ⟨some 24, .bin .add 3 (.t 23) (.c (Value.int IntKind.i64 1)) 3, none, [23]⟩,
  ⟨some 8, .assign (.t 24), none, [24]⟩] none [0, 1, 7, 8, 9, 54, 90, 95])
 (.seq (.block 2 l1_scan_Fields)
 k3_scan_Fields)) (.seq (.reg 18 [⟨some 71, .move (.t 8), none, []⟩,
  ⟨some 10, .assign (.t 71), none, [71]⟩] none [0, 1, 7, 8, 9, 10, 54, 90, 95])
 (.seq (.block 4 l2_scan_Fields)
 k5_scan_Fields))))
 k7_scan_Fields)))
def l0_scan_Fields : IR := .loop [0, 1, 7, 8, 95] w0_scan_Fields
def j8_scan_Fields : IR :=
 (.seq (.reg 3 [⟨some 7, .assign (.nilS 1), none, []⟩] none [0, 1, 7, 95])
 (.seq (.reg 4 [⟨some 8, .assign (.c (Value.int IntKind.i64 0)), none, []⟩] none [0, 1, 7, 8, 95])
 (.block 0 l0_scan_Fields)))
def k8_scan_Fields : IR := .tail [0, 1] j8_scan_Fields
def b_scan_Fields : IR :=
 (.seq (.reg 0 [⟨some 4, .assign (.nilS 1), none, [4]⟩,
  ⟨some 5, .assign (.c (Value.int IntKind.i64 0)), none, [5]⟩,
  ⟨some 6, .assign (.c (Value.int IntKind.i64 0)), none, [6]⟩] none [0, 1])
 (.seq (.seq (.reg 1 [⟨some 11, .move (.t 1), none, []⟩,
  ⟨some 12, .call n_scan_badBy [(.t 11)] [5], none, [11]⟩] none [0, 1, 12])
 (.cond [0, 1] (.t 12) (.seq (.reg 2 [⟨some 4, .assign (.nilS 1), none, []⟩,
  ⟨some 5, .assign (.c (Value.int IntKind.i64 2)), none, []⟩,
  ⟨some 6, .assign (.c (Value.int IntKind.i64 0)), none, []⟩] none [4, 5, 6, 7, 95, 100])
 .ret) .skip))
 k8_scan_Fields))
def a_scan_Fields : AFunc := ⟨103, [.tmp 4, .tmp 5, .tmp 6], b_scan_Fields⟩

def j0_scan_Quote : IR :=
 (.reg 15 [⟨some 58, .bin .add 3 (.t 9) (.c (Value.int IntKind.i64 1)) 3, none, []⟩,
  ⟨some 9, .move (.t 58), none, [58]⟩] none [0, 3, 6, 8, 9, 18, 29, 35, 41, 57])
def k0_scan_Quote : IR := .tail [0, 3, 6, 8, 9, 18, 29, 35, 41, 57] j0_scan_Quote
def j1_scan_Quote : IR :=
 (.seq (.block 1 (.seq (.reg 4 [⟨some 11, .move (.t 9), none, []⟩,
  ⟨some 4, .assign (.t 11), none, [11]⟩] none [0, 3, 4, 6, 8, 9, 18, 29, 35, 41, 57])
 (.seq (.reg 5 [⟨some 12, .move (.t 0), none, []⟩,
  ⟨some 13, .move (.t 4), none, [4]⟩,
  ⟨some 14, .index 9 .str none (.t 12) (.t 13), none, [12, 13]⟩,
  ⟨some 5, .assign (.t 14), none, [14]⟩] none [0, 3, 5, 6, 8, 9, 18, 29, 35, 41, 57])
 (.block 2 (.seq (.reg 7 [⟨some 20, .move (.t 5), none, []⟩,
  ⟨some 21, .bin .eql 5 (.t 20) (.c (Value.int IntKind.u8 34)) 5, none, [20]⟩,
  ⟨some 22, .move (.t 21), none, [21]⟩,
  ⟨some 23, .move (.t 5), some (2, false), []⟩,
  ⟨some 24, .bin .eql 5 (.t 23) (.c (Value.int IntKind.u8 92)) 5, some (2, false), [23]⟩,
  ⟨some 25, .pick (.t 22) (.c (Value.bool true)) (.t 24), none, [22, 24]⟩,
  ⟨some 19, .assign (.t 25), none, [25]⟩] none [0, 3, 5, 6, 8, 9, 18, 19, 29, 35, 41, 57])
 (.cond [0, 3, 5, 6, 8, 9, 18, 29, 35, 41, 57] (.t 19) (.reg 8 [⟨some 26, .move (.t 3), none, []⟩,
  ⟨some 27, .move (.t 5), none, [5]⟩,
  ⟨some 28, .lit 56 1 [(.c (Value.int IntKind.u8 92)), (.t 27)], none, [27]⟩,
  ⟨some 29, .append 56 56 false 1 1 (.t 26) (.t 28), none, [26, 28]⟩,
  ⟨some 3, .assign (.t 29), none, []⟩] none [0, 3, 6, 8, 9, 18, 29, 35, 41, 57]) (.seq (.reg 9 [⟨some 31, .move (.t 5), none, []⟩,
  ⟨some 32, .bin .eql 5 (.t 31) (.c (Value.int IntKind.u8 10)) 5, none, [31]⟩,
  ⟨some 30, .assign (.t 32), none, [32]⟩] none [0, 3, 5, 6, 8, 9, 18, 29, 30, 35, 41, 57])
 (.cond [0, 3, 5, 6, 8, 9, 18, 29, 35, 41, 57] (.t 30) (.reg 10 [⟨some 33, .move (.t 3), none, []⟩,
  ⟨some 34, .lit 56 1 [(.c (Value.int IntKind.u8 92)), (.c (Value.int IntKind.u8 110))], none, []⟩,
  ⟨some 35, .append 56 56 false 1 1 (.t 33) (.t 34), none, [33, 34]⟩,
  ⟨some 3, .assign (.t 35), none, []⟩] none [0, 3, 6, 8, 9, 18, 29, 35, 41, 57]) (.seq (.reg 11 [⟨some 37, .move (.t 5), none, []⟩,
  ⟨some 38, .bin .eql 5 (.t 37) (.c (Value.int IntKind.u8 9)) 5, none, [37]⟩,
  ⟨some 36, .assign (.t 38), none, [38]⟩] none [0, 3, 5, 6, 8, 9, 18, 29, 35, 36, 41, 57])
 (.cond [0, 3, 5, 6, 8, 9, 18, 29, 35, 41, 57] (.t 36) (.reg 12 [⟨some 39, .move (.t 3), none, []⟩,
  ⟨some 40, .lit 56 1 [(.c (Value.int IntKind.u8 92)), (.c (Value.int IntKind.u8 116))], none, []⟩,
  ⟨some 41, .append 56 56 false 1 1 (.t 39) (.t 40), none, [39, 40]⟩,
  ⟨some 3, .assign (.t 41), none, []⟩] none [0, 3, 6, 8, 9, 18, 29, 35, 41, 57]) (.seq (.reg 13 [⟨some 43, .move (.t 5), none, []⟩,
  ⟨some 44, .bin .lss 5 (.t 43) (.c (Value.int IntKind.u8 32)) 5, none, [43]⟩,
  ⟨some 45, .move (.t 44), none, [44]⟩,
  ⟨some 46, .move (.t 5), some (2, false), []⟩,
  ⟨some 47, .bin .eql 5 (.t 46) (.c (Value.int IntKind.u8 127)) 5, some (2, false), [46]⟩,
  ⟨some 48, .pick (.t 45) (.c (Value.bool true)) (.t 47), none, [45, 47]⟩,
  ⟨some 42, .assign (.t 48), none, [48]⟩] none [0, 3, 5, 6, 8, 9, 18, 29, 35, 41, 42, 57])
 (.cond [0, 3, 5, 6, 8, 9, 18, 29, 35, 41, 57] (.t 42) (.reg 14 [⟨some 49, .move (.t 3), none, []⟩,
  ⟨some 50, .move (.t 5), none, []⟩,
  ⟨some 51, .bin .shr 5 (.t 50) (.c (Value.int IntKind.u64 4)) 57, none, [50]⟩,
  ⟨some 52, .index 9 .str none (.c (Value.string { data := #[48, 49, 50, 51, 52, 53, 54, 55, 56, 57, 97, 98, 99, 100, 101, 102] })) (.t 51), none, [51]⟩,
  ⟨some 53, .move (.t 5), none, [5]⟩,
  ⟨some 54, .bin .and 5 (.t 53) (.c (Value.int IntKind.u8 15)) 5, none, [53]⟩,
  ⟨some 55, .index 9 .str none (.c (Value.string { data := #[48, 49, 50, 51, 52, 53, 54, 55, 56, 57, 97, 98, 99, 100, 101, 102] })) (.t 54), none, [54]⟩,
  ⟨some 56, .lit 56 1 [(.c (Value.int IntKind.u8 92)), (.c (Value.int IntKind.u8 120)), (.t 52), (.t 55)], none, [52, 55]⟩,
  ⟨some 57, .append 56 56 false 1 1 (.t 49) (.t 56), none, [49, 56]⟩,
  ⟨some 3, .assign (.t 57), none, []⟩] (some [⟨0, []⟩, ⟨1, []⟩, ⟨2, []⟩, ⟨3, []⟩, ⟨4, []⟩, ⟨5, []⟩, ⟨6, []⟩, ⟨7, []⟩, ⟨8, []⟩, ⟨9, []⟩]) [0, 3, 6, 8, 9, 18, 29, 35, 41, 57]) (.reg 6 [⟨some 15, .move (.t 3), none, []⟩,
  ⟨some 16, .move (.t 5), none, [5]⟩,
  ⟨some 17, .lit 56 1 [(.t 16)], none, [16]⟩,
  ⟨some 18, .append 56 56 false 1 1 (.t 15) (.t 17), none, [15, 17]⟩,
  ⟨some 3, .assign (.t 18), none, []⟩] none [0, 3, 6, 8, 9, 18, 29, 35, 41, 57])))))))))))))
 k0_scan_Quote)
def k1_scan_Quote : IR := .tail [0, 3, 6, 8, 9, 18, 29, 35, 41, 57] j1_scan_Quote
def w0_scan_Quote : IR :=
 (.seq (.reg 3 [⟨some 10, .bin .lss 3 (.t 9) (.t 8) 3, none, []⟩] none [0, 3, 6, 8, 9, 10, 18, 29, 35, 41, 57])
 (.seq (.cond [0, 3, 6, 8, 9, 18, 29, 35, 41, 57] (.t 10) .skip (.exit 0))
 k1_scan_Quote))
def l0_scan_Quote : IR := .loop [0, 3, 6, 8, 9, 18, 29, 35, 41, 57] w0_scan_Quote
def j2_scan_Quote : IR :=
 (.seq (.reg 16 [⟨some 59, .move (.t 3), none, []⟩,
  ⟨some 60, .lit 56 1 [(.c (Value.int IntKind.u8 34))], none, []⟩,
  ⟨some 61, .append 56 56 false 1 1 (.t 59) (.t 60), none, [3, 6, 18, 29, 35, 41, 57, 59, 60]⟩,
  ⟨some 62, .conv 56 9 .bytes (.t 61), none, [61]⟩,
  ⟨some 2, .assign (.t 62), none, [62]⟩] none [2])
 .ret)
def k2_scan_Quote : IR := .tail [3, 6, 18, 29, 35, 41, 57] j2_scan_Quote
def b_scan_Quote : IR :=
 (.seq (.reg 0 [⟨some 2, .assign (.c (Value.string { data := #[] })), none, [2]⟩] none [0])
 (.seq (.reg 1 [⟨some 6, .lit 56 1 [(.c (Value.int IntKind.u8 34))], none, []⟩,
  ⟨some 3, .assign (.t 6), none, []⟩] none [0, 3, 6, 18, 29, 35, 41, 57])
 (.seq (.seq (.reg 2 [⟨some 7, .move (.t 0), none, []⟩,
  ⟨some 8, .len 9 true (.t 7), none, [7]⟩,
  ⟨some 9, .move (.c (Value.int IntKind.i64 0)), none, []⟩] none [0, 3, 6, 8, 9, 18, 29, 35, 41, 57])
 (.block 0 l0_scan_Quote))
 k2_scan_Quote)))
def a_scan_Quote : AFunc := ⟨63, [.tmp 2], b_scan_Quote⟩

def b_thicketlaw03_lives : IR :=
 (.seq (.reg 0 [⟨some 0, .assign (.c (Value.bool false)), none, [0]⟩] none [])
 (.seq (.reg 1 [⟨some 9, .call n_scan_Words [(.c (Value.string { data := #[115, 112, 108, 105, 116, 32, 97, 103, 101, 60, 61, 45, 48, 46, 53, 32, 35, 32, 120] }))] [9], none, []⟩,
  ⟨some 8, .move (.t 9), none, []⟩,
  ⟨some 10, .extr (.t 8) 0, none, []⟩,
  ⟨some 11, .extr (.t 8) 1, none, []⟩,
  ⟨some 12, .extr (.t 8) 2, none, []⟩,
  ⟨some 1, .assign (.t 10), none, []⟩,
  ⟨some 2, .assign (.t 11), none, [11]⟩,
  ⟨some 3, .assign (.t 12), none, [3, 12]⟩] none [1, 2, 8, 9, 10])
 (.seq (.reg 2 [⟨some 14, .call n_scan_Fields [(.c (Value.string { data := #[97, 44, 34, 98, 34, 34, 34] })), (.c (Value.int IntKind.u8 44))] [9, 5], none, []⟩,
  ⟨some 13, .move (.t 14), none, []⟩,
  ⟨some 15, .extr (.t 13) 0, none, []⟩,
  ⟨some 16, .extr (.t 13) 1, none, []⟩,
  ⟨some 17, .extr (.t 13) 2, none, []⟩,
  ⟨some 4, .assign (.t 15), none, []⟩,
  ⟨some 5, .assign (.t 16), none, [16]⟩,
  ⟨some 6, .assign (.t 17), none, [6, 17]⟩] none [1, 2, 4, 5, 8, 9, 10, 13, 14, 15])
 (.seq (.reg 3 [⟨some 18, .call n_scan_Rows [(.c (Value.string { data := #[97, 13, 10, 98] }))] [9], none, []⟩,
  ⟨some 7, .assign (.t 18), none, []⟩] none [1, 2, 4, 5, 7, 8, 9, 10, 13, 14, 15, 18])
 (.seq (.reg 4 [⟨some 19, .move (.t 2), none, [2]⟩,
  ⟨some 20, .bin .eql 28 (.t 19) (.c (Value.int IntKind.i64 0)) 28, none, [19]⟩,
  ⟨some 21, .move (.t 20), none, [20]⟩,
  ⟨some 22, .move (.t 1), some (2, true), []⟩,
  ⟨some 23, .len 27 false (.t 22), some (2, true), [22]⟩,
  ⟨some 24, .bin .eql 3 (.t 23) (.c (Value.int IntKind.i64 4)) 3, some (2, true), [23]⟩,
  ⟨some 25, .pick (.t 21) (.t 24) (.c (Value.bool false)), none, [21, 24]⟩,
  ⟨some 26, .move (.t 25), none, [25]⟩,
  ⟨some 27, .move (.t 1), some (7, true), []⟩,
  ⟨some 28, .iaddr 27 (.sl 3) (.t 27) (.c (Value.int IntKind.i64 2)), some (7, true), []⟩,
  ⟨some 29, .load 36 (some 3) (.t 28), some (7, true), [1, 8, 9, 10, 27, 28]⟩,
  ⟨some 30, .build 36 [(0, 1), (1, 1), (2, 1)] [.v (.int .u8 0), .v (.string ⟨#[]⟩), .v (.int .i64 0)] [(0, (.c (Value.int IntKind.u8 4))), (1, (.c (Value.string { data := #[60, 61] }))), (2, (.c (Value.int IntKind.i64 9)))], some (7, true), []⟩,
  ⟨some 31, .eqs false 36 (.st [.int, .str, .int]) (.t 29) (.t 30) 36, some (7, true), [29, 30]⟩,
  ⟨some 32, .pick (.t 26) (.t 31) (.c (Value.bool false)), none, [26, 31]⟩,
  ⟨some 33, .move (.t 32), none, [32]⟩,
  ⟨some 34, .move (.t 5), some (14, true), [5]⟩,
  ⟨some 35, .bin .eql 28 (.t 34) (.c (Value.int IntKind.i64 0)) 28, some (14, true), [34]⟩,
  ⟨some 36, .pick (.t 33) (.t 35) (.c (Value.bool false)), none, [33, 35]⟩,
  ⟨some 37, .move (.t 36), none, [36]⟩,
  ⟨some 38, .move (.t 4), some (18, true), []⟩,
  ⟨some 39, .len 37 false (.t 38), some (18, true), [38]⟩,
  ⟨some 40, .bin .eql 3 (.t 39) (.c (Value.int IntKind.i64 2)) 3, some (18, true), [39]⟩,
  ⟨some 41, .pick (.t 37) (.t 40) (.c (Value.bool false)), none, [37, 40]⟩,
  ⟨some 42, .move (.t 41), none, [41]⟩,
  ⟨some 43, .move (.t 4), some (23, true), []⟩,
  ⟨some 44, .iaddr 37 (.sl 1) (.t 43) (.c (Value.int IntKind.i64 1)), some (23, true), []⟩,
  ⟨some 45, .load 9 none (.t 44), some (23, true), [4, 13, 14, 15, 43, 44]⟩,
  ⟨some 46, .bin .eql 9 (.t 45) (.c (Value.string { data := #[98, 34] })) 9, some (23, true), [45]⟩,
  ⟨some 47, .pick (.t 42) (.t 46) (.c (Value.bool false)), none, [42, 46]⟩,
  ⟨some 48, .move (.t 47), none, [47]⟩,
  ⟨some 49, .move (.t 7), some (29, true), []⟩,
  ⟨some 50, .len 24 false (.t 49), some (29, true), [49]⟩,
  ⟨some 51, .bin .eql 3 (.t 50) (.c (Value.int IntKind.i64 2)) 3, some (29, true), [50]⟩,
  ⟨some 52, .pick (.t 48) (.t 51) (.c (Value.bool false)), none, [48, 51]⟩,
  ⟨some 53, .move (.t 52), none, [52]⟩,
  ⟨some 54, .move (.t 7), some (34, true), []⟩,
  ⟨some 55, .iaddr 24 (.sl 3) (.t 54) (.c (Value.int IntKind.i64 1)), some (34, true), []⟩,
  ⟨some 56, .load 33 (some 3) (.t 55), some (34, true), [7, 18, 54, 55]⟩,
  ⟨some 57, .build 33 [(0, 1), (1, 1), (2, 1)] [.v (.int .i64 0), .v (.int .i64 0), .v (.string ⟨#[]⟩)] [(0, (.c (Value.int IntKind.i64 2))), (1, (.c (Value.int IntKind.i64 3))), (2, (.c (Value.string { data := #[98] })))], some (34, true), []⟩,
  ⟨some 58, .eqs false 33 (.st [.int, .int, .str]) (.t 56) (.t 57) 33, some (34, true), [56, 57]⟩,
  ⟨some 59, .pick (.t 53) (.t 58) (.c (Value.bool false)), none, [53, 58]⟩,
  ⟨some 60, .move (.t 59), none, [59]⟩,
  ⟨some 61, .call n_scan_Quote [(.c (Value.string { data := #[10] }))] [9], some (41, true), []⟩,
  ⟨some 62, .bin .eql 9 (.t 61) (.c (Value.string { data := #[34, 92, 110, 34] })) 9, some (41, true), [61]⟩,
  ⟨some 63, .pick (.t 60) (.t 62) (.c (Value.bool false)), none, [60, 62]⟩,
  ⟨some 0, .assign (.t 63), none, [63]⟩] none [0])
 .ret)))))
def a_thicketlaw03_lives : AFunc := ⟨64, [.tmp 0], b_thicketlaw03_lives⟩

def j0_thicketlaw03_rows : IR :=
 (.reg 8 [⟨some 25, .bin .add 3 (.t 13) (.c (Value.int IntKind.i64 1)) 3, none, []⟩,
  ⟨some 13, .move (.t 25), none, [25]⟩] none [0, 1, 12, 13])
def k0_thicketlaw03_rows : IR := .tail [0, 1, 12, 13] j0_thicketlaw03_rows
def j1_thicketlaw03_rows : IR :=
 (.seq (.block 1 (.seq (.reg 5 [⟨some 15, .move (.t 13), none, []⟩,
  ⟨some 5, .assign (.t 15), none, [15]⟩] none [0, 1, 5, 12, 13])
 (.seq (.reg 6 [⟨some 16, .move (.t 0), none, []⟩,
  ⟨some 17, .move (.t 5), none, []⟩,
  ⟨some 18, .iaddr 24 (.sl 3) (.t 16) (.t 17), none, []⟩,
  ⟨some 19, .load 33 (some 3) (.t 18), none, [16, 17, 18]⟩,
  ⟨some 20, .move (.t 1), none, []⟩,
  ⟨some 21, .move (.t 5), none, [5]⟩,
  ⟨some 22, .iaddr 24 (.sl 3) (.t 20) (.t 21), none, []⟩,
  ⟨some 23, .load 33 (some 3) (.t 22), none, [20, 21, 22]⟩,
  ⟨some 24, .eqs true 33 (.st [.int, .int, .str]) (.t 19) (.t 23) 33, none, [19, 23]⟩] (some [⟨0, []⟩, ⟨1, []⟩, ⟨2, []⟩, ⟨4, []⟩, ⟨5, []⟩, ⟨6, []⟩, ⟨3, []⟩, ⟨7, []⟩, ⟨8, []⟩]) [0, 1, 12, 13, 24])
 (.cond [0, 1, 12, 13] (.t 24) (.seq (.reg 7 [⟨some 4, .assign (.c (Value.bool false)), none, []⟩] none [4])
 .ret) .skip))))
 k0_thicketlaw03_rows)
def k1_thicketlaw03_rows : IR := .tail [0, 1, 12, 13] j1_thicketlaw03_rows
def w0_thicketlaw03_rows : IR :=
 (.seq (.reg 4 [⟨some 14, .bin .lss 3 (.t 13) (.t 12) 3, none, []⟩] none [0, 1, 12, 13, 14])
 (.seq (.cond [0, 1, 12, 13] (.t 14) .skip (.exit 0))
 k1_thicketlaw03_rows))
def l0_thicketlaw03_rows : IR := .loop [0, 1, 12, 13] w0_thicketlaw03_rows
def j2_thicketlaw03_rows : IR :=
 (.seq (.reg 9 [⟨some 4, .assign (.c (Value.bool true)), none, []⟩] none [4])
 .ret)
def k2_thicketlaw03_rows : IR := .tail [] j2_thicketlaw03_rows
def j3_thicketlaw03_rows : IR :=
 (.seq (.seq (.reg 3 [⟨some 11, .move (.t 0), none, []⟩,
  ⟨some 12, .len 24 false (.t 11), none, [11]⟩,
  ⟨some 13, .move (.c (Value.int IntKind.i64 0)), none, []⟩] none [0, 1, 12, 13])
 (.block 0 l0_thicketlaw03_rows))
 k2_thicketlaw03_rows)
def k3_thicketlaw03_rows : IR := .tail [0, 1] j3_thicketlaw03_rows
def b_thicketlaw03_rows : IR :=
 (.seq (.reg 0 [⟨some 4, .assign (.c (Value.bool false)), none, [4]⟩] none [0, 1])
 (.seq (.seq (.reg 1 [⟨some 6, .move (.t 0), none, []⟩,
  ⟨some 7, .len 24 false (.t 6), none, [6]⟩,
  ⟨some 8, .move (.t 1), none, []⟩,
  ⟨some 9, .len 24 false (.t 8), none, [8]⟩,
  ⟨some 10, .bin .neq 3 (.t 7) (.t 9) 3, none, [7, 9]⟩] none [0, 1, 10])
 (.cond [0, 1] (.t 10) (.seq (.reg 2 [⟨some 4, .assign (.c (Value.bool false)), none, []⟩] none [4])
 .ret) .skip))
 k3_thicketlaw03_rows))
def a_thicketlaw03_rows : AFunc := ⟨26, [.tmp 4], b_thicketlaw03_rows⟩

def j0_thicketref03_Rows : IR :=
 (.reg 10 [⟨some 54, .move (.t 5), none, []⟩,
  ⟨some 55, .bin .add 3 (.t 54) (.c (Value.int IntKind.i64 1)) 3, none, [54]⟩,
  ⟨some 4, .assign (.t 55), none, [55]⟩] none [0, 3, 4, 5, 33, 70])
def k0_thicketref03_Rows : IR := .tail [0, 3, 5, 33, 70] j0_thicketref03_Rows
def j1_thicketref03_Rows : IR :=
 (.seq (.reg 7 [⟨some 22, .move (.t 3), none, []⟩,
  ⟨some 23, .move (.t 3), none, []⟩,
  ⟨some 24, .len 24 false (.t 23), none, [23]⟩,
  ⟨some 25, .bin .add 3 (.t 24) (.c (Value.int IntKind.i64 1)) 3, none, [24]⟩,
  ⟨some 26, .move (.t 4), none, []⟩,
  ⟨some 27, .move (.t 0), none, []⟩,
  ⟨some 28, .move (.t 4), none, [4]⟩,
  ⟨some 29, .move (.t 5), none, []⟩,
  ⟨some 30, .slice 9 .str (.t 27) (some (.t 28)) (some (.t 29)) none, none, [27, 28, 29]⟩,
  ⟨some 31, .build 33 [(0, 1), (1, 1), (2, 1)] [.v (.int .i64 0), .v (.int .i64 0), .v (.string ⟨#[]⟩)] [(0, (.t 25)), (1, (.t 26)), (2, (.t 30))], none, [25, 26, 30]⟩,
  ⟨some 32, .lit 24 3 [(.t 31)], none, [31]⟩,
  ⟨some 33, .append 24 24 false 3 32 (.t 22) (.t 32), none, [22, 32]⟩,
  ⟨some 3, .assign (.t 33), none, []⟩] none [0, 3, 5, 33, 70])
 (.seq (.seq (.reg 8 [⟨some 34, .move (.t 0), none, []⟩,
  ⟨some 35, .move (.t 5), none, []⟩,
  ⟨some 36, .index 9 .str none (.t 34) (.t 35), none, [34, 35]⟩,
  ⟨some 37, .bin .eql 5 (.t 36) (.c (Value.int IntKind.u8 13)) 5, none, [36]⟩,
  ⟨some 38, .move (.t 37), none, [37]⟩,
  ⟨some 39, .move (.t 5), some (4, true), []⟩,
  ⟨some 40, .bin .add 3 (.t 39) (.c (Value.int IntKind.i64 1)) 3, some (4, true), [39]⟩,
  ⟨some 41, .move (.t 0), some (4, true), []⟩,
  ⟨some 42, .len 9 true (.t 41), some (4, true), [41]⟩,
  ⟨some 43, .bin .lss 3 (.t 40) (.t 42) 3, some (4, true), [40, 42]⟩,
  ⟨some 44, .pick (.t 38) (.t 43) (.c (Value.bool false)), none, [38, 43]⟩,
  ⟨some 45, .move (.t 44), none, [44]⟩,
  ⟨some 46, .move (.t 0), some (11, true), []⟩,
  ⟨some 47, .move (.t 5), some (11, true), []⟩,
  ⟨some 48, .bin .add 3 (.t 47) (.c (Value.int IntKind.i64 1)) 3, some (11, true), [47]⟩,
  ⟨some 49, .index 9 .str none (.t 46) (.t 48), some (11, true), [46, 48]⟩,
  ⟨some 50, .bin .eql 5 (.t 49) (.c (Value.int IntKind.u8 10)) 5, some (11, true), [49]⟩,
  ⟨some 51, .pick (.t 45) (.t 50) (.c (Value.bool false)), none, [45, 50]⟩] none [0, 3, 5, 33, 51, 70])
 (.cond [0, 3, 5, 33, 70] (.t 51) (.reg 9 [⟨some 52, .move (.t 5), none, []⟩,
  ⟨some 53, .bin .add 3 (.t 52) (.c (Value.int IntKind.i64 1)) 3, none, [52]⟩,
  ⟨some 5, .assign (.t 53), none, [53]⟩] none [0, 3, 5, 33, 70]) .skip))
 k0_thicketref03_Rows))
def k1_thicketref03_Rows : IR := .tail [0, 3, 4, 5, 33, 70] j1_thicketref03_Rows
def j2_thicketref03_Rows : IR :=
 (.reg 5 [⟨some 10, .move (.t 5), none, []⟩,
  ⟨some 11, .bin .add 3 (.t 10) (.c (Value.int IntKind.i64 1)) 3, none, [10]⟩,
  ⟨some 5, .assign (.t 11), none, [11]⟩] none [0, 3, 4, 5, 33, 70])
def k2_thicketref03_Rows : IR := .tail [0, 3, 4, 5, 33, 70] j2_thicketref03_Rows
def j3_thicketref03_Rows : IR :=
 (.seq (.block 1 (.seq (.seq (.reg 6 [⟨some 12, .move (.t 0), none, []⟩,
  ⟨some 13, .move (.t 5), none, []⟩,
  ⟨some 14, .index 9 .str none (.t 12) (.t 13), none, [12, 13]⟩,
  ⟨some 15, .bin .neq 5 (.t 14) (.c (Value.int IntKind.u8 10)) 5, none, [14]⟩,
  ⟨some 16, .move (.t 15), none, [15]⟩,
  ⟨some 17, .move (.t 0), some (4, true), []⟩,
  ⟨some 18, .move (.t 5), some (4, true), []⟩,
  ⟨some 19, .index 9 .str none (.t 17) (.t 18), some (4, true), [17, 18]⟩,
  ⟨some 20, .bin .neq 5 (.t 19) (.c (Value.int IntKind.u8 13)) 5, some (4, true), [19]⟩,
  ⟨some 21, .pick (.t 16) (.t 20) (.c (Value.bool false)), none, [16, 20]⟩] none [0, 3, 4, 5, 21, 33, 70])
 (.cond [0, 3, 4, 5, 33, 70] (.t 21) (.exit 1) .skip))
 k1_thicketref03_Rows))
 k2_thicketref03_Rows)
def k3_thicketref03_Rows : IR := .tail [0, 3, 4, 5, 33, 70] j3_thicketref03_Rows
def w0_thicketref03_Rows : IR :=
 (.seq (.seq (.reg 4 [⟨some 6, .move (.t 5), none, []⟩,
  ⟨some 7, .move (.t 0), none, []⟩,
  ⟨some 8, .len 9 true (.t 7), none, [7]⟩,
  ⟨some 9, .bin .lss 3 (.t 6) (.t 8) 3, none, [6, 8]⟩] none [0, 3, 4, 5, 9, 33, 70])
 (.cond [0, 3, 4, 5, 33, 70] (.t 9) .skip (.exit 0)))
 k3_thicketref03_Rows)
def l0_thicketref03_Rows : IR := .loop [0, 3, 4, 5, 33, 70] w0_thicketref03_Rows
def j4_thicketref03_Rows : IR :=
 (.seq (.reg 13 [⟨some 71, .move (.t 3), none, []⟩,
  ⟨some 2, .assign (.t 71), none, []⟩] none [2, 3, 33, 70, 71])
 .ret)
def k4_thicketref03_Rows : IR := .tail [3, 33, 70] j4_thicketref03_Rows
def j5_thicketref03_Rows : IR :=
 (.seq (.seq (.reg 11 [⟨some 56, .move (.t 4), none, []⟩,
  ⟨some 57, .move (.t 0), none, []⟩,
  ⟨some 58, .len 9 true (.t 57), none, [57]⟩,
  ⟨some 59, .bin .lss 3 (.t 56) (.t 58) 3, none, [56, 58]⟩] none [0, 3, 4, 33, 59, 70])
 (.cond [0, 3, 4, 33, 70] (.t 59) (.reg 12 [⟨some 60, .move (.t 3), none, []⟩,
  ⟨some 61, .move (.t 3), none, []⟩,
  ⟨some 62, .len 24 false (.t 61), none, [61]⟩,
  ⟨some 63, .bin .add 3 (.t 62) (.c (Value.int IntKind.i64 1)) 3, none, [62]⟩,
  ⟨some 64, .move (.t 4), none, []⟩,
  ⟨some 65, .move (.t 0), none, [0]⟩,
  ⟨some 66, .move (.t 4), none, [4]⟩,
  ⟨some 67, .slice 9 .str (.t 65) (some (.t 66)) none none, none, [65, 66]⟩,
  ⟨some 68, .build 33 [(0, 1), (1, 1), (2, 1)] [.v (.int .i64 0), .v (.int .i64 0), .v (.string ⟨#[]⟩)] [(0, (.t 63)), (1, (.t 64)), (2, (.t 67))], none, [63, 64, 67]⟩,
  ⟨some 69, .lit 24 3 [(.t 68)], none, [68]⟩,
  ⟨some 70, .append 24 24 false 3 32 (.t 60) (.t 69), none, [60, 69]⟩,
  ⟨some 3, .assign (.t 70), none, []⟩] none [3, 33, 70]) .skip))
 k4_thicketref03_Rows)
def k5_thicketref03_Rows : IR := .tail [0, 3, 4, 33, 70] j5_thicketref03_Rows
def b_thicketref03_Rows : IR :=
 (.seq (.reg 0 [⟨some 2, .assign (.nilS 3), none, [2]⟩] none [0])
 (.seq (.reg 1 [⟨some 3, .assign (.nilS 3), none, []⟩] none [0, 3, 33, 70])
 (.seq (.reg 2 [⟨some 4, .assign (.c (Value.int IntKind.i64 0)), none, []⟩] none [0, 3, 4, 33, 70])
 (.seq (.seq (.reg 3 [⟨some 5, .assign (.c (Value.int IntKind.i64 0)), none, []⟩] none [0, 3, 4, 5, 33, 70])
 (.block 0 l0_thicketref03_Rows))
 k5_thicketref03_Rows))))
def a_thicketref03_Rows : AFunc := ⟨72, [.tmp 2], b_thicketref03_Rows⟩

def b_thicketref03_blank : IR :=
 (.seq (.reg 0 [⟨some 2, .assign (.c (Value.bool false)), none, [2]⟩] none [0])
 (.seq (.reg 1 [⟨some 3, .move (.t 0), none, []⟩,
  ⟨some 4, .bin .eql 5 (.t 3) (.c (Value.int IntKind.u8 32)) 5, none, [3]⟩,
  ⟨some 5, .move (.t 4), none, [4]⟩,
  ⟨some 6, .move (.t 0), some (2, false), [0]⟩,
  ⟨some 7, .bin .eql 5 (.t 6) (.c (Value.int IntKind.u8 9)) 5, some (2, false), [6]⟩,
  ⟨some 8, .pick (.t 5) (.c (Value.bool true)) (.t 7), none, [5, 7]⟩,
  ⟨some 2, .assign (.t 8), none, [8]⟩] none [2])
 .ret))
def a_thicketref03_blank : AFunc := ⟨9, [.tmp 2], b_thicketref03_blank⟩

def b_thicketref03_letter : IR :=
 (.seq (.reg 0 [⟨some 2, .assign (.c (Value.bool false)), none, [2]⟩] none [0])
 (.seq (.reg 1 [⟨some 3, .move (.t 0), none, []⟩,
  ⟨some 4, .bin .geq 5 (.t 3) (.c (Value.int IntKind.u8 97)) 5, none, [3]⟩,
  ⟨some 5, .move (.t 4), none, [4]⟩,
  ⟨some 6, .move (.t 0), some (2, true), []⟩,
  ⟨some 7, .bin .leq 5 (.t 6) (.c (Value.int IntKind.u8 122)) 5, some (2, true), [6]⟩,
  ⟨some 8, .pick (.t 5) (.t 7) (.c (Value.bool false)), none, [5, 7]⟩,
  ⟨some 9, .move (.t 8), none, [8]⟩,
  ⟨some 10, .move (.t 0), some (6, false), []⟩,
  ⟨some 11, .bin .geq 5 (.t 10) (.c (Value.int IntKind.u8 65)) 5, some (6, false), [10]⟩,
  ⟨some 12, .move (.t 11), some (6, false), [11]⟩,
  ⟨some 13, .move (.t 0), some (9, true), [0]⟩,
  ⟨some 14, .bin .leq 5 (.t 13) (.c (Value.int IntKind.u8 90)) 5, some (9, true), [13]⟩,
  ⟨some 15, .pick (.t 12) (.t 14) (.c (Value.bool false)), some (6, false), [12, 14]⟩,
  ⟨some 16, .pick (.t 9) (.c (Value.bool true)) (.t 15), none, [9, 15]⟩,
  ⟨some 2, .assign (.t 16), none, [16]⟩] none [2])
 .ret))
def a_thicketref03_letter : AFunc := ⟨17, [.tmp 2], b_thicketref03_letter⟩

def b_thicketref03_digit : IR :=
 (.seq (.reg 0 [⟨some 2, .assign (.c (Value.bool false)), none, [2]⟩] none [0])
 (.seq (.reg 1 [⟨some 3, .move (.t 0), none, []⟩,
  ⟨some 4, .bin .geq 5 (.t 3) (.c (Value.int IntKind.u8 48)) 5, none, [3]⟩,
  ⟨some 5, .move (.t 4), none, [4]⟩,
  ⟨some 6, .move (.t 0), some (2, true), [0]⟩,
  ⟨some 7, .bin .leq 5 (.t 6) (.c (Value.int IntKind.u8 57)) 5, some (2, true), [6]⟩,
  ⟨some 8, .pick (.t 5) (.t 7) (.c (Value.bool false)), none, [5, 7]⟩,
  ⟨some 2, .assign (.t 8), none, [8]⟩] none [2])
 .ret))
def a_thicketref03_digit : AFunc := ⟨9, [.tmp 2], b_thicketref03_digit⟩

def j0_thicketref03_hex : IR :=
 (.seq (.reg 7 [⟨some 2, .assign (.c (Value.int IntKind.i64 (-1))), none, []⟩] none [2])
 .ret)
def k0_thicketref03_hex : IR := .tail [] j0_thicketref03_hex
def b_thicketref03_hex : IR :=
 (.seq (.reg 0 [⟨some 2, .assign (.c (Value.int IntKind.i64 0)), none, [2]⟩] none [0])
 (.seq (.block 0 (.seq (.reg 1 [⟨some 4, .move (.t 0), none, []⟩,
  ⟨some 5, .call n_thicketref03_digit [(.t 4)] [5], none, [4]⟩,
  ⟨some 3, .assign (.t 5), none, [5]⟩] none [0, 3])
 (.cond [0] (.t 3) (.seq (.reg 2 [⟨some 6, .move (.t 0), none, [0]⟩,
  ⟨some 7, .bin .sub 5 (.t 6) (.c (Value.int IntKind.u8 48)) 5, none, [6]⟩,
  ⟨some 8, .conv 5 3 (.int .i64) (.t 7), none, [7]⟩,
  ⟨some 2, .assign (.t 8), none, [8]⟩] none [2])
 .ret) (.seq (.reg 3 [⟨some 10, .move (.t 0), none, []⟩,
  ⟨some 11, .bin .geq 5 (.t 10) (.c (Value.int IntKind.u8 97)) 5, none, [10]⟩,
  ⟨some 12, .move (.t 11), none, [11]⟩,
  ⟨some 13, .move (.t 0), some (2, true), []⟩,
  ⟨some 14, .bin .leq 5 (.t 13) (.c (Value.int IntKind.u8 102)) 5, some (2, true), [13]⟩,
  ⟨some 15, .pick (.t 12) (.t 14) (.c (Value.bool false)), none, [12, 14]⟩,
  ⟨some 9, .assign (.t 15), none, [15]⟩] none [0, 9])
 (.cond [0] (.t 9) (.seq (.reg 4 [⟨some 16, .move (.t 0), none, [0]⟩,
  ⟨some 17, .bin .sub 5 (.t 16) (.c (Value.int IntKind.u8 97)) 5, none, [16]⟩,
  ⟨some 18, .conv 5 3 (.int .i64) (.t 17), none, [17]⟩,
  ⟨some 19, .bin .add 3 (.t 18) (.c (Value.int IntKind.i64 10)) 3, none, [18]⟩,
  ⟨some 2, .assign (.t 19), none, [19]⟩] none [2])
 .ret) (.seq (.reg 5 [⟨some 21, .move (.t 0), none, []⟩,
  ⟨some 22, .bin .geq 5 (.t 21) (.c (Value.int IntKind.u8 65)) 5, none, [21]⟩,
  ⟨some 23, .move (.t 22), none, [22]⟩,
  ⟨some 24, .move (.t 0), some (2, true), []⟩,
  ⟨some 25, .bin .leq 5 (.t 24) (.c (Value.int IntKind.u8 70)) 5, some (2, true), [24]⟩,
  ⟨some 26, .pick (.t 23) (.t 25) (.c (Value.bool false)), none, [23, 25]⟩,
  ⟨some 20, .assign (.t 26), none, [26]⟩] none [0, 20])
 (.cond [0] (.t 20) (.seq (.reg 6 [⟨some 27, .move (.t 0), none, [0]⟩,
  ⟨some 28, .bin .sub 5 (.t 27) (.c (Value.int IntKind.u8 65)) 5, none, [27]⟩,
  ⟨some 29, .conv 5 3 (.int .i64) (.t 28), none, [28]⟩,
  ⟨some 30, .bin .add 3 (.t 29) (.c (Value.int IntKind.i64 10)) 3, none, [29]⟩,
  ⟨some 2, .assign (.t 30), none, [30]⟩] none [2])
 .ret) .skip)))))))
 k0_thicketref03_hex))
def a_thicketref03_hex : AFunc := ⟨31, [.tmp 2], b_thicketref03_hex⟩

def j0_thicketref03_quoted : IR :=
 (.reg 32 [⟨some 94, .move (.t 9), none, []⟩,
  ⟨some 95, .bin .mul 3 (.c (Value.int IntKind.i64 16)) (.t 94) 3, none, [94]⟩,
  ⟨some 96, .move (.t 0), none, []⟩,
  ⟨some 97, .move (.t 1), none, []⟩,
  ⟨some 98, .move (.t 10), none, []⟩,
  ⟨some 99, .bin .add 3 (.t 97) (.t 98) 3, none, [97, 98]⟩,
  ⟨some 100, .index 9 .str none (.t 96) (.t 99), none, [96, 99]⟩,
  ⟨some 101, .call n_thicketref03_hex [(.t 100)] [5], none, [100]⟩,
  ⟨some 102, .bin .add 3 (.t 95) (.t 101) 3, none, [95, 101]⟩,
  ⟨some 9, .assign (.t 102), none, [102]⟩] none [0, 1, 7, 9, 10, 40, 59, 64, 69, 107])
def k0_thicketref03_quoted : IR := .tail [0, 1, 7, 9, 10, 40, 59, 64, 69, 107] j0_thicketref03_quoted
def j1_thicketref03_quoted : IR :=
 (.seq (.seq (.reg 30 [⟨some 84, .move (.t 0), none, []⟩,
  ⟨some 85, .move (.t 1), none, []⟩,
  ⟨some 86, .move (.t 10), none, []⟩,
  ⟨some 87, .bin .add 3 (.t 85) (.t 86) 3, none, [85, 86]⟩,
  ⟨some 88, .index 9 .str none (.t 84) (.t 87), none, [84, 87]⟩,
  ⟨some 89, .call n_thicketref03_hex [(.t 88)] [5], none, [88]⟩,
  ⟨some 90, .bin .lss 3 (.t 89) (.c (Value.int IntKind.i64 0)) 3, none, [89]⟩] none [0, 1, 7, 9, 10, 40, 59, 64, 69, 90, 107])
 (.cond [0, 1, 7, 9, 10, 40, 59, 64, 69, 107] (.t 90) (.seq (.reg 31 [⟨some 91, .move (.t 1), none, [1]⟩,
  ⟨some 92, .move (.t 10), none, [10]⟩,
  ⟨some 93, .bin .add 3 (.t 91) (.t 92) 3, none, [91, 92]⟩,
  ⟨some 4, .assign (.c (Value.string { data := #[] })), none, []⟩,
  ⟨some 5, .assign (.t 93), none, [93]⟩,
  ⟨some 6, .assign (.c (Value.bool false)), none, []⟩] none [4, 5, 6])
 .ret) .skip))
 k0_thicketref03_quoted)
def k1_thicketref03_quoted : IR := .tail [0, 1, 7, 9, 10, 40, 59, 64, 69, 107] j1_thicketref03_quoted
def j2_thicketref03_quoted : IR :=
 (.reg 27 [⟨some 74, .move (.t 10), none, []⟩,
  ⟨some 75, .bin .add 3 (.t 74) (.c (Value.int IntKind.i64 1)) 3, none, [74]⟩,
  ⟨some 10, .assign (.t 75), none, [75]⟩] none [0, 1, 7, 9, 10, 40, 59, 64, 69, 107])
def k2_thicketref03_quoted : IR := .tail [0, 1, 7, 9, 10, 40, 59, 64, 69, 107] j2_thicketref03_quoted
def j3_thicketref03_quoted : IR :=
 (.seq (.block 4 (.seq (.seq (.reg 28 [⟨some 76, .move (.t 1), none, []⟩,
  ⟨some 77, .move (.t 10), none, []⟩,
  ⟨some 78, .bin .add 3 (.t 76) (.t 77) 3, none, [76, 77]⟩,
  ⟨some 79, .move (.t 0), none, []⟩,
  ⟨some 80, .len 9 true (.t 79), none, [79]⟩,
  ⟨some 81, .bin .geq 3 (.t 78) (.t 80) 3, none, [78, 80]⟩] none [0, 1, 7, 9, 10, 40, 59, 64, 69, 81, 107])
 (.cond [0, 1, 7, 9, 10, 40, 59, 64, 69, 107] (.t 81) (.seq (.reg 29 [⟨some 82, .move (.t 0), none, [0]⟩,
  ⟨some 83, .len 9 true (.t 82), none, [82]⟩,
  ⟨some 4, .assign (.c (Value.string { data := #[] })), none, []⟩,
  ⟨some 5, .assign (.t 83), none, [83]⟩,
  ⟨some 6, .assign (.c (Value.bool false)), none, []⟩] none [4, 5, 6])
 .ret) .skip))
 k1_thicketref03_quoted))
 k2_thicketref03_quoted)
def k3_thicketref03_quoted : IR := .tail [0, 1, 7, 9, 10, 40, 59, 64, 69, 107] j3_thicketref03_quoted
def w1_thicketref03_quoted : IR :=
 (.seq (.seq (.reg 26 [⟨some 72, .move (.t 10), none, []⟩,
  ⟨some 73, .bin .leq 3 (.t 72) (.c (Value.int IntKind.i64 2)) 3, none, [72]⟩] none [0, 1, 7, 9, 10, 40, 59, 64, 69, 73, 107])
 (.cond [0, 1, 7, 9, 10, 40, 59, 64, 69, 107] (.t 73) .skip (.exit 3)))
 k3_thicketref03_quoted)
def l1_thicketref03_quoted : IR := .loop [0, 1, 7, 9, 10, 40, 59, 64, 69, 107] w1_thicketref03_quoted
def j4_thicketref03_quoted : IR :=
 (.seq (.reg 33 [⟨some 103, .move (.t 7), none, []⟩,
  ⟨some 104, .move (.t 9), none, [9]⟩,
  ⟨some 105, .conv 3 5 (.int .u8) (.t 104), none, [104]⟩,
  ⟨some 106, .lit 56 1 [(.t 105)], none, [105]⟩,
  ⟨some 107, .append 56 56 false 1 1 (.t 103) (.t 106), none, [103, 106]⟩,
  ⟨some 7, .assign (.t 107), none, []⟩] none [0, 1, 7, 40, 59, 64, 69, 107])
 (.reg 34 [⟨some 108, .move (.t 1), none, []⟩,
  ⟨some 109, .bin .add 3 (.t 108) (.c (Value.int IntKind.i64 2)) 3, none, [108]⟩,
  ⟨some 1, .assign (.t 109), none, [109]⟩] none [0, 1, 7, 40, 59, 64, 69, 107]))
def k4_thicketref03_quoted : IR := .tail [0, 1, 7, 9, 40, 59, 64, 69, 107] j4_thicketref03_quoted
def j5_thicketref03_quoted : IR :=
 (.cond [0, 1, 7, 40, 49, 59, 64, 69, 107] (.t 51) (.reg 18 [⟨some 54, .move (.t 7), none, []⟩,
  ⟨some 55, .move (.t 0), none, []⟩,
  ⟨some 56, .move (.t 1), none, []⟩,
  ⟨some 57, .index 9 .str none (.t 55) (.t 56), none, [55, 56]⟩,
  ⟨some 58, .lit 56 1 [(.t 57)], none, [57]⟩,
  ⟨some 59, .append 56 56 false 1 1 (.t 54) (.t 58), none, [54, 58]⟩,
  ⟨some 7, .assign (.t 59), none, []⟩] none [0, 1, 7, 40, 59, 64, 69, 107]) (.seq (.reg 19 [⟨some 61, .bin .eql 5 (.t 49) (.c (Value.int IntKind.u8 110)) 5, none, []⟩,
  ⟨some 60, .assign (.t 61), none, [61]⟩] none [0, 1, 7, 40, 49, 59, 60, 64, 69, 107])
 (.cond [0, 1, 7, 40, 49, 59, 64, 69, 107] (.t 60) (.reg 20 [⟨some 62, .move (.t 7), none, []⟩,
  ⟨some 63, .lit 56 1 [(.c (Value.int IntKind.u8 10))], none, []⟩,
  ⟨some 64, .append 56 56 false 1 1 (.t 62) (.t 63), none, [62, 63]⟩,
  ⟨some 7, .assign (.t 64), none, []⟩] none [0, 1, 7, 40, 59, 64, 69, 107]) (.seq (.reg 21 [⟨some 66, .bin .eql 5 (.t 49) (.c (Value.int IntKind.u8 116)) 5, none, []⟩,
  ⟨some 65, .assign (.t 66), none, [66]⟩] none [0, 1, 7, 40, 49, 59, 64, 65, 69, 107])
 (.cond [0, 1, 7, 40, 49, 59, 64, 69, 107] (.t 65) (.reg 22 [⟨some 67, .move (.t 7), none, []⟩,
  ⟨some 68, .lit 56 1 [(.c (Value.int IntKind.u8 9))], none, []⟩,
  ⟨some 69, .append 56 56 false 1 1 (.t 67) (.t 68), none, [67, 68]⟩,
  ⟨some 7, .assign (.t 69), none, []⟩] none [0, 1, 7, 40, 59, 64, 69, 107]) (.seq (.reg 23 [⟨some 71, .bin .eql 5 (.t 49) (.c (Value.int IntKind.u8 120)) 5, none, [49]⟩,
  ⟨some 70, .assign (.t 71), none, [71]⟩] none [0, 1, 7, 40, 59, 64, 69, 70, 107])
 (.cond [0, 1, 7, 40, 59, 64, 69, 107] (.t 70) (.seq (.reg 24 [⟨some 9, .assign (.c (Value.int IntKind.i64 0)), none, []⟩] none [0, 1, 7, 9, 40, 59, 64, 69, 107])
 (.seq (.seq (.reg 25 [⟨some 10, .assign (.c (Value.int IntKind.i64 1)), none, []⟩] none [0, 1, 7, 9, 10, 40, 59, 64, 69, 107])
 (.block 3 l1_thicketref03_quoted))
 k4_thicketref03_quoted)) (.seq (.reg 15 [⟨some 50, .move (.t 1), none, [1]⟩,
  ⟨some 4, .assign (.c (Value.string { data := #[] })), none, []⟩,
  ⟨some 5, .assign (.t 50), none, [50]⟩,
  ⟨some 6, .assign (.c (Value.bool false)), none, []⟩] none [4, 5, 6])
 .ret))))))))
def k5_thicketref03_quoted : IR := .tail [0, 1, 7, 40, 49, 51, 59, 64, 69, 107] j5_thicketref03_quoted
def j6_thicketref03_quoted : IR :=
 (.seq (.reg 14 [⟨some 47, .move (.t 0), none, []⟩,
  ⟨some 48, .move (.t 1), none, []⟩,
  ⟨some 49, .index 9 .str none (.t 47) (.t 48), none, [47, 48]⟩] none [0, 1, 7, 40, 49, 59, 64, 69, 107])
 (.block 2 (.seq (.seq (.reg 16 [⟨some 52, .bin .eql 5 (.t 49) (.c (Value.int IntKind.u8 34)) 5, none, []⟩,
  ⟨some 51, .assign (.t 52), none, [52]⟩] none [0, 1, 7, 40, 49, 51, 59, 64, 69, 107])
 (.cond [0, 1, 7, 40, 49, 51, 59, 64, 69, 107] (.t 51) .skip (.reg 17 [⟨some 53, .bin .eql 5 (.t 49) (.c (Value.int IntKind.u8 92)) 5, none, []⟩,
  ⟨some 51, .assign (.t 53), none, [53]⟩] none [0, 1, 7, 40, 49, 51, 59, 64, 69, 107])))
 k5_thicketref03_quoted)))
def k6_thicketref03_quoted : IR := .tail [0, 1, 7, 40, 59, 64, 69, 107] j6_thicketref03_quoted
def j7_thicketref03_quoted : IR :=
 (.seq (.reg 12 [⟨some 41, .move (.t 1), none, []⟩,
  ⟨some 42, .bin .add 3 (.t 41) (.c (Value.int IntKind.i64 1)) 3, none, [41]⟩,
  ⟨some 1, .assign (.t 42), none, [42]⟩] none [0, 1, 7, 40, 59, 64, 69, 107])
 (.seq (.seq (.reg 13 [⟨some 43, .move (.t 1), none, []⟩,
  ⟨some 44, .move (.t 0), none, []⟩,
  ⟨some 45, .len 9 true (.t 44), none, [44]⟩,
  ⟨some 46, .bin .geq 3 (.t 43) (.t 45) 3, none, [43, 45]⟩] none [0, 1, 7, 40, 46, 59, 64, 69, 107])
 (.cond [0, 1, 7, 40, 59, 64, 69, 107] (.t 46) (.exit 0) .skip))
 k6_thicketref03_quoted))
def k7_thicketref03_quoted : IR := .tail [0, 1, 7, 40, 59, 64, 69, 107] j7_thicketref03_quoted
def j8_thicketref03_quoted : IR :=
 (.seq (.seq (.reg 10 [⟨some 35, .move (.t 8), none, []⟩,
  ⟨some 36, .bin .neq 5 (.t 35) (.c (Value.int IntKind.u8 92)) 5, none, [35]⟩] none [0, 1, 7, 8, 36, 40, 59, 64, 69, 107])
 (.cond [0, 1, 7, 8, 40, 59, 64, 69, 107] (.t 36) (.seq (.reg 11 [⟨some 37, .move (.t 7), none, []⟩,
  ⟨some 38, .move (.t 8), none, [8]⟩,
  ⟨some 39, .lit 56 1 [(.t 38)], none, [38]⟩,
  ⟨some 40, .append 56 56 false 1 1 (.t 37) (.t 39), none, [37, 39]⟩,
  ⟨some 7, .assign (.t 40), none, []⟩] none [0, 1, 7, 40, 59, 64, 69, 107])
 (.exit 1)) .skip))
 k7_thicketref03_quoted)
def k8_thicketref03_quoted : IR := .tail [0, 1, 7, 8, 40, 59, 64, 69, 107] j8_thicketref03_quoted
def j9_thicketref03_quoted : IR :=
 (.seq (.seq (.reg 8 [⟨some 28, .move (.t 8), none, []⟩,
  ⟨some 29, .bin .lss 5 (.t 28) (.c (Value.int IntKind.u8 32)) 5, none, [28]⟩,
  ⟨some 30, .move (.t 29), none, [29]⟩,
  ⟨some 31, .move (.t 8), some (2, false), []⟩,
  ⟨some 32, .bin .eql 5 (.t 31) (.c (Value.int IntKind.u8 127)) 5, some (2, false), [31]⟩,
  ⟨some 33, .pick (.t 30) (.c (Value.bool true)) (.t 32), none, [30, 32]⟩] none [0, 1, 7, 8, 33, 40, 59, 64, 69, 107])
 (.cond [0, 1, 7, 8, 40, 59, 64, 69, 107] (.t 33) (.seq (.reg 9 [⟨some 34, .move (.t 1), none, [1]⟩,
  ⟨some 4, .assign (.c (Value.string { data := #[] })), none, []⟩,
  ⟨some 5, .assign (.t 34), none, [34]⟩,
  ⟨some 6, .assign (.c (Value.bool false)), none, []⟩] none [4, 5, 6])
 .ret) .skip))
 k8_thicketref03_quoted)
def k9_thicketref03_quoted : IR := .tail [0, 1, 7, 8, 40, 59, 64, 69, 107] j9_thicketref03_quoted
def j10_thicketref03_quoted : IR :=
 (.reg 4 [⟨some 17, .move (.t 1), none, []⟩,
  ⟨some 18, .bin .add 3 (.t 17) (.c (Value.int IntKind.i64 1)) 3, none, [17]⟩,
  ⟨some 1, .assign (.t 18), none, [18]⟩] none [0, 1, 7, 40, 59, 64, 69, 107])
def k10_thicketref03_quoted : IR := .tail [0, 1, 7, 40, 59, 64, 69, 107] j10_thicketref03_quoted
def j11_thicketref03_quoted : IR :=
 (.seq (.block 1 (.seq (.reg 5 [⟨some 19, .move (.t 0), none, []⟩,
  ⟨some 20, .move (.t 1), none, []⟩,
  ⟨some 21, .index 9 .str none (.t 19) (.t 20), none, [19, 20]⟩,
  ⟨some 8, .assign (.t 21), none, [21]⟩] none [0, 1, 7, 8, 40, 59, 64, 69, 107])
 (.seq (.seq (.reg 6 [⟨some 22, .move (.t 8), none, []⟩,
  ⟨some 23, .bin .eql 5 (.t 22) (.c (Value.int IntKind.u8 34)) 5, none, [22]⟩] none [0, 1, 7, 8, 23, 40, 59, 64, 69, 107])
 (.cond [0, 1, 7, 8, 40, 59, 64, 69, 107] (.t 23) (.seq (.reg 7 [⟨some 24, .move (.t 7), none, []⟩,
  ⟨some 25, .conv 56 9 .bytes (.t 24), none, [7, 24, 40, 59, 64, 69, 107]⟩,
  ⟨some 26, .move (.t 1), none, [1]⟩,
  ⟨some 27, .bin .add 3 (.t 26) (.c (Value.int IntKind.i64 1)) 3, none, [26]⟩,
  ⟨some 4, .assign (.t 25), none, [25]⟩,
  ⟨some 5, .assign (.t 27), none, [27]⟩,
  ⟨some 6, .assign (.c (Value.bool true)), none, []⟩] none [4, 5, 6])
 .ret) .skip))
 k9_thicketref03_quoted)))
 k10_thicketref03_quoted)
def k11_thicketref03_quoted : IR := .tail [0, 1, 7, 40, 59, 64, 69, 107] j11_thicketref03_quoted
def w0_thicketref03_quoted : IR :=
 (.seq (.seq (.reg 3 [⟨some 13, .move (.t 1), none, []⟩,
  ⟨some 14, .move (.t 0), none, []⟩,
  ⟨some 15, .len 9 true (.t 14), none, [14]⟩,
  ⟨some 16, .bin .lss 3 (.t 13) (.t 15) 3, none, [13, 15]⟩] none [0, 1, 7, 16, 40, 59, 64, 69, 107])
 (.cond [0, 1, 7, 40, 59, 64, 69, 107] (.t 16) .skip (.exit 0)))
 k11_thicketref03_quoted)
def l0_thicketref03_quoted : IR := .loop [0, 1, 7, 40, 59, 64, 69, 107] w0_thicketref03_quoted
def j12_thicketref03_quoted : IR :=
 (.seq (.reg 35 [⟨some 110, .move (.t 0), none, [0]⟩,
  ⟨some 111, .len 9 true (.t 110), none, [110]⟩,
  ⟨some 4, .assign (.c (Value.string { data := #[] })), none, []⟩,
  ⟨some 5, .assign (.t 111), none, [111]⟩,
  ⟨some 6, .assign (.c (Value.bool false)), none, []⟩] none [4, 5, 6])
 .ret)
def k12_thicketref03_quoted : IR := .tail [0] j12_thicketref03_quoted
def b_thicketref03_quoted : IR :=
 (.seq (.reg 0 [⟨some 4, .assign (.c (Value.string { data := #[] })), none, [4]⟩,
  ⟨some 5, .assign (.c (Value.int IntKind.i64 0)), none, [5]⟩,
  ⟨some 6, .assign (.c (Value.bool false)), none, [6]⟩] none [0, 1])
 (.seq (.reg 1 [⟨some 7, .assign (.nilS 1), none, []⟩] none [0, 1, 7, 40, 59, 64, 69, 107])
 (.seq (.seq (.reg 2 [⟨some 11, .move (.t 1), none, []⟩,
  ⟨some 12, .bin .add 3 (.t 11) (.c (Value.int IntKind.i64 1)) 3, none, [11]⟩,
  ⟨some 1, .assign (.t 12), none, [12]⟩] none [0, 1, 7, 40, 59, 64, 69, 107])
 (.block 0 l0_thicketref03_quoted))
 k12_thicketref03_quoted)))
def a_thicketref03_quoted : AFunc := ⟨112, [.tmp 4, .tmp 5, .tmp 6], b_thicketref03_quoted⟩

def j0_thicketref03_mark : IR :=
 (.reg 6 [⟨some 15, .bin .add 3 (.t 8) (.c (Value.int IntKind.i64 1)) 3, none, []⟩,
  ⟨some 8, .move (.t 15), none, [15]⟩] none [0, 6, 7, 8])
def k0_thicketref03_mark : IR := .tail [0, 6, 7, 8] j0_thicketref03_mark
def j1_thicketref03_mark : IR :=
 (.seq (.block 1 (.seq (.reg 3 [⟨some 10, .iaddr 56 (.sl 1) (.t 6) (.t 8), none, []⟩,
  ⟨some 11, .load 5 none (.t 10), none, [10]⟩,
  ⟨some 4, .assign (.t 11), none, [11]⟩] none [0, 4, 6, 7, 8])
 (.seq (.reg 4 [⟨some 12, .move (.t 0), none, []⟩,
  ⟨some 13, .move (.t 4), none, [4]⟩,
  ⟨some 14, .bin .eql 5 (.t 12) (.t 13) 5, none, [12, 13]⟩] none [0, 6, 7, 8, 14])
 (.cond [0, 6, 7, 8] (.t 14) (.seq (.reg 5 [⟨some 2, .assign (.c (Value.bool true)), none, []⟩] none [2])
 .ret) .skip))))
 k0_thicketref03_mark)
def k1_thicketref03_mark : IR := .tail [0, 6, 7, 8] j1_thicketref03_mark
def w0_thicketref03_mark : IR :=
 (.seq (.reg 2 [⟨some 9, .bin .lss 3 (.t 8) (.t 7) 3, none, []⟩] none [0, 6, 7, 8, 9])
 (.seq (.cond [0, 6, 7, 8] (.t 9) .skip (.exit 0))
 k1_thicketref03_mark))
def l0_thicketref03_mark : IR := .loop [0, 6, 7, 8] w0_thicketref03_mark
def j2_thicketref03_mark : IR :=
 (.seq (.reg 7 [⟨some 2, .assign (.c (Value.bool false)), none, []⟩] none [2])
 .ret)
def k2_thicketref03_mark : IR := .tail [] j2_thicketref03_mark
def b_thicketref03_mark : IR :=
 (.seq (.reg 0 [⟨some 2, .assign (.c (Value.bool false)), none, [2]⟩] none [0])
 (.seq (.seq (.reg 1 [⟨some 5, .lit 56 1 [(.c (Value.int IntKind.u8 44)), (.c (Value.int IntKind.u8 58)), (.c (Value.int IntKind.u8 59)), (.c (Value.int IntKind.u8 61)), (.c (Value.int IntKind.u8 60)), (.c (Value.int IntKind.u8 62)), (.c (Value.int IntKind.u8 40)), (.c (Value.int IntKind.u8 41)), (.c (Value.int IntKind.u8 91)), (.c (Value.int IntKind.u8 93)), (.c (Value.int IntKind.u8 123)), (.c (Value.int IntKind.u8 125)), (.c (Value.int IntKind.u8 124))], none, []⟩,
  ⟨some 6, .mark 56 (.t 5), none, [5]⟩,
  ⟨some 7, .len 56 false (.t 6), none, []⟩,
  ⟨some 8, .move (.c (Value.int IntKind.i64 0)), none, []⟩] none [0, 6, 7, 8])
 (.block 0 l0_thicketref03_mark))
 k2_thicketref03_mark))
def a_thicketref03_mark : AFunc := ⟨16, [.tmp 2], b_thicketref03_mark⟩

def j0_thicketref03_Words : IR :=
 (.block 4 (.reg 13 [⟨some 77, .move (.t 9), none, []⟩,
  ⟨some 78, .bin .add 3 (.t 77) (.c (Value.int IntKind.i64 1)) 3, none, [77]⟩,
  ⟨some 9, .assign (.t 78), none, [78]⟩] none [0, 5, 6, 8, 9, 200]))
def k0_thicketref03_Words : IR := .tail [0, 5, 6, 8, 9, 200] j0_thicketref03_Words
def w1_thicketref03_Words : IR :=
 (.seq (.seq (.reg 12 [⟨some 43, .move (.t 9), none, []⟩,
  ⟨some 44, .move (.t 0), none, []⟩,
  ⟨some 45, .len 9 true (.t 44), none, [44]⟩,
  ⟨some 46, .bin .lss 3 (.t 43) (.t 45) 3, none, [43, 45]⟩,
  ⟨some 47, .move (.t 46), none, [46]⟩,
  ⟨some 48, .move (.t 0), some (4, true), []⟩,
  ⟨some 49, .move (.t 9), some (4, true), []⟩,
  ⟨some 50, .index 9 .str none (.t 48) (.t 49), some (4, true), [48, 49]⟩,
  ⟨some 51, .call n_thicketref03_letter [(.t 50)] [5], some (4, true), [50]⟩,
  ⟨some 52, .move (.t 51), some (4, true), [51]⟩,
  ⟨some 53, .move (.t 0), some (9, false), []⟩,
  ⟨some 54, .move (.t 9), some (9, false), []⟩,
  ⟨some 55, .index 9 .str none (.t 53) (.t 54), some (9, false), [53, 54]⟩,
  ⟨some 56, .call n_thicketref03_digit [(.t 55)] [5], some (9, false), [55]⟩,
  ⟨some 57, .pick (.t 52) (.c (Value.bool true)) (.t 56), some (4, true), [52, 56]⟩,
  ⟨some 58, .move (.t 57), some (4, true), [57]⟩,
  ⟨some 59, .move (.t 0), some (15, false), []⟩,
  ⟨some 60, .move (.t 9), some (15, false), []⟩,
  ⟨some 61, .index 9 .str none (.t 59) (.t 60), some (15, false), [59, 60]⟩,
  ⟨some 62, .bin .eql 5 (.t 61) (.c (Value.int IntKind.u8 95)) 5, some (15, false), [61]⟩,
  ⟨some 63, .pick (.t 58) (.c (Value.bool true)) (.t 62), some (4, true), [58, 62]⟩,
  ⟨some 64, .move (.t 63), some (4, true), [63]⟩,
  ⟨some 65, .move (.t 0), some (21, false), []⟩,
  ⟨some 66, .move (.t 9), some (21, false), []⟩,
  ⟨some 67, .index 9 .str none (.t 65) (.t 66), some (21, false), [65, 66]⟩,
  ⟨some 68, .bin .eql 5 (.t 67) (.c (Value.int IntKind.u8 45)) 5, some (21, false), [67]⟩,
  ⟨some 69, .pick (.t 64) (.c (Value.bool true)) (.t 68), some (4, true), [64, 68]⟩,
  ⟨some 70, .move (.t 69), some (4, true), [69]⟩,
  ⟨some 71, .move (.t 0), some (27, false), []⟩,
  ⟨some 72, .move (.t 9), some (27, false), []⟩,
  ⟨some 73, .index 9 .str none (.t 71) (.t 72), some (27, false), [71, 72]⟩,
  ⟨some 74, .bin .eql 5 (.t 73) (.c (Value.int IntKind.u8 46)) 5, some (27, false), [73]⟩,
  ⟨some 75, .pick (.t 70) (.c (Value.bool true)) (.t 74), some (4, true), [70, 74]⟩,
  ⟨some 76, .pick (.t 47) (.t 75) (.c (Value.bool false)), none, [47, 75]⟩] none [0, 5, 6, 8, 9, 76, 200])
 (.cond [0, 5, 6, 8, 9, 200] (.t 76) .skip (.exit 3)))
 k0_thicketref03_Words)
def l1_thicketref03_Words : IR := .loop [0, 5, 6, 8, 9, 200] w1_thicketref03_Words
def j1_thicketref03_Words : IR :=
 (.block 6 (.reg 17 [⟨some 135, .move (.t 9), none, []⟩,
  ⟨some 136, .bin .add 3 (.t 135) (.c (Value.int IntKind.i64 1)) 3, none, [135]⟩,
  ⟨some 9, .assign (.t 136), none, [136]⟩] none [0, 5, 6, 8, 9, 200]))
def k1_thicketref03_Words : IR := .tail [0, 5, 6, 8, 9, 200] j1_thicketref03_Words
def w2_thicketref03_Words : IR :=
 (.seq (.seq (.reg 16 [⟨some 95, .move (.t 9), none, []⟩,
  ⟨some 96, .move (.t 0), none, []⟩,
  ⟨some 97, .len 9 true (.t 96), none, [96]⟩,
  ⟨some 98, .bin .lss 3 (.t 95) (.t 97) 3, none, [95, 97]⟩,
  ⟨some 99, .move (.t 98), none, [98]⟩,
  ⟨some 100, .move (.t 0), some (4, true), []⟩,
  ⟨some 101, .move (.t 9), some (4, true), []⟩,
  ⟨some 102, .index 9 .str none (.t 100) (.t 101), some (4, true), [100, 101]⟩,
  ⟨some 103, .call n_thicketref03_letter [(.t 102)] [5], some (4, true), [102]⟩,
  ⟨some 104, .move (.t 103), some (4, true), [103]⟩,
  ⟨some 105, .move (.t 0), some (9, false), []⟩,
  ⟨some 106, .move (.t 9), some (9, false), []⟩,
  ⟨some 107, .index 9 .str none (.t 105) (.t 106), some (9, false), [105, 106]⟩,
  ⟨some 108, .call n_thicketref03_digit [(.t 107)] [5], some (9, false), [107]⟩,
  ⟨some 109, .pick (.t 104) (.c (Value.bool true)) (.t 108), some (4, true), [104, 108]⟩,
  ⟨some 110, .move (.t 109), some (4, true), [109]⟩,
  ⟨some 111, .move (.t 0), some (15, false), []⟩,
  ⟨some 112, .move (.t 9), some (15, false), []⟩,
  ⟨some 113, .index 9 .str none (.t 111) (.t 112), some (15, false), [111, 112]⟩,
  ⟨some 114, .bin .eql 5 (.t 113) (.c (Value.int IntKind.u8 95)) 5, some (15, false), [113]⟩,
  ⟨some 115, .pick (.t 110) (.c (Value.bool true)) (.t 114), some (4, true), [110, 114]⟩,
  ⟨some 116, .move (.t 115), some (4, true), [115]⟩,
  ⟨some 117, .move (.t 0), some (21, false), []⟩,
  ⟨some 118, .move (.t 9), some (21, false), []⟩,
  ⟨some 119, .index 9 .str none (.t 117) (.t 118), some (21, false), [117, 118]⟩,
  ⟨some 120, .bin .eql 5 (.t 119) (.c (Value.int IntKind.u8 45)) 5, some (21, false), [119]⟩,
  ⟨some 121, .pick (.t 116) (.c (Value.bool true)) (.t 120), some (4, true), [116, 120]⟩,
  ⟨some 122, .move (.t 121), some (4, true), [121]⟩,
  ⟨some 123, .move (.t 0), some (27, false), []⟩,
  ⟨some 124, .move (.t 9), some (27, false), []⟩,
  ⟨some 125, .index 9 .str none (.t 123) (.t 124), some (27, false), [123, 124]⟩,
  ⟨some 126, .bin .eql 5 (.t 125) (.c (Value.int IntKind.u8 46)) 5, some (27, false), [125]⟩,
  ⟨some 127, .pick (.t 122) (.c (Value.bool true)) (.t 126), some (4, true), [122, 126]⟩,
  ⟨some 128, .move (.t 127), some (4, true), [127]⟩,
  ⟨some 129, .move (.t 0), some (33, false), []⟩,
  ⟨some 130, .move (.t 9), some (33, false), []⟩,
  ⟨some 131, .index 9 .str none (.t 129) (.t 130), some (33, false), [129, 130]⟩,
  ⟨some 132, .bin .eql 5 (.t 131) (.c (Value.int IntKind.u8 43)) 5, some (33, false), [131]⟩,
  ⟨some 133, .pick (.t 128) (.c (Value.bool true)) (.t 132), some (4, true), [128, 132]⟩,
  ⟨some 134, .pick (.t 99) (.t 133) (.c (Value.bool false)), none, [99, 133]⟩] none [0, 5, 6, 8, 9, 134, 200])
 (.cond [0, 5, 6, 8, 9, 200] (.t 134) .skip (.exit 5)))
 k1_thicketref03_Words)
def l2_thicketref03_Words : IR := .loop [0, 5, 6, 8, 9, 200] w2_thicketref03_Words
def j2_thicketref03_Words : IR :=
 (.seq (.reg 23 [⟨some 151, .move (.t 10), none, [10]⟩,
  ⟨some 152, .faddr 36 (.t 8) 1 1, none, []⟩,
  ⟨none, .store 9 none (.t 152) (.t 151), none, [151, 152]⟩] none [0, 5, 6, 8, 11, 200])
 (.reg 24 [⟨some 153, .move (.t 11), none, [11]⟩,
  ⟨some 9, .assign (.t 153), none, [153]⟩] none [0, 5, 6, 8, 9, 200]))
def k2_thicketref03_Words : IR := .tail [0, 5, 6, 8, 10, 11, 200] j2_thicketref03_Words
def j3_thicketref03_Words : IR :=
 (.seq (.reg 34 [⟨some 197, .move (.t 5), none, []⟩,
  ⟨some 198, .load 36 (some 3) (.t 8), none, [8]⟩,
  ⟨some 199, .lit 27 3 [(.t 198)], none, [198]⟩,
  ⟨some 200, .append 27 27 false 3 32 (.t 197) (.t 199), none, [197, 199]⟩,
  ⟨some 5, .assign (.t 200), none, []⟩] none [0, 5, 9, 200])
 (.reg 35 [⟨some 201, .move (.t 9), none, [9]⟩,
  ⟨some 6, .assign (.t 201), none, [201]⟩] none [0, 5, 6, 200]))
def k3_thicketref03_Words : IR := .tail [0, 5, 8, 9, 200] j3_thicketref03_Words
def j4_thicketref03_Words : IR :=
 (.seq (.seq (.reg 32 [⟨some 192, .faddr 36 (.t 8) 1 1, none, []⟩,
  ⟨some 193, .load 9 none (.t 192), none, [192]⟩,
  ⟨some 194, .len 9 true (.t 193), none, [193]⟩,
  ⟨some 195, .bin .gtr 3 (.t 194) (.c (Value.int IntKind.i64 65536)) 3, none, [194]⟩] none [0, 5, 6, 8, 9, 195, 200])
 (.cond [0, 5, 6, 8, 9, 200] (.t 195) (.seq (.reg 33 [⟨some 196, .move (.t 6), none, [6]⟩,
  ⟨some 2, .assign (.nilS 3), none, []⟩,
  ⟨some 3, .assign (.c (Value.int IntKind.i64 4)), none, []⟩,
  ⟨some 4, .assign (.t 196), none, [196]⟩] none [2, 3, 4, 5, 200, 202])
 .ret) .skip))
 k3_thicketref03_Words)
def k4_thicketref03_Words : IR := .tail [0, 5, 6, 8, 9, 200] j4_thicketref03_Words
def j5_thicketref03_Words : IR :=
 (.seq (.seq (.reg 30 [⟨some 184, .faddr 36 (.t 8) 0 0, none, []⟩,
  ⟨some 185, .load 34 none (.t 184), none, [184]⟩,
  ⟨some 186, .bin .neq 34 (.t 185) (.c (Value.int IntKind.u8 3)) 34, none, [185]⟩] none [0, 5, 6, 8, 9, 186, 200])
 (.cond [0, 5, 6, 8, 9, 200] (.t 186) (.reg 31 [⟨some 187, .move (.t 0), none, []⟩,
  ⟨some 188, .move (.t 6), none, []⟩,
  ⟨some 189, .move (.t 9), none, []⟩,
  ⟨some 190, .slice 9 .str (.t 187) (some (.t 188)) (some (.t 189)) none, none, [187, 188, 189]⟩,
  ⟨some 191, .faddr 36 (.t 8) 1 1, none, []⟩,
  ⟨none, .store 9 none (.t 191) (.t 190), none, [190, 191]⟩] none [0, 5, 6, 8, 9, 200]) .skip))
 k4_thicketref03_Words)
def k5_thicketref03_Words : IR := .tail [0, 5, 6, 8, 9, 200] j5_thicketref03_Words
def j6_thicketref03_Words : IR :=
 (.seq (.reg 7 [⟨some 30, .move (.t 6), none, []⟩,
  ⟨some 31, .build 36 [(0, 1), (1, 1), (2, 1)] [.v (.int .u8 0), .v (.string ⟨#[]⟩), .v (.int .i64 0)] [(2, (.t 30))], none, [30]⟩,
  ⟨some 8, .alloc 36 [.v (.int .u8 0), .v (.string ⟨#[]⟩), .v (.int .i64 0)], none, []⟩,
  ⟨none, .store 36 (some 3) (.t 8) (.t 31), none, [31]⟩] none [0, 5, 6, 7, 8, 200])
 (.seq (.reg 8 [⟨some 32, .move (.t 6), none, []⟩,
  ⟨some 33, .bin .add 3 (.t 32) (.c (Value.int IntKind.i64 1)) 3, none, [32]⟩,
  ⟨some 9, .assign (.t 33), none, [33]⟩] none [0, 5, 6, 7, 8, 9, 200])
 (.seq (.block 2 (.seq (.reg 10 [⟨some 36, .move (.t 7), none, []⟩,
  ⟨some 37, .call n_thicketref03_letter [(.t 36)] [5], none, [36]⟩,
  ⟨some 38, .move (.t 37), none, [37]⟩,
  ⟨some 39, .move (.t 7), some (2, false), []⟩,
  ⟨some 40, .bin .eql 5 (.t 39) (.c (Value.int IntKind.u8 95)) 5, some (2, false), [39]⟩,
  ⟨some 41, .pick (.t 38) (.c (Value.bool true)) (.t 40), none, [38, 40]⟩,
  ⟨some 35, .assign (.t 41), none, [41]⟩] none [0, 5, 6, 7, 8, 9, 35, 200])
 (.cond [0, 5, 6, 7, 8, 9, 200] (.t 35) (.seq (.reg 11 [⟨some 42, .faddr 36 (.t 8) 0 0, none, []⟩,
  ⟨none, .store 34 none (.t 42) (.c (Value.int IntKind.u8 1)), none, [42]⟩] none [0, 5, 6, 8, 9, 200])
 (.block 3 l1_thicketref03_Words)) (.seq (.reg 14 [⟨some 80, .move (.t 7), none, []⟩,
  ⟨some 81, .call n_thicketref03_digit [(.t 80)] [5], none, [80]⟩,
  ⟨some 82, .move (.t 81), none, [81]⟩,
  ⟨some 83, .move (.t 7), some (2, false), []⟩,
  ⟨some 84, .bin .eql 5 (.t 83) (.c (Value.int IntKind.u8 43)) 5, some (2, false), [83]⟩,
  ⟨some 85, .pick (.t 82) (.c (Value.bool true)) (.t 84), none, [82, 84]⟩,
  ⟨some 86, .move (.t 85), none, [85]⟩,
  ⟨some 87, .move (.t 7), some (6, false), []⟩,
  ⟨some 88, .bin .eql 5 (.t 87) (.c (Value.int IntKind.u8 45)) 5, some (6, false), [87]⟩,
  ⟨some 89, .pick (.t 86) (.c (Value.bool true)) (.t 88), none, [86, 88]⟩,
  ⟨some 90, .move (.t 89), none, [89]⟩,
  ⟨some 91, .move (.t 7), some (10, false), []⟩,
  ⟨some 92, .bin .eql 5 (.t 91) (.c (Value.int IntKind.u8 46)) 5, some (10, false), [91]⟩,
  ⟨some 93, .pick (.t 90) (.c (Value.bool true)) (.t 92), none, [90, 92]⟩,
  ⟨some 79, .assign (.t 93), none, [93]⟩] none [0, 5, 6, 7, 8, 9, 79, 200])
 (.cond [0, 5, 6, 7, 8, 9, 200] (.t 79) (.seq (.reg 15 [⟨some 94, .faddr 36 (.t 8) 0 0, none, []⟩,
  ⟨none, .store 34 none (.t 94) (.c (Value.int IntKind.u8 2)), none, [94]⟩] none [0, 5, 6, 8, 9, 200])
 (.block 5 l2_thicketref03_Words)) (.seq (.reg 18 [⟨some 138, .move (.t 7), none, []⟩,
  ⟨some 139, .bin .eql 5 (.t 138) (.c (Value.int IntKind.u8 34)) 5, none, [138]⟩,
  ⟨some 137, .assign (.t 139), none, [139]⟩] none [0, 5, 6, 7, 8, 9, 137, 200])
 (.cond [0, 5, 6, 7, 8, 9, 200] (.t 137) (.seq (.reg 19 [⟨some 140, .faddr 36 (.t 8) 0 0, none, []⟩,
  ⟨none, .store 34 none (.t 140) (.c (Value.int IntKind.u8 3)), none, [140]⟩] none [0, 5, 6, 8, 200])
 (.seq (.reg 20 [⟨some 142, .move (.t 0), none, []⟩,
  ⟨some 143, .move (.t 6), none, []⟩,
  ⟨some 144, .call n_thicketref03_quoted [(.t 142), (.t 143)] [9, 3], none, [142, 143]⟩,
  ⟨some 141, .move (.t 144), none, [144]⟩,
  ⟨some 145, .extr (.t 141) 0, none, []⟩,
  ⟨some 146, .extr (.t 141) 1, none, []⟩,
  ⟨some 147, .extr (.t 141) 2, none, [141]⟩,
  ⟨some 10, .assign (.t 145), none, [145]⟩,
  ⟨some 11, .assign (.t 146), none, [146]⟩,
  ⟨some 12, .assign (.t 147), none, [147]⟩] none [0, 5, 6, 8, 10, 11, 12, 200])
 (.seq (.seq (.reg 21 [⟨some 148, .move (.t 12), none, [12]⟩,
  ⟨some 149, .un .not 4 (.t 148), none, [148]⟩] none [0, 5, 6, 8, 10, 11, 149, 200])
 (.cond [0, 5, 6, 8, 10, 11, 200] (.t 149) (.seq (.reg 22 [⟨some 150, .move (.t 11), none, [11]⟩,
  ⟨some 2, .assign (.nilS 3), none, []⟩,
  ⟨some 3, .assign (.c (Value.int IntKind.i64 31)), none, []⟩,
  ⟨some 4, .assign (.t 150), none, [150]⟩] none [2, 3, 4, 5, 200, 202])
 .ret) .skip))
 k2_thicketref03_Words))) (.seq (.reg 25 [⟨some 155, .move (.t 7), none, []⟩,
  ⟨some 156, .bin .eql 5 (.t 155) (.c (Value.int IntKind.u8 60)) 5, none, [155]⟩,
  ⟨some 157, .move (.t 156), none, [156]⟩,
  ⟨some 158, .move (.t 7), some (2, false), []⟩,
  ⟨some 159, .bin .eql 5 (.t 158) (.c (Value.int IntKind.u8 62)) 5, some (2, false), [158]⟩,
  ⟨some 160, .pick (.t 157) (.c (Value.bool true)) (.t 159), none, [157, 159]⟩,
  ⟨some 161, .move (.t 160), none, [160]⟩,
  ⟨some 162, .move (.t 7), some (6, false), []⟩,
  ⟨some 163, .bin .eql 5 (.t 162) (.c (Value.int IntKind.u8 33)) 5, some (6, false), [162]⟩,
  ⟨some 164, .pick (.t 161) (.c (Value.bool true)) (.t 163), none, [161, 163]⟩,
  ⟨some 165, .move (.t 164), none, [164]⟩,
  ⟨some 166, .move (.t 9), some (10, true), []⟩,
  ⟨some 167, .move (.t 0), some (10, true), []⟩,
  ⟨some 168, .len 9 true (.t 167), some (10, true), [167]⟩,
  ⟨some 169, .bin .lss 3 (.t 166) (.t 168) 3, some (10, true), [166, 168]⟩,
  ⟨some 170, .pick (.t 165) (.t 169) (.c (Value.bool false)), none, [165, 169]⟩,
  ⟨some 171, .move (.t 170), none, [170]⟩,
  ⟨some 172, .move (.t 0), some (16, true), []⟩,
  ⟨some 173, .move (.t 9), some (16, true), []⟩,
  ⟨some 174, .index 9 .str none (.t 172) (.t 173), some (16, true), [172, 173]⟩,
  ⟨some 175, .bin .eql 5 (.t 174) (.c (Value.int IntKind.u8 61)) 5, some (16, true), [174]⟩,
  ⟨some 176, .pick (.t 171) (.t 175) (.c (Value.bool false)), none, [171, 175]⟩,
  ⟨some 154, .assign (.t 176), none, [176]⟩] none [0, 5, 6, 7, 8, 9, 154, 200])
 (.cond [0, 5, 6, 7, 8, 9, 200] (.t 154) (.seq (.reg 26 [⟨some 177, .faddr 36 (.t 8) 0 0, none, []⟩,
  ⟨none, .store 34 none (.t 177) (.c (Value.int IntKind.u8 4)), none, [177]⟩] none [0, 5, 6, 8, 9, 200])
 (.reg 27 [⟨some 178, .move (.t 9), none, []⟩,
  ⟨some 179, .bin .add 3 (.t 178) (.c (Value.int IntKind.i64 1)) 3, none, [178]⟩,
  ⟨some 9, .assign (.t 179), none, [179]⟩] none [0, 5, 6, 8, 9, 200])) (.seq (.reg 28 [⟨some 181, .move (.t 7), none, [7]⟩,
  ⟨some 182, .call n_thicketref03_mark [(.t 181)] [5], none, [181]⟩,
  ⟨some 180, .assign (.t 182), none, [182]⟩] none [0, 5, 6, 8, 9, 180, 200])
 (.cond [0, 5, 6, 8, 9, 200] (.t 180) (.reg 29 [⟨some 183, .faddr 36 (.t 8) 0 0, none, []⟩,
  ⟨none, .store 34 none (.t 183) (.c (Value.int IntKind.u8 4)), none, [183]⟩] none [0, 5, 6, 8, 9, 200]) (.seq (.reg 9 [⟨some 34, .move (.t 6), none, [6]⟩,
  ⟨some 2, .assign (.nilS 3), none, []⟩,
  ⟨some 3, .assign (.c (Value.int IntKind.i64 30)), none, []⟩,
  ⟨some 4, .assign (.t 34), none, [34]⟩] none [2, 3, 4, 5, 200, 202])
 .ret))))))))))))
 k5_thicketref03_Words)))
def k6_thicketref03_Words : IR := .tail [0, 5, 6, 7, 200] j6_thicketref03_Words
def j7_thicketref03_Words : IR :=
 (.block 1 (.seq (.reg 4 [⟨some 23, .move (.t 0), none, []⟩,
  ⟨some 24, .move (.t 6), none, []⟩,
  ⟨some 25, .index 9 .str none (.t 23) (.t 24), none, [23, 24]⟩,
  ⟨some 7, .assign (.t 25), none, [25]⟩] none [0, 5, 6, 7, 200])
 (.seq (.seq (.reg 5 [⟨some 26, .move (.t 7), none, []⟩,
  ⟨some 27, .call n_thicketref03_blank [(.t 26)] [5], none, [26]⟩] none [0, 5, 6, 7, 27, 200])
 (.cond [0, 5, 6, 7, 200] (.t 27) (.seq (.reg 6 [⟨some 28, .move (.t 6), none, []⟩,
  ⟨some 29, .bin .add 3 (.t 28) (.c (Value.int IntKind.i64 1)) 3, none, [28]⟩,
  ⟨some 6, .assign (.t 29), none, [29]⟩] none [0, 5, 6, 200])
 (.exit 1)) .skip))
 k6_thicketref03_Words)))
def k7_thicketref03_Words : IR := .tail [0, 5, 6, 200] j7_thicketref03_Words
def w0_thicketref03_Words : IR :=
 (.seq (.seq (.reg 3 [⟨some 13, .move (.t 6), none, []⟩,
  ⟨some 14, .move (.t 0), none, []⟩,
  ⟨some 15, .len 9 true (.t 14), none, [14]⟩,
  ⟨some 16, .bin .lss 3 (.t 13) (.t 15) 3, none, [13, 15]⟩,
  ⟨some 17, .move (.t 16), none, [16]⟩,
  ⟨some 18, .move (.t 0), some (4, true), []⟩,
  ⟨some 19, .move (.t 6), some (4, true), []⟩,
  ⟨some 20, .index 9 .str none (.t 18) (.t 19), some (4, true), [18, 19]⟩,
  ⟨some 21, .bin .neq 5 (.t 20) (.c (Value.int IntKind.u8 35)) 5, some (4, true), [20]⟩,
  ⟨some 22, .pick (.t 17) (.t 21) (.c (Value.bool false)), none, [17, 21]⟩] none [0, 5, 6, 22, 200])
 (.cond [0, 5, 6, 200] (.t 22) .skip (.exit 0)))
 k7_thicketref03_Words)
def l0_thicketref03_Words : IR := .loop [0, 5, 6, 200] w0_thicketref03_Words
def j8_thicketref03_Words : IR :=
 (.seq (.reg 36 [⟨some 202, .move (.t 5), none, []⟩,
  ⟨some 2, .assign (.t 202), none, []⟩,
  ⟨some 3, .assign (.c (Value.int IntKind.i64 0)), none, []⟩,
  ⟨some 4, .assign (.c (Value.int IntKind.i64 0)), none, []⟩] none [2, 3, 4, 5, 200, 202])
 .ret)
def k8_thicketref03_Words : IR := .tail [5, 200] j8_thicketref03_Words
def b_thicketref03_Words : IR :=
 (.seq (.reg 0 [⟨some 2, .assign (.nilS 3), none, [2]⟩,
  ⟨some 3, .assign (.c (Value.int IntKind.i64 0)), none, [3]⟩,
  ⟨some 4, .assign (.c (Value.int IntKind.i64 0)), none, [4]⟩] none [0])
 (.seq (.reg 1 [⟨some 5, .assign (.nilS 3), none, []⟩] none [0, 5, 200])
 (.seq (.reg 2 [⟨some 6, .assign (.c (Value.int IntKind.i64 0)), none, []⟩] none [0, 5, 6, 200])
 (.seq (.block 0 l0_thicketref03_Words)
 k8_thicketref03_Words))))
def a_thicketref03_Words : AFunc := ⟨203, [.tmp 2, .tmp 3, .tmp 4], b_thicketref03_Words⟩

def j0_thicketref03_Same : IR :=
 (.reg 8 [⟨some 25, .bin .add 3 (.t 13) (.c (Value.int IntKind.i64 1)) 3, none, []⟩,
  ⟨some 13, .move (.t 25), none, [25]⟩] none [0, 1, 12, 13])
def k0_thicketref03_Same : IR := .tail [0, 1, 12, 13] j0_thicketref03_Same
def j1_thicketref03_Same : IR :=
 (.seq (.block 1 (.seq (.reg 5 [⟨some 15, .move (.t 13), none, []⟩,
  ⟨some 5, .assign (.t 15), none, [15]⟩] none [0, 1, 5, 12, 13])
 (.seq (.reg 6 [⟨some 16, .move (.t 0), none, []⟩,
  ⟨some 17, .move (.t 5), none, []⟩,
  ⟨some 18, .iaddr 27 (.sl 3) (.t 16) (.t 17), none, []⟩,
  ⟨some 19, .load 36 (some 3) (.t 18), none, [16, 17, 18]⟩,
  ⟨some 20, .move (.t 1), none, []⟩,
  ⟨some 21, .move (.t 5), none, [5]⟩,
  ⟨some 22, .iaddr 27 (.sl 3) (.t 20) (.t 21), none, []⟩,
  ⟨some 23, .load 36 (some 3) (.t 22), none, [20, 21, 22]⟩,
  ⟨some 24, .eqs true 36 (.st [.int, .str, .int]) (.t 19) (.t 23) 36, none, [19, 23]⟩] (some [⟨0, []⟩, ⟨1, []⟩, ⟨2, []⟩, ⟨4, []⟩, ⟨5, []⟩, ⟨6, []⟩, ⟨3, []⟩, ⟨7, []⟩, ⟨8, []⟩]) [0, 1, 12, 13, 24])
 (.cond [0, 1, 12, 13] (.t 24) (.seq (.reg 7 [⟨some 4, .assign (.c (Value.bool false)), none, []⟩] none [4])
 .ret) .skip))))
 k0_thicketref03_Same)
def k1_thicketref03_Same : IR := .tail [0, 1, 12, 13] j1_thicketref03_Same
def w0_thicketref03_Same : IR :=
 (.seq (.reg 4 [⟨some 14, .bin .lss 3 (.t 13) (.t 12) 3, none, []⟩] none [0, 1, 12, 13, 14])
 (.seq (.cond [0, 1, 12, 13] (.t 14) .skip (.exit 0))
 k1_thicketref03_Same))
def l0_thicketref03_Same : IR := .loop [0, 1, 12, 13] w0_thicketref03_Same
def j2_thicketref03_Same : IR :=
 (.seq (.reg 9 [⟨some 4, .assign (.c (Value.bool true)), none, []⟩] none [4])
 .ret)
def k2_thicketref03_Same : IR := .tail [] j2_thicketref03_Same
def j3_thicketref03_Same : IR :=
 (.seq (.seq (.reg 3 [⟨some 11, .move (.t 0), none, []⟩,
  ⟨some 12, .len 27 false (.t 11), none, [11]⟩,
  ⟨some 13, .move (.c (Value.int IntKind.i64 0)), none, []⟩] none [0, 1, 12, 13])
 (.block 0 l0_thicketref03_Same))
 k2_thicketref03_Same)
def k3_thicketref03_Same : IR := .tail [0, 1] j3_thicketref03_Same
def b_thicketref03_Same : IR :=
 (.seq (.reg 0 [⟨some 4, .assign (.c (Value.bool false)), none, [4]⟩] none [0, 1])
 (.seq (.seq (.reg 1 [⟨some 6, .move (.t 0), none, []⟩,
  ⟨some 7, .len 27 false (.t 6), none, [6]⟩,
  ⟨some 8, .move (.t 1), none, []⟩,
  ⟨some 9, .len 27 false (.t 8), none, [8]⟩,
  ⟨some 10, .bin .neq 3 (.t 7) (.t 9) 3, none, [7, 9]⟩] none [0, 1, 10])
 (.cond [0, 1] (.t 10) (.seq (.reg 2 [⟨some 4, .assign (.c (Value.bool false)), none, []⟩] none [4])
 .ret) .skip))
 k3_thicketref03_Same))
def a_thicketref03_Same : AFunc := ⟨26, [.tmp 4], b_thicketref03_Same⟩

def j0_thicketref03_Fields : IR :=
 (.seq (.reg 13 [⟨some 54, .move (.t 9), none, []⟩,
  ⟨some 55, .move (.t 0), none, []⟩,
  ⟨some 56, .move (.t 8), none, []⟩,
  ⟨some 57, .index 9 .str none (.t 55) (.t 56), none, [55, 56]⟩,
  ⟨some 58, .lit 56 1 [(.t 57)], none, [57]⟩,
  ⟨some 59, .append 56 56 false 1 1 (.t 54) (.t 58), none, [54, 58]⟩,
  ⟨some 9, .assign (.t 59), none, []⟩] none [0, 1, 7, 8, 9, 59, 90, 97])
 (.reg 14 [⟨some 60, .move (.t 8), none, []⟩,
  ⟨some 61, .bin .add 3 (.t 60) (.c (Value.int IntKind.i64 1)) 3, none, [60]⟩,
  ⟨some 8, .assign (.t 61), none, [61]⟩] none [0, 1, 7, 8, 9, 59, 90, 97]))
def k0_thicketref03_Fields : IR := .tail [0, 1, 7, 8, 9, 59, 90, 97] j0_thicketref03_Fields
def j1_thicketref03_Fields : IR :=
 (.seq (.seq (.reg 10 [⟨some 38, .move (.t 0), none, []⟩,
  ⟨some 39, .move (.t 8), none, []⟩,
  ⟨some 40, .index 9 .str none (.t 38) (.t 39), none, [38, 39]⟩,
  ⟨some 41, .bin .eql 5 (.t 40) (.c (Value.int IntKind.u8 34)) 5, none, [40]⟩] none [0, 1, 7, 8, 9, 41, 59, 90, 97])
 (.cond [0, 1, 7, 8, 9, 59, 90, 97] (.t 41) (.seq (.reg 11 [⟨some 42, .move (.t 8), none, []⟩,
  ⟨some 43, .bin .add 3 (.t 42) (.c (Value.int IntKind.i64 1)) 3, none, [42]⟩,
  ⟨some 8, .assign (.t 43), none, [43]⟩] none [0, 1, 7, 8, 9, 59, 90, 97])
 (.seq (.reg 12 [⟨some 44, .move (.t 8), none, []⟩,
  ⟨some 45, .move (.t 0), none, []⟩,
  ⟨some 46, .len 9 true (.t 45), none, [45]⟩,
  ⟨some 47, .bin .geq 3 (.t 44) (.t 46) 3, none, [44, 46]⟩,
  ⟨some 48, .move (.t 47), none, [47]⟩,
  ⟨some 49, .move (.t 0), some (4, false), []⟩,
  ⟨some 50, .move (.t 8), some (4, false), []⟩,
  ⟨some 51, .index 9 .str none (.t 49) (.t 50), some (4, false), [49, 50]⟩,
  ⟨some 52, .bin .neq 5 (.t 51) (.c (Value.int IntKind.u8 34)) 5, some (4, false), [51]⟩,
  ⟨some 53, .pick (.t 48) (.c (Value.bool true)) (.t 52), none, [48, 52]⟩] none [0, 1, 7, 8, 9, 53, 59, 90, 97])
 (.cond [0, 1, 7, 8, 9, 59, 90, 97] (.t 53) (.exit 2) .skip))) .skip))
 k0_thicketref03_Fields)
def k1_thicketref03_Fields : IR := .tail [0, 1, 7, 8, 9, 59, 90, 97] j1_thicketref03_Fields
def w1_thicketref03_Fields : IR :=
 (.block 3 (.seq (.seq (.reg 8 [⟨some 32, .move (.t 8), none, []⟩,
  ⟨some 33, .move (.t 0), none, []⟩,
  ⟨some 34, .len 9 true (.t 33), none, [33]⟩,
  ⟨some 35, .bin .geq 3 (.t 32) (.t 34) 3, none, [32, 34]⟩] none [0, 1, 7, 8, 9, 35, 59, 90, 97])
 (.cond [0, 1, 7, 8, 9, 59, 90, 97] (.t 35) (.seq (.reg 9 [⟨some 36, .move (.t 0), none, [0]⟩,
  ⟨some 37, .len 9 true (.t 36), none, [36]⟩,
  ⟨some 4, .assign (.nilS 1), none, []⟩,
  ⟨some 5, .assign (.c (Value.int IntKind.i64 31)), none, []⟩,
  ⟨some 6, .assign (.t 37), none, [37]⟩] none [4, 5, 6, 7, 97, 102])
 .ret) .skip))
 k1_thicketref03_Fields))
def l1_thicketref03_Fields : IR := .loop [0, 1, 7, 8, 9, 59, 90, 97] w1_thicketref03_Fields
def j2_thicketref03_Fields : IR :=
 (.seq (.reg 15 [⟨some 62, .move (.t 8), none, []⟩,
  ⟨some 63, .move (.t 0), none, []⟩,
  ⟨some 64, .len 9 true (.t 63), none, [63]⟩,
  ⟨some 65, .bin .lss 3 (.t 62) (.t 64) 3, none, [62, 64]⟩,
  ⟨some 66, .move (.t 65), none, [65]⟩,
  ⟨some 67, .move (.t 0), some (4, true), []⟩,
  ⟨some 68, .move (.t 8), some (4, true), []⟩,
  ⟨some 69, .index 9 .str none (.t 67) (.t 68), some (4, true), [67, 68]⟩,
  ⟨some 70, .move (.t 1), some (4, true), []⟩,
  ⟨some 71, .bin .neq 5 (.t 69) (.t 70) 5, some (4, true), [69, 70]⟩,
  ⟨some 72, .pick (.t 66) (.t 71) (.c (Value.bool false)), none, [66, 71]⟩] none [0, 1, 7, 8, 9, 59, 72, 90, 97])
 (.cond [0, 1, 7, 8, 9, 59, 90, 97] (.t 72) (.seq (.reg 16 [⟨some 73, .move (.t 8), none, [8]⟩,
  ⟨some 4, .assign (.nilS 1), none, []⟩,
  ⟨some 5, .assign (.c (Value.int IntKind.i64 31)), none, []⟩,
  ⟨some 6, .assign (.t 73), none, [73]⟩] none [4, 5, 6, 7, 97, 102])
 .ret) .skip))
def k2_thicketref03_Fields : IR := .tail [0, 1, 7, 8, 9, 59, 90, 97] j2_thicketref03_Fields
def j3_thicketref03_Fields : IR :=
 (.block 5 (.seq (.reg 18 [⟨some 85, .move (.t 9), none, []⟩,
  ⟨some 86, .move (.t 0), none, []⟩,
  ⟨some 87, .move (.t 8), none, []⟩,
  ⟨some 88, .index 9 .str none (.t 86) (.t 87), none, [86, 87]⟩,
  ⟨some 89, .lit 56 1 [(.t 88)], none, [88]⟩,
  ⟨some 90, .append 56 56 false 1 1 (.t 85) (.t 89), none, [85, 89]⟩,
  ⟨some 9, .assign (.t 90), none, []⟩] none [0, 1, 7, 8, 9, 59, 90, 97])
 (.reg 19 [⟨some 91, .move (.t 8), none, []⟩,
  ⟨some 92, .bin .add 3 (.t 91) (.c (Value.int IntKind.i64 1)) 3, none, [91]⟩,
  ⟨some 8, .assign (.t 92), none, [92]⟩] none [0, 1, 7, 8, 9, 59, 90, 97])))
def k3_thicketref03_Fields : IR := .tail [0, 1, 7, 8, 9, 59, 90, 97] j3_thicketref03_Fields
def w2_thicketref03_Fields : IR :=
 (.seq (.seq (.reg 17 [⟨some 74, .move (.t 8), none, []⟩,
  ⟨some 75, .move (.t 0), none, []⟩,
  ⟨some 76, .len 9 true (.t 75), none, [75]⟩,
  ⟨some 77, .bin .lss 3 (.t 74) (.t 76) 3, none, [74, 76]⟩,
  ⟨some 78, .move (.t 77), none, [77]⟩,
  ⟨some 79, .move (.t 0), some (4, true), []⟩,
  ⟨some 80, .move (.t 8), some (4, true), []⟩,
  ⟨some 81, .index 9 .str none (.t 79) (.t 80), some (4, true), [79, 80]⟩,
  ⟨some 82, .move (.t 1), some (4, true), []⟩,
  ⟨some 83, .bin .neq 5 (.t 81) (.t 82) 5, some (4, true), [81, 82]⟩,
  ⟨some 84, .pick (.t 78) (.t 83) (.c (Value.bool false)), none, [78, 83]⟩] none [0, 1, 7, 8, 9, 59, 84, 90, 97])
 (.cond [0, 1, 7, 8, 9, 59, 90, 97] (.t 84) .skip (.exit 4)))
 k3_thicketref03_Fields)
def l2_thicketref03_Fields : IR := .loop [0, 1, 7, 8, 9, 59, 90, 97] w2_thicketref03_Fields
def j4_thicketref03_Fields : IR :=
 (.reg 23 [⟨some 103, .move (.t 8), none, []⟩,
  ⟨some 104, .bin .add 3 (.t 103) (.c (Value.int IntKind.i64 1)) 3, none, [103]⟩,
  ⟨some 8, .assign (.t 104), none, [104]⟩] none [0, 1, 7, 8, 97])
def k4_thicketref03_Fields : IR := .tail [0, 1, 7, 8, 97] j4_thicketref03_Fields
def j5_thicketref03_Fields : IR :=
 (.seq (.reg 20 [⟨some 93, .move (.t 7), none, []⟩,
  ⟨some 94, .move (.t 9), none, []⟩,
  ⟨some 95, .conv 56 9 .bytes (.t 94), none, [9, 59, 90, 94]⟩,
  ⟨some 96, .lit 37 1 [(.t 95)], none, [95]⟩,
  ⟨some 97, .append 37 37 false 1 16 (.t 93) (.t 96), none, [93, 96]⟩,
  ⟨some 7, .assign (.t 97), none, []⟩] none [0, 1, 7, 8, 97])
 (.seq (.seq (.reg 21 [⟨some 98, .move (.t 8), none, []⟩,
  ⟨some 99, .move (.t 0), none, []⟩,
  ⟨some 100, .len 9 true (.t 99), none, [99]⟩,
  ⟨some 101, .bin .geq 3 (.t 98) (.t 100) 3, none, [98, 100]⟩] none [0, 1, 7, 8, 97, 101])
 (.cond [0, 1, 7, 8, 97] (.t 101) (.seq (.reg 22 [⟨some 102, .move (.t 7), none, []⟩,
  ⟨some 4, .assign (.t 102), none, []⟩,
  ⟨some 5, .assign (.c (Value.int IntKind.i64 0)), none, []⟩,
  ⟨some 6, .assign (.c (Value.int IntKind.i64 0)), none, []⟩] none [4, 5, 6, 7, 97, 102])
 .ret) .skip))
 k4_thicketref03_Fields))
def k5_thicketref03_Fields : IR := .tail [0, 1, 7, 8, 9, 59, 90, 97] j5_thicketref03_Fields
def w0_thicketref03_Fields : IR :=
 (.block 1 (.seq (.reg 5 [⟨some 9, .assign (.nilS 1), none, []⟩] none [0, 1, 7, 8, 9, 59, 90, 97])
 (.seq (.seq (.reg 6 [⟨some 20, .move (.t 8), none, []⟩,
  ⟨some 21, .move (.t 0), none, []⟩,
  ⟨some 22, .len 9 true (.t 21), none, [21]⟩,
  ⟨some 23, .bin .lss 3 (.t 20) (.t 22) 3, none, [20, 22]⟩,
  ⟨some 24, .move (.t 23), none, [23]⟩,
  ⟨some 25, .move (.t 0), some (4, true), []⟩,
  ⟨some 26, .move (.t 8), some (4, true), []⟩,
  ⟨some 27, .index 9 .str none (.t 25) (.t 26), some (4, true), [25, 26]⟩,
  ⟨some 28, .bin .eql 5 (.t 27) (.c (Value.int IntKind.u8 34)) 5, some (4, true), [27]⟩,
  ⟨some 29, .pick (.t 24) (.t 28) (.c (Value.bool false)), none, [24, 28]⟩] none [0, 1, 7, 8, 9, 29, 59, 90, 97])
 (.cond [0, 1, 7, 8, 9, 59, 90, 97] (.t 29) (.seq (.reg 7 [⟨some 30, .move (.t 8), none, []⟩,
  ⟨some 31, .bin .add 3 (.t 30) (.c (Value.int IntKind.i64 1)) 3, none, [30]⟩,
  ⟨some 8, .assign (.t 31), none, [31]⟩] none [0, 1, 7, 8, 9, 59, 90, 97])
 (.seq (.block 2 l1_thicketref03_Fields)
 k2_thicketref03_Fields)) (.block 4 l2_thicketref03_Fields)))
 k5_thicketref03_Fields)))
def l0_thicketref03_Fields : IR := .loop [0, 1, 7, 8, 97] w0_thicketref03_Fields
def j6_thicketref03_Fields : IR :=
 (.seq (.reg 3 [⟨some 7, .assign (.nilS 1), none, []⟩] none [0, 1, 7, 97])
 (.seq (.reg 4 [⟨some 8, .assign (.c (Value.int IntKind.i64 0)), none, []⟩] none [0, 1, 7, 8, 97])
 (.block 0 l0_thicketref03_Fields)))
def k6_thicketref03_Fields : IR := .tail [0, 1] j6_thicketref03_Fields
def b_thicketref03_Fields : IR :=
 (.seq (.reg 0 [⟨some 4, .assign (.nilS 1), none, [4]⟩,
  ⟨some 5, .assign (.c (Value.int IntKind.i64 0)), none, [5]⟩,
  ⟨some 6, .assign (.c (Value.int IntKind.i64 0)), none, [6]⟩] none [0, 1])
 (.seq (.seq (.reg 1 [⟨some 10, .move (.t 1), none, []⟩,
  ⟨some 11, .bin .eql 5 (.t 10) (.c (Value.int IntKind.u8 34)) 5, none, [10]⟩,
  ⟨some 12, .move (.t 11), none, [11]⟩,
  ⟨some 13, .move (.t 1), some (2, false), []⟩,
  ⟨some 14, .bin .eql 5 (.t 13) (.c (Value.int IntKind.u8 10)) 5, some (2, false), [13]⟩,
  ⟨some 15, .pick (.t 12) (.c (Value.bool true)) (.t 14), none, [12, 14]⟩,
  ⟨some 16, .move (.t 15), none, [15]⟩,
  ⟨some 17, .move (.t 1), some (6, false), []⟩,
  ⟨some 18, .bin .eql 5 (.t 17) (.c (Value.int IntKind.u8 13)) 5, some (6, false), [17]⟩,
  ⟨some 19, .pick (.t 16) (.c (Value.bool true)) (.t 18), none, [16, 18]⟩] none [0, 1, 19])
 (.cond [0, 1] (.t 19) (.seq (.reg 2 [⟨some 4, .assign (.nilS 1), none, []⟩,
  ⟨some 5, .assign (.c (Value.int IntKind.i64 2)), none, []⟩,
  ⟨some 6, .assign (.c (Value.int IntKind.i64 0)), none, []⟩] none [4, 5, 6, 7, 97, 102])
 .ret) .skip))
 k6_thicketref03_Fields))
def a_thicketref03_Fields : AFunc := ⟨105, [.tmp 4, .tmp 5, .tmp 6], b_thicketref03_Fields⟩

def j0_thicketref03_Texts : IR :=
 (.reg 8 [⟨some 25, .bin .add 3 (.t 13) (.c (Value.int IntKind.i64 1)) 3, none, []⟩,
  ⟨some 13, .move (.t 25), none, [25]⟩] none [0, 1, 12, 13])
def k0_thicketref03_Texts : IR := .tail [0, 1, 12, 13] j0_thicketref03_Texts
def j1_thicketref03_Texts : IR :=
 (.seq (.block 1 (.seq (.reg 5 [⟨some 15, .move (.t 13), none, []⟩,
  ⟨some 5, .assign (.t 15), none, [15]⟩] none [0, 1, 5, 12, 13])
 (.seq (.reg 6 [⟨some 16, .move (.t 0), none, []⟩,
  ⟨some 17, .move (.t 5), none, []⟩,
  ⟨some 18, .iaddr 37 (.sl 1) (.t 16) (.t 17), none, []⟩,
  ⟨some 19, .load 9 none (.t 18), none, [16, 17, 18]⟩,
  ⟨some 20, .move (.t 1), none, []⟩,
  ⟨some 21, .move (.t 5), none, [5]⟩,
  ⟨some 22, .iaddr 37 (.sl 1) (.t 20) (.t 21), none, []⟩,
  ⟨some 23, .load 9 none (.t 22), none, [20, 21, 22]⟩,
  ⟨some 24, .bin .neq 9 (.t 19) (.t 23) 9, none, [19, 23]⟩] (some [⟨0, []⟩, ⟨1, []⟩, ⟨2, []⟩, ⟨4, []⟩, ⟨5, []⟩, ⟨6, []⟩, ⟨3, []⟩, ⟨7, []⟩, ⟨8, []⟩]) [0, 1, 12, 13, 24])
 (.cond [0, 1, 12, 13] (.t 24) (.seq (.reg 7 [⟨some 4, .assign (.c (Value.bool false)), none, []⟩] none [4])
 .ret) .skip))))
 k0_thicketref03_Texts)
def k1_thicketref03_Texts : IR := .tail [0, 1, 12, 13] j1_thicketref03_Texts
def w0_thicketref03_Texts : IR :=
 (.seq (.reg 4 [⟨some 14, .bin .lss 3 (.t 13) (.t 12) 3, none, []⟩] none [0, 1, 12, 13, 14])
 (.seq (.cond [0, 1, 12, 13] (.t 14) .skip (.exit 0))
 k1_thicketref03_Texts))
def l0_thicketref03_Texts : IR := .loop [0, 1, 12, 13] w0_thicketref03_Texts
def j2_thicketref03_Texts : IR :=
 (.seq (.reg 9 [⟨some 4, .assign (.c (Value.bool true)), none, []⟩] none [4])
 .ret)
def k2_thicketref03_Texts : IR := .tail [] j2_thicketref03_Texts
def j3_thicketref03_Texts : IR :=
 (.seq (.seq (.reg 3 [⟨some 11, .move (.t 0), none, []⟩,
  ⟨some 12, .len 37 false (.t 11), none, [11]⟩,
  ⟨some 13, .move (.c (Value.int IntKind.i64 0)), none, []⟩] none [0, 1, 12, 13])
 (.block 0 l0_thicketref03_Texts))
 k2_thicketref03_Texts)
def k3_thicketref03_Texts : IR := .tail [0, 1] j3_thicketref03_Texts
def b_thicketref03_Texts : IR :=
 (.seq (.reg 0 [⟨some 4, .assign (.c (Value.bool false)), none, [4]⟩] none [0, 1])
 (.seq (.seq (.reg 1 [⟨some 6, .move (.t 0), none, []⟩,
  ⟨some 7, .len 37 false (.t 6), none, [6]⟩,
  ⟨some 8, .move (.t 1), none, []⟩,
  ⟨some 9, .len 37 false (.t 8), none, [8]⟩,
  ⟨some 10, .bin .neq 3 (.t 7) (.t 9) 3, none, [7, 9]⟩] none [0, 1, 10])
 (.cond [0, 1] (.t 10) (.seq (.reg 2 [⟨some 4, .assign (.c (Value.bool false)), none, []⟩] none [4])
 .ret) .skip))
 k3_thicketref03_Texts))
def a_thicketref03_Texts : AFunc := ⟨26, [.tmp 4], b_thicketref03_Texts⟩

def j0_thicketlaw03_ScanOwn : IR :=
 (.reg 8 [⟨some 49, .bin .add 3 (.t 42) (.c (Value.int IntKind.i64 1)) 3, none, []⟩,
  ⟨some 42, .move (.t 49), none, [49]⟩] none [0, 1, 5, 6, 7, 35, 37, 39, 41, 42, 57])
def k0_thicketlaw03_ScanOwn : IR := .tail [0, 1, 5, 6, 7, 35, 37, 39, 41, 42, 57] j0_thicketlaw03_ScanOwn
def j1_thicketlaw03_ScanOwn : IR :=
 (.seq (.block 1 (.seq (.reg 6 [⟨some 44, .move (.t 42), none, []⟩,
  ⟨some 8, .assign (.t 44), none, [44]⟩] none [0, 1, 5, 6, 7, 8, 35, 37, 39, 41, 42, 57])
 (.reg 7 [⟨some 45, .move (.t 5), none, []⟩,
  ⟨some 46, .move (.t 8), none, [8]⟩,
  ⟨some 47, .build 33 [(0, 1), (1, 1), (2, 1)] [.v (.int .i64 0), .v (.int .i64 0), .v (.string ⟨#[]⟩)] [], none, []⟩,
  ⟨some 48, .iaddr 24 (.sl 3) (.t 45) (.t 46), none, []⟩,
  ⟨none, .store 33 (some 3) (.t 48) (.t 47), none, [45, 46, 47, 48]⟩] none [0, 1, 5, 6, 7, 35, 37, 39, 41, 42, 57])))
 k0_thicketlaw03_ScanOwn)
def k1_thicketlaw03_ScanOwn : IR := .tail [0, 1, 5, 6, 7, 35, 37, 39, 41, 42, 57] j1_thicketlaw03_ScanOwn
def w0_thicketlaw03_ScanOwn : IR :=
 (.seq (.reg 5 [⟨some 43, .bin .lss 3 (.t 42) (.t 41) 3, none, []⟩] none [0, 1, 5, 6, 7, 35, 37, 39, 41, 42, 43, 57])
 (.seq (.cond [0, 1, 5, 6, 7, 35, 37, 39, 41, 42, 57] (.t 43) .skip (.exit 0))
 k1_thicketlaw03_ScanOwn))
def l0_thicketlaw03_ScanOwn : IR := .loop [0, 1, 5, 6, 7, 35, 37, 39, 41, 42, 57] w0_thicketlaw03_ScanOwn
def j2_thicketlaw03_ScanOwn : IR :=
 (.reg 11 [⟨some 52, .move (.t 9), none, []⟩,
  ⟨some 53, .bin .add 3 (.t 52) (.c (Value.int IntKind.i64 1)) 3, none, [52]⟩,
  ⟨some 9, .assign (.t 53), none, [53]⟩] none [0, 1, 5, 6, 7, 9, 35, 37, 39, 57])
def k2_thicketlaw03_ScanOwn : IR := .tail [0, 1, 5, 6, 7, 9, 35, 37, 39, 57] j2_thicketlaw03_ScanOwn
def j3_thicketlaw03_ScanOwn : IR :=
 (.seq (.block 3 (.reg 12 [⟨some 54, .move (.t 5), none, []⟩,
  ⟨some 55, .build 33 [(0, 1), (1, 1), (2, 1)] [.v (.int .i64 0), .v (.int .i64 0), .v (.string ⟨#[]⟩)] [(0, (.c (Value.int IntKind.i64 (-1))))], none, []⟩,
  ⟨some 56, .lit 24 3 [(.t 55)], none, [55]⟩,
  ⟨some 57, .append 24 24 false 3 32 (.t 54) (.t 56), none, [54, 56]⟩,
  ⟨some 5, .assign (.t 57), none, []⟩] none [0, 1, 5, 6, 7, 9, 35, 37, 39, 57]))
 k2_thicketlaw03_ScanOwn)
def k3_thicketlaw03_ScanOwn : IR := .tail [0, 1, 5, 6, 7, 9, 35, 37, 39, 57] j3_thicketlaw03_ScanOwn
def w1_thicketlaw03_ScanOwn : IR :=
 (.seq (.seq (.reg 10 [⟨some 50, .move (.t 9), none, []⟩,
  ⟨some 51, .bin .lss 3 (.t 50) (.c (Value.int IntKind.i64 9)) 3, none, [50]⟩] none [0, 1, 5, 6, 7, 9, 35, 37, 39, 51, 57])
 (.cond [0, 1, 5, 6, 7, 9, 35, 37, 39, 57] (.t 51) .skip (.exit 2)))
 k3_thicketlaw03_ScanOwn)
def l1_thicketlaw03_ScanOwn : IR := .loop [0, 1, 5, 6, 7, 9, 35, 37, 39, 57] w1_thicketlaw03_ScanOwn
def j4_thicketlaw03_ScanOwn : IR :=
 (.reg 20 [⟨some 85, .bin .add 3 (.t 78) (.c (Value.int IntKind.i64 1)) 3, none, []⟩,
  ⟨some 78, .move (.t 85), none, [85]⟩] none [0, 1, 5, 6, 7, 10, 13, 16, 35, 37, 39, 57, 58, 60, 61, 64, 66, 67, 70, 72, 73, 77, 78, 93])
def k4_thicketlaw03_ScanOwn : IR := .tail [0, 1, 5, 6, 7, 10, 13, 16, 35, 37, 39, 57, 58, 60, 61, 64, 66, 67, 70, 72, 73, 77, 78, 93] j4_thicketlaw03_ScanOwn
def j5_thicketlaw03_ScanOwn : IR :=
 (.seq (.block 5 (.seq (.reg 18 [⟨some 80, .move (.t 78), none, []⟩,
  ⟨some 19, .assign (.t 80), none, [80]⟩] none [0, 1, 5, 6, 7, 10, 13, 16, 19, 35, 37, 39, 57, 58, 60, 61, 64, 66, 67, 70, 72, 73, 77, 78, 93])
 (.reg 19 [⟨some 81, .move (.t 10), none, []⟩,
  ⟨some 82, .move (.t 19), none, [19]⟩,
  ⟨some 83, .build 36 [(0, 1), (1, 1), (2, 1)] [.v (.int .u8 0), .v (.string ⟨#[]⟩), .v (.int .i64 0)] [], none, []⟩,
  ⟨some 84, .iaddr 27 (.sl 3) (.t 81) (.t 82), none, []⟩,
  ⟨none, .store 36 (some 3) (.t 84) (.t 83), none, [81, 82, 83, 84]⟩] none [0, 1, 5, 6, 7, 10, 13, 16, 35, 37, 39, 57, 58, 60, 61, 64, 66, 67, 70, 72, 73, 77, 78, 93])))
 k4_thicketlaw03_ScanOwn)
def k5_thicketlaw03_ScanOwn : IR := .tail [0, 1, 5, 6, 7, 10, 13, 16, 35, 37, 39, 57, 58, 60, 61, 64, 66, 67, 70, 72, 73, 77, 78, 93] j5_thicketlaw03_ScanOwn
def w2_thicketlaw03_ScanOwn : IR :=
 (.seq (.reg 17 [⟨some 79, .bin .lss 3 (.t 78) (.t 77) 3, none, []⟩] none [0, 1, 5, 6, 7, 10, 13, 16, 35, 37, 39, 57, 58, 60, 61, 64, 66, 67, 70, 72, 73, 77, 78, 79, 93])
 (.seq (.cond [0, 1, 5, 6, 7, 10, 13, 16, 35, 37, 39, 57, 58, 60, 61, 64, 66, 67, 70, 72, 73, 77, 78, 93] (.t 79) .skip (.exit 4))
 k5_thicketlaw03_ScanOwn))
def l2_thicketlaw03_ScanOwn : IR := .loop [0, 1, 5, 6, 7, 10, 13, 16, 35, 37, 39, 57, 58, 60, 61, 64, 66, 67, 70, 72, 73, 77, 78, 93] w2_thicketlaw03_ScanOwn
def j6_thicketlaw03_ScanOwn : IR :=
 (.reg 23 [⟨some 88, .move (.t 20), none, []⟩,
  ⟨some 89, .bin .add 3 (.t 88) (.c (Value.int IntKind.i64 1)) 3, none, [88]⟩,
  ⟨some 20, .assign (.t 89), none, [89]⟩] none [0, 1, 5, 6, 7, 10, 13, 16, 20, 35, 37, 39, 57, 58, 60, 61, 64, 66, 67, 70, 72, 73, 93])
def k6_thicketlaw03_ScanOwn : IR := .tail [0, 1, 5, 6, 7, 10, 13, 16, 20, 35, 37, 39, 57, 58, 60, 61, 64, 66, 67, 70, 72, 73, 93] j6_thicketlaw03_ScanOwn
def j7_thicketlaw03_ScanOwn : IR :=
 (.seq (.block 7 (.reg 24 [⟨some 90, .move (.t 10), none, []⟩,
  ⟨some 91, .build 36 [(0, 1), (1, 1), (2, 1)] [.v (.int .u8 0), .v (.string ⟨#[]⟩), .v (.int .i64 0)] [(2, (.c (Value.int IntKind.i64 (-1))))], none, []⟩,
  ⟨some 92, .lit 27 3 [(.t 91)], none, [91]⟩,
  ⟨some 93, .append 27 27 false 3 32 (.t 90) (.t 92), none, [90, 92]⟩,
  ⟨some 10, .assign (.t 93), none, []⟩] none [0, 1, 5, 6, 7, 10, 13, 16, 20, 35, 37, 39, 57, 58, 60, 61, 64, 66, 67, 70, 72, 73, 93]))
 k6_thicketlaw03_ScanOwn)
def k7_thicketlaw03_ScanOwn : IR := .tail [0, 1, 5, 6, 7, 10, 13, 16, 20, 35, 37, 39, 57, 58, 60, 61, 64, 66, 67, 70, 72, 73, 93] j7_thicketlaw03_ScanOwn
def w3_thicketlaw03_ScanOwn : IR :=
 (.seq (.seq (.reg 22 [⟨some 86, .move (.t 20), none, []⟩,
  ⟨some 87, .bin .lss 3 (.t 86) (.c (Value.int IntKind.i64 9)) 3, none, [86]⟩] none [0, 1, 5, 6, 7, 10, 13, 16, 20, 35, 37, 39, 57, 58, 60, 61, 64, 66, 67, 70, 72, 73, 87, 93])
 (.cond [0, 1, 5, 6, 7, 10, 13, 16, 20, 35, 37, 39, 57, 58, 60, 61, 64, 66, 67, 70, 72, 73, 93] (.t 87) .skip (.exit 6)))
 k7_thicketlaw03_ScanOwn)
def l3_thicketlaw03_ScanOwn : IR := .loop [0, 1, 5, 6, 7, 10, 13, 16, 20, 35, 37, 39, 57, 58, 60, 61, 64, 66, 67, 70, 72, 73, 93] w3_thicketlaw03_ScanOwn
def j8_thicketlaw03_ScanOwn : IR :=
 (.reg 32 [⟨some 123, .bin .add 3 (.t 117) (.c (Value.int IntKind.i64 1)) 3, none, []⟩,
  ⟨some 117, .move (.t 123), none, [123]⟩] none [0, 5, 6, 7, 10, 13, 16, 21, 24, 27, 35, 37, 39, 57, 58, 60, 61, 64, 66, 67, 70, 72, 73, 93, 94, 97, 98, 101, 104, 105, 108, 111, 112, 116, 117, 130])
def k8_thicketlaw03_ScanOwn : IR := .tail [0, 5, 6, 7, 10, 13, 16, 21, 24, 27, 35, 37, 39, 57, 58, 60, 61, 64, 66, 67, 70, 72, 73, 93, 94, 97, 98, 101, 104, 105, 108, 111, 112, 116, 117, 130] j8_thicketlaw03_ScanOwn
def j9_thicketlaw03_ScanOwn : IR :=
 (.seq (.block 9 (.seq (.reg 30 [⟨some 119, .move (.t 117), none, []⟩,
  ⟨some 30, .assign (.t 119), none, [119]⟩] none [0, 5, 6, 7, 10, 13, 16, 21, 24, 27, 30, 35, 37, 39, 57, 58, 60, 61, 64, 66, 67, 70, 72, 73, 93, 94, 97, 98, 101, 104, 105, 108, 111, 112, 116, 117, 130])
 (.reg 31 [⟨some 120, .move (.t 21), none, []⟩,
  ⟨some 121, .move (.t 30), none, [30]⟩,
  ⟨some 122, .iaddr 37 (.sl 1) (.t 120) (.t 121), none, []⟩,
  ⟨none, .store 9 none (.t 122) (.c (Value.string { data := #[103, 111, 110, 101] })), none, [120, 121, 122]⟩] none [0, 5, 6, 7, 10, 13, 16, 21, 24, 27, 35, 37, 39, 57, 58, 60, 61, 64, 66, 67, 70, 72, 73, 93, 94, 97, 98, 101, 104, 105, 108, 111, 112, 116, 117, 130])))
 k8_thicketlaw03_ScanOwn)
def k9_thicketlaw03_ScanOwn : IR := .tail [0, 5, 6, 7, 10, 13, 16, 21, 24, 27, 35, 37, 39, 57, 58, 60, 61, 64, 66, 67, 70, 72, 73, 93, 94, 97, 98, 101, 104, 105, 108, 111, 112, 116, 117, 130] j9_thicketlaw03_ScanOwn
def w4_thicketlaw03_ScanOwn : IR :=
 (.seq (.reg 29 [⟨some 118, .bin .lss 3 (.t 117) (.t 116) 3, none, []⟩] none [0, 5, 6, 7, 10, 13, 16, 21, 24, 27, 35, 37, 39, 57, 58, 60, 61, 64, 66, 67, 70, 72, 73, 93, 94, 97, 98, 101, 104, 105, 108, 111, 112, 116, 117, 118, 130])
 (.seq (.cond [0, 5, 6, 7, 10, 13, 16, 21, 24, 27, 35, 37, 39, 57, 58, 60, 61, 64, 66, 67, 70, 72, 73, 93, 94, 97, 98, 101, 104, 105, 108, 111, 112, 116, 117, 130] (.t 118) .skip (.exit 8))
 k9_thicketlaw03_ScanOwn))
def l4_thicketlaw03_ScanOwn : IR := .loop [0, 5, 6, 7, 10, 13, 16, 21, 24, 27, 35, 37, 39, 57, 58, 60, 61, 64, 66, 67, 70, 72, 73, 93, 94, 97, 98, 101, 104, 105, 108, 111, 112, 116, 117, 130] w4_thicketlaw03_ScanOwn
def j10_thicketlaw03_ScanOwn : IR :=
 (.reg 35 [⟨some 126, .move (.t 31), none, []⟩,
  ⟨some 127, .bin .add 3 (.t 126) (.c (Value.int IntKind.i64 1)) 3, none, [126]⟩,
  ⟨some 31, .assign (.t 127), none, [127]⟩] none [0, 5, 6, 7, 10, 13, 16, 21, 24, 27, 31, 35, 37, 39, 57, 58, 60, 61, 64, 66, 67, 70, 72, 73, 93, 94, 97, 98, 101, 104, 105, 108, 111, 112, 130])
def k10_thicketlaw03_ScanOwn : IR := .tail [0, 5, 6, 7, 10, 13, 16, 21, 24, 27, 31, 35, 37, 39, 57, 58, 60, 61, 64, 66, 67, 70, 72, 73, 93, 94, 97, 98, 101, 104, 105, 108, 111, 112, 130] j10_thicketlaw03_ScanOwn
def j11_thicketlaw03_ScanOwn : IR :=
 (.seq (.block 11 (.reg 36 [⟨some 128, .move (.t 21), none, []⟩,
  ⟨some 129, .lit 37 1 [(.c (Value.string { data := #[109, 111, 114, 101] }))], none, []⟩,
  ⟨some 130, .append 37 37 false 1 16 (.t 128) (.t 129), none, [128, 129]⟩,
  ⟨some 21, .assign (.t 130), none, []⟩] none [0, 5, 6, 7, 10, 13, 16, 21, 24, 27, 31, 35, 37, 39, 57, 58, 60, 61, 64, 66, 67, 70, 72, 73, 93, 94, 97, 98, 101, 104, 105, 108, 111, 112, 130]))
 k10_thicketlaw03_ScanOwn)
def k11_thicketlaw03_ScanOwn : IR := .tail [0, 5, 6, 7, 10, 13, 16, 21, 24, 27, 31, 35, 37, 39, 57, 58, 60, 61, 64, 66, 67, 70, 72, 73, 93, 94, 97, 98, 101, 104, 105, 108, 111, 112, 130] j11_thicketlaw03_ScanOwn
def w5_thicketlaw03_ScanOwn : IR :=
 (.seq (.seq (.reg 34 [⟨some 124, .move (.t 31), none, []⟩,
  ⟨some 125, .bin .lss 3 (.t 124) (.c (Value.int IntKind.i64 9)) 3, none, [124]⟩] none [0, 5, 6, 7, 10, 13, 16, 21, 24, 27, 31, 35, 37, 39, 57, 58, 60, 61, 64, 66, 67, 70, 72, 73, 93, 94, 97, 98, 101, 104, 105, 108, 111, 112, 125, 130])
 (.cond [0, 5, 6, 7, 10, 13, 16, 21, 24, 27, 31, 35, 37, 39, 57, 58, 60, 61, 64, 66, 67, 70, 72, 73, 93, 94, 97, 98, 101, 104, 105, 108, 111, 112, 130] (.t 125) .skip (.exit 10)))
 k11_thicketlaw03_ScanOwn)
def l5_thicketlaw03_ScanOwn : IR := .loop [0, 5, 6, 7, 10, 13, 16, 21, 24, 27, 31, 35, 37, 39, 57, 58, 60, 61, 64, 66, 67, 70, 72, 73, 93, 94, 97, 98, 101, 104, 105, 108, 111, 112, 130] w5_thicketlaw03_ScanOwn
def j12_thicketlaw03_ScanOwn : IR :=
 (.seq (.reg 37 [⟨some 131, .move (.t 6), none, []⟩,
  ⟨some 132, .move (.t 7), none, []⟩,
  ⟨some 133, .call n_thicketlaw03_rows [(.t 131), (.t 132)] [24, 24], none, [6, 37, 131, 132]⟩,
  ⟨some 134, .move (.t 133), none, [133]⟩,
  ⟨some 135, .move (.t 0), some (3, true), [0]⟩,
  ⟨some 136, .call n_scan_Rows [(.t 135)] [9], some (3, true), [135]⟩,
  ⟨some 137, .move (.t 7), some (3, true), []⟩,
  ⟨some 138, .call n_thicketlaw03_rows [(.t 136), (.t 137)] [24, 24], some (3, true), [136, 137]⟩,
  ⟨some 139, .pick (.t 134) (.t 138) (.c (Value.bool false)), none, [134, 138]⟩,
  ⟨some 140, .move (.t 139), none, [139]⟩,
  ⟨some 141, .move (.t 5), some (9, true), []⟩,
  ⟨some 142, .len 24 false (.t 141), some (9, true), [5, 35, 57, 141]⟩,
  ⟨some 143, .move (.t 7), some (9, true), []⟩,
  ⟨some 144, .len 24 false (.t 143), some (9, true), [7, 39, 143]⟩,
  ⟨some 145, .bin .add 3 (.t 144) (.c (Value.int IntKind.i64 9)) 3, some (9, true), [144]⟩,
  ⟨some 146, .bin .eql 3 (.t 142) (.t 145) 3, some (9, true), [142, 145]⟩,
  ⟨some 147, .pick (.t 140) (.t 146) (.c (Value.bool false)), none, [140, 146]⟩,
  ⟨some 148, .move (.t 147), none, [147]⟩,
  ⟨some 149, .move (.t 13), some (17, true), []⟩,
  ⟨some 150, .move (.t 16), some (17, true), []⟩,
  ⟨some 151, .call n_thicketref03_Same [(.t 149), (.t 150)] [27, 27], some (17, true), [13, 64, 66, 67, 149, 150]⟩,
  ⟨some 152, .pick (.t 148) (.t 151) (.c (Value.bool false)), none, [148, 151]⟩,
  ⟨some 153, .move (.t 152), none, [152]⟩,
  ⟨some 154, .move (.t 10), some (22, true), []⟩,
  ⟨some 155, .len 27 false (.t 154), some (22, true), [10, 58, 60, 61, 93, 154]⟩,
  ⟨some 156, .move (.t 16), some (22, true), []⟩,
  ⟨some 157, .len 27 false (.t 156), some (22, true), [16, 70, 72, 73, 156]⟩,
  ⟨some 158, .bin .add 3 (.t 157) (.c (Value.int IntKind.i64 9)) 3, some (22, true), [157]⟩,
  ⟨some 159, .bin .eql 3 (.t 155) (.t 158) 3, some (22, true), [155, 158]⟩,
  ⟨some 160, .pick (.t 153) (.t 159) (.c (Value.bool false)), none, [153, 159]⟩,
  ⟨some 161, .move (.t 160), none, [160]⟩,
  ⟨some 162, .move (.t 24), some (30, true), []⟩,
  ⟨some 163, .move (.t 27), some (30, true), []⟩,
  ⟨some 164, .call n_thicketref03_Texts [(.t 162), (.t 163)] [37, 37], some (30, true), [24, 101, 104, 105, 162, 163]⟩,
  ⟨some 165, .pick (.t 161) (.t 164) (.c (Value.bool false)), none, [161, 164]⟩,
  ⟨some 166, .move (.t 165), none, [165]⟩,
  ⟨some 167, .move (.t 21), some (35, true), []⟩,
  ⟨some 168, .len 37 false (.t 167), some (35, true), [21, 94, 97, 98, 130, 167]⟩,
  ⟨some 169, .move (.t 27), some (35, true), []⟩,
  ⟨some 170, .len 37 false (.t 169), some (35, true), [27, 108, 111, 112, 169]⟩,
  ⟨some 171, .bin .add 3 (.t 170) (.c (Value.int IntKind.i64 9)) 3, some (35, true), [170]⟩,
  ⟨some 172, .bin .eql 3 (.t 168) (.t 171) 3, some (35, true), [168, 171]⟩,
  ⟨some 173, .pick (.t 166) (.t 172) (.c (Value.bool false)), none, [166, 172]⟩,
  ⟨some 4, .assign (.t 173), none, [173]⟩] none [4])
 .ret)
def k12_thicketlaw03_ScanOwn : IR := .tail [0, 5, 6, 7, 10, 13, 16, 21, 24, 27, 35, 37, 39, 57, 58, 60, 61, 64, 66, 67, 70, 72, 73, 93, 94, 97, 98, 101, 104, 105, 108, 111, 112, 130] j12_thicketlaw03_ScanOwn
def j13_thicketlaw03_ScanOwn : IR :=
 (.seq (.seq (.reg 33 [⟨some 31, .assign (.c (Value.int IntKind.i64 0)), none, []⟩] none [0, 5, 6, 7, 10, 13, 16, 21, 24, 27, 31, 35, 37, 39, 57, 58, 60, 61, 64, 66, 67, 70, 72, 73, 93, 94, 97, 98, 101, 104, 105, 108, 111, 112, 130])
 (.block 10 l5_thicketlaw03_ScanOwn))
 k12_thicketlaw03_ScanOwn)
def k13_thicketlaw03_ScanOwn : IR := .tail [0, 5, 6, 7, 10, 13, 16, 21, 24, 27, 35, 37, 39, 57, 58, 60, 61, 64, 66, 67, 70, 72, 73, 93, 94, 97, 98, 101, 104, 105, 108, 111, 112, 130] j13_thicketlaw03_ScanOwn
def j14_thicketlaw03_ScanOwn : IR :=
 (.seq (.reg 25 [⟨some 95, .move (.t 0), none, []⟩,
  ⟨some 96, .move (.t 1), none, []⟩,
  ⟨some 97, .call n_scan_Fields [(.t 95), (.t 96)] [9, 5], none, [95, 96]⟩,
  ⟨some 94, .move (.t 97), none, []⟩,
  ⟨some 98, .extr (.t 94) 0, none, []⟩,
  ⟨some 99, .extr (.t 94) 1, none, []⟩,
  ⟨some 100, .extr (.t 94) 2, none, []⟩,
  ⟨some 21, .assign (.t 98), none, []⟩,
  ⟨some 22, .assign (.t 99), none, [22, 99]⟩,
  ⟨some 23, .assign (.t 100), none, [23, 100]⟩] none [0, 1, 5, 6, 7, 10, 13, 16, 21, 35, 37, 39, 57, 58, 60, 61, 64, 66, 67, 70, 72, 73, 93, 94, 97, 98, 130])
 (.seq (.reg 26 [⟨some 102, .move (.t 0), none, []⟩,
  ⟨some 103, .move (.t 1), none, []⟩,
  ⟨some 104, .call n_scan_Fields [(.t 102), (.t 103)] [9, 5], none, [102, 103]⟩,
  ⟨some 101, .move (.t 104), none, []⟩,
  ⟨some 105, .extr (.t 101) 0, none, []⟩,
  ⟨some 106, .extr (.t 101) 1, none, []⟩,
  ⟨some 107, .extr (.t 101) 2, none, []⟩,
  ⟨some 24, .assign (.t 105), none, []⟩,
  ⟨some 25, .assign (.t 106), none, [25, 106]⟩,
  ⟨some 26, .assign (.t 107), none, [26, 107]⟩] none [0, 1, 5, 6, 7, 10, 13, 16, 21, 24, 35, 37, 39, 57, 58, 60, 61, 64, 66, 67, 70, 72, 73, 93, 94, 97, 98, 101, 104, 105, 130])
 (.seq (.reg 27 [⟨some 109, .move (.t 0), none, []⟩,
  ⟨some 110, .move (.t 1), none, [1]⟩,
  ⟨some 111, .call n_thicketref03_Fields [(.t 109), (.t 110)] [9, 5], none, [109, 110]⟩,
  ⟨some 108, .move (.t 111), none, []⟩,
  ⟨some 112, .extr (.t 108) 0, none, []⟩,
  ⟨some 113, .extr (.t 108) 1, none, []⟩,
  ⟨some 114, .extr (.t 108) 2, none, []⟩,
  ⟨some 27, .assign (.t 112), none, []⟩,
  ⟨some 28, .assign (.t 113), none, [28, 113]⟩,
  ⟨some 29, .assign (.t 114), none, [29, 114]⟩] none [0, 5, 6, 7, 10, 13, 16, 21, 24, 27, 35, 37, 39, 57, 58, 60, 61, 64, 66, 67, 70, 72, 73, 93, 94, 97, 98, 101, 104, 105, 108, 111, 112, 130])
 (.seq (.seq (.reg 28 [⟨some 115, .move (.t 21), none, []⟩,
  ⟨some 116, .len 37 false (.t 115), none, [115]⟩,
  ⟨some 117, .move (.c (Value.int IntKind.i64 0)), none, []⟩] none [0, 5, 6, 7, 10, 13, 16, 21, 24, 27, 35, 37, 39, 57, 58, 60, 61, 64, 66, 67, 70, 72, 73, 93, 94, 97, 98, 101, 104, 105, 108, 111, 112, 116, 117, 130])
 (.block 8 l4_thicketlaw03_ScanOwn))
 k13_thicketlaw03_ScanOwn))))
def k14_thicketlaw03_ScanOwn : IR := .tail [0, 1, 5, 6, 7, 10, 13, 16, 35, 37, 39, 57, 58, 60, 61, 64, 66, 67, 70, 72, 73, 93] j14_thicketlaw03_ScanOwn
def j15_thicketlaw03_ScanOwn : IR :=
 (.seq (.seq (.reg 21 [⟨some 20, .assign (.c (Value.int IntKind.i64 0)), none, []⟩] none [0, 1, 5, 6, 7, 10, 13, 16, 20, 35, 37, 39, 57, 58, 60, 61, 64, 66, 67, 70, 72, 73, 93])
 (.block 6 l3_thicketlaw03_ScanOwn))
 k14_thicketlaw03_ScanOwn)
def k15_thicketlaw03_ScanOwn : IR := .tail [0, 1, 5, 6, 7, 10, 13, 16, 35, 37, 39, 57, 58, 60, 61, 64, 66, 67, 70, 72, 73, 93] j15_thicketlaw03_ScanOwn
def j16_thicketlaw03_ScanOwn : IR :=
 (.seq (.reg 13 [⟨some 59, .move (.t 0), none, []⟩,
  ⟨some 60, .call n_scan_Words [(.t 59)] [9], none, [59]⟩,
  ⟨some 58, .move (.t 60), none, []⟩,
  ⟨some 61, .extr (.t 58) 0, none, []⟩,
  ⟨some 62, .extr (.t 58) 1, none, []⟩,
  ⟨some 63, .extr (.t 58) 2, none, []⟩,
  ⟨some 10, .assign (.t 61), none, []⟩,
  ⟨some 11, .assign (.t 62), none, [11, 62]⟩,
  ⟨some 12, .assign (.t 63), none, [12, 63]⟩] none [0, 1, 5, 6, 7, 10, 35, 37, 39, 57, 58, 60, 61, 93])
 (.seq (.reg 14 [⟨some 65, .move (.t 0), none, []⟩,
  ⟨some 66, .call n_scan_Words [(.t 65)] [9], none, [65]⟩,
  ⟨some 64, .move (.t 66), none, []⟩,
  ⟨some 67, .extr (.t 64) 0, none, []⟩,
  ⟨some 68, .extr (.t 64) 1, none, []⟩,
  ⟨some 69, .extr (.t 64) 2, none, []⟩,
  ⟨some 13, .assign (.t 67), none, []⟩,
  ⟨some 14, .assign (.t 68), none, [14, 68]⟩,
  ⟨some 15, .assign (.t 69), none, [15, 69]⟩] none [0, 1, 5, 6, 7, 10, 13, 35, 37, 39, 57, 58, 60, 61, 64, 66, 67, 93])
 (.seq (.reg 15 [⟨some 71, .move (.t 0), none, []⟩,
  ⟨some 72, .call n_thicketref03_Words [(.t 71)] [9], none, [71]⟩,
  ⟨some 70, .move (.t 72), none, []⟩,
  ⟨some 73, .extr (.t 70) 0, none, []⟩,
  ⟨some 74, .extr (.t 70) 1, none, []⟩,
  ⟨some 75, .extr (.t 70) 2, none, []⟩,
  ⟨some 16, .assign (.t 73), none, []⟩,
  ⟨some 17, .assign (.t 74), none, [17, 74]⟩,
  ⟨some 18, .assign (.t 75), none, [18, 75]⟩] none [0, 1, 5, 6, 7, 10, 13, 16, 35, 37, 39, 57, 58, 60, 61, 64, 66, 67, 70, 72, 73, 93])
 (.seq (.seq (.reg 16 [⟨some 76, .move (.t 10), none, []⟩,
  ⟨some 77, .len 27 false (.t 76), none, [76]⟩,
  ⟨some 78, .move (.c (Value.int IntKind.i64 0)), none, []⟩] none [0, 1, 5, 6, 7, 10, 13, 16, 35, 37, 39, 57, 58, 60, 61, 64, 66, 67, 70, 72, 73, 77, 78, 93])
 (.block 4 l2_thicketlaw03_ScanOwn))
 k15_thicketlaw03_ScanOwn))))
def k16_thicketlaw03_ScanOwn : IR := .tail [0, 1, 5, 6, 7, 35, 37, 39, 57] j16_thicketlaw03_ScanOwn
def j17_thicketlaw03_ScanOwn : IR :=
 (.seq (.seq (.reg 9 [⟨some 9, .assign (.c (Value.int IntKind.i64 0)), none, []⟩] none [0, 1, 5, 6, 7, 9, 35, 37, 39, 57])
 (.block 2 l1_thicketlaw03_ScanOwn))
 k16_thicketlaw03_ScanOwn)
def k17_thicketlaw03_ScanOwn : IR := .tail [0, 1, 5, 6, 7, 35, 37, 39, 57] j17_thicketlaw03_ScanOwn
def j18_thicketlaw03_ScanOwn : IR :=
 (.seq (.reg 3 [⟨some 34, .move (.t 0), none, []⟩,
  ⟨some 35, .call n_scan_Rows [(.t 34)] [9], none, [34]⟩,
  ⟨some 36, .move (.t 0), none, []⟩,
  ⟨some 37, .call n_scan_Rows [(.t 36)] [9], none, [36]⟩,
  ⟨some 38, .move (.t 0), none, []⟩,
  ⟨some 39, .call n_thicketref03_Rows [(.t 38)] [9], none, [38]⟩,
  ⟨some 5, .assign (.t 35), none, []⟩,
  ⟨some 6, .assign (.t 37), none, []⟩,
  ⟨some 7, .assign (.t 39), none, []⟩] none [0, 1, 5, 6, 7, 35, 37, 39, 57])
 (.seq (.seq (.reg 4 [⟨some 40, .move (.t 5), none, []⟩,
  ⟨some 41, .len 24 false (.t 40), none, [40]⟩,
  ⟨some 42, .move (.c (Value.int IntKind.i64 0)), none, []⟩] none [0, 1, 5, 6, 7, 35, 37, 39, 41, 42, 57])
 (.block 0 l0_thicketlaw03_ScanOwn))
 k17_thicketlaw03_ScanOwn))
def k18_thicketlaw03_ScanOwn : IR := .tail [0, 1] j18_thicketlaw03_ScanOwn
def b_thicketlaw03_ScanOwn : IR :=
 (.seq (.reg 0 [⟨some 4, .assign (.c (Value.bool false)), none, [4]⟩] none [0, 1])
 (.seq (.seq (.reg 1 [⟨some 32, .call n_thicketlaw03_lives [] [], none, []⟩,
  ⟨some 33, .un .not 4 (.t 32), none, [32]⟩] none [0, 1, 33])
 (.cond [0, 1] (.t 33) (.seq (.reg 2 [⟨some 4, .assign (.c (Value.bool false)), none, []⟩] none [4])
 .ret) .skip))
 k18_thicketlaw03_ScanOwn))
def a_thicketlaw03_ScanOwn : AFunc := ⟨174, [.tmp 4], b_thicketlaw03_ScanOwn⟩

def fnTab : List (FuncId × AFunc) := [(n_stringslite_HasPrefix, a_stringslite_HasPrefix), (n_strings_HasPrefix, a_strings_HasPrefix), (n_scan_Rows, a_scan_Rows), (n_scan_of, a_scan_of), (n_scan_hex, a_scan_hex), (n_scan_escape, a_scan_escape), (n_scan_text, a_scan_text), (n_scan_one, a_scan_one), (n_scan_Words, a_scan_Words), (n_scan_badBy, a_scan_badBy), (n_scan_Fields, a_scan_Fields), (n_scan_Quote, a_scan_Quote), (n_thicketlaw03_lives, a_thicketlaw03_lives), (n_thicketlaw03_rows, a_thicketlaw03_rows), (n_thicketref03_Rows, a_thicketref03_Rows), (n_thicketref03_blank, a_thicketref03_blank), (n_thicketref03_letter, a_thicketref03_letter), (n_thicketref03_digit, a_thicketref03_digit), (n_thicketref03_hex, a_thicketref03_hex), (n_thicketref03_quoted, a_thicketref03_quoted), (n_thicketref03_mark, a_thicketref03_mark), (n_thicketref03_Words, a_thicketref03_Words), (n_thicketref03_Same, a_thicketref03_Same), (n_thicketref03_Fields, a_thicketref03_Fields), (n_thicketref03_Texts, a_thicketref03_Texts), (n_thicketlaw03_ScanOwn, a_thicketlaw03_ScanOwn)]
def modeTab : List (FuncId × List Bool) := []
def G (n : Nat) : List PV := match n with | 0 => glob0 | _ => []
def extT : Oracle := fun _ _ => none
def T : Tab := { fns := fun f => fnTab.lookup f, ext := extT, modes := fun f => (modeTab.lookup f).getD [], glob := G }
theorem fn_stringslite_HasPrefix : T.fns n_stringslite_HasPrefix = some a_stringslite_HasPrefix := rfl
theorem run_stringslite_HasPrefix (xs : List PV) : Cinf T n_stringslite_HasPrefix xs = Run T a_stringslite_HasPrefix xs := Cinf_eq rfl fn_stringslite_HasPrefix
@[simp] theorem md_stringslite_HasPrefix : T.modes n_stringslite_HasPrefix = [] := rfl
@[simp] theorem call_stringslite_HasPrefix (C : Oracle) (e : Env) (xs : List PV) : call T C e n_stringslite_HasPrefix xs = callK1 C n_stringslite_HasPrefix xs (moves e [] [] xs) := call_modes md_stringslite_HasPrefix
theorem fn_strings_HasPrefix : T.fns n_strings_HasPrefix = some a_strings_HasPrefix := rfl
theorem run_strings_HasPrefix (xs : List PV) : Cinf T n_strings_HasPrefix xs = Run T a_strings_HasPrefix xs := Cinf_eq rfl fn_strings_HasPrefix
@[simp] theorem md_strings_HasPrefix : T.modes n_strings_HasPrefix = [] := rfl
@[simp] theorem call_strings_HasPrefix (C : Oracle) (e : Env) (xs : List PV) : call T C e n_strings_HasPrefix xs = callK1 C n_strings_HasPrefix xs (moves e [] [] xs) := call_modes md_strings_HasPrefix
theorem fn_scan_Rows : T.fns n_scan_Rows = some a_scan_Rows := rfl
@[simp] theorem tl0_scan_Rows (e : Env) : Exec T k0_scan_Rows e = Exec T j0_scan_Rows (e.keep [0, 3, 4, 5, 40]) := Exec_tail _ _ _
@[simp] theorem tl1_scan_Rows (e : Env) : Exec T k1_scan_Rows e = Exec T j1_scan_Rows (e.keep [0, 3, 5, 40]) := Exec_tail _ _ _
@[simp] theorem tl2_scan_Rows (e : Env) : Exec T k2_scan_Rows e = Exec T j2_scan_Rows (e.keep [0, 3, 4, 5, 40]) := Exec_tail _ _ _
@[simp] theorem tl3_scan_Rows (e : Env) : Exec T k3_scan_Rows e = Exec T j3_scan_Rows (e.keep [0, 3, 4, 40]) := Exec_tail _ _ _
@[simp] theorem tl4_scan_Rows (e : Env) : Exec T k4_scan_Rows e = Exec T j4_scan_Rows (e.keep [3, 40]) := Exec_tail _ _ _
theorem ex1_scan_Rows (e : Env) : Exec T l1_scan_Rows e = andThen (Exec T w1_scan_Rows (e.keep [0, 3, 4, 5, 40])) (Exec T l1_scan_Rows) := Exec_loop _ _ _
theorem ex0_scan_Rows (e : Env) : Exec T l0_scan_Rows e = andThen (Exec T w0_scan_Rows (e.keep [0, 3, 4, 40])) (Exec T l0_scan_Rows) := Exec_loop _ _ _
theorem run_scan_Rows (xs : List PV) : Cinf T n_scan_Rows xs = Run T a_scan_Rows xs := Cinf_eq rfl fn_scan_Rows
@[simp] theorem md_scan_Rows : T.modes n_scan_Rows = [] := rfl
@[simp] theorem call_scan_Rows (C : Oracle) (e : Env) (xs : List PV) : call T C e n_scan_Rows xs = callK1 C n_scan_Rows xs (moves e [] [] xs) := call_modes md_scan_Rows
theorem fn_scan_of : T.fns n_scan_of = some a_scan_of := rfl
@[simp] theorem tl0_scan_of (e : Env) : Exec T k0_scan_of e = Exec T j0_scan_of (e.keep [0]) := Exec_tail _ _ _
theorem run_scan_of (xs : List PV) : Cinf T n_scan_of xs = Run T a_scan_of xs := Cinf_eq rfl fn_scan_of
@[simp] theorem md_scan_of : T.modes n_scan_of = [] := rfl
@[simp] theorem call_scan_of (C : Oracle) (e : Env) (xs : List PV) : call T C e n_scan_of xs = callK1 C n_scan_of xs (moves e [] [] xs) := call_modes md_scan_of
theorem fn_scan_hex : T.fns n_scan_hex = some a_scan_hex := rfl
@[simp] theorem tl0_scan_hex (e : Env) : Exec T k0_scan_hex e = Exec T j0_scan_hex (e.keep []) := Exec_tail _ _ _
theorem run_scan_hex (xs : List PV) : Cinf T n_scan_hex xs = Run T a_scan_hex xs := Cinf_eq rfl fn_scan_hex
@[simp] theorem md_scan_hex : T.modes n_scan_hex = [] := rfl
@[simp] theorem call_scan_hex (C : Oracle) (e : Env) (xs : List PV) : call T C e n_scan_hex xs = callK1 C n_scan_hex xs (moves e [] [] xs) := call_modes md_scan_hex
theorem fn_scan_escape : T.fns n_scan_escape = some a_scan_escape := rfl
@[simp] theorem tl0_scan_escape (e : Env) : Exec T k0_scan_escape e = Exec T j0_scan_escape (e.keep [0, 1, 7, 8, 9]) := Exec_tail _ _ _
@[simp] theorem tl1_scan_escape (e : Env) : Exec T k1_scan_escape e = Exec T j1_scan_escape (e.keep [0, 1, 7, 8]) := Exec_tail _ _ _
@[simp] theorem tl2_scan_escape (e : Env) : Exec T k2_scan_escape e = Exec T j2_scan_escape (e.keep [0, 1, 7, 8]) := Exec_tail _ _ _
@[simp] theorem tl3_scan_escape (e : Env) : Exec T k3_scan_escape e = Exec T j3_scan_escape (e.keep [0, 1, 7, 8]) := Exec_tail _ _ _
@[simp] theorem tl4_scan_escape (e : Env) : Exec T k4_scan_escape e = Exec T j4_scan_escape (e.keep [1, 7]) := Exec_tail _ _ _
@[simp] theorem tl5_scan_escape (e : Env) : Exec T k5_scan_escape e = Exec T j5_scan_escape (e.keep [0, 1, 18, 19]) := Exec_tail _ _ _
@[simp] theorem tl6_scan_escape (e : Env) : Exec T k6_scan_escape e = Exec T j6_scan_escape (e.keep [1]) := Exec_tail _ _ _
@[simp] theorem tl7_scan_escape (e : Env) : Exec T k7_scan_escape e = Exec T j7_scan_escape (e.keep [0, 1]) := Exec_tail _ _ _
theorem ex0_scan_escape (e : Env) : Exec T l0_scan_escape e = andThen (Exec T w0_scan_escape (e.keep [0, 1, 7, 8])) (Exec T l0_scan_escape) := Exec_loop _ _ _
theorem run_scan_escape (xs : List PV) : Cinf T n_scan_escape xs = Run T a_scan_escape xs := Cinf_eq rfl fn_scan_escape
@[simp] theorem md_scan_escape : T.modes n_scan_escape = [] := rfl
@[simp] theorem call_scan_escape (C : Oracle) (e : Env) (xs : List PV) : call T C e n_scan_escape xs = callK1 C n_scan_escape xs (moves e [] [] xs) := call_modes md_scan_escape
theorem fn_scan_text : T.fns n_scan_text = some a_scan_text := rfl
@[simp] theorem tl0_scan_text (e : Env) : Exec T k0_scan_text e = Exec T j0_scan_text (e.keep [0, 8, 11, 12, 28, 53]) := Exec_tail _ _ _
@[simp] theorem tl1_scan_text (e : Env) : Exec T k1_scan_text e = Exec T j1_scan_text (e.keep [0, 8, 9, 28, 53]) := Exec_tail _ _ _
@[simp] theorem tl2_scan_text (e : Env) : Exec T k2_scan_text e = Exec T j2_scan_text (e.keep [0, 8, 9, 28, 53]) := Exec_tail _ _ _
@[simp] theorem tl3_scan_text (e : Env) : Exec T k3_scan_text e = Exec T j3_scan_text (e.keep [0]) := Exec_tail _ _ _
theorem ex0_scan_text (e : Env) : Exec T l0_scan_text e = andThen (Exec T w0_scan_text (e.keep [0, 8, 9, 28, 53])) (Exec T l0_scan_text) := Exec_loop _ _ _
theorem run_scan_text (xs : List PV) : Cinf T n_scan_text xs = Run T a_scan_text xs := Cinf_eq rfl fn_scan_text
@[simp] theorem md_scan_text : T.modes n_scan_text = [] := rfl
@[simp] theorem call_scan_text (C : Oracle) (e : Env) (xs : List PV) : call T C e n_scan_text xs = callK1 C n_scan_text xs (moves e [] [] xs) := call_modes md_scan_text
theorem fn_scan_one : T.fns n_scan_one = some a_scan_one := rfl
@[simp] theorem tl0_scan_one (e : Env) : Exec T k0_scan_one e = Exec T j0_scan_one (e.keep [1, 4, 12, 13, 14, 15]) := Exec_tail _ _ _
@[simp] theorem tl1_scan_one (e : Env) : Exec T k1_scan_one e = Exec T j1_scan_one (e.keep [0, 1, 4, 8, 9, 10]) := Exec_tail _ _ _
@[simp] theorem tl2_scan_one (e : Env) : Exec T k2_scan_one e = Exec T j2_scan_one (e.keep [0, 1, 4, 8, 9, 10]) := Exec_tail _ _ _
@[simp] theorem tl3_scan_one (e : Env) : Exec T k3_scan_one e = Exec T j3_scan_one (e.keep [4, 8, 9]) := Exec_tail _ _ _
@[simp] theorem tl4_scan_one (e : Env) : Exec T k4_scan_one e = Exec T j4_scan_one (e.keep [0, 1, 4, 8, 9]) := Exec_tail _ _ _
theorem ex0_scan_one (e : Env) : Exec T l0_scan_one e = andThen (Exec T w0_scan_one (e.keep [0, 1, 4, 8, 9, 10])) (Exec T l0_scan_one) := Exec_loop _ _ _
theorem ex1_scan_one (e : Env) : Exec T l1_scan_one e = andThen (Exec T w1_scan_one (e.keep [0, 1, 4, 8, 9, 10])) (Exec T l1_scan_one) := Exec_loop _ _ _
theorem run_scan_one (xs : List PV) : Cinf T n_scan_one xs = Run T a_scan_one xs := Cinf_eq rfl fn_scan_one
@[simp] theorem md_scan_one : T.modes n_scan_one = [] := rfl
@[simp] theorem call_scan_one (C : Oracle) (e : Env) (xs : List PV) : call T C e n_scan_one xs = callK1 C n_scan_one xs (moves e [] [] xs) := call_modes md_scan_one
theorem fn_scan_Words : T.fns n_scan_Words = some a_scan_Words := rfl
@[simp] theorem tl0_scan_Words (e : Env) : Exec T k0_scan_Words e = Exec T j0_scan_Words (e.keep [0, 5, 7, 8, 43]) := Exec_tail _ _ _
@[simp] theorem tl1_scan_Words (e : Env) : Exec T k1_scan_Words e = Exec T j1_scan_Words (e.keep [0, 5, 6, 43]) := Exec_tail _ _ _
@[simp] theorem tl2_scan_Words (e : Env) : Exec T k2_scan_Words e = Exec T j2_scan_Words (e.keep [0, 5, 6, 43]) := Exec_tail _ _ _
@[simp] theorem tl3_scan_Words (e : Env) : Exec T k3_scan_Words e = Exec T j3_scan_Words (e.keep [5, 43]) := Exec_tail _ _ _
theorem ex0_scan_Words (e : Env) : Exec T l0_scan_Words e = andThen (Exec T w0_scan_Words (e.keep [0, 5, 6, 43])) (Exec T l0_scan_Words) := Exec_loop _ _ _
theorem run_scan_Words (xs : List PV) : Cinf T n_scan_Words xs = Run T a_scan_Words xs := Cinf_eq rfl fn_scan_Words
@[simp] theorem md_scan_Words : T.modes n_scan_Words = [] := rfl
@[simp] theorem call_scan_Words (C : Oracle) (e : Env) (xs : List PV) : call T C e n_scan_Words xs = callK1 C n_scan_Words xs (moves e [] [] xs) := call_modes md_scan_Words
theorem fn_scan_badBy : T.fns n_scan_badBy = some a_scan_badBy := rfl
theorem run_scan_badBy (xs : List PV) : Cinf T n_scan_badBy xs = Run T a_scan_badBy xs := Cinf_eq rfl fn_scan_badBy
@[simp] theorem md_scan_badBy : T.modes n_scan_badBy = [] := rfl
@[simp] theorem call_scan_badBy (C : Oracle) (e : Env) (xs : List PV) : call T C e n_scan_badBy xs = callK1 C n_scan_badBy xs (moves e [] [] xs) := call_modes md_scan_badBy
theorem fn_scan_Fields : T.fns n_scan_Fields = some a_scan_Fields := rfl
@[simp] theorem tl0_scan_Fields (e : Env) : Exec T k0_scan_Fields e = Exec T j0_scan_Fields (e.keep [0, 1, 7, 8, 9, 54, 90, 95]) := Exec_tail _ _ _
@[simp] theorem tl1_scan_Fields (e : Env) : Exec T k1_scan_Fields e = Exec T j1_scan_Fields (e.keep [0, 1, 7, 8, 9, 54, 90, 95]) := Exec_tail _ _ _
@[simp] theorem tl2_scan_Fields (e : Env) : Exec T k2_scan_Fields e = Exec T j2_scan_Fields (e.keep [0, 1, 7, 8, 9, 54, 90, 95]) := Exec_tail _ _ _
@[simp] theorem tl3_scan_Fields (e : Env) : Exec T k3_scan_Fields e = Exec T j3_scan_Fields (e.keep [0, 1, 7, 8, 9, 54, 90, 95]) := Exec_tail _ _ _
@[simp] theorem tl4_scan_Fields (e : Env) : Exec T k4_scan_Fields e = Exec T j4_scan_Fields (e.keep [0, 1, 7, 8, 9, 10, 54, 90, 95]) := Exec_tail _ _ _
@[simp] theorem tl5_scan_Fields (e : Env) : Exec T k5_scan_Fields e = Exec T j5_scan_Fields (e.keep [0, 1, 7, 8, 9, 10, 54, 90, 95]) := Exec_tail _ _ _
@[simp] theorem tl6_scan_Fields (e : Env) : Exec T k6_scan_Fields e = Exec T j6_scan_Fields (e.keep [0, 1, 7, 8, 95]) := Exec_tail _ _ _
@[simp] theorem tl7_scan_Fields (e : Env) : Exec T k7_scan_Fields e = Exec T j7_scan_Fields (e.keep [0, 1, 7, 8, 9, 54, 90, 95]) := Exec_tail _ _ _
@[simp] theorem tl8_scan_Fields (e : Env) : Exec T k8_scan_Fields e = Exec T j8_scan_Fields (e.keep [0, 1]) := Exec_tail _ _ _
theorem ex1_scan_Fields (e : Env) : Exec T l1_scan_Fields e = andThen (Exec T w1_scan_Fields (e.keep [0, 1, 7, 8, 9, 54, 90, 95])) (Exec T l1_scan_Fields) := Exec_loop _ _ _
theorem ex2_scan_Fields (e : Env) : Exec T l2_scan_Fields e = andThen (Exec T w2_scan_Fields (e.keep [0, 1, 7, 8, 9, 10, 54, 90, 95])) (Exec T l2_scan_Fields) := Exec_loop _ _ _
theorem ex0_scan_Fields (e : Env) : Exec T l0_scan_Fields e = andThen (Exec T w0_scan_Fields (e.keep [0, 1, 7, 8, 95])) (Exec T l0_scan_Fields) := Exec_loop _ _ _
theorem run_scan_Fields (xs : List PV) : Cinf T n_scan_Fields xs = Run T a_scan_Fields xs := Cinf_eq rfl fn_scan_Fields
@[simp] theorem md_scan_Fields : T.modes n_scan_Fields = [] := rfl
@[simp] theorem call_scan_Fields (C : Oracle) (e : Env) (xs : List PV) : call T C e n_scan_Fields xs = callK1 C n_scan_Fields xs (moves e [] [] xs) := call_modes md_scan_Fields
theorem fn_scan_Quote : T.fns n_scan_Quote = some a_scan_Quote := rfl
@[simp] theorem tl0_scan_Quote (e : Env) : Exec T k0_scan_Quote e = Exec T j0_scan_Quote (e.keep [0, 3, 6, 8, 9, 18, 29, 35, 41, 57]) := Exec_tail _ _ _
@[simp] theorem tl1_scan_Quote (e : Env) : Exec T k1_scan_Quote e = Exec T j1_scan_Quote (e.keep [0, 3, 6, 8, 9, 18, 29, 35, 41, 57]) := Exec_tail _ _ _
@[simp] theorem tl2_scan_Quote (e : Env) : Exec T k2_scan_Quote e = Exec T j2_scan_Quote (e.keep [3, 6, 18, 29, 35, 41, 57]) := Exec_tail _ _ _
theorem ex0_scan_Quote (e : Env) : Exec T l0_scan_Quote e = andThen (Exec T w0_scan_Quote (e.keep [0, 3, 6, 8, 9, 18, 29, 35, 41, 57])) (Exec T l0_scan_Quote) := Exec_loop _ _ _
theorem run_scan_Quote (xs : List PV) : Cinf T n_scan_Quote xs = Run T a_scan_Quote xs := Cinf_eq rfl fn_scan_Quote
@[simp] theorem md_scan_Quote : T.modes n_scan_Quote = [] := rfl
@[simp] theorem call_scan_Quote (C : Oracle) (e : Env) (xs : List PV) : call T C e n_scan_Quote xs = callK1 C n_scan_Quote xs (moves e [] [] xs) := call_modes md_scan_Quote
theorem fn_thicketlaw03_lives : T.fns n_thicketlaw03_lives = some a_thicketlaw03_lives := rfl
theorem run_thicketlaw03_lives (xs : List PV) : Cinf T n_thicketlaw03_lives xs = Run T a_thicketlaw03_lives xs := Cinf_eq rfl fn_thicketlaw03_lives
@[simp] theorem md_thicketlaw03_lives : T.modes n_thicketlaw03_lives = [] := rfl
@[simp] theorem call_thicketlaw03_lives (C : Oracle) (e : Env) (xs : List PV) : call T C e n_thicketlaw03_lives xs = callK1 C n_thicketlaw03_lives xs (moves e [] [] xs) := call_modes md_thicketlaw03_lives
theorem fn_thicketlaw03_rows : T.fns n_thicketlaw03_rows = some a_thicketlaw03_rows := rfl
@[simp] theorem tl0_thicketlaw03_rows (e : Env) : Exec T k0_thicketlaw03_rows e = Exec T j0_thicketlaw03_rows (e.keep [0, 1, 12, 13]) := Exec_tail _ _ _
@[simp] theorem tl1_thicketlaw03_rows (e : Env) : Exec T k1_thicketlaw03_rows e = Exec T j1_thicketlaw03_rows (e.keep [0, 1, 12, 13]) := Exec_tail _ _ _
@[simp] theorem tl2_thicketlaw03_rows (e : Env) : Exec T k2_thicketlaw03_rows e = Exec T j2_thicketlaw03_rows (e.keep []) := Exec_tail _ _ _
@[simp] theorem tl3_thicketlaw03_rows (e : Env) : Exec T k3_thicketlaw03_rows e = Exec T j3_thicketlaw03_rows (e.keep [0, 1]) := Exec_tail _ _ _
theorem ex0_thicketlaw03_rows (e : Env) : Exec T l0_thicketlaw03_rows e = andThen (Exec T w0_thicketlaw03_rows (e.keep [0, 1, 12, 13])) (Exec T l0_thicketlaw03_rows) := Exec_loop _ _ _
theorem run_thicketlaw03_rows (xs : List PV) : Cinf T n_thicketlaw03_rows xs = Run T a_thicketlaw03_rows xs := Cinf_eq rfl fn_thicketlaw03_rows
@[simp] theorem md_thicketlaw03_rows : T.modes n_thicketlaw03_rows = [] := rfl
@[simp] theorem call_thicketlaw03_rows (C : Oracle) (e : Env) (xs : List PV) : call T C e n_thicketlaw03_rows xs = callK1 C n_thicketlaw03_rows xs (moves e [] [] xs) := call_modes md_thicketlaw03_rows
theorem fn_thicketref03_Rows : T.fns n_thicketref03_Rows = some a_thicketref03_Rows := rfl
@[simp] theorem tl0_thicketref03_Rows (e : Env) : Exec T k0_thicketref03_Rows e = Exec T j0_thicketref03_Rows (e.keep [0, 3, 5, 33, 70]) := Exec_tail _ _ _
@[simp] theorem tl1_thicketref03_Rows (e : Env) : Exec T k1_thicketref03_Rows e = Exec T j1_thicketref03_Rows (e.keep [0, 3, 4, 5, 33, 70]) := Exec_tail _ _ _
@[simp] theorem tl2_thicketref03_Rows (e : Env) : Exec T k2_thicketref03_Rows e = Exec T j2_thicketref03_Rows (e.keep [0, 3, 4, 5, 33, 70]) := Exec_tail _ _ _
@[simp] theorem tl3_thicketref03_Rows (e : Env) : Exec T k3_thicketref03_Rows e = Exec T j3_thicketref03_Rows (e.keep [0, 3, 4, 5, 33, 70]) := Exec_tail _ _ _
@[simp] theorem tl4_thicketref03_Rows (e : Env) : Exec T k4_thicketref03_Rows e = Exec T j4_thicketref03_Rows (e.keep [3, 33, 70]) := Exec_tail _ _ _
@[simp] theorem tl5_thicketref03_Rows (e : Env) : Exec T k5_thicketref03_Rows e = Exec T j5_thicketref03_Rows (e.keep [0, 3, 4, 33, 70]) := Exec_tail _ _ _
theorem ex0_thicketref03_Rows (e : Env) : Exec T l0_thicketref03_Rows e = andThen (Exec T w0_thicketref03_Rows (e.keep [0, 3, 4, 5, 33, 70])) (Exec T l0_thicketref03_Rows) := Exec_loop _ _ _
theorem run_thicketref03_Rows (xs : List PV) : Cinf T n_thicketref03_Rows xs = Run T a_thicketref03_Rows xs := Cinf_eq rfl fn_thicketref03_Rows
@[simp] theorem md_thicketref03_Rows : T.modes n_thicketref03_Rows = [] := rfl
@[simp] theorem call_thicketref03_Rows (C : Oracle) (e : Env) (xs : List PV) : call T C e n_thicketref03_Rows xs = callK1 C n_thicketref03_Rows xs (moves e [] [] xs) := call_modes md_thicketref03_Rows
theorem fn_thicketref03_blank : T.fns n_thicketref03_blank = some a_thicketref03_blank := rfl
theorem run_thicketref03_blank (xs : List PV) : Cinf T n_thicketref03_blank xs = Run T a_thicketref03_blank xs := Cinf_eq rfl fn_thicketref03_blank
@[simp] theorem md_thicketref03_blank : T.modes n_thicketref03_blank = [] := rfl
@[simp] theorem call_thicketref03_blank (C : Oracle) (e : Env) (xs : List PV) : call T C e n_thicketref03_blank xs = callK1 C n_thicketref03_blank xs (moves e [] [] xs) := call_modes md_thicketref03_blank
theorem fn_thicketref03_letter : T.fns n_thicketref03_letter = some a_thicketref03_letter := rfl
theorem run_thicketref03_letter (xs : List PV) : Cinf T n_thicketref03_letter xs = Run T a_thicketref03_letter xs := Cinf_eq rfl fn_thicketref03_letter
@[simp] theorem md_thicketref03_letter : T.modes n_thicketref03_letter = [] := rfl
@[simp] theorem call_thicketref03_letter (C : Oracle) (e : Env) (xs : List PV) : call T C e n_thicketref03_letter xs = callK1 C n_thicketref03_letter xs (moves e [] [] xs) := call_modes md_thicketref03_letter
theorem fn_thicketref03_digit : T.fns n_thicketref03_digit = some a_thicketref03_digit := rfl
theorem run_thicketref03_digit (xs : List PV) : Cinf T n_thicketref03_digit xs = Run T a_thicketref03_digit xs := Cinf_eq rfl fn_thicketref03_digit
@[simp] theorem md_thicketref03_digit : T.modes n_thicketref03_digit = [] := rfl
@[simp] theorem call_thicketref03_digit (C : Oracle) (e : Env) (xs : List PV) : call T C e n_thicketref03_digit xs = callK1 C n_thicketref03_digit xs (moves e [] [] xs) := call_modes md_thicketref03_digit
theorem fn_thicketref03_hex : T.fns n_thicketref03_hex = some a_thicketref03_hex := rfl
@[simp] theorem tl0_thicketref03_hex (e : Env) : Exec T k0_thicketref03_hex e = Exec T j0_thicketref03_hex (e.keep []) := Exec_tail _ _ _
theorem run_thicketref03_hex (xs : List PV) : Cinf T n_thicketref03_hex xs = Run T a_thicketref03_hex xs := Cinf_eq rfl fn_thicketref03_hex
@[simp] theorem md_thicketref03_hex : T.modes n_thicketref03_hex = [] := rfl
@[simp] theorem call_thicketref03_hex (C : Oracle) (e : Env) (xs : List PV) : call T C e n_thicketref03_hex xs = callK1 C n_thicketref03_hex xs (moves e [] [] xs) := call_modes md_thicketref03_hex
theorem fn_thicketref03_quoted : T.fns n_thicketref03_quoted = some a_thicketref03_quoted := rfl
@[simp] theorem tl0_thicketref03_quoted (e : Env) : Exec T k0_thicketref03_quoted e = Exec T j0_thicketref03_quoted (e.keep [0, 1, 7, 9, 10, 40, 59, 64, 69, 107]) := Exec_tail _ _ _
@[simp] theorem tl1_thicketref03_quoted (e : Env) : Exec T k1_thicketref03_quoted e = Exec T j1_thicketref03_quoted (e.keep [0, 1, 7, 9, 10, 40, 59, 64, 69, 107]) := Exec_tail _ _ _
@[simp] theorem tl2_thicketref03_quoted (e : Env) : Exec T k2_thicketref03_quoted e = Exec T j2_thicketref03_quoted (e.keep [0, 1, 7, 9, 10, 40, 59, 64, 69, 107]) := Exec_tail _ _ _
@[simp] theorem tl3_thicketref03_quoted (e : Env) : Exec T k3_thicketref03_quoted e = Exec T j3_thicketref03_quoted (e.keep [0, 1, 7, 9, 10, 40, 59, 64, 69, 107]) := Exec_tail _ _ _
@[simp] theorem tl4_thicketref03_quoted (e : Env) : Exec T k4_thicketref03_quoted e = Exec T j4_thicketref03_quoted (e.keep [0, 1, 7, 9, 40, 59, 64, 69, 107]) := Exec_tail _ _ _
@[simp] theorem tl5_thicketref03_quoted (e : Env) : Exec T k5_thicketref03_quoted e = Exec T j5_thicketref03_quoted (e.keep [0, 1, 7, 40, 49, 51, 59, 64, 69, 107]) := Exec_tail _ _ _
@[simp] theorem tl6_thicketref03_quoted (e : Env) : Exec T k6_thicketref03_quoted e = Exec T j6_thicketref03_quoted (e.keep [0, 1, 7, 40, 59, 64, 69, 107]) := Exec_tail _ _ _
@[simp] theorem tl7_thicketref03_quoted (e : Env) : Exec T k7_thicketref03_quoted e = Exec T j7_thicketref03_quoted (e.keep [0, 1, 7, 40, 59, 64, 69, 107]) := Exec_tail _ _ _
@[simp] theorem tl8_thicketref03_quoted (e : Env) : Exec T k8_thicketref03_quoted e = Exec T j8_thicketref03_quoted (e.keep [0, 1, 7, 8, 40, 59, 64, 69, 107]) := Exec_tail _ _ _
@[simp] theorem tl9_thicketref03_quoted (e : Env) : Exec T k9_thicketref03_quoted e = Exec T j9_thicketref03_quoted (e.keep [0, 1, 7, 8, 40, 59, 64, 69, 107]) := Exec_tail _ _ _
@[simp] theorem tl10_thicketref03_quoted (e : Env) : Exec T k10_thicketref03_quoted e = Exec T j10_thicketref03_quoted (e.keep [0, 1, 7, 40, 59, 64, 69, 107]) := Exec_tail _ _ _
@[simp] theorem tl11_thicketref03_quoted (e : Env) : Exec T k11_thicketref03_quoted e = Exec T j11_thicketref03_quoted (e.keep [0, 1, 7, 40, 59, 64, 69, 107]) := Exec_tail _ _ _
@[simp] theorem tl12_thicketref03_quoted (e : Env) : Exec T k12_thicketref03_quoted e = Exec T j12_thicketref03_quoted (e.keep [0]) := Exec_tail _ _ _
theorem ex1_thicketref03_quoted (e : Env) : Exec T l1_thicketref03_quoted e = andThen (Exec T w1_thicketref03_quoted (e.keep [0, 1, 7, 9, 10, 40, 59, 64, 69, 107])) (Exec T l1_thicketref03_quoted) := Exec_loop _ _ _
theorem ex0_thicketref03_quoted (e : Env) : Exec T l0_thicketref03_quoted e = andThen (Exec T w0_thicketref03_quoted (e.keep [0, 1, 7, 40, 59, 64, 69, 107])) (Exec T l0_thicketref03_quoted) := Exec_loop _ _ _
theorem run_thicketref03_quoted (xs : List PV) : Cinf T n_thicketref03_quoted xs = Run T a_thicketref03_quoted xs := Cinf_eq rfl fn_thicketref03_quoted
@[simp] theorem md_thicketref03_quoted : T.modes n_thicketref03_quoted = [] := rfl
@[simp] theorem call_thicketref03_quoted (C : Oracle) (e : Env) (xs : List PV) : call T C e n_thicketref03_quoted xs = callK1 C n_thicketref03_quoted xs (moves e [] [] xs) := call_modes md_thicketref03_quoted
theorem fn_thicketref03_mark : T.fns n_thicketref03_mark = some a_thicketref03_mark := rfl
@[simp] theorem tl0_thicketref03_mark (e : Env) : Exec T k0_thicketref03_mark e = Exec T j0_thicketref03_mark (e.keep [0, 6, 7, 8]) := Exec_tail _ _ _
@[simp] theorem tl1_thicketref03_mark (e : Env) : Exec T k1_thicketref03_mark e = Exec T j1_thicketref03_mark (e.keep [0, 6, 7, 8]) := Exec_tail _ _ _
@[simp] theorem tl2_thicketref03_mark (e : Env) : Exec T k2_thicketref03_mark e = Exec T j2_thicketref03_mark (e.keep []) := Exec_tail _ _ _
theorem ex0_thicketref03_mark (e : Env) : Exec T l0_thicketref03_mark e = andThen (Exec T w0_thicketref03_mark (e.keep [0, 6, 7, 8])) (Exec T l0_thicketref03_mark) := Exec_loop _ _ _
theorem run_thicketref03_mark (xs : List PV) : Cinf T n_thicketref03_mark xs = Run T a_thicketref03_mark xs := Cinf_eq rfl fn_thicketref03_mark
@[simp] theorem md_thicketref03_mark : T.modes n_thicketref03_mark = [] := rfl
@[simp] theorem call_thicketref03_mark (C : Oracle) (e : Env) (xs : List PV) : call T C e n_thicketref03_mark xs = callK1 C n_thicketref03_mark xs (moves e [] [] xs) := call_modes md_thicketref03_mark
theorem fn_thicketref03_Words : T.fns n_thicketref03_Words = some a_thicketref03_Words := rfl
@[simp] theorem tl0_thicketref03_Words (e : Env) : Exec T k0_thicketref03_Words e = Exec T j0_thicketref03_Words (e.keep [0, 5, 6, 8, 9, 200]) := Exec_tail _ _ _
@[simp] theorem tl1_thicketref03_Words (e : Env) : Exec T k1_thicketref03_Words e = Exec T j1_thicketref03_Words (e.keep [0, 5, 6, 8, 9, 200]) := Exec_tail _ _ _
@[simp] theorem tl2_thicketref03_Words (e : Env) : Exec T k2_thicketref03_Words e = Exec T j2_thicketref03_Words (e.keep [0, 5, 6, 8, 10, 11, 200]) := Exec_tail _ _ _
@[simp] theorem tl3_thicketref03_Words (e : Env) : Exec T k3_thicketref03_Words e = Exec T j3_thicketref03_Words (e.keep [0, 5, 8, 9, 200]) := Exec_tail _ _ _
@[simp] theorem tl4_thicketref03_Words (e : Env) : Exec T k4_thicketref03_Words e = Exec T j4_thicketref03_Words (e.keep [0, 5, 6, 8, 9, 200]) := Exec_tail _ _ _
@[simp] theorem tl5_thicketref03_Words (e : Env) : Exec T k5_thicketref03_Words e = Exec T j5_thicketref03_Words (e.keep [0, 5, 6, 8, 9, 200]) := Exec_tail _ _ _
@[simp] theorem tl6_thicketref03_Words (e : Env) : Exec T k6_thicketref03_Words e = Exec T j6_thicketref03_Words (e.keep [0, 5, 6, 7, 200]) := Exec_tail _ _ _
@[simp] theorem tl7_thicketref03_Words (e : Env) : Exec T k7_thicketref03_Words e = Exec T j7_thicketref03_Words (e.keep [0, 5, 6, 200]) := Exec_tail _ _ _
@[simp] theorem tl8_thicketref03_Words (e : Env) : Exec T k8_thicketref03_Words e = Exec T j8_thicketref03_Words (e.keep [5, 200]) := Exec_tail _ _ _
theorem ex1_thicketref03_Words (e : Env) : Exec T l1_thicketref03_Words e = andThen (Exec T w1_thicketref03_Words (e.keep [0, 5, 6, 8, 9, 200])) (Exec T l1_thicketref03_Words) := Exec_loop _ _ _
theorem ex2_thicketref03_Words (e : Env) : Exec T l2_thicketref03_Words e = andThen (Exec T w2_thicketref03_Words (e.keep [0, 5, 6, 8, 9, 200])) (Exec T l2_thicketref03_Words) := Exec_loop _ _ _
theorem ex0_thicketref03_Words (e : Env) : Exec T l0_thicketref03_Words e = andThen (Exec T w0_thicketref03_Words (e.keep [0, 5, 6, 200])) (Exec T l0_thicketref03_Words) := Exec_loop _ _ _
theorem run_thicketref03_Words (xs : List PV) : Cinf T n_thicketref03_Words xs = Run T a_thicketref03_Words xs := Cinf_eq rfl fn_thicketref03_Words
@[simp] theorem md_thicketref03_Words : T.modes n_thicketref03_Words = [] := rfl
@[simp] theorem call_thicketref03_Words (C : Oracle) (e : Env) (xs : List PV) : call T C e n_thicketref03_Words xs = callK1 C n_thicketref03_Words xs (moves e [] [] xs) := call_modes md_thicketref03_Words
theorem fn_thicketref03_Same : T.fns n_thicketref03_Same = some a_thicketref03_Same := rfl
@[simp] theorem tl0_thicketref03_Same (e : Env) : Exec T k0_thicketref03_Same e = Exec T j0_thicketref03_Same (e.keep [0, 1, 12, 13]) := Exec_tail _ _ _
@[simp] theorem tl1_thicketref03_Same (e : Env) : Exec T k1_thicketref03_Same e = Exec T j1_thicketref03_Same (e.keep [0, 1, 12, 13]) := Exec_tail _ _ _
@[simp] theorem tl2_thicketref03_Same (e : Env) : Exec T k2_thicketref03_Same e = Exec T j2_thicketref03_Same (e.keep []) := Exec_tail _ _ _
@[simp] theorem tl3_thicketref03_Same (e : Env) : Exec T k3_thicketref03_Same e = Exec T j3_thicketref03_Same (e.keep [0, 1]) := Exec_tail _ _ _
theorem ex0_thicketref03_Same (e : Env) : Exec T l0_thicketref03_Same e = andThen (Exec T w0_thicketref03_Same (e.keep [0, 1, 12, 13])) (Exec T l0_thicketref03_Same) := Exec_loop _ _ _
theorem run_thicketref03_Same (xs : List PV) : Cinf T n_thicketref03_Same xs = Run T a_thicketref03_Same xs := Cinf_eq rfl fn_thicketref03_Same
@[simp] theorem md_thicketref03_Same : T.modes n_thicketref03_Same = [] := rfl
@[simp] theorem call_thicketref03_Same (C : Oracle) (e : Env) (xs : List PV) : call T C e n_thicketref03_Same xs = callK1 C n_thicketref03_Same xs (moves e [] [] xs) := call_modes md_thicketref03_Same
theorem fn_thicketref03_Fields : T.fns n_thicketref03_Fields = some a_thicketref03_Fields := rfl
@[simp] theorem tl0_thicketref03_Fields (e : Env) : Exec T k0_thicketref03_Fields e = Exec T j0_thicketref03_Fields (e.keep [0, 1, 7, 8, 9, 59, 90, 97]) := Exec_tail _ _ _
@[simp] theorem tl1_thicketref03_Fields (e : Env) : Exec T k1_thicketref03_Fields e = Exec T j1_thicketref03_Fields (e.keep [0, 1, 7, 8, 9, 59, 90, 97]) := Exec_tail _ _ _
@[simp] theorem tl2_thicketref03_Fields (e : Env) : Exec T k2_thicketref03_Fields e = Exec T j2_thicketref03_Fields (e.keep [0, 1, 7, 8, 9, 59, 90, 97]) := Exec_tail _ _ _
@[simp] theorem tl3_thicketref03_Fields (e : Env) : Exec T k3_thicketref03_Fields e = Exec T j3_thicketref03_Fields (e.keep [0, 1, 7, 8, 9, 59, 90, 97]) := Exec_tail _ _ _
@[simp] theorem tl4_thicketref03_Fields (e : Env) : Exec T k4_thicketref03_Fields e = Exec T j4_thicketref03_Fields (e.keep [0, 1, 7, 8, 97]) := Exec_tail _ _ _
@[simp] theorem tl5_thicketref03_Fields (e : Env) : Exec T k5_thicketref03_Fields e = Exec T j5_thicketref03_Fields (e.keep [0, 1, 7, 8, 9, 59, 90, 97]) := Exec_tail _ _ _
@[simp] theorem tl6_thicketref03_Fields (e : Env) : Exec T k6_thicketref03_Fields e = Exec T j6_thicketref03_Fields (e.keep [0, 1]) := Exec_tail _ _ _
theorem ex1_thicketref03_Fields (e : Env) : Exec T l1_thicketref03_Fields e = andThen (Exec T w1_thicketref03_Fields (e.keep [0, 1, 7, 8, 9, 59, 90, 97])) (Exec T l1_thicketref03_Fields) := Exec_loop _ _ _
theorem ex2_thicketref03_Fields (e : Env) : Exec T l2_thicketref03_Fields e = andThen (Exec T w2_thicketref03_Fields (e.keep [0, 1, 7, 8, 9, 59, 90, 97])) (Exec T l2_thicketref03_Fields) := Exec_loop _ _ _
theorem ex0_thicketref03_Fields (e : Env) : Exec T l0_thicketref03_Fields e = andThen (Exec T w0_thicketref03_Fields (e.keep [0, 1, 7, 8, 97])) (Exec T l0_thicketref03_Fields) := Exec_loop _ _ _
theorem run_thicketref03_Fields (xs : List PV) : Cinf T n_thicketref03_Fields xs = Run T a_thicketref03_Fields xs := Cinf_eq rfl fn_thicketref03_Fields
@[simp] theorem md_thicketref03_Fields : T.modes n_thicketref03_Fields = [] := rfl
@[simp] theorem call_thicketref03_Fields (C : Oracle) (e : Env) (xs : List PV) : call T C e n_thicketref03_Fields xs = callK1 C n_thicketref03_Fields xs (moves e [] [] xs) := call_modes md_thicketref03_Fields
theorem fn_thicketref03_Texts : T.fns n_thicketref03_Texts = some a_thicketref03_Texts := rfl
@[simp] theorem tl0_thicketref03_Texts (e : Env) : Exec T k0_thicketref03_Texts e = Exec T j0_thicketref03_Texts (e.keep [0, 1, 12, 13]) := Exec_tail _ _ _
@[simp] theorem tl1_thicketref03_Texts (e : Env) : Exec T k1_thicketref03_Texts e = Exec T j1_thicketref03_Texts (e.keep [0, 1, 12, 13]) := Exec_tail _ _ _
@[simp] theorem tl2_thicketref03_Texts (e : Env) : Exec T k2_thicketref03_Texts e = Exec T j2_thicketref03_Texts (e.keep []) := Exec_tail _ _ _
@[simp] theorem tl3_thicketref03_Texts (e : Env) : Exec T k3_thicketref03_Texts e = Exec T j3_thicketref03_Texts (e.keep [0, 1]) := Exec_tail _ _ _
theorem ex0_thicketref03_Texts (e : Env) : Exec T l0_thicketref03_Texts e = andThen (Exec T w0_thicketref03_Texts (e.keep [0, 1, 12, 13])) (Exec T l0_thicketref03_Texts) := Exec_loop _ _ _
theorem run_thicketref03_Texts (xs : List PV) : Cinf T n_thicketref03_Texts xs = Run T a_thicketref03_Texts xs := Cinf_eq rfl fn_thicketref03_Texts
@[simp] theorem md_thicketref03_Texts : T.modes n_thicketref03_Texts = [] := rfl
@[simp] theorem call_thicketref03_Texts (C : Oracle) (e : Env) (xs : List PV) : call T C e n_thicketref03_Texts xs = callK1 C n_thicketref03_Texts xs (moves e [] [] xs) := call_modes md_thicketref03_Texts
theorem fn_thicketlaw03_ScanOwn : T.fns n_thicketlaw03_ScanOwn = some a_thicketlaw03_ScanOwn := rfl
@[simp] theorem tl0_thicketlaw03_ScanOwn (e : Env) : Exec T k0_thicketlaw03_ScanOwn e = Exec T j0_thicketlaw03_ScanOwn (e.keep [0, 1, 5, 6, 7, 35, 37, 39, 41, 42, 57]) := Exec_tail _ _ _
@[simp] theorem tl1_thicketlaw03_ScanOwn (e : Env) : Exec T k1_thicketlaw03_ScanOwn e = Exec T j1_thicketlaw03_ScanOwn (e.keep [0, 1, 5, 6, 7, 35, 37, 39, 41, 42, 57]) := Exec_tail _ _ _
@[simp] theorem tl2_thicketlaw03_ScanOwn (e : Env) : Exec T k2_thicketlaw03_ScanOwn e = Exec T j2_thicketlaw03_ScanOwn (e.keep [0, 1, 5, 6, 7, 9, 35, 37, 39, 57]) := Exec_tail _ _ _
@[simp] theorem tl3_thicketlaw03_ScanOwn (e : Env) : Exec T k3_thicketlaw03_ScanOwn e = Exec T j3_thicketlaw03_ScanOwn (e.keep [0, 1, 5, 6, 7, 9, 35, 37, 39, 57]) := Exec_tail _ _ _
@[simp] theorem tl4_thicketlaw03_ScanOwn (e : Env) : Exec T k4_thicketlaw03_ScanOwn e = Exec T j4_thicketlaw03_ScanOwn (e.keep [0, 1, 5, 6, 7, 10, 13, 16, 35, 37, 39, 57, 58, 60, 61, 64, 66, 67, 70, 72, 73, 77, 78, 93]) := Exec_tail _ _ _
@[simp] theorem tl5_thicketlaw03_ScanOwn (e : Env) : Exec T k5_thicketlaw03_ScanOwn e = Exec T j5_thicketlaw03_ScanOwn (e.keep [0, 1, 5, 6, 7, 10, 13, 16, 35, 37, 39, 57, 58, 60, 61, 64, 66, 67, 70, 72, 73, 77, 78, 93]) := Exec_tail _ _ _
@[simp] theorem tl6_thicketlaw03_ScanOwn (e : Env) : Exec T k6_thicketlaw03_ScanOwn e = Exec T j6_thicketlaw03_ScanOwn (e.keep [0, 1, 5, 6, 7, 10, 13, 16, 20, 35, 37, 39, 57, 58, 60, 61, 64, 66, 67, 70, 72, 73, 93]) := Exec_tail _ _ _
@[simp] theorem tl7_thicketlaw03_ScanOwn (e : Env) : Exec T k7_thicketlaw03_ScanOwn e = Exec T j7_thicketlaw03_ScanOwn (e.keep [0, 1, 5, 6, 7, 10, 13, 16, 20, 35, 37, 39, 57, 58, 60, 61, 64, 66, 67, 70, 72, 73, 93]) := Exec_tail _ _ _
@[simp] theorem tl8_thicketlaw03_ScanOwn (e : Env) : Exec T k8_thicketlaw03_ScanOwn e = Exec T j8_thicketlaw03_ScanOwn (e.keep [0, 5, 6, 7, 10, 13, 16, 21, 24, 27, 35, 37, 39, 57, 58, 60, 61, 64, 66, 67, 70, 72, 73, 93, 94, 97, 98, 101, 104, 105, 108, 111, 112, 116, 117, 130]) := Exec_tail _ _ _
@[simp] theorem tl9_thicketlaw03_ScanOwn (e : Env) : Exec T k9_thicketlaw03_ScanOwn e = Exec T j9_thicketlaw03_ScanOwn (e.keep [0, 5, 6, 7, 10, 13, 16, 21, 24, 27, 35, 37, 39, 57, 58, 60, 61, 64, 66, 67, 70, 72, 73, 93, 94, 97, 98, 101, 104, 105, 108, 111, 112, 116, 117, 130]) := Exec_tail _ _ _
@[simp] theorem tl10_thicketlaw03_ScanOwn (e : Env) : Exec T k10_thicketlaw03_ScanOwn e = Exec T j10_thicketlaw03_ScanOwn (e.keep [0, 5, 6, 7, 10, 13, 16, 21, 24, 27, 31, 35, 37, 39, 57, 58, 60, 61, 64, 66, 67, 70, 72, 73, 93, 94, 97, 98, 101, 104, 105, 108, 111, 112, 130]) := Exec_tail _ _ _
@[simp] theorem tl11_thicketlaw03_ScanOwn (e : Env) : Exec T k11_thicketlaw03_ScanOwn e = Exec T j11_thicketlaw03_ScanOwn (e.keep [0, 5, 6, 7, 10, 13, 16, 21, 24, 27, 31, 35, 37, 39, 57, 58, 60, 61, 64, 66, 67, 70, 72, 73, 93, 94, 97, 98, 101, 104, 105, 108, 111, 112, 130]) := Exec_tail _ _ _
@[simp] theorem tl12_thicketlaw03_ScanOwn (e : Env) : Exec T k12_thicketlaw03_ScanOwn e = Exec T j12_thicketlaw03_ScanOwn (e.keep [0, 5, 6, 7, 10, 13, 16, 21, 24, 27, 35, 37, 39, 57, 58, 60, 61, 64, 66, 67, 70, 72, 73, 93, 94, 97, 98, 101, 104, 105, 108, 111, 112, 130]) := Exec_tail _ _ _
@[simp] theorem tl13_thicketlaw03_ScanOwn (e : Env) : Exec T k13_thicketlaw03_ScanOwn e = Exec T j13_thicketlaw03_ScanOwn (e.keep [0, 5, 6, 7, 10, 13, 16, 21, 24, 27, 35, 37, 39, 57, 58, 60, 61, 64, 66, 67, 70, 72, 73, 93, 94, 97, 98, 101, 104, 105, 108, 111, 112, 130]) := Exec_tail _ _ _
@[simp] theorem tl14_thicketlaw03_ScanOwn (e : Env) : Exec T k14_thicketlaw03_ScanOwn e = Exec T j14_thicketlaw03_ScanOwn (e.keep [0, 1, 5, 6, 7, 10, 13, 16, 35, 37, 39, 57, 58, 60, 61, 64, 66, 67, 70, 72, 73, 93]) := Exec_tail _ _ _
@[simp] theorem tl15_thicketlaw03_ScanOwn (e : Env) : Exec T k15_thicketlaw03_ScanOwn e = Exec T j15_thicketlaw03_ScanOwn (e.keep [0, 1, 5, 6, 7, 10, 13, 16, 35, 37, 39, 57, 58, 60, 61, 64, 66, 67, 70, 72, 73, 93]) := Exec_tail _ _ _
@[simp] theorem tl16_thicketlaw03_ScanOwn (e : Env) : Exec T k16_thicketlaw03_ScanOwn e = Exec T j16_thicketlaw03_ScanOwn (e.keep [0, 1, 5, 6, 7, 35, 37, 39, 57]) := Exec_tail _ _ _
@[simp] theorem tl17_thicketlaw03_ScanOwn (e : Env) : Exec T k17_thicketlaw03_ScanOwn e = Exec T j17_thicketlaw03_ScanOwn (e.keep [0, 1, 5, 6, 7, 35, 37, 39, 57]) := Exec_tail _ _ _
@[simp] theorem tl18_thicketlaw03_ScanOwn (e : Env) : Exec T k18_thicketlaw03_ScanOwn e = Exec T j18_thicketlaw03_ScanOwn (e.keep [0, 1]) := Exec_tail _ _ _
theorem ex0_thicketlaw03_ScanOwn (e : Env) : Exec T l0_thicketlaw03_ScanOwn e = andThen (Exec T w0_thicketlaw03_ScanOwn (e.keep [0, 1, 5, 6, 7, 35, 37, 39, 41, 42, 57])) (Exec T l0_thicketlaw03_ScanOwn) := Exec_loop _ _ _
theorem ex1_thicketlaw03_ScanOwn (e : Env) : Exec T l1_thicketlaw03_ScanOwn e = andThen (Exec T w1_thicketlaw03_ScanOwn (e.keep [0, 1, 5, 6, 7, 9, 35, 37, 39, 57])) (Exec T l1_thicketlaw03_ScanOwn) := Exec_loop _ _ _
theorem ex2_thicketlaw03_ScanOwn (e : Env) : Exec T l2_thicketlaw03_ScanOwn e = andThen (Exec T w2_thicketlaw03_ScanOwn (e.keep [0, 1, 5, 6, 7, 10, 13, 16, 35, 37, 39, 57, 58, 60, 61, 64, 66, 67, 70, 72, 73, 77, 78, 93])) (Exec T l2_thicketlaw03_ScanOwn) := Exec_loop _ _ _
theorem ex3_thicketlaw03_ScanOwn (e : Env) : Exec T l3_thicketlaw03_ScanOwn e = andThen (Exec T w3_thicketlaw03_ScanOwn (e.keep [0, 1, 5, 6, 7, 10, 13, 16, 20, 35, 37, 39, 57, 58, 60, 61, 64, 66, 67, 70, 72, 73, 93])) (Exec T l3_thicketlaw03_ScanOwn) := Exec_loop _ _ _
theorem ex4_thicketlaw03_ScanOwn (e : Env) : Exec T l4_thicketlaw03_ScanOwn e = andThen (Exec T w4_thicketlaw03_ScanOwn (e.keep [0, 5, 6, 7, 10, 13, 16, 21, 24, 27, 35, 37, 39, 57, 58, 60, 61, 64, 66, 67, 70, 72, 73, 93, 94, 97, 98, 101, 104, 105, 108, 111, 112, 116, 117, 130])) (Exec T l4_thicketlaw03_ScanOwn) := Exec_loop _ _ _
theorem ex5_thicketlaw03_ScanOwn (e : Env) : Exec T l5_thicketlaw03_ScanOwn e = andThen (Exec T w5_thicketlaw03_ScanOwn (e.keep [0, 5, 6, 7, 10, 13, 16, 21, 24, 27, 31, 35, 37, 39, 57, 58, 60, 61, 64, 66, 67, 70, 72, 73, 93, 94, 97, 98, 101, 104, 105, 108, 111, 112, 130])) (Exec T l5_thicketlaw03_ScanOwn) := Exec_loop _ _ _
theorem run_thicketlaw03_ScanOwn (xs : List PV) : Cinf T n_thicketlaw03_ScanOwn xs = Run T a_thicketlaw03_ScanOwn xs := Cinf_eq rfl fn_thicketlaw03_ScanOwn
@[simp] theorem md_thicketlaw03_ScanOwn : T.modes n_thicketlaw03_ScanOwn = [] := rfl
@[simp] theorem call_thicketlaw03_ScanOwn (C : Oracle) (e : Env) (xs : List PV) : call T C e n_thicketlaw03_ScanOwn xs = callK1 C n_thicketlaw03_ScanOwn xs (moves e [] [] xs) := call_modes md_thicketlaw03_ScanOwn
end Go.AM.F
