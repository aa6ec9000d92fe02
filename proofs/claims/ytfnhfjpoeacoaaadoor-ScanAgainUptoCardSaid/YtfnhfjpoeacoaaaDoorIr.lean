/- The functions of the program in the abstract machine's form, printed by a program of the session's own (ir.py); Lean checks them against the program. No conditions. -/
import Derived.Test.YtfnhfjpoeacoaaaDoorAmBld
namespace Go.AM.F
open Go Go.AM
set_option maxRecDepth 100000

abbrev n_thicketlaw03_ScanAgain : FuncId := 6
abbrev n_thicketlaw03_lives : FuncId := 10
abbrev n_scan_Rows : FuncId := 12
abbrev n_scan_Words : FuncId := 14
abbrev n_scan_Fields : FuncId := 17
abbrev n_scan_Quote : FuncId := 20
abbrev n_scan_Blank : FuncId := 21
abbrev n_strings_HasPrefix : FuncId := 30
abbrev n_scan_of : FuncId := 31
abbrev n_scan_one : FuncId := 32
abbrev n_scan_badBy : FuncId := 38
abbrev n_stringslite_HasPrefix : FuncId := 46
abbrev n_scan_text : FuncId := 47
abbrev n_scan_escape : FuncId := 53
abbrev n_scan_hex : FuncId := 64
def glob0 : List PV := ([0, 0, 0, 0, 0, 0, 0, 0, 0, 32, 0, 0, 0, 0, 0, 0, 0, 0, 0, 0, 0, 0, 0, 0, 0, 0, 0, 0, 0, 0, 0, 0, 32, 0, 0, 0, 0, 0, 0, 0, 16, 16, 0, 4, 16, 4, 8, 0, 0, 0, 0, 0, 0, 0, 0, 0, 0, 0, 16, 16, 16, 16, 16, 0, 0, 0, 0, 0, 0, 0, 0, 0, 0, 0, 0, 0, 0, 0, 0, 0, 0, 0, 0, 0, 0, 0, 0, 0, 0, 0, 0, 16, 0, 16, 0, 1, 0, 0, 0, 0, 0, 0, 0, 0, 0, 0, 0, 0, 0, 0, 0, 0, 0, 0, 0, 0, 0, 0, 0, 0, 0, 0, 0, 16, 16, 16, 0, 0] : List Int).map fun z => .v (.int .u8 z)
def b_stringslite_HasPrefix : IR :=
 (.seq (.reg 0 [⟨some 4, .assign (.c (Value.bool false)), none, [4]⟩] none [0, 1])
 (.seq (.reg 1 [⟨some 5, .move (.t 0), none, []⟩,
  ⟨some 6, .len 9 true (.t 5), none, [5]⟩,
  ⟨some 7, .move (.t 1), none, []⟩,
  ⟨some 8, .len 9 true (.t 7), none, [7]⟩,
  ⟨some 9, .bin .geq 3 (.t 6) (.t 8) 3, none, [6, 8]⟩,
  ⟨some 10, .move (.t 9), none, [9]⟩,
  ⟨some 11, .move (.t 0), some (5, true), [0]⟩,
  ⟨some 12, .move (.t 1), some (5, true), []⟩,
  ⟨some 13, .len 9 true (.t 12), some (5, true), [12]⟩,
  ⟨some 14, .slice 9 .str (.t 11) none (some (.t 13)) none, some (5, true), [11, 13]⟩,
  ⟨some 15, .move (.t 1), some (5, true), [1]⟩,
  ⟨some 16, .bin .eql 9 (.t 14) (.t 15) 9, some (5, true), [14, 15]⟩,
  ⟨some 17, .pick (.t 10) (.t 16) (.c (Value.bool false)), none, [10, 16]⟩,
  ⟨some 4, .assign (.t 17), none, [17]⟩] none [4])
 .ret))
def a_stringslite_HasPrefix : AFunc := ⟨18, [.tmp 4], b_stringslite_HasPrefix⟩

def b_strings_HasPrefix : IR :=
 (.seq (.reg 0 [⟨some 4, .assign (.c (Value.bool false)), none, [4]⟩] none [0, 1])
 (.seq (.reg 1 [⟨some 5, .move (.t 0), none, [0]⟩,
  ⟨some 6, .move (.t 1), none, [1]⟩,
  ⟨some 7, .call n_stringslite_HasPrefix [(.t 5), (.t 6)] [9, 9], none, [5, 6]⟩,
  ⟨some 4, .assign (.t 7), none, [7]⟩] none [4])
 .ret))
def a_strings_HasPrefix : AFunc := ⟨8, [.tmp 4], b_strings_HasPrefix⟩

def j0_scan_Rows : IR :=
 (.block 3 (.reg 6 [⟨some 27, .move (.t 5), none, []⟩,
  ⟨some 28, .bin .add 3 (.t 27) (.c (Value.int IntKind.i64 1)) 3, none, [27]⟩,
  ⟨some 5, .assign (.t 28), none, [28]⟩] none [0, 3, 4, 5, 40]))
def k0_scan_Rows : IR := .tail [0, 3, 4, 5, 40] j0_scan_Rows
def w1_scan_Rows : IR :=
 (.seq (.seq (.reg 5 [⟨some 11, .move (.t 5), none, []⟩,
  ⟨some 12, .move (.t 0), none, []⟩,
  ⟨some 13, .len 9 true (.t 12), none, [12]⟩,
  ⟨some 14, .bin .lss 3 (.t 11) (.t 13) 3, none, [11, 13]⟩,
  ⟨some 15, .move (.t 14), none, [14]⟩,
  ⟨some 16, .move (.t 0), some (4, true), []⟩,
  ⟨some 17, .move (.t 5), some (4, true), []⟩,
  ⟨some 18, .index 9 .str none (.t 16) (.t 17), some (4, true), [16, 17]⟩,
  ⟨some 19, .bin .neq 5 (.t 18) (.c (Value.int IntKind.u8 10)) 5, some (4, true), [18]⟩,
  ⟨some 20, .pick (.t 15) (.t 19) (.c (Value.bool false)), none, [15, 19]⟩,
  ⟨some 21, .move (.t 20), none, [20]⟩,
  ⟨some 22, .move (.t 0), some (10, true), []⟩,
  ⟨some 23, .move (.t 5), some (10, true), []⟩,
  ⟨some 24, .index 9 .str none (.t 22) (.t 23), some (10, true), [22, 23]⟩,
  ⟨some 25, .bin .neq 5 (.t 24) (.c (Value.int IntKind.u8 13)) 5, some (10, true), [24]⟩,
  ⟨some 26, .pick (.t 21) (.t 25) (.c (Value.bool false)), none, [21, 25]⟩] none [0, 3, 4, 5, 26, 40])
 (.cond [0, 3, 4, 5, 40] (.t 26) .skip (.exit 2)))
 k0_scan_Rows)
def l1_scan_Rows : IR := .loop [0, 3, 4, 5, 40] w1_scan_Rows
def j1_scan_Rows : IR :=
 (.reg 10 [⟨some 47, .move (.t 5), none, [5]⟩,
  ⟨some 48, .bin .add 3 (.t 47) (.c (Value.int IntKind.i64 1)) 3, none, [47]⟩,
  ⟨some 4, .assign (.t 48), none, [48]⟩] none [0, 3, 4, 40])
def k1_scan_Rows : IR := .tail [0, 3, 5, 40] j1_scan_Rows
def j2_scan_Rows : IR :=
 (.seq (.reg 7 [⟨some 29, .move (.t 3), none, []⟩,
  ⟨some 30, .move (.t 3), none, []⟩,
  ⟨some 31, .len 24 false (.t 30), none, [30]⟩,
  ⟨some 32, .bin .add 3 (.t 31) (.c (Value.int IntKind.i64 1)) 3, none, [31]⟩,
  ⟨some 33, .move (.t 4), none, []⟩,
  ⟨some 34, .move (.t 0), none, []⟩,
  ⟨some 35, .move (.t 4), none, [4]⟩,
  ⟨some 36, .move (.t 5), none, []⟩,
  ⟨some 37, .slice 9 .str (.t 34) (some (.t 35)) (some (.t 36)) none, none, [34, 35, 36]⟩,
  ⟨some 38, .build 33 [(0, 1), (1, 1), (2, 1)] [.v (.int .i64 0), .v (.int .i64 0), .v (.string ⟨#[]⟩)] [(0, (.t 32)), (1, (.t 33)), (2, (.t 37))], none, [32, 33, 37]⟩,
  ⟨some 39, .lit 24 3 [(.t 38)], none, [38]⟩,
  ⟨some 40, .append 24 24 false 3 32 (.t 29) (.t 39), none, [29, 39]⟩,
  ⟨some 3, .assign (.t 40), none, []⟩] none [0, 3, 5, 40])
 (.seq (.seq (.reg 8 [⟨some 41, .move (.t 0), none, []⟩,
  ⟨some 42, .move (.t 5), none, []⟩,
  ⟨some 43, .slice 9 .str (.t 41) (some (.t 42)) none none, none, [41, 42]⟩,
  ⟨some 44, .call n_strings_HasPrefix [(.t 43), (.c (Value.string { data := #[13, 10] }))] [9, 9], none, [43]⟩] none [0, 3, 5, 40, 44])
 (.cond [0, 3, 5, 40] (.t 44) (.reg 9 [⟨some 45, .move (.t 5), none, []⟩,
  ⟨some 46, .bin .add 3 (.t 45) (.c (Value.int IntKind.i64 1)) 3, none, [45]⟩,
  ⟨some 5, .assign (.t 46), none, [46]⟩] none [0, 3, 5, 40]) .skip))
 k1_scan_Rows))
def k2_scan_Rows : IR := .tail [0, 3, 4, 5, 40] j2_scan_Rows
def j3_scan_Rows : IR :=
 (.block 1 (.seq (.reg 4 [⟨some 10, .move (.t 4), none, []⟩,
  ⟨some 5, .assign (.t 10), none, [10]⟩] none [0, 3, 4, 5, 40])
 (.seq (.block 2 l1_scan_Rows)
 k2_scan_Rows)))
def k3_scan_Rows : IR := .tail [0, 3, 4, 40] j3_scan_Rows
def w0_scan_Rows : IR :=
 (.seq (.seq (.reg 3 [⟨some 6, .move (.t 4), none, []⟩,
  ⟨some 7, .move (.t 0), none, []⟩,
  ⟨some 8, .len 9 true (.t 7), none, [7]⟩,
  ⟨some 9, .bin .lss 3 (.t 6) (.t 8) 3, none, [6, 8]⟩] none [0, 3, 4, 9, 40])
 (.cond [0, 3, 4, 40] (.t 9) .skip (.exit 0)))
 k3_scan_Rows)
def l0_scan_Rows : IR := .loop [0, 3, 4, 40] w0_scan_Rows
def j4_scan_Rows : IR :=
 (.seq (.reg 11 [⟨some 49, .move (.t 3), none, []⟩,
  ⟨some 2, .assign (.t 49), none, []⟩] none [2, 3, 40, 49])
 .ret)
def k4_scan_Rows : IR := .tail [3, 40] j4_scan_Rows
def b_scan_Rows : IR :=
 (.seq (.reg 0 [⟨some 2, .assign (.nilS 3), none, [2]⟩] none [0])
 (.seq (.reg 1 [⟨some 3, .assign (.nilS 3), none, []⟩] none [0, 3, 40])
 (.seq (.reg 2 [⟨some 4, .assign (.c (Value.int IntKind.i64 0)), none, []⟩] none [0, 3, 4, 40])
 (.seq (.block 0 l0_scan_Rows)
 k4_scan_Rows))))
def a_scan_Rows : AFunc := ⟨50, [.tmp 2], b_scan_Rows⟩

def j0_scan_of : IR :=
 (.seq (.reg 7 [⟨some 28, .move (.t 0), none, [0]⟩,
  ⟨some 29, .iaddr 69 (.arr 128 1) (.g 0 glob0) (.t 28), none, []⟩,
  ⟨some 30, .load 49 none (.t 29), none, [28, 29]⟩,
  ⟨some 2, .assign (.t 30), none, [30]⟩] none [2])
 .ret)
def k0_scan_of : IR := .tail [0] j0_scan_of
def b_scan_of : IR :=
 (.seq (.reg 0 [⟨some 2, .assign (.c (Value.int IntKind.u8 0)), none, [2]⟩] none [0])
 (.seq (.block 0 (.seq (.reg 1 [⟨some 4, .move (.t 0), none, []⟩,
  ⟨some 5, .bin .geq 5 (.t 4) (.c (Value.int IntKind.u8 97)) 5, none, [4]⟩,
  ⟨some 6, .move (.t 5), none, [5]⟩,
  ⟨some 7, .move (.t 0), some (2, true), []⟩,
  ⟨some 8, .bin .leq 5 (.t 7) (.c (Value.int IntKind.u8 122)) 5, some (2, true), [7]⟩,
  ⟨some 9, .pick (.t 6) (.t 8) (.c (Value.bool false)), none, [6, 8]⟩,
  ⟨some 10, .move (.t 9), none, [9]⟩,
  ⟨some 11, .move (.t 0), some (6, false), []⟩,
  ⟨some 12, .bin .geq 5 (.t 11) (.c (Value.int IntKind.u8 65)) 5, some (6, false), [11]⟩,
  ⟨some 13, .move (.t 12), some (6, false), [12]⟩,
  ⟨some 14, .move (.t 0), some (9, true), []⟩,
  ⟨some 15, .bin .leq 5 (.t 14) (.c (Value.int IntKind.u8 90)) 5, some (9, true), [14]⟩,
  ⟨some 16, .pick (.t 13) (.t 15) (.c (Value.bool false)), some (6, false), [13, 15]⟩,
  ⟨some 17, .pick (.t 10) (.c (Value.bool true)) (.t 16), none, [10, 16]⟩,
  ⟨some 3, .assign (.t 17), none, [17]⟩] none [0, 3])
 (.cond [0] (.t 3) (.seq (.reg 2 [⟨some 2, .assign (.c (Value.int IntKind.u8 1)), none, []⟩] none [2])
 .ret) (.seq (.reg 3 [⟨some 19, .move (.t 0), none, []⟩,
  ⟨some 20, .bin .geq 5 (.t 19) (.c (Value.int IntKind.u8 48)) 5, none, [19]⟩,
  ⟨some 21, .move (.t 20), none, [20]⟩,
  ⟨some 22, .move (.t 0), some (2, true), []⟩,
  ⟨some 23, .bin .leq 5 (.t 22) (.c (Value.int IntKind.u8 57)) 5, some (2, true), [22]⟩,
  ⟨some 24, .pick (.t 21) (.t 23) (.c (Value.bool false)), none, [21, 23]⟩,
  ⟨some 18, .assign (.t 24), none, [24]⟩] none [0, 18])
 (.cond [0] (.t 18) (.seq (.reg 4 [⟨some 2, .assign (.c (Value.int IntKind.u8 2)), none, []⟩] none [2])
 .ret) (.seq (.reg 5 [⟨some 26, .move (.t 0), none, []⟩,
  ⟨some 27, .bin .gtr 5 (.t 26) (.c (Value.int IntKind.u8 127)) 5, none, [26]⟩,
  ⟨some 25, .assign (.t 27), none, [27]⟩] none [0, 25])
 (.cond [0] (.t 25) (.seq (.reg 6 [⟨some 2, .assign (.c (Value.int IntKind.u8 0)), none, []⟩] none [2])
 .ret) .skip)))))))
 k0_scan_of))
def a_scan_of : AFunc := ⟨31, [.tmp 2], b_scan_of⟩

def j0_scan_hex : IR :=
 (.seq (.reg 7 [⟨some 2, .assign (.c (Value.int IntKind.u8 0)), none, []⟩,
  ⟨some 3, .assign (.c (Value.bool false)), none, []⟩] none [2, 3])
 .ret)
def k0_scan_hex : IR := .tail [] j0_scan_hex
def b_scan_hex : IR :=
 (.seq (.reg 0 [⟨some 2, .assign (.c (Value.int IntKind.u8 0)), none, [2]⟩,
  ⟨some 3, .assign (.c (Value.bool false)), none, [3]⟩] none [0])
 (.seq (.block 0 (.seq (.reg 1 [⟨some 5, .move (.t 0), none, []⟩,
  ⟨some 6, .bin .geq 5 (.t 5) (.c (Value.int IntKind.u8 48)) 5, none, [5]⟩,
  ⟨some 7, .move (.t 6), none, [6]⟩,
  ⟨some 8, .move (.t 0), some (2, true), []⟩,
  ⟨some 9, .bin .leq 5 (.t 8) (.c (Value.int IntKind.u8 57)) 5, some (2, true), [8]⟩,
  ⟨some 10, .pick (.t 7) (.t 9) (.c (Value.bool false)), none, [7, 9]⟩,
  ⟨some 4, .assign (.t 10), none, [10]⟩] none [0, 4])
 (.cond [0] (.t 4) (.seq (.reg 2 [⟨some 11, .move (.t 0), none, [0]⟩,
  ⟨some 12, .bin .sub 5 (.t 11) (.c (Value.int IntKind.u8 48)) 5, none, [11]⟩,
  ⟨some 2, .assign (.t 12), none, [12]⟩,
  ⟨some 3, .assign (.c (Value.bool true)), none, []⟩] none [2, 3])
 .ret) (.seq (.reg 3 [⟨some 14, .move (.t 0), none, []⟩,
  ⟨some 15, .bin .geq 5 (.t 14) (.c (Value.int IntKind.u8 97)) 5, none, [14]⟩,
  ⟨some 16, .move (.t 15), none, [15]⟩,
  ⟨some 17, .move (.t 0), some (2, true), []⟩,
  ⟨some 18, .bin .leq 5 (.t 17) (.c (Value.int IntKind.u8 102)) 5, some (2, true), [17]⟩,
  ⟨some 19, .pick (.t 16) (.t 18) (.c (Value.bool false)), none, [16, 18]⟩,
  ⟨some 13, .assign (.t 19), none, [19]⟩] none [0, 13])
 (.cond [0] (.t 13) (.seq (.reg 4 [⟨some 20, .move (.t 0), none, [0]⟩,
  ⟨some 21, .bin .sub 5 (.t 20) (.c (Value.int IntKind.u8 97)) 5, none, [20]⟩,
  ⟨some 22, .bin .add 5 (.t 21) (.c (Value.int IntKind.u8 10)) 5, none, [21]⟩,
  ⟨some 2, .assign (.t 22), none, [22]⟩,
  ⟨some 3, .assign (.c (Value.bool true)), none, []⟩] none [2, 3])
 .ret) (.seq (.reg 5 [⟨some 24, .move (.t 0), none, []⟩,
  ⟨some 25, .bin .geq 5 (.t 24) (.c (Value.int IntKind.u8 65)) 5, none, [24]⟩,
  ⟨some 26, .move (.t 25), none, [25]⟩,
  ⟨some 27, .move (.t 0), some (2, true), []⟩,
  ⟨some 28, .bin .leq 5 (.t 27) (.c (Value.int IntKind.u8 70)) 5, some (2, true), [27]⟩,
  ⟨some 29, .pick (.t 26) (.t 28) (.c (Value.bool false)), none, [26, 28]⟩,
  ⟨some 23, .assign (.t 29), none, [29]⟩] none [0, 23])
 (.cond [0] (.t 23) (.seq (.reg 6 [⟨some 30, .move (.t 0), none, [0]⟩,
  ⟨some 31, .bin .sub 5 (.t 30) (.c (Value.int IntKind.u8 65)) 5, none, [30]⟩,
  ⟨some 32, .bin .add 5 (.t 31) (.c (Value.int IntKind.u8 10)) 5, none, [31]⟩,
  ⟨some 2, .assign (.t 32), none, [32]⟩,
  ⟨some 3, .assign (.c (Value.bool true)), none, []⟩] none [2, 3])
 .ret) .skip)))))))
 k0_scan_hex))
def a_scan_hex : AFunc := ⟨33, [.tmp 2, .tmp 3], b_scan_hex⟩

def j0_scan_escape : IR :=
 (.reg 21 [⟨some 63, .move (.t 7), none, []⟩,
  ⟨some 64, .bin .shl 5 (.t 63) (.c (Value.int IntKind.u64 4)) 57, none, [63]⟩,
  ⟨some 65, .move (.t 9), none, [9]⟩,
  ⟨some 66, .bin .or 5 (.t 64) (.t 65) 5, none, [64, 65]⟩,
  ⟨some 7, .assign (.t 66), none, [66]⟩] none [0, 1, 7, 8])
def k0_scan_escape : IR := .tail [0, 1, 7, 8, 9] j0_scan_escape
def j1_scan_escape : IR :=
 (.seq (.reg 18 [⟨some 50, .move (.t 0), none, []⟩,
  ⟨some 51, .move (.t 1), none, []⟩,
  ⟨some 52, .move (.t 8), none, []⟩,
  ⟨some 53, .bin .add 3 (.t 51) (.t 52) 3, none, [51, 52]⟩,
  ⟨some 54, .index 9 .str none (.t 50) (.t 53), none, [50, 53]⟩,
  ⟨some 55, .call n_scan_hex [(.t 54)] [5], none, [54]⟩,
  ⟨some 49, .move (.t 55), none, [55]⟩,
  ⟨some 56, .extr (.t 49) 0, none, []⟩,
  ⟨some 57, .extr (.t 49) 1, none, [49]⟩,
  ⟨some 9, .assign (.t 56), none, [56]⟩,
  ⟨some 10, .assign (.t 57), none, [57]⟩] none [0, 1, 7, 8, 9, 10])
 (.seq (.seq (.reg 19 [⟨some 58, .move (.t 10), none, [10]⟩,
  ⟨some 59, .un .not 4 (.t 58), none, [58]⟩] none [0, 1, 7, 8, 9, 59])
 (.cond [0, 1, 7, 8, 9] (.t 59) (.seq (.reg 20 [⟨some 60, .move (.t 1), none, [1]⟩,
  ⟨some 61, .move (.t 8), none, [8]⟩,
  ⟨some 62, .bin .add 3 (.t 60) (.t 61) 3, none, [60, 61]⟩,
  ⟨some 4, .assign (.c (Value.int IntKind.u8 0)), none, []⟩,
  ⟨some 5, .assign (.t 62), none, [62]⟩,
  ⟨some 6, .assign (.c (Value.bool false)), none, []⟩] none [4, 5, 6])
 .ret) .skip))
 k0_scan_escape))
def k1_scan_escape : IR := .tail [0, 1, 7, 8] j1_scan_escape
def j2_scan_escape : IR :=
 (.reg 15 [⟨some 39, .move (.t 8), none, []⟩,
  ⟨some 40, .bin .add 3 (.t 39) (.c (Value.int IntKind.i64 1)) 3, none, [39]⟩,
  ⟨some 8, .assign (.t 40), none, [40]⟩] none [0, 1, 7, 8])
def k2_scan_escape : IR := .tail [0, 1, 7, 8] j2_scan_escape
def j3_scan_escape : IR :=
 (.seq (.block 2 (.seq (.seq (.reg 16 [⟨some 41, .move (.t 1), none, []⟩,
  ⟨some 42, .move (.t 8), none, []⟩,
  ⟨some 43, .bin .add 3 (.t 41) (.t 42) 3, none, [41, 42]⟩,
  ⟨some 44, .move (.t 0), none, []⟩,
  ⟨some 45, .len 9 true (.t 44), none, [44]⟩,
  ⟨some 46, .bin .geq 3 (.t 43) (.t 45) 3, none, [43, 45]⟩] none [0, 1, 7, 8, 46])
 (.cond [0, 1, 7, 8] (.t 46) (.seq (.reg 17 [⟨some 47, .move (.t 0), none, [0]⟩,
  ⟨some 48, .len 9 true (.t 47), none, [47]⟩,
  ⟨some 4, .assign (.c (Value.int IntKind.u8 0)), none, []⟩,
  ⟨some 5, .assign (.t 48), none, [48]⟩,
  ⟨some 6, .assign (.c (Value.bool false)), none, []⟩] none [4, 5, 6])
 .ret) .skip))
 k1_scan_escape))
 k2_scan_escape)
def k3_scan_escape : IR := .tail [0, 1, 7, 8] j3_scan_escape
def w0_scan_escape : IR :=
 (.seq (.seq (.reg 14 [⟨some 37, .move (.t 8), none, []⟩,
  ⟨some 38, .bin .lss 3 (.t 37) (.c (Value.int IntKind.i64 3)) 3, none, [37]⟩] none [0, 1, 7, 8, 38])
 (.cond [0, 1, 7, 8] (.t 38) .skip (.exit 1)))
 k3_scan_escape)
def l0_scan_escape : IR := .loop [0, 1, 7, 8] w0_scan_escape
def j4_scan_escape : IR :=
 (.seq (.reg 22 [⟨some 67, .move (.t 7), none, [7]⟩,
  ⟨some 68, .move (.t 1), none, [1]⟩,
  ⟨some 69, .bin .add 3 (.t 68) (.c (Value.int IntKind.i64 3)) 3, none, [68]⟩,
  ⟨some 4, .assign (.t 67), none, [67]⟩,
  ⟨some 5, .assign (.t 69), none, [69]⟩,
  ⟨some 6, .assign (.c (Value.bool true)), none, []⟩] none [4, 5, 6])
 .ret)
def k4_scan_escape : IR := .tail [1, 7] j4_scan_escape
def j5_scan_escape : IR :=
 (.cond [0, 1, 18] (.t 19) (.seq (.reg 6 [⟨some 22, .move (.t 0), none, [0]⟩,
  ⟨some 23, .move (.t 1), none, []⟩,
  ⟨some 24, .index 9 .str none (.t 22) (.t 23), none, [22, 23]⟩,
  ⟨some 25, .move (.t 1), none, [1]⟩,
  ⟨some 26, .bin .add 3 (.t 25) (.c (Value.int IntKind.i64 1)) 3, none, [25]⟩,
  ⟨some 4, .assign (.t 24), none, [24]⟩,
  ⟨some 5, .assign (.t 26), none, [26]⟩,
  ⟨some 6, .assign (.c (Value.bool true)), none, []⟩] none [4, 5, 6])
 .ret) (.seq (.reg 7 [⟨some 28, .bin .eql 5 (.t 18) (.c (Value.int IntKind.u8 110)) 5, none, []⟩,
  ⟨some 27, .assign (.t 28), none, [28]⟩] none [0, 1, 18, 27])
 (.cond [0, 1, 18] (.t 27) (.seq (.reg 8 [⟨some 29, .move (.t 1), none, [1]⟩,
  ⟨some 30, .bin .add 3 (.t 29) (.c (Value.int IntKind.i64 1)) 3, none, [29]⟩,
  ⟨some 4, .assign (.c (Value.int IntKind.u8 10)), none, []⟩,
  ⟨some 5, .assign (.t 30), none, [30]⟩,
  ⟨some 6, .assign (.c (Value.bool true)), none, []⟩] none [4, 5, 6])
 .ret) (.seq (.reg 9 [⟨some 32, .bin .eql 5 (.t 18) (.c (Value.int IntKind.u8 116)) 5, none, []⟩,
  ⟨some 31, .assign (.t 32), none, [32]⟩] none [0, 1, 18, 31])
 (.cond [0, 1, 18] (.t 31) (.seq (.reg 10 [⟨some 33, .move (.t 1), none, [1]⟩,
  ⟨some 34, .bin .add 3 (.t 33) (.c (Value.int IntKind.i64 1)) 3, none, [33]⟩,
  ⟨some 4, .assign (.c (Value.int IntKind.u8 9)), none, []⟩,
  ⟨some 5, .assign (.t 34), none, [34]⟩,
  ⟨some 6, .assign (.c (Value.bool true)), none, []⟩] none [4, 5, 6])
 .ret) (.seq (.reg 11 [⟨some 36, .bin .eql 5 (.t 18) (.c (Value.int IntKind.u8 120)) 5, none, [18]⟩,
  ⟨some 35, .assign (.t 36), none, [36]⟩] none [0, 1, 35])
 (.cond [0, 1] (.t 35) (.seq (.reg 12 [⟨some 7, .assign (.c (Value.int IntKind.u8 0)), none, []⟩] none [0, 1, 7])
 (.seq (.seq (.reg 13 [⟨some 8, .assign (.c (Value.int IntKind.i64 1)), none, []⟩] none [0, 1, 7, 8])
 (.block 1 l0_scan_escape))
 k4_scan_escape)) .skip)))))))
def k5_scan_escape : IR := .tail [0, 1, 18, 19] j5_scan_escape
def j6_scan_escape : IR :=
 (.seq (.reg 23 [⟨some 70, .move (.t 1), none, [1]⟩,
  ⟨some 4, .assign (.c (Value.int IntKind.u8 0)), none, []⟩,
  ⟨some 5, .assign (.t 70), none, [70]⟩,
  ⟨some 6, .assign (.c (Value.bool false)), none, []⟩] none [4, 5, 6])
 .ret)
def k6_scan_escape : IR := .tail [1] j6_scan_escape
def j7_scan_escape : IR :=
 (.seq (.seq (.reg 3 [⟨some 16, .move (.t 0), none, []⟩,
  ⟨some 17, .move (.t 1), none, []⟩,
  ⟨some 18, .index 9 .str none (.t 16) (.t 17), none, [16, 17]⟩] none [0, 1, 18])
 (.block 0 (.seq (.seq (.reg 4 [⟨some 20, .bin .eql 5 (.t 18) (.c (Value.int IntKind.u8 34)) 5, none, []⟩,
  ⟨some 19, .assign (.t 20), none, [20]⟩] none [0, 1, 18, 19])
 (.cond [0, 1, 18, 19] (.t 19) .skip (.reg 5 [⟨some 21, .bin .eql 5 (.t 18) (.c (Value.int IntKind.u8 92)) 5, none, []⟩,
  ⟨some 19, .assign (.t 21), none, [21]⟩] none [0, 1, 18, 19])))
 k5_scan_escape)))
 k6_scan_escape)
def k7_scan_escape : IR := .tail [0, 1] j7_scan_escape
def b_scan_escape : IR :=
 (.seq (.reg 0 [⟨some 4, .assign (.c (Value.int IntKind.u8 0)), none, [4]⟩,
  ⟨some 5, .assign (.c (Value.int IntKind.i64 0)), none, [5]⟩,
  ⟨some 6, .assign (.c (Value.bool false)), none, [6]⟩] none [0, 1])
 (.seq (.seq (.reg 1 [⟨some 11, .move (.t 1), none, []⟩,
  ⟨some 12, .move (.t 0), none, []⟩,
  ⟨some 13, .len 9 true (.t 12), none, [12]⟩,
  ⟨some 14, .bin .geq 3 (.t 11) (.t 13) 3, none, [11, 13]⟩] none [0, 1, 14])
 (.cond [0, 1] (.t 14) (.seq (.reg 2 [⟨some 15, .move (.t 1), none, [1]⟩,
  ⟨some 4, .assign (.c (Value.int IntKind.u8 0)), none, []⟩,
  ⟨some 5, .assign (.t 15), none, [15]⟩,
  ⟨some 6, .assign (.c (Value.bool false)), none, []⟩] none [4, 5, 6])
 .ret) .skip))
 k7_scan_escape))
def a_scan_escape : AFunc := ⟨71, [.tmp 4, .tmp 5, .tmp 6], b_scan_escape⟩

def j0_scan_text : IR :=
 (.seq (.reg 13 [⟨some 50, .move (.t 8), none, []⟩,
  ⟨some 51, .move (.t 11), none, [11]⟩,
  ⟨some 52, .lit 56 1 [(.t 51)], none, [51]⟩,
  ⟨some 53, .append 56 56 false 1 1 (.t 50) (.t 52), none, [50, 52]⟩,
  ⟨some 8, .assign (.t 53), none, []⟩] none [0, 8, 12, 28, 53])
 (.reg 14 [⟨some 54, .move (.t 12), none, [12]⟩,
  ⟨some 55, .bin .sub 3 (.t 54) (.c (Value.int IntKind.i64 1)) 3, none, [54]⟩,
  ⟨some 9, .assign (.t 55), none, [55]⟩] none [0, 8, 9, 28, 53]))
def k0_scan_text : IR := .tail [0, 8, 11, 12, 28, 53] j0_scan_text
def j1_scan_text : IR :=
 (.reg 4 [⟨some 20, .move (.t 9), none, []⟩,
  ⟨some 21, .bin .add 3 (.t 20) (.c (Value.int IntKind.i64 1)) 3, none, [20]⟩,
  ⟨some 9, .assign (.t 21), none, [21]⟩] none [0, 8, 9, 28, 53])
def k1_scan_text : IR := .tail [0, 8, 9, 28, 53] j1_scan_text
def j2_scan_text : IR :=
 (.seq (.block 1 (.seq (.reg 5 [⟨some 22, .move (.t 0), none, []⟩,
  ⟨some 23, .move (.t 9), none, []⟩,
  ⟨some 24, .index 9 .str none (.t 22) (.t 23), none, [22, 23]⟩,
  ⟨some 10, .assign (.t 24), none, [24]⟩] none [0, 8, 9, 10, 28, 53])
 (.block 2 (.seq (.reg 7 [⟨some 30, .move (.t 10), none, []⟩,
  ⟨some 31, .bin .eql 5 (.t 30) (.c (Value.int IntKind.u8 34)) 5, none, [30]⟩,
  ⟨some 29, .assign (.t 31), none, [31]⟩] none [0, 8, 9, 10, 28, 29, 53])
 (.cond [0, 8, 9, 10, 28, 53] (.t 29) (.seq (.reg 8 [⟨some 32, .move (.t 8), none, []⟩,
  ⟨some 33, .conv 56 9 .bytes (.t 32), none, [8, 28, 32, 53]⟩,
  ⟨some 34, .move (.t 9), none, [9]⟩,
  ⟨some 35, .bin .add 3 (.t 34) (.c (Value.int IntKind.i64 1)) 3, none, [34]⟩,
  ⟨some 4, .assign (.t 33), none, [33]⟩,
  ⟨some 5, .assign (.t 35), none, [35]⟩,
  ⟨some 6, .assign (.c (Value.int IntKind.i64 0)), none, []⟩,
  ⟨some 7, .assign (.c (Value.int IntKind.i64 0)), none, []⟩] none [4, 5, 6, 7])
 .ret) (.seq (.reg 9 [⟨some 37, .move (.t 10), none, []⟩,
  ⟨some 38, .bin .eql 5 (.t 37) (.c (Value.int IntKind.u8 92)) 5, none, [37]⟩,
  ⟨some 36, .assign (.t 38), none, [38]⟩] none [0, 8, 9, 10, 28, 36, 53])
 (.cond [0, 8, 9, 10, 28, 53] (.t 36) (.seq (.reg 10 [⟨some 40, .move (.t 0), none, []⟩,
  ⟨some 41, .move (.t 9), none, [9]⟩,
  ⟨some 42, .bin .add 3 (.t 41) (.c (Value.int IntKind.i64 1)) 3, none, [41]⟩,
  ⟨some 43, .call n_scan_escape [(.t 40), (.t 42)] [9, 3], none, [40, 42]⟩,
  ⟨some 39, .move (.t 43), none, [43]⟩,
  ⟨some 44, .extr (.t 39) 0, none, []⟩,
  ⟨some 45, .extr (.t 39) 1, none, []⟩,
  ⟨some 46, .extr (.t 39) 2, none, [39]⟩,
  ⟨some 11, .assign (.t 44), none, [44]⟩,
  ⟨some 12, .assign (.t 45), none, [45]⟩,
  ⟨some 13, .assign (.t 46), none, [46]⟩] none [0, 8, 11, 12, 13, 28, 53])
 (.seq (.seq (.reg 11 [⟨some 47, .move (.t 13), none, [13]⟩,
  ⟨some 48, .un .not 4 (.t 47), none, [47]⟩] none [0, 8, 11, 12, 28, 48, 53])
 (.cond [0, 8, 11, 12, 28, 53] (.t 48) (.seq (.reg 12 [⟨some 49, .move (.t 12), none, [12]⟩,
  ⟨some 4, .assign (.c (Value.string { data := #[] })), none, []⟩,
  ⟨some 5, .assign (.c (Value.int IntKind.i64 0)), none, []⟩,
  ⟨some 6, .assign (.c (Value.int IntKind.i64 31)), none, []⟩,
  ⟨some 7, .assign (.t 49), none, [49]⟩] none [4, 5, 6, 7])
 .ret) .skip))
 k0_scan_text)) (.seq (.reg 15 [⟨some 57, .move (.t 10), none, []⟩,
  ⟨some 58, .bin .lss 5 (.t 57) (.c (Value.int IntKind.u8 32)) 5, none, [57]⟩,
  ⟨some 59, .move (.t 58), none, [58]⟩,
  ⟨some 60, .move (.t 10), some (2, false), []⟩,
  ⟨some 61, .bin .eql 5 (.t 60) (.c (Value.int IntKind.u8 127)) 5, some (2, false), [60]⟩,
  ⟨some 62, .pick (.t 59) (.c (Value.bool true)) (.t 61), none, [59, 61]⟩,
  ⟨some 56, .assign (.t 62), none, [62]⟩] none [0, 8, 9, 10, 28, 53, 56])
 (.cond [0, 8, 9, 10, 28, 53] (.t 56) (.seq (.reg 16 [⟨some 63, .move (.t 9), none, [9]⟩,
  ⟨some 4, .assign (.c (Value.string { data := #[] })), none, []⟩,
  ⟨some 5, .assign (.c (Value.int IntKind.i64 0)), none, []⟩,
  ⟨some 6, .assign (.c (Value.int IntKind.i64 31)), none, []⟩,
  ⟨some 7, .assign (.t 63), none, [63]⟩] none [4, 5, 6, 7])
 .ret) (.reg 6 [⟨some 25, .move (.t 8), none, []⟩,
  ⟨some 26, .move (.t 10), none, [10]⟩,
  ⟨some 27, .lit 56 1 [(.t 26)], none, [26]⟩,
  ⟨some 28, .append 56 56 false 1 1 (.t 25) (.t 27), none, [25, 27]⟩,
  ⟨some 8, .assign (.t 28), none, []⟩] none [0, 8, 9, 28, 53]))))))))))
 k1_scan_text)
def k2_scan_text : IR := .tail [0, 8, 9, 28, 53] j2_scan_text
def w0_scan_text : IR :=
 (.seq (.seq (.reg 3 [⟨some 16, .move (.t 9), none, []⟩,
  ⟨some 17, .move (.t 0), none, []⟩,
  ⟨some 18, .len 9 true (.t 17), none, [17]⟩,
  ⟨some 19, .bin .lss 3 (.t 16) (.t 18) 3, none, [16, 18]⟩] none [0, 8, 9, 19, 28, 53])
 (.cond [0, 8, 9, 28, 53] (.t 19) .skip (.exit 0)))
 k2_scan_text)
def l0_scan_text : IR := .loop [0, 8, 9, 28, 53] w0_scan_text
def j3_scan_text : IR :=
 (.seq (.reg 17 [⟨some 64, .move (.t 0), none, [0]⟩,
  ⟨some 65, .len 9 true (.t 64), none, [64]⟩,
  ⟨some 4, .assign (.c (Value.string { data := #[] })), none, []⟩,
  ⟨some 5, .assign (.c (Value.int IntKind.i64 0)), none, []⟩,
  ⟨some 6, .assign (.c (Value.int IntKind.i64 31)), none, []⟩,
  ⟨some 7, .assign (.t 65), none, [65]⟩] none [4, 5, 6, 7])
 .ret)
def k3_scan_text : IR := .tail [0] j3_scan_text
def b_scan_text : IR :=
 (.seq (.reg 0 [⟨some 4, .assign (.c (Value.string { data := #[] })), none, [4]⟩,
  ⟨some 5, .assign (.c (Value.int IntKind.i64 0)), none, [5]⟩,
  ⟨some 6, .assign (.c (Value.int IntKind.i64 0)), none, [6]⟩,
  ⟨some 7, .assign (.c (Value.int IntKind.i64 0)), none, [7]⟩] none [0, 1])
 (.seq (.reg 1 [⟨some 8, .assign (.nilS 1), none, []⟩] none [0, 1, 8, 28, 53])
 (.seq (.seq (.reg 2 [⟨some 14, .move (.t 1), none, [1]⟩,
  ⟨some 15, .bin .add 3 (.t 14) (.c (Value.int IntKind.i64 1)) 3, none, [14]⟩,
  ⟨some 9, .assign (.t 15), none, [15]⟩] none [0, 8, 9, 28, 53])
 (.block 0 l0_scan_text))
 k3_scan_text)))
def a_scan_text : AFunc := ⟨66, [.tmp 4, .tmp 5, .tmp 6, .tmp 7], b_scan_text⟩

def j0_scan_one : IR :=
 (.seq (.reg 10 [⟨some 48, .move (.t 12), none, [12]⟩,
  ⟨some 49, .move (.t 1), none, [1]⟩,
  ⟨some 50, .build 36 [(0, 1), (1, 1), (2, 1)] [.v (.int .u8 0), .v (.string ⟨#[]⟩), .v (.int .i64 0)] [(0, (.c (Value.int IntKind.u8 3))), (1, (.t 48)), (2, (.t 49))], none, [48, 49]⟩,
  ⟨some 51, .move (.t 13), none, [13]⟩,
  ⟨some 52, .move (.t 14), none, [14]⟩,
  ⟨some 53, .move (.t 15), none, [15]⟩,
  ⟨none, .store 36 (some 3) (.t 4) (.t 50), none, [50]⟩,
  ⟨some 5, .assign (.t 51), none, [51]⟩,
  ⟨some 6, .assign (.t 52), none, [52]⟩,
  ⟨some 7, .assign (.t 53), none, [53]⟩] none [4, 5, 6, 7])
 .ret)
def k0_scan_one : IR := .tail [1, 4, 12, 13, 14, 15] j0_scan_one
def j1_scan_one : IR :=
 (.block 2 (.reg 14 [⟨some 77, .move (.t 9), none, []⟩,
  ⟨some 78, .bin .add 3 (.t 77) (.c (Value.int IntKind.i64 1)) 3, none, [77]⟩,
  ⟨some 9, .assign (.t 78), none, [78]⟩] none [0, 1, 4, 8, 9, 10]))
def k1_scan_one : IR := .tail [0, 1, 4, 8, 9, 10] j1_scan_one
def w0_scan_one : IR :=
 (.seq (.seq (.reg 13 [⟨some 58, .move (.t 9), none, []⟩,
  ⟨some 59, .move (.t 0), none, []⟩,
  ⟨some 60, .len 9 true (.t 59), none, [59]⟩,
  ⟨some 61, .bin .lss 3 (.t 58) (.t 60) 3, none, [58, 60]⟩,
  ⟨some 62, .move (.t 61), none, [61]⟩,
  ⟨some 63, .move (.t 0), some (4, true), []⟩,
  ⟨some 64, .move (.t 9), some (4, true), []⟩,
  ⟨some 65, .index 9 .str none (.t 63) (.t 64), some (4, true), [63, 64]⟩,
  ⟨some 66, .call n_scan_of [(.t 65)] [5], some (4, true), [65]⟩,
  ⟨some 67, .move (.t 10), some (4, true), []⟩,
  ⟨some 68, .bin .and 49 (.t 66) (.t 67) 49, some (4, true), [66, 67]⟩,
  ⟨some 69, .bin .neq 49 (.t 68) (.c (Value.int IntKind.u8 0)) 49, some (4, true), [68]⟩,
  ⟨some 70, .move (.t 69), some (4, true), [69]⟩,
  ⟨some 71, .move (.t 0), some (12, false), []⟩,
  ⟨some 72, .move (.t 9), some (12, false), []⟩,
  ⟨some 73, .index 9 .str none (.t 71) (.t 72), some (12, false), [71, 72]⟩,
  ⟨some 74, .bin .eql 5 (.t 73) (.c (Value.int IntKind.u8 45)) 5, some (12, false), [73]⟩,
  ⟨some 75, .pick (.t 70) (.c (Value.bool true)) (.t 74), some (4, true), [70, 74]⟩,
  ⟨some 76, .pick (.t 62) (.t 75) (.c (Value.bool false)), none, [62, 75]⟩] none [0, 1, 4, 8, 9, 10, 76])
 (.cond [0, 1, 4, 8, 9, 10] (.t 76) .skip (.exit 1)))
 k1_scan_one)
def l0_scan_one : IR := .loop [0, 1, 4, 8, 9, 10] w0_scan_one
def j2_scan_one : IR :=
 (.block 4 (.reg 18 [⟨some 98, .move (.t 9), none, []⟩,
  ⟨some 99, .bin .add 3 (.t 98) (.c (Value.int IntKind.i64 1)) 3, none, [98]⟩,
  ⟨some 9, .assign (.t 99), none, [99]⟩] none [0, 1, 4, 8, 9, 10]))
def k2_scan_one : IR := .tail [0, 1, 4, 8, 9, 10] j2_scan_one
def w1_scan_one : IR :=
 (.seq (.seq (.reg 17 [⟨some 84, .move (.t 9), none, []⟩,
  ⟨some 85, .move (.t 0), none, []⟩,
  ⟨some 86, .len 9 true (.t 85), none, [85]⟩,
  ⟨some 87, .bin .lss 3 (.t 84) (.t 86) 3, none, [84, 86]⟩,
  ⟨some 88, .move (.t 87), none, [87]⟩,
  ⟨some 89, .move (.t 0), some (4, true), []⟩,
  ⟨some 90, .move (.t 9), some (4, true), []⟩,
  ⟨some 91, .index 9 .str none (.t 89) (.t 90), some (4, true), [89, 90]⟩,
  ⟨some 92, .call n_scan_of [(.t 91)] [5], some (4, true), [91]⟩,
  ⟨some 93, .move (.t 10), some (4, true), []⟩,
  ⟨some 94, .bin .or 49 (.t 93) (.c (Value.int IntKind.u8 4)) 49, some (4, true), [93]⟩,
  ⟨some 95, .bin .and 49 (.t 92) (.t 94) 49, some (4, true), [92, 94]⟩,
  ⟨some 96, .bin .neq 49 (.t 95) (.c (Value.int IntKind.u8 0)) 49, some (4, true), [95]⟩,
  ⟨some 97, .pick (.t 88) (.t 96) (.c (Value.bool false)), none, [88, 96]⟩] none [0, 1, 4, 8, 9, 10, 97])
 (.cond [0, 1, 4, 8, 9, 10] (.t 97) .skip (.exit 3)))
 k2_scan_one)
def l1_scan_one : IR := .loop [0, 1, 4, 8, 9, 10] w1_scan_one
def j3_scan_one : IR :=
 (.seq (.reg 29 [⟨some 158, .load 36 (some 3) (.t 8), none, [8]⟩,
  ⟨some 159, .move (.t 9), none, [9]⟩,
  ⟨none, .store 36 (some 3) (.t 4) (.t 158), none, [158]⟩,
  ⟨some 5, .assign (.t 159), none, [159]⟩,
  ⟨some 6, .assign (.c (Value.int IntKind.i64 0)), none, []⟩,
  ⟨some 7, .assign (.c (Value.int IntKind.i64 0)), none, []⟩] none [4, 5, 6, 7])
 .ret)
def k3_scan_one : IR := .tail [4, 8, 9] j3_scan_one
def j4_scan_one : IR :=
 (.seq (.reg 26 [⟨some 147, .move (.t 0), none, [0]⟩,
  ⟨some 148, .move (.t 1), none, []⟩,
  ⟨some 149, .move (.t 9), none, []⟩,
  ⟨some 150, .slice 9 .str (.t 147) (some (.t 148)) (some (.t 149)) none, none, [147, 148, 149]⟩,
  ⟨some 151, .faddr 36 (.t 8) 1 1, none, []⟩,
  ⟨none, .store 9 none (.t 151) (.t 150), none, [150, 151]⟩] none [1, 4, 8, 9])
 (.seq (.seq (.reg 27 [⟨some 152, .faddr 36 (.t 8) 1 1, none, []⟩,
  ⟨some 153, .load 9 none (.t 152), none, [152]⟩,
  ⟨some 154, .len 9 true (.t 153), none, [153]⟩,
  ⟨some 155, .bin .gtr 3 (.t 154) (.c (Value.int IntKind.i64 65536)) 3, none, [154]⟩] none [1, 4, 8, 9, 155])
 (.cond [1, 4, 8, 9] (.t 155) (.seq (.reg 28 [⟨some 156, .load 36 (some 3) (.t 8), none, [8]⟩,
  ⟨some 157, .move (.t 1), none, [1]⟩,
  ⟨none, .store 36 (some 3) (.t 4) (.t 156), none, [156]⟩,
  ⟨some 5, .assign (.c (Value.int IntKind.i64 0)), none, []⟩,
  ⟨some 6, .assign (.c (Value.int IntKind.i64 4)), none, []⟩,
  ⟨some 7, .assign (.t 157), none, [157]⟩] none [4, 5, 6, 7])
 .ret) .skip))
 k3_scan_one))
def k4_scan_one : IR := .tail [0, 1, 4, 8, 9] j4_scan_one
def b_scan_one : IR :=
 (.seq (.reg 0 [⟨some 4, .alloc 36 [.v (.int .u8 0), .v (.string ⟨#[]⟩), .v (.int .i64 0)], none, []⟩,
  ⟨some 5, .assign (.c (Value.int IntKind.i64 0)), none, [5]⟩,
  ⟨some 6, .assign (.c (Value.int IntKind.i64 0)), none, [6]⟩,
  ⟨some 7, .assign (.c (Value.int IntKind.i64 0)), none, [7]⟩] none [0, 1, 4])
 (.seq (.reg 1 [⟨some 17, .move (.t 1), none, []⟩,
  ⟨some 18, .build 36 [(0, 1), (1, 1), (2, 1)] [.v (.int .u8 0), .v (.string ⟨#[]⟩), .v (.int .i64 0)] [(2, (.t 17))], none, [17]⟩,
  ⟨some 8, .alloc 36 [.v (.int .u8 0), .v (.string ⟨#[]⟩), .v (.int .i64 0)], none, []⟩,
  ⟨none, .store 36 (some 3) (.t 8) (.t 18), none, [18]⟩] none [0, 1, 4, 8])
 (.seq (.reg 2 [⟨some 19, .move (.t 1), none, []⟩,
  ⟨some 20, .bin .add 3 (.t 19) (.c (Value.int IntKind.i64 1)) 3, none, [19]⟩,
  ⟨some 9, .assign (.t 20), none, [20]⟩] none [0, 1, 4, 8, 9])
 (.seq (.reg 3 [⟨some 10, .assign (.c (Value.int IntKind.u8 11)), none, []⟩] none [0, 1, 4, 8, 9, 10])
 (.seq (.seq (.reg 4 [⟨some 21, .move (.t 0), none, []⟩,
  ⟨some 22, .move (.t 1), none, []⟩,
  ⟨some 23, .index 9 .str none (.t 21) (.t 22), none, [21, 22]⟩,
  ⟨some 24, .call n_scan_of [(.t 23)] [5], none, [23]⟩,
  ⟨some 11, .assign (.t 24), none, [24]⟩] none [0, 1, 4, 8, 9, 10, 11])
 (.block 0 (.seq (.reg 6 [⟨some 28, .move (.t 0), none, []⟩,
  ⟨some 29, .move (.t 1), none, []⟩,
  ⟨some 30, .index 9 .str none (.t 28) (.t 29), none, [28, 29]⟩,
  ⟨some 31, .bin .eql 5 (.t 30) (.c (Value.int IntKind.u8 34)) 5, none, [30]⟩,
  ⟨some 27, .assign (.t 31), none, [31]⟩] none [0, 1, 4, 8, 9, 10, 11, 27])
 (.cond [0, 1, 4, 8, 9, 10, 11] (.t 27) (.seq (.reg 7 [⟨some 33, .move (.t 0), none, [0]⟩,
  ⟨some 34, .move (.t 1), none, []⟩,
  ⟨some 35, .call n_scan_text [(.t 33), (.t 34)] [9, 3], none, [33, 34]⟩,
  ⟨some 32, .move (.t 35), none, [35]⟩,
  ⟨some 36, .extr (.t 32) 0, none, []⟩,
  ⟨some 37, .extr (.t 32) 1, none, []⟩,
  ⟨some 38, .extr (.t 32) 2, none, []⟩,
  ⟨some 39, .extr (.t 32) 3, none, [32]⟩,
  ⟨some 12, .assign (.t 36), none, [36]⟩,
  ⟨some 13, .assign (.t 37), none, [37]⟩,
  ⟨some 14, .assign (.t 38), none, [38]⟩,
  ⟨some 15, .assign (.t 39), none, [39]⟩] none [1, 4, 12, 13, 14, 15])
 (.seq (.seq (.reg 8 [⟨some 40, .move (.t 14), none, []⟩,
  ⟨some 41, .bin .eql 28 (.t 40) (.c (Value.int IntKind.i64 0)) 28, none, [40]⟩,
  ⟨some 42, .move (.t 41), none, [41]⟩,
  ⟨some 43, .move (.t 12), some (2, true), []⟩,
  ⟨some 44, .len 9 true (.t 43), some (2, true), [43]⟩,
  ⟨some 45, .bin .gtr 3 (.t 44) (.c (Value.int IntKind.i64 65536)) 3, some (2, true), [44]⟩,
  ⟨some 46, .pick (.t 42) (.t 45) (.c (Value.bool false)), none, [42, 45]⟩] none [1, 4, 12, 13, 14, 15, 46])
 (.cond [1, 4, 12, 13, 14, 15] (.t 46) (.reg 9 [⟨some 47, .move (.t 1), none, []⟩,
  ⟨some 14, .assign (.c (Value.int IntKind.i64 4)), none, []⟩,
  ⟨some 15, .assign (.t 47), none, [47]⟩] none [1, 4, 12, 13, 14, 15]) .skip))
 k0_scan_one)) (.seq (.reg 11 [⟨some 55, .move (.t 11), none, []⟩,
  ⟨some 56, .bin .eql 49 (.t 55) (.c (Value.int IntKind.u8 1)) 49, none, [55]⟩,
  ⟨some 54, .assign (.t 56), none, [56]⟩] none [0, 1, 4, 8, 9, 10, 11, 54])
 (.cond [0, 1, 4, 8, 9, 10, 11] (.t 54) (.seq (.reg 12 [⟨some 57, .faddr 36 (.t 8) 0 0, none, []⟩,
  ⟨none, .store 34 none (.t 57) (.c (Value.int IntKind.u8 1)), none, [57]⟩] none [0, 1, 4, 8, 9, 10])
 (.block 1 l0_scan_one)) (.seq (.reg 15 [⟨some 80, .move (.t 11), none, []⟩,
  ⟨some 81, .bin .and 49 (.t 80) (.c (Value.int IntKind.u8 14)) 49, none, [80]⟩,
  ⟨some 82, .bin .neq 49 (.t 81) (.c (Value.int IntKind.u8 0)) 49, none, [81]⟩,
  ⟨some 79, .assign (.t 82), none, [82]⟩] none [0, 1, 4, 8, 9, 10, 11, 79])
 (.cond [0, 1, 4, 8, 9, 10, 11] (.t 79) (.seq (.reg 16 [⟨some 83, .faddr 36 (.t 8) 0 0, none, []⟩,
  ⟨none, .store 34 none (.t 83) (.c (Value.int IntKind.u8 2)), none, [83]⟩] none [0, 1, 4, 8, 9, 10])
 (.block 3 l1_scan_one)) (.seq (.reg 19 [⟨some 101, .move (.t 11), none, [11]⟩,
  ⟨some 102, .bin .eql 49 (.t 101) (.c (Value.int IntKind.u8 16)) 49, none, [101]⟩,
  ⟨some 103, .move (.t 102), none, [102]⟩,
  ⟨some 104, .move (.t 0), some (2, false), []⟩,
  ⟨some 105, .move (.t 1), some (2, false), []⟩,
  ⟨some 106, .index 9 .str none (.t 104) (.t 105), some (2, false), [104, 105]⟩,
  ⟨some 107, .bin .eql 5 (.t 106) (.c (Value.int IntKind.u8 33)) 5, some (2, false), [106]⟩,
  ⟨some 108, .pick (.t 103) (.c (Value.bool true)) (.t 107), none, [103, 107]⟩,
  ⟨some 100, .assign (.t 108), none, [108]⟩] none [0, 1, 4, 8, 9, 100])
 (.cond [0, 1, 4, 8, 9] (.t 100) (.seq (.reg 20 [⟨some 109, .faddr 36 (.t 8) 0 0, none, []⟩,
  ⟨none, .store 34 none (.t 109) (.c (Value.int IntKind.u8 4)), none, [109]⟩] none [0, 1, 4, 8, 9])
 (.seq (.reg 21 [⟨some 110, .move (.t 9), none, []⟩,
  ⟨some 111, .move (.t 0), none, []⟩,
  ⟨some 112, .len 9 true (.t 111), none, [111]⟩,
  ⟨some 113, .bin .lss 3 (.t 110) (.t 112) 3, none, [110, 112]⟩,
  ⟨some 114, .move (.t 113), none, [113]⟩,
  ⟨some 115, .move (.t 0), some (4, true), []⟩,
  ⟨some 116, .move (.t 9), some (4, true), []⟩,
  ⟨some 117, .index 9 .str none (.t 115) (.t 116), some (4, true), [115, 116]⟩,
  ⟨some 118, .bin .eql 5 (.t 117) (.c (Value.int IntKind.u8 61)) 5, some (4, true), [117]⟩,
  ⟨some 119, .pick (.t 114) (.t 118) (.c (Value.bool false)), none, [114, 118]⟩,
  ⟨some 120, .move (.t 119), none, [119]⟩,
  ⟨some 121, .move (.t 0), some (10, true), []⟩,
  ⟨some 122, .move (.t 1), some (10, true), []⟩,
  ⟨some 123, .index 9 .str none (.t 121) (.t 122), some (10, true), [121, 122]⟩,
  ⟨some 124, .bin .eql 5 (.t 123) (.c (Value.int IntKind.u8 60)) 5, some (10, true), [123]⟩,
  ⟨some 125, .move (.t 124), some (10, true), [124]⟩,
  ⟨some 126, .move (.t 0), some (15, false), []⟩,
  ⟨some 127, .move (.t 1), some (15, false), []⟩,
  ⟨some 128, .index 9 .str none (.t 126) (.t 127), some (15, false), [126, 127]⟩,
  ⟨some 129, .bin .eql 5 (.t 128) (.c (Value.int IntKind.u8 62)) 5, some (15, false), [128]⟩,
  ⟨some 130, .pick (.t 125) (.c (Value.bool true)) (.t 129), some (10, true), [125, 129]⟩,
  ⟨some 131, .move (.t 130), some (10, true), [130]⟩,
  ⟨some 132, .move (.t 0), some (21, false), []⟩,
  ⟨some 133, .move (.t 1), some (21, false), []⟩,
  ⟨some 134, .index 9 .str none (.t 132) (.t 133), some (21, false), [132, 133]⟩,
  ⟨some 135, .bin .eql 5 (.t 134) (.c (Value.int IntKind.u8 33)) 5, some (21, false), [134]⟩,
  ⟨some 136, .pick (.t 131) (.c (Value.bool true)) (.t 135), some (10, true), [131, 135]⟩,
  ⟨some 137, .pick (.t 120) (.t 136) (.c (Value.bool false)), none, [120, 136]⟩,
  ⟨some 16, .assign (.t 137), none, [137]⟩] none [0, 1, 4, 8, 9, 16])
 (.seq (.reg 22 [⟨some 138, .move (.t 16), none, [16]⟩] none [0, 1, 4, 8, 9, 138])
 (.cond [0, 1, 4, 8, 9] (.t 138) (.reg 23 [⟨some 139, .move (.t 9), none, []⟩,
  ⟨some 140, .bin .add 3 (.t 139) (.c (Value.int IntKind.i64 1)) 3, none, [139]⟩,
  ⟨some 9, .assign (.t 140), none, [140]⟩] none [0, 1, 4, 8, 9]) (.seq (.reg 24 [⟨some 141, .move (.t 0), none, []⟩,
  ⟨some 142, .move (.t 1), none, []⟩,
  ⟨some 143, .index 9 .str none (.t 141) (.t 142), none, [141, 142]⟩,
  ⟨some 144, .bin .eql 5 (.t 143) (.c (Value.int IntKind.u8 33)) 5, none, [143]⟩] none [0, 1, 4, 8, 9, 144])
 (.cond [0, 1, 4, 8, 9] (.t 144) (.seq (.reg 25 [⟨some 145, .load 36 (some 3) (.t 8), none, [8]⟩,
  ⟨some 146, .move (.t 1), none, [1]⟩,
  ⟨none, .store 36 (some 3) (.t 4) (.t 145), none, [145]⟩,
  ⟨some 5, .assign (.c (Value.int IntKind.i64 0)), none, []⟩,
  ⟨some 6, .assign (.c (Value.int IntKind.i64 30)), none, []⟩,
  ⟨some 7, .assign (.t 146), none, [146]⟩] none [4, 5, 6, 7])
 .ret) .skip)))))) (.seq (.reg 5 [⟨some 25, .load 36 (some 3) (.t 8), none, [8]⟩,
  ⟨some 26, .move (.t 1), none, [1]⟩,
  ⟨none, .store 36 (some 3) (.t 4) (.t 25), none, [25]⟩,
  ⟨some 5, .assign (.c (Value.int IntKind.i64 0)), none, []⟩,
  ⟨some 6, .assign (.c (Value.int IntKind.i64 30)), none, []⟩,
  ⟨some 7, .assign (.t 26), none, [26]⟩] none [4, 5, 6, 7])
 .ret)))))))))))
 k4_scan_one)))))
def a_scan_one : AFunc := ⟨160, [.cell 4 36 (some 3), .tmp 5, .tmp 6, .tmp 7], b_scan_one⟩

def j0_scan_Words : IR :=
 (.seq (.reg 9 [⟨some 40, .move (.t 5), none, []⟩,
  ⟨some 41, .load 36 (some 3) (.t 7), none, [7]⟩,
  ⟨some 42, .lit 27 3 [(.t 41)], none, [41]⟩,
  ⟨some 43, .append 27 27 false 3 32 (.t 40) (.t 42), none, [40, 42]⟩,
  ⟨some 5, .assign (.t 43), none, []⟩] none [0, 5, 8, 43])
 (.reg 10 [⟨some 44, .move (.t 8), none, [8]⟩,
  ⟨some 6, .assign (.t 44), none, [44]⟩] none [0, 5, 6, 43]))
def k0_scan_Words : IR := .tail [0, 5, 7, 8, 43] j0_scan_Words
def j1_scan_Words : IR :=
 (.seq (.reg 6 [⟨some 29, .move (.t 0), none, []⟩,
  ⟨some 30, .move (.t 6), none, [6]⟩,
  ⟨some 31, .call n_scan_one [(.t 29), (.t 30)] [9, 3], none, [29, 30]⟩,
  ⟨some 28, .move (.t 31), none, [31]⟩,
  ⟨some 32, .extr (.t 28) 0, none, []⟩,
  ⟨some 33, .extr (.t 28) 1, none, []⟩,
  ⟨some 34, .extr (.t 28) 2, none, []⟩,
  ⟨some 35, .extr (.t 28) 3, none, [28]⟩,
  ⟨some 7, .alloc 36 [.v (.int .u8 0), .v (.string ⟨#[]⟩), .v (.int .i64 0)], none, []⟩,
  ⟨none, .store 36 (some 3) (.t 7) (.t 32), none, [32]⟩,
  ⟨some 8, .assign (.t 33), none, [33]⟩,
  ⟨some 9, .assign (.t 34), none, [34]⟩,
  ⟨some 10, .assign (.t 35), none, [35]⟩] none [0, 5, 7, 8, 9, 10, 43])
 (.seq (.seq (.reg 7 [⟨some 36, .move (.t 9), none, []⟩,
  ⟨some 37, .bin .neq 28 (.t 36) (.c (Value.int IntKind.i64 0)) 28, none, [36]⟩] none [0, 5, 7, 8, 9, 10, 37, 43])
 (.cond [0, 5, 7, 8, 9, 10, 43] (.t 37) (.seq (.reg 8 [⟨some 38, .move (.t 9), none, [9]⟩,
  ⟨some 39, .move (.t 10), none, [10]⟩,
  ⟨some 2, .assign (.nilS 3), none, []⟩,
  ⟨some 3, .assign (.t 38), none, [38]⟩,
  ⟨some 4, .assign (.t 39), none, [39]⟩] none [2, 3, 4, 5, 43, 45])
 .ret) .skip))
 k0_scan_Words))
def k1_scan_Words : IR := .tail [0, 5, 6, 43] j1_scan_Words
def j2_scan_Words : IR :=
 (.block 1 (.seq (.seq (.reg 4 [⟨some 21, .move (.t 0), none, []⟩,
  ⟨some 22, .move (.t 6), none, []⟩,
  ⟨some 23, .index 9 .str none (.t 21) (.t 22), none, [21, 22]⟩,
  ⟨some 24, .call n_scan_of [(.t 23)] [5], none, [23]⟩,
  ⟨some 25, .bin .eql 49 (.t 24) (.c (Value.int IntKind.u8 32)) 49, none, [24]⟩] none [0, 5, 6, 25, 43])
 (.cond [0, 5, 6, 43] (.t 25) (.seq (.reg 5 [⟨some 26, .move (.t 6), none, []⟩,
  ⟨some 27, .bin .add 3 (.t 26) (.c (Value.int IntKind.i64 1)) 3, none, [26]⟩,
  ⟨some 6, .assign (.t 27), none, [27]⟩] none [0, 5, 6, 43])
 (.exit 1)) .skip))
 k1_scan_Words))
def k2_scan_Words : IR := .tail [0, 5, 6, 43] j2_scan_Words
def w0_scan_Words : IR :=
 (.seq (.seq (.reg 3 [⟨some 11, .move (.t 6), none, []⟩,
  ⟨some 12, .move (.t 0), none, []⟩,
  ⟨some 13, .len 9 true (.t 12), none, [12]⟩,
  ⟨some 14, .bin .lss 3 (.t 11) (.t 13) 3, none, [11, 13]⟩,
  ⟨some 15, .move (.t 14), none, [14]⟩,
  ⟨some 16, .move (.t 0), some (4, true), []⟩,
  ⟨some 17, .move (.t 6), some (4, true), []⟩,
  ⟨some 18, .index 9 .str none (.t 16) (.t 17), some (4, true), [16, 17]⟩,
  ⟨some 19, .bin .neq 5 (.t 18) (.c (Value.int IntKind.u8 35)) 5, some (4, true), [18]⟩,
  ⟨some 20, .pick (.t 15) (.t 19) (.c (Value.bool false)), none, [15, 19]⟩] none [0, 5, 6, 20, 43])
 (.cond [0, 5, 6, 43] (.t 20) .skip (.exit 0)))
 k2_scan_Words)
def l0_scan_Words : IR := .loop [0, 5, 6, 43] w0_scan_Words
def j3_scan_Words : IR :=
 (.seq (.reg 11 [⟨some 45, .move (.t 5), none, []⟩,
  ⟨some 2, .assign (.t 45), none, []⟩,
  ⟨some 3, .assign (.c (Value.int IntKind.i64 0)), none, []⟩,
  ⟨some 4, .assign (.c (Value.int IntKind.i64 0)), none, []⟩] none [2, 3, 4, 5, 43, 45])
 .ret)
def k3_scan_Words : IR := .tail [5, 43] j3_scan_Words
def b_scan_Words : IR :=
 (.seq (.reg 0 [⟨some 2, .assign (.nilS 3), none, [2]⟩,
  ⟨some 3, .assign (.c (Value.int IntKind.i64 0)), none, [3]⟩,
  ⟨some 4, .assign (.c (Value.int IntKind.i64 0)), none, [4]⟩] none [0])
 (.seq (.reg 1 [⟨some 5, .assign (.nilS 3), none, []⟩] none [0, 5, 43])
 (.seq (.reg 2 [⟨some 6, .assign (.c (Value.int IntKind.i64 0)), none, []⟩] none [0, 5, 6, 43])
 (.seq (.block 0 l0_scan_Words)
 k3_scan_Words))))
def a_scan_Words : AFunc := ⟨46, [.tmp 2, .tmp 3, .tmp 4], b_scan_Words⟩

def b_scan_badBy : IR :=
 (.seq (.reg 0 [⟨some 2, .assign (.c (Value.bool false)), none, [2]⟩] none [0])
 (.seq (.reg 1 [⟨some 3, .move (.t 0), none, []⟩,
  ⟨some 4, .bin .eql 5 (.t 3) (.c (Value.int IntKind.u8 34)) 5, none, [3]⟩,
  ⟨some 5, .move (.t 4), none, [4]⟩,
  ⟨some 6, .move (.t 0), some (2, false), []⟩,
  ⟨some 7, .bin .eql 5 (.t 6) (.c (Value.int IntKind.u8 10)) 5, some (2, false), [6]⟩,
  ⟨some 8, .pick (.t 5) (.c (Value.bool true)) (.t 7), none, [5, 7]⟩,
  ⟨some 9, .move (.t 8), none, [8]⟩,
  ⟨some 10, .move (.t 0), some (6, false), [0]⟩,
  ⟨some 11, .bin .eql 5 (.t 10) (.c (Value.int IntKind.u8 13)) 5, some (6, false), [10]⟩,
  ⟨some 12, .pick (.t 9) (.c (Value.bool true)) (.t 11), none, [9, 11]⟩,
  ⟨some 2, .assign (.t 12), none, [12]⟩] none [2])
 .ret))
def a_scan_badBy : AFunc := ⟨13, [.tmp 2], b_scan_badBy⟩

def j0_scan_Fields : IR :=
 (.reg 12 [⟨some 47, .move (.t 8), none, []⟩,
  ⟨some 48, .bin .add 3 (.t 47) (.c (Value.int IntKind.i64 1)) 3, none, [47]⟩,
  ⟨some 8, .assign (.t 48), none, [48]⟩] none [0, 1, 7, 8, 9, 54, 90, 95])
def k0_scan_Fields : IR := .tail [0, 1, 7, 8, 9, 54, 90, 95] j0_scan_Fields
def j1_scan_Fields : IR :=
 (.seq (.reg 13 [⟨some 49, .move (.t 9), none, []⟩,
  ⟨some 50, .move (.t 0), none, []⟩,
  ⟨some 51, .move (.t 8), none, []⟩,
  ⟨some 52, .index 9 .str none (.t 50) (.t 51), none, [50, 51]⟩,
  ⟨some 53, .lit 56 1 [(.t 52)], none, [52]⟩,
  ⟨some 54, .append 56 56 false 1 1 (.t 49) (.t 53), none, [49, 53]⟩,
  ⟨some 9, .assign (.t 54), none, []⟩] none [0, 1, 7, 8, 9, 54, 90, 95])
 (.reg 14 [⟨some 55, .move (.t 8), none, []⟩,
  ⟨some 56, .bin .add 3 (.t 55) (.c (Value.int IntKind.i64 1)) 3, none, [55]⟩,
  ⟨some 8, .assign (.t 56), none, [56]⟩] none [0, 1, 7, 8, 9, 54, 90, 95]))
def k1_scan_Fields : IR := .tail [0, 1, 7, 8, 9, 54, 90, 95] j1_scan_Fields
def j2_scan_Fields : IR :=
 (.seq (.seq (.reg 10 [⟨some 31, .move (.t 0), none, []⟩,
  ⟨some 32, .move (.t 8), none, []⟩,
  ⟨some 33, .index 9 .str none (.t 31) (.t 32), none, [31, 32]⟩,
  ⟨some 34, .bin .eql 5 (.t 33) (.c (Value.int IntKind.u8 34)) 5, none, [33]⟩] none [0, 1, 7, 8, 9, 34, 54, 90, 95])
 (.cond [0, 1, 7, 8, 9, 54, 90, 95] (.t 34) (.seq (.seq (.reg 11 [⟨some 35, .move (.t 8), none, []⟩,
  ⟨some 36, .bin .add 3 (.t 35) (.c (Value.int IntKind.i64 1)) 3, none, [35]⟩,
  ⟨some 37, .move (.t 0), none, []⟩,
  ⟨some 38, .len 9 true (.t 37), none, [37]⟩,
  ⟨some 39, .bin .geq 3 (.t 36) (.t 38) 3, none, [36, 38]⟩,
  ⟨some 40, .move (.t 39), none, [39]⟩,
  ⟨some 41, .move (.t 0), some (5, false), []⟩,
  ⟨some 42, .move (.t 8), some (5, false), []⟩,
  ⟨some 43, .bin .add 3 (.t 42) (.c (Value.int IntKind.i64 1)) 3, some (5, false), [42]⟩,
  ⟨some 44, .index 9 .str none (.t 41) (.t 43), some (5, false), [41, 43]⟩,
  ⟨some 45, .bin .neq 5 (.t 44) (.c (Value.int IntKind.u8 34)) 5, some (5, false), [44]⟩,
  ⟨some 46, .pick (.t 40) (.c (Value.bool true)) (.t 45), none, [40, 45]⟩] none [0, 1, 7, 8, 9, 46, 54, 90, 95])
 (.cond [0, 1, 7, 8, 9, 54, 90, 95] (.t 46) (.exit 2) .skip))
 k0_scan_Fields) .skip))
 k1_scan_Fields)
def k2_scan_Fields : IR := .tail [0, 1, 7, 8, 9, 54, 90, 95] j2_scan_Fields
def w1_scan_Fields : IR :=
 (.block 3 (.seq (.seq (.reg 8 [⟨some 25, .move (.t 8), none, []⟩,
  ⟨some 26, .move (.t 0), none, []⟩,
  ⟨some 27, .len 9 true (.t 26), none, [26]⟩,
  ⟨some 28, .bin .geq 3 (.t 25) (.t 27) 3, none, [25, 27]⟩] none [0, 1, 7, 8, 9, 28, 54, 90, 95])
 (.cond [0, 1, 7, 8, 9, 54, 90, 95] (.t 28) (.seq (.reg 9 [⟨some 29, .move (.t 0), none, [0]⟩,
  ⟨some 30, .len 9 true (.t 29), none, [29]⟩,
  ⟨some 4, .assign (.nilS 1), none, []⟩,
  ⟨some 5, .assign (.c (Value.int IntKind.i64 31)), none, []⟩,
  ⟨some 6, .assign (.t 30), none, [30]⟩] none [4, 5, 6, 7, 95, 100])
 .ret) .skip))
 k2_scan_Fields))
def l1_scan_Fields : IR := .loop [0, 1, 7, 8, 9, 54, 90, 95] w1_scan_Fields
def j3_scan_Fields : IR :=
 (.seq (.reg 15 [⟨some 57, .move (.t 8), none, []⟩,
  ⟨some 58, .bin .add 3 (.t 57) (.c (Value.int IntKind.i64 1)) 3, none, [57]⟩,
  ⟨some 8, .assign (.t 58), none, [58]⟩] none [0, 1, 7, 8, 9, 54, 90, 95])
 (.seq (.reg 16 [⟨some 59, .move (.t 8), none, []⟩,
  ⟨some 60, .move (.t 0), none, []⟩,
  ⟨some 61, .len 9 true (.t 60), none, [60]⟩,
  ⟨some 62, .bin .lss 3 (.t 59) (.t 61) 3, none, [59, 61]⟩,
  ⟨some 63, .move (.t 62), none, [62]⟩,
  ⟨some 64, .move (.t 0), some (4, true), []⟩,
  ⟨some 65, .move (.t 8), some (4, true), []⟩,
  ⟨some 66, .index 9 .str none (.t 64) (.t 65), some (4, true), [64, 65]⟩,
  ⟨some 67, .move (.t 1), some (4, true), []⟩,
  ⟨some 68, .bin .neq 5 (.t 66) (.t 67) 5, some (4, true), [66, 67]⟩,
  ⟨some 69, .pick (.t 63) (.t 68) (.c (Value.bool false)), none, [63, 68]⟩] none [0, 1, 7, 8, 9, 54, 69, 90, 95])
 (.cond [0, 1, 7, 8, 9, 54, 90, 95] (.t 69) (.seq (.reg 17 [⟨some 70, .move (.t 8), none, [8]⟩,
  ⟨some 4, .assign (.nilS 1), none, []⟩,
  ⟨some 5, .assign (.c (Value.int IntKind.i64 31)), none, []⟩,
  ⟨some 6, .assign (.t 70), none, [70]⟩] none [4, 5, 6, 7, 95, 100])
 .ret) .skip)))
def k3_scan_Fields : IR := .tail [0, 1, 7, 8, 9, 54, 90, 95] j3_scan_Fields
def j4_scan_Fields : IR :=
 (.block 5 (.reg 20 [⟨some 83, .move (.t 8), none, []⟩,
  ⟨some 84, .bin .add 3 (.t 83) (.c (Value.int IntKind.i64 1)) 3, none, [83]⟩,
  ⟨some 8, .assign (.t 84), none, [84]⟩] none [0, 1, 7, 8, 9, 10, 54, 90, 95]))
def k4_scan_Fields : IR := .tail [0, 1, 7, 8, 9, 10, 54, 90, 95] j4_scan_Fields
def w2_scan_Fields : IR :=
 (.seq (.seq (.reg 19 [⟨some 72, .move (.t 8), none, []⟩,
  ⟨some 73, .move (.t 0), none, []⟩,
  ⟨some 74, .len 9 true (.t 73), none, [73]⟩,
  ⟨some 75, .bin .lss 3 (.t 72) (.t 74) 3, none, [72, 74]⟩,
  ⟨some 76, .move (.t 75), none, [75]⟩,
  ⟨some 77, .move (.t 0), some (4, true), []⟩,
  ⟨some 78, .move (.t 8), some (4, true), []⟩,
  ⟨some 79, .index 9 .str none (.t 77) (.t 78), some (4, true), [77, 78]⟩,
  ⟨some 80, .move (.t 1), some (4, true), []⟩,
  ⟨some 81, .bin .neq 5 (.t 79) (.t 80) 5, some (4, true), [79, 80]⟩,
  ⟨some 82, .pick (.t 76) (.t 81) (.c (Value.bool false)), none, [76, 81]⟩] none [0, 1, 7, 8, 9, 10, 54, 82, 90, 95])
 (.cond [0, 1, 7, 8, 9, 10, 54, 90, 95] (.t 82) .skip (.exit 4)))
 k4_scan_Fields)
def l2_scan_Fields : IR := .loop [0, 1, 7, 8, 9, 10, 54, 90, 95] w2_scan_Fields
def j5_scan_Fields : IR :=
 (.reg 21 [⟨some 85, .move (.t 9), none, []⟩,
  ⟨some 86, .move (.t 0), none, []⟩,
  ⟨some 87, .move (.t 10), none, [10]⟩,
  ⟨some 88, .move (.t 8), none, []⟩,
  ⟨some 89, .slice 9 .str (.t 86) (some (.t 87)) (some (.t 88)) none, none, [86, 87, 88]⟩,
  ⟨some 90, .append 56 9 true 1 1 (.t 85) (.t 89), none, [85, 89]⟩,
  ⟨some 9, .assign (.t 90), none, []⟩] none [0, 1, 7, 8, 9, 54, 90, 95])
def k5_scan_Fields : IR := .tail [0, 1, 7, 8, 9, 10, 54, 90, 95] j5_scan_Fields
def j6_scan_Fields : IR :=
 (.reg 25 [⟨some 101, .move (.t 8), none, []⟩,
  ⟨some 102, .bin .add 3 (.t 101) (.c (Value.int IntKind.i64 1)) 3, none, [101]⟩,
  ⟨some 8, .assign (.t 102), none, [102]⟩] none [0, 1, 7, 8, 95])
def k6_scan_Fields : IR := .tail [0, 1, 7, 8, 95] j6_scan_Fields
def j7_scan_Fields : IR :=
 (.seq (.reg 22 [⟨some 91, .move (.t 7), none, []⟩,
  ⟨some 92, .move (.t 9), none, []⟩,
  ⟨some 93, .conv 56 9 .bytes (.t 92), none, [9, 54, 90, 92]⟩,
  ⟨some 94, .lit 37 1 [(.t 93)], none, [93]⟩,
  ⟨some 95, .append 37 37 false 1 16 (.t 91) (.t 94), none, [91, 94]⟩,
  ⟨some 7, .assign (.t 95), none, []⟩] none [0, 1, 7, 8, 95])
 (.seq (.seq (.reg 23 [⟨some 96, .move (.t 8), none, []⟩,
  ⟨some 97, .move (.t 0), none, []⟩,
  ⟨some 98, .len 9 true (.t 97), none, [97]⟩,
  ⟨some 99, .bin .eql 3 (.t 96) (.t 98) 3, none, [96, 98]⟩] none [0, 1, 7, 8, 95, 99])
 (.cond [0, 1, 7, 8, 95] (.t 99) (.seq (.reg 24 [⟨some 100, .move (.t 7), none, []⟩,
  ⟨some 4, .assign (.t 100), none, []⟩,
  ⟨some 5, .assign (.c (Value.int IntKind.i64 0)), none, []⟩,
  ⟨some 6, .assign (.c (Value.int IntKind.i64 0)), none, []⟩] none [4, 5, 6, 7, 95, 100])
 .ret) .skip))
 k6_scan_Fields))
def k7_scan_Fields : IR := .tail [0, 1, 7, 8, 9, 54, 90, 95] j7_scan_Fields
def w0_scan_Fields : IR :=
 (.block 1 (.seq (.reg 5 [⟨some 9, .assign (.nilS 1), none, []⟩] none [0, 1, 7, 8, 9, 54, 90, 95])
 (.seq (.seq (.reg 6 [⟨some 13, .move (.t 8), none, []⟩,
  ⟨some 14, .move (.t 0), none, []⟩,
  ⟨some 15, .len 9 true (.t 14), none, [14]⟩,
  ⟨some 16, .bin .lss 3 (.t 13) (.t 15) 3, none, [13, 15]⟩,
  ⟨some 17, .move (.t 16), none, [16]⟩,
  ⟨some 18, .move (.t 0), some (4, true), []⟩,
  ⟨some 19, .move (.t 8), some (4, true), []⟩,
  ⟨some 20, .index 9 .str none (.t 18) (.t 19), some (4, true), [18, 19]⟩,
  ⟨some 21, .bin .eql 5 (.t 20) (.c (Value.int IntKind.u8 34)) 5, some (4, true), [20]⟩,
  ⟨some 22, .pick (.t 17) (.t 21) (.c (Value.bool false)), none, [17, 21]⟩] none [0, 1, 7, 8, 9, 22, 54, 90, 95])
 (.cond [0, 1, 7, 8, 9, 54, 90, 95] (.t 22) (.seq (.reg 7 [⟨some 23, .move (.t 8), none, []⟩,
  ⟨some 24, .bin .add 3 (.t 23) (.c (Value.int IntKind.i64 1)) 3, none, [23]⟩,
  ⟨some 8, .assign (.t 24), none, [24]⟩] none [0, 1, 7, 8, 9, 54, 90, 95])
 (.seq (.block 2 l1_scan_Fields)
 k3_scan_Fields)) (.seq (.reg 18 [⟨some 71, .move (.t 8), none, []⟩,
  ⟨some 10, .assign (.t 71), none, [71]⟩] none [0, 1, 7, 8, 9, 10, 54, 90, 95])
 (.seq (.block 4 l2_scan_Fields)
 k5_scan_Fields))))
 k7_scan_Fields)))
def l0_scan_Fields : IR := .loop [0, 1, 7, 8, 95] w0_scan_Fields
def j8_scan_Fields : IR :=
 (.seq (.reg 3 [⟨some 7, .assign (.nilS 1), none, []⟩] none [0, 1, 7, 95])
 (.seq (.reg 4 [⟨some 8, .assign (.c (Value.int IntKind.i64 0)), none, []⟩] none [0, 1, 7, 8, 95])
 (.block 0 l0_scan_Fields)))
def k8_scan_Fields : IR := .tail [0, 1] j8_scan_Fields
def b_scan_Fields : IR :=
 (.seq (.reg 0 [⟨some 4, .assign (.nilS 1), none, [4]⟩,
  ⟨some 5, .assign (.c (Value.int IntKind.i64 0)), none, [5]⟩,
  ⟨some 6, .assign (.c (Value.int IntKind.i64 0)), none, [6]⟩] none [0, 1])
 (.seq (.seq (.reg 1 [⟨some 11, .move (.t 1), none, []⟩,
  ⟨some 12, .call n_scan_badBy [(.t 11)] [5], none, [11]⟩] none [0, 1, 12])
 (.cond [0, 1] (.t 12) (.seq (.reg 2 [⟨some 4, .assign (.nilS 1), none, []⟩,
  ⟨some 5, .assign (.c (Value.int IntKind.i64 2)), none, []⟩,
  ⟨some 6, .assign (.c (Value.int IntKind.i64 0)), none, []⟩] none [4, 5, 6, 7, 95, 100])
 .ret) .skip))
 k8_scan_Fields))
def a_scan_Fields : AFunc := ⟨103, [.tmp 4, .tmp 5, .tmp 6], b_scan_Fields⟩

def j0_scan_Quote : IR :=
 (.reg 15 [⟨some 58, .bin .add 3 (.t 9) (.c (Value.int IntKind.i64 1)) 3, none, []⟩,
  ⟨some 9, .move (.t 58), none, [58]⟩] none [0, 3, 6, 8, 9, 18, 29, 35, 41, 57])
def k0_scan_Quote : IR := .tail [0, 3, 6, 8, 9, 18, 29, 35, 41, 57] j0_scan_Quote
def j1_scan_Quote : IR :=
 (.seq (.block 1 (.seq (.reg 4 [⟨some 11, .move (.t 9), none, []⟩,
  ⟨some 4, .assign (.t 11), none, [11]⟩] none [0, 3, 4, 6, 8, 9, 18, 29, 35, 41, 57])
 (.seq (.reg 5 [⟨some 12, .move (.t 0), none, []⟩,
  ⟨some 13, .move (.t 4), none, [4]⟩,
  ⟨some 14, .index 9 .str none (.t 12) (.t 13), none, [12, 13]⟩,
  ⟨some 5, .assign (.t 14), none, [14]⟩] none [0, 3, 5, 6, 8, 9, 18, 29, 35, 41, 57])
 (.block 2 (.seq (.reg 7 [⟨some 20, .move (.t 5), none, []⟩,
  ⟨some 21, .bin .eql 5 (.t 20) (.c (Value.int IntKind.u8 34)) 5, none, [20]⟩,
  ⟨some 22, .move (.t 21), none, [21]⟩,
  ⟨some 23, .move (.t 5), some (2, false), []⟩,
  ⟨some 24, .bin .eql 5 (.t 23) (.c (Value.int IntKind.u8 92)) 5, some (2, false), [23]⟩,
  ⟨some 25, .pick (.t 22) (.c (Value.bool true)) (.t 24), none, [22, 24]⟩,
  ⟨some 19, .assign (.t 25), none, [25]⟩] none [0, 3, 5, 6, 8, 9, 18, 19, 29, 35, 41, 57])
 (.cond [0, 3, 5, 6, 8, 9, 18, 29, 35, 41, 57] (.t 19) (.reg 8 [⟨some 26, .move (.t 3), none, []⟩,
  ⟨some 27, .move (.t 5), none, [5]⟩,
  ⟨some 28, .lit 56 1 [(.c (Value.int IntKind.u8 92)), (.t 27)], none, [27]⟩,
  ⟨some 29, .append 56 56 false 1 1 (.t 26) (.t 28), none, [26, 28]⟩,
  ⟨some 3, .assign (.t 29), none, []⟩] none [0, 3, 6, 8, 9, 18, 29, 35, 41, 57]) (.seq (.reg 9 [⟨some 31, .move (.t 5), none, []⟩,
  ⟨some 32, .bin .eql 5 (.t 31) (.c (Value.int IntKind.u8 10)) 5, none, [31]⟩,
  ⟨some 30, .assign (.t 32), none, [32]⟩] none [0, 3, 5, 6, 8, 9, 18, 29, 30, 35, 41, 57])
 (.cond [0, 3, 5, 6, 8, 9, 18, 29, 35, 41, 57] (.t 30) (.reg 10 [⟨some 33, .move (.t 3), none, []⟩,
  ⟨some 34, .lit 56 1 [(.c (Value.int IntKind.u8 92)), (.c (Value.int IntKind.u8 110))], none, []⟩,
  ⟨some 35, .append 56 56 false 1 1 (.t 33) (.t 34), none, [33, 34]⟩,
  ⟨some 3, .assign (.t 35), none, []⟩] none [0, 3, 6, 8, 9, 18, 29, 35, 41, 57]) (.seq (.reg 11 [⟨some 37, .move (.t 5), none, []⟩,
  ⟨some 38, .bin .eql 5 (.t 37) (.c (Value.int IntKind.u8 9)) 5, none, [37]⟩,
  ⟨some 36, .assign (.t 38), none, [38]⟩] none [0, 3, 5, 6, 8, 9, 18, 29, 35, 36, 41, 57])
 (.cond [0, 3, 5, 6, 8, 9, 18, 29, 35, 41, 57] (.t 36) (.reg 12 [⟨some 39, .move (.t 3), none, []⟩,
  ⟨some 40, .lit 56 1 [(.c (Value.int IntKind.u8 92)), (.c (Value.int IntKind.u8 116))], none, []⟩,
  ⟨some 41, .append 56 56 false 1 1 (.t 39) (.t 40), none, [39, 40]⟩,
  ⟨some 3, .assign (.t 41), none, []⟩] none [0, 3, 6, 8, 9, 18, 29, 35, 41, 57]) (.seq (.reg 13 [⟨some 43, .move (.t 5), none, []⟩,
  ⟨some 44, .bin .lss 5 (.t 43) (.c (Value.int IntKind.u8 32)) 5, none, [43]⟩,
  ⟨some 45, .move (.t 44), none, [44]⟩,
  ⟨some 46, .move (.t 5), some (2, false), []⟩,
  ⟨some 47, .bin .eql 5 (.t 46) (.c (Value.int IntKind.u8 127)) 5, some (2, false), [46]⟩,
  ⟨some 48, .pick (.t 45) (.c (Value.bool true)) (.t 47), none, [45, 47]⟩,
  ⟨some 42, .assign (.t 48), none, [48]⟩] none [0, 3, 5, 6, 8, 9, 18, 29, 35, 41, 42, 57])
 (.cond [0, 3, 5, 6, 8, 9, 18, 29, 35, 41, 57] (.t 42) (.reg 14 [⟨some 49, .move (.t 3), none, []⟩,
  ⟨some 50, .move (.t 5), none, []⟩,
  ⟨some 51, .bin .shr 5 (.t 50) (.c (Value.int IntKind.u64 4)) 57, none, [50]⟩,
  ⟨some 52, .index 9 .str none (.c (Value.string { data := #[48, 49, 50, 51, 52, 53, 54, 55, 56, 57, 97, 98, 99, 100, 101, 102] })) (.t 51), none, [51]⟩,
  ⟨some 53, .move (.t 5), none, [5]⟩,
  ⟨some 54, .bin .and 5 (.t 53) (.c (Value.int IntKind.u8 15)) 5, none, [53]⟩,
  ⟨some 55, .index 9 .str none (.c (Value.string { data := #[48, 49, 50, 51, 52, 53, 54, 55, 56, 57, 97, 98, 99, 100, 101, 102] })) (.t 54), none, [54]⟩,
  ⟨some 56, .lit 56 1 [(.c (Value.int IntKind.u8 92)), (.c (Value.int IntKind.u8 120)), (.t 52), (.t 55)], none, [52, 55]⟩,
  ⟨some 57, .append 56 56 false 1 1 (.t 49) (.t 56), none, [49, 56]⟩,
  ⟨some 3, .assign (.t 57), none, []⟩] (some [⟨0, []⟩, ⟨1, []⟩, ⟨2, []⟩, ⟨3, []⟩, ⟨4, []⟩, ⟨5, []⟩, ⟨6, []⟩, ⟨7, []⟩, ⟨8, []⟩, ⟨9, []⟩]) [0, 3, 6, 8, 9, 18, 29, 35, 41, 57]) (.reg 6 [⟨some 15, .move (.t 3), none, []⟩,
  ⟨some 16, .move (.t 5), none, [5]⟩,
  ⟨some 17, .lit 56 1 [(.t 16)], none, [16]⟩,
  ⟨some 18, .append 56 56 false 1 1 (.t 15) (.t 17), none, [15, 17]⟩,
  ⟨some 3, .assign (.t 18), none, []⟩] none [0, 3, 6, 8, 9, 18, 29, 35, 41, 57])))))))))))))
 k0_scan_Quote)
def k1_scan_Quote : IR := .tail [0, 3, 6, 8, 9, 18, 29, 35, 41, 57] j1_scan_Quote
def w0_scan_Quote : IR :=
 (.seq (.reg 3 [⟨some 10, .bin .lss 3 (.t 9) (.t 8) 3, none, []⟩] none [0, 3, 6, 8, 9, 10, 18, 29, 35, 41, 57])
 (.seq (.cond [0, 3, 6, 8, 9, 18, 29, 35, 41, 57] (.t 10) .skip (.exit 0))
 k1_scan_Quote))
def l0_scan_Quote : IR := .loop [0, 3, 6, 8, 9, 18, 29, 35, 41, 57] w0_scan_Quote
def j2_scan_Quote : IR :=
 (.seq (.reg 16 [⟨some 59, .move (.t 3), none, []⟩,
  ⟨some 60, .lit 56 1 [(.c (Value.int IntKind.u8 34))], none, []⟩,
  ⟨some 61, .append 56 56 false 1 1 (.t 59) (.t 60), none, [3, 6, 18, 29, 35, 41, 57, 59, 60]⟩,
  ⟨some 62, .conv 56 9 .bytes (.t 61), none, [61]⟩,
  ⟨some 2, .assign (.t 62), none, [62]⟩] none [2])
 .ret)
def k2_scan_Quote : IR := .tail [3, 6, 18, 29, 35, 41, 57] j2_scan_Quote
def b_scan_Quote : IR :=
 (.seq (.reg 0 [⟨some 2, .assign (.c (Value.string { data := #[] })), none, [2]⟩] none [0])
 (.seq (.reg 1 [⟨some 6, .lit 56 1 [(.c (Value.int IntKind.u8 34))], none, []⟩,
  ⟨some 3, .assign (.t 6), none, []⟩] none [0, 3, 6, 18, 29, 35, 41, 57])
 (.seq (.seq (.reg 2 [⟨some 7, .move (.t 0), none, []⟩,
  ⟨some 8, .len 9 true (.t 7), none, [7]⟩,
  ⟨some 9, .move (.c (Value.int IntKind.i64 0)), none, []⟩] none [0, 3, 6, 8, 9, 18, 29, 35, 41, 57])
 (.block 0 l0_scan_Quote))
 k2_scan_Quote)))
def a_scan_Quote : AFunc := ⟨63, [.tmp 2], b_scan_Quote⟩

def b_thicketlaw03_lives : IR :=
 (.seq (.reg 0 [⟨some 0, .assign (.c (Value.bool false)), none, [0]⟩] none [])
 (.seq (.reg 1 [⟨some 9, .call n_scan_Words [(.c (Value.string { data := #[115, 112, 108, 105, 116, 32, 97, 103, 101, 60, 61, 45, 48, 46, 53, 32, 35, 32, 120] }))] [9], none, []⟩,
  ⟨some 8, .move (.t 9), none, []⟩,
  ⟨some 10, .extr (.t 8) 0, none, []⟩,
  ⟨some 11, .extr (.t 8) 1, none, []⟩,
  ⟨some 12, .extr (.t 8) 2, none, []⟩,
  ⟨some 1, .assign (.t 10), none, []⟩,
  ⟨some 2, .assign (.t 11), none, [11]⟩,
  ⟨some 3, .assign (.t 12), none, [3, 12]⟩] none [1, 2, 8, 9, 10])
 (.seq (.reg 2 [⟨some 14, .call n_scan_Fields [(.c (Value.string { data := #[97, 44, 34, 98, 34, 34, 34] })), (.c (Value.int IntKind.u8 44))] [9, 5], none, []⟩,
  ⟨some 13, .move (.t 14), none, []⟩,
  ⟨some 15, .extr (.t 13) 0, none, []⟩,
  ⟨some 16, .extr (.t 13) 1, none, []⟩,
  ⟨some 17, .extr (.t 13) 2, none, []⟩,
  ⟨some 4, .assign (.t 15), none, []⟩,
  ⟨some 5, .assign (.t 16), none, [16]⟩,
  ⟨some 6, .assign (.t 17), none, [6, 17]⟩] none [1, 2, 4, 5, 8, 9, 10, 13, 14, 15])
 (.seq (.reg 3 [⟨some 18, .call n_scan_Rows [(.c (Value.string { data := #[97, 13, 10, 98] }))] [9], none, []⟩,
  ⟨some 7, .assign (.t 18), none, []⟩] none [1, 2, 4, 5, 7, 8, 9, 10, 13, 14, 15, 18])
 (.seq (.reg 4 [⟨some 19, .move (.t 2), none, [2]⟩,
  ⟨some 20, .bin .eql 28 (.t 19) (.c (Value.int IntKind.i64 0)) 28, none, [19]⟩,
  ⟨some 21, .move (.t 20), none, [20]⟩,
  ⟨some 22, .move (.t 1), some (2, true), []⟩,
  ⟨some 23, .len 27 false (.t 22), some (2, true), [22]⟩,
  ⟨some 24, .bin .eql 3 (.t 23) (.c (Value.int IntKind.i64 4)) 3, some (2, true), [23]⟩,
  ⟨some 25, .pick (.t 21) (.t 24) (.c (Value.bool false)), none, [21, 24]⟩,
  ⟨some 26, .move (.t 25), none, [25]⟩,
  ⟨some 27, .move (.t 1), some (7, true), []⟩,
  ⟨some 28, .iaddr 27 (.sl 3) (.t 27) (.c (Value.int IntKind.i64 2)), some (7, true), []⟩,
  ⟨some 29, .load 36 (some 3) (.t 28), some (7, true), [1, 8, 9, 10, 27, 28]⟩,
  ⟨some 30, .build 36 [(0, 1), (1, 1), (2, 1)] [.v (.int .u8 0), .v (.string ⟨#[]⟩), .v (.int .i64 0)] [(0, (.c (Value.int IntKind.u8 4))), (1, (.c (Value.string { data := #[60, 61] }))), (2, (.c (Value.int IntKind.i64 9)))], some (7, true), []⟩,
  ⟨some 31, .eqs false 36 (.st [.int, .str, .int]) (.t 29) (.t 30) 36, some (7, true), [29, 30]⟩,
  ⟨some 32, .pick (.t 26) (.t 31) (.c (Value.bool false)), none, [26, 31]⟩,
  ⟨some 33, .move (.t 32), none, [32]⟩,
  ⟨some 34, .move (.t 5), some (14, true), [5]⟩,
  ⟨some 35, .bin .eql 28 (.t 34) (.c (Value.int IntKind.i64 0)) 28, some (14, true), [34]⟩,
  ⟨some 36, .pick (.t 33) (.t 35) (.c (Value.bool false)), none, [33, 35]⟩,
  ⟨some 37, .move (.t 36), none, [36]⟩,
  ⟨some 38, .move (.t 4), some (18, true), []⟩,
  ⟨some 39, .len 37 false (.t 38), some (18, true), [38]⟩,
  ⟨some 40, .bin .eql 3 (.t 39) (.c (Value.int IntKind.i64 2)) 3, some (18, true), [39]⟩,
  ⟨some 41, .pick (.t 37) (.t 40) (.c (Value.bool false)), none, [37, 40]⟩,
  ⟨some 42, .move (.t 41), none, [41]⟩,
  ⟨some 43, .move (.t 4), some (23, true), []⟩,
  ⟨some 44, .iaddr 37 (.sl 1) (.t 43) (.c (Value.int IntKind.i64 1)), some (23, true), []⟩,
  ⟨some 45, .load 9 none (.t 44), some (23, true), [4, 13, 14, 15, 43, 44]⟩,
  ⟨some 46, .bin .eql 9 (.t 45) (.c (Value.string { data := #[98, 34] })) 9, some (23, true), [45]⟩,
  ⟨some 47, .pick (.t 42) (.t 46) (.c (Value.bool false)), none, [42, 46]⟩,
  ⟨some 48, .move (.t 47), none, [47]⟩,
  ⟨some 49, .move (.t 7), some (29, true), []⟩,
  ⟨some 50, .len 24 false (.t 49), some (29, true), [49]⟩,
  ⟨some 51, .bin .eql 3 (.t 50) (.c (Value.int IntKind.i64 2)) 3, some (29, true), [50]⟩,
  ⟨some 52, .pick (.t 48) (.t 51) (.c (Value.bool false)), none, [48, 51]⟩,
  ⟨some 53, .move (.t 52), none, [52]⟩,
  ⟨some 54, .move (.t 7), some (34, true), []⟩,
  ⟨some 55, .iaddr 24 (.sl 3) (.t 54) (.c (Value.int IntKind.i64 1)), some (34, true), []⟩,
  ⟨some 56, .load 33 (some 3) (.t 55), some (34, true), [7, 18, 54, 55]⟩,
  ⟨some 57, .build 33 [(0, 1), (1, 1), (2, 1)] [.v (.int .i64 0), .v (.int .i64 0), .v (.string ⟨#[]⟩)] [(0, (.c (Value.int IntKind.i64 2))), (1, (.c (Value.int IntKind.i64 3))), (2, (.c (Value.string { data := #[98] })))], some (34, true), []⟩,
  ⟨some 58, .eqs false 33 (.st [.int, .int, .str]) (.t 56) (.t 57) 33, some (34, true), [56, 57]⟩,
  ⟨some 59, .pick (.t 53) (.t 58) (.c (Value.bool false)), none, [53, 58]⟩,
  ⟨some 60, .move (.t 59), none, [59]⟩,
  ⟨some 61, .call n_scan_Quote [(.c (Value.string { data := #[10] }))] [9], some (41, true), []⟩,
  ⟨some 62, .bin .eql 9 (.t 61) (.c (Value.string { data := #[34, 92, 110, 34] })) 9, some (41, true), [61]⟩,
  ⟨some 63, .pick (.t 60) (.t 62) (.c (Value.bool false)), none, [60, 62]⟩,
  ⟨some 0, .assign (.t 63), none, [63]⟩] none [0])
 .ret)))))
def a_thicketlaw03_lives : AFunc := ⟨64, [.tmp 0], b_thicketlaw03_lives⟩

def j0_scan_Blank : IR :=
 (.seq (.reg 6 [⟨some 13, .move (.t 0), none, []⟩,
  ⟨some 14, .move (.t 3), none, [3]⟩,
  ⟨some 15, .index 9 .str none (.t 13) (.t 14), none, [13, 14]⟩,
  ⟨some 16, .call n_scan_of [(.t 15)] [5], none, [15]⟩,
  ⟨some 17, .bin .neq 49 (.t 16) (.c (Value.int IntKind.u8 32)) 49, none, [16]⟩] none [0, 5, 6, 17])
 (.cond [0, 5, 6] (.t 17) (.seq (.reg 7 [⟨some 2, .assign (.c (Value.bool false)), none, []⟩] none [2])
 .ret) .skip))
def k0_scan_Blank : IR := .tail [0, 3, 5, 6] j0_scan_Blank
def j1_scan_Blank : IR :=
 (.reg 8 [⟨some 18, .bin .add 3 (.t 6) (.c (Value.int IntKind.i64 1)) 3, none, []⟩,
  ⟨some 6, .move (.t 18), none, [18]⟩] none [0, 5, 6])
def k1_scan_Blank : IR := .tail [0, 5, 6] j1_scan_Blank
def j2_scan_Blank : IR :=
 (.seq (.block 1 (.seq (.reg 3 [⟨some 8, .move (.t 6), none, []⟩,
  ⟨some 3, .assign (.t 8), none, [8]⟩] none [0, 3, 5, 6])
 (.seq (.seq (.reg 4 [⟨some 9, .move (.t 0), none, []⟩,
  ⟨some 10, .move (.t 3), none, []⟩,
  ⟨some 11, .index 9 .str none (.t 9) (.t 10), none, [9, 10]⟩,
  ⟨some 12, .bin .eql 5 (.t 11) (.c (Value.int IntKind.u8 35)) 5, none, [11]⟩] none [0, 3, 5, 6, 12])
 (.cond [0, 3, 5, 6] (.t 12) (.seq (.reg 5 [⟨some 2, .assign (.c (Value.bool true)), none, []⟩] none [2])
 .ret) .skip))
 k0_scan_Blank)))
 k1_scan_Blank)
def k2_scan_Blank : IR := .tail [0, 5, 6] j2_scan_Blank
def w0_scan_Blank : IR :=
 (.seq (.reg 2 [⟨some 7, .bin .lss 3 (.t 6) (.t 5) 3, none, []⟩] none [0, 5, 6, 7])
 (.seq (.cond [0, 5, 6] (.t 7) .skip (.exit 0))
 k2_scan_Blank))
def l0_scan_Blank : IR := .loop [0, 5, 6] w0_scan_Blank
def j3_scan_Blank : IR :=
 (.seq (.reg 9 [⟨some 2, .assign (.c (Value.bool true)), none, []⟩] none [2])
 .ret)
def k3_scan_Blank : IR := .tail [] j3_scan_Blank
def b_scan_Blank : IR :=
 (.seq (.reg 0 [⟨some 2, .assign (.c (Value.bool false)), none, [2]⟩] none [0])
 (.seq (.seq (.reg 1 [⟨some 4, .move (.t 0), none, []⟩,
  ⟨some 5, .len 9 true (.t 4), none, [4]⟩,
  ⟨some 6, .move (.c (Value.int IntKind.i64 0)), none, []⟩] none [0, 5, 6])
 (.block 0 l0_scan_Blank))
 k3_scan_Blank))
def a_scan_Blank : AFunc := ⟨19, [.tmp 2], b_scan_Blank⟩

def j0_thicketlaw03_ScanAgain : IR :=
 (.reg 12 [⟨some 49, .bin .add 3 (.t 31) (.c (Value.int IntKind.i64 1)) 3, none, []⟩,
  ⟨some 31, .move (.t 49), none, [49]⟩] none [0, 3, 6, 21, 23, 24, 29, 30, 31])
def k0_thicketlaw03_ScanAgain : IR := .tail [0, 3, 6, 21, 23, 24, 29, 30, 31] j0_thicketlaw03_ScanAgain
def j1_thicketlaw03_ScanAgain : IR :=
 (.seq (.block 1 (.seq (.reg 8 [⟨some 33, .iaddr 27 (.sl 3) (.t 29) (.t 31), none, []⟩,
  ⟨some 34, .load 36 (some 3) (.t 33), none, [33]⟩,
  ⟨some 8, .alloc 36 [.v (.int .u8 0), .v (.string ⟨#[]⟩), .v (.int .i64 0)], none, []⟩,
  ⟨none, .store 36 (some 3) (.t 8) (.t 34), none, [34]⟩] none [0, 3, 6, 8, 21, 23, 24, 29, 30, 31])
 (.seq (.reg 9 [⟨some 35, .faddr 36 (.t 8) 0 0, none, []⟩,
  ⟨some 36, .load 34 none (.t 35), none, [35]⟩,
  ⟨some 37, .bin .eql 34 (.t 36) (.c (Value.int IntKind.u8 3)) 34, none, [36]⟩] none [0, 3, 6, 8, 21, 23, 24, 29, 30, 31, 37])
 (.cond [0, 3, 6, 8, 21, 23, 24, 29, 30, 31] (.t 37) (.reg 10 [⟨some 38, .move (.t 6), none, []⟩,
  ⟨some 39, .bin .add 9 (.t 38) (.c (Value.string { data := #[32] })) 9, none, [38]⟩,
  ⟨some 40, .faddr 36 (.t 8) 1 1, none, []⟩,
  ⟨some 41, .load 9 none (.t 40), none, [8, 40]⟩,
  ⟨some 42, .call n_scan_Quote [(.t 41)] [9], none, [41]⟩,
  ⟨some 43, .bin .add 9 (.t 39) (.t 42) 9, none, [39, 42]⟩,
  ⟨some 6, .assign (.t 43), none, [43]⟩] none [0, 3, 6, 21, 23, 24, 29, 30, 31]) (.reg 11 [⟨some 44, .move (.t 6), none, []⟩,
  ⟨some 45, .bin .add 9 (.t 44) (.c (Value.string { data := #[32] })) 9, none, [44]⟩,
  ⟨some 46, .faddr 36 (.t 8) 1 1, none, []⟩,
  ⟨some 47, .load 9 none (.t 46), none, [8, 46]⟩,
  ⟨some 48, .bin .add 9 (.t 45) (.t 47) 9, none, [45, 47]⟩,
  ⟨some 6, .assign (.t 48), none, [48]⟩] none [0, 3, 6, 21, 23, 24, 29, 30, 31])))))
 k0_thicketlaw03_ScanAgain)
def k1_thicketlaw03_ScanAgain : IR := .tail [0, 3, 6, 21, 23, 24, 29, 30, 31] j1_thicketlaw03_ScanAgain
def w0_thicketlaw03_ScanAgain : IR :=
 (.seq (.reg 7 [⟨some 32, .bin .lss 3 (.t 31) (.t 30) 3, none, []⟩] none [0, 3, 6, 21, 23, 24, 29, 30, 31, 32])
 (.seq (.cond [0, 3, 6, 21, 23, 24, 29, 30, 31] (.t 32) .skip (.exit 0))
 k1_thicketlaw03_ScanAgain))
def l0_thicketlaw03_ScanAgain : IR := .loop [0, 3, 6, 21, 23, 24, 29, 30, 31] w0_thicketlaw03_ScanAgain
def j2_thicketlaw03_ScanAgain : IR :=
 (.reg 21 [⟨some 102, .bin .add 3 (.t 75) (.c (Value.int IntKind.i64 1)) 3, none, []⟩,
  ⟨some 75, .move (.t 102), none, [102]⟩] none [0, 3, 9, 21, 23, 24, 50, 52, 53, 74, 75])
def k2_thicketlaw03_ScanAgain : IR := .tail [0, 3, 9, 21, 23, 24, 50, 52, 53, 74, 75] j2_thicketlaw03_ScanAgain
def j3_thicketlaw03_ScanAgain : IR :=
 (.seq (.block 3 (.seq (.reg 18 [⟨some 77, .move (.t 75), none, []⟩,
  ⟨some 12, .assign (.t 77), none, [77]⟩] none [0, 3, 9, 12, 21, 23, 24, 50, 52, 53, 74, 75])
 (.seq (.reg 19 [⟨some 78, .move (.t 3), none, []⟩,
  ⟨some 79, .move (.t 12), none, []⟩,
  ⟨some 80, .iaddr 27 (.sl 3) (.t 78) (.t 79), none, []⟩,
  ⟨some 81, .faddr 36 (.t 80) 0 0, none, []⟩,
  ⟨some 82, .load 34 none (.t 81), none, [78, 79, 80, 81]⟩,
  ⟨some 83, .move (.t 9), none, []⟩,
  ⟨some 84, .move (.t 12), none, []⟩,
  ⟨some 85, .iaddr 27 (.sl 3) (.t 83) (.t 84), none, []⟩,
  ⟨some 86, .faddr 36 (.t 85) 0 0, none, []⟩,
  ⟨some 87, .load 34 none (.t 86), none, [83, 84, 85, 86]⟩,
  ⟨some 88, .bin .neq 34 (.t 82) (.t 87) 34, none, [82, 87]⟩,
  ⟨some 89, .move (.t 88), none, [88]⟩,
  ⟨some 90, .move (.t 3), some (11, false), []⟩,
  ⟨some 91, .move (.t 12), some (11, false), []⟩,
  ⟨some 92, .iaddr 27 (.sl 3) (.t 90) (.t 91), some (11, false), []⟩,
  ⟨some 93, .faddr 36 (.t 92) 1 1, some (11, false), []⟩,
  ⟨some 94, .load 9 none (.t 93), some (11, false), [90, 91, 92, 93]⟩,
  ⟨some 95, .move (.t 9), some (11, false), []⟩,
  ⟨some 96, .move (.t 12), some (11, false), [12]⟩,
  ⟨some 97, .iaddr 27 (.sl 3) (.t 95) (.t 96), some (11, false), []⟩,
  ⟨some 98, .faddr 36 (.t 97) 1 1, some (11, false), []⟩,
  ⟨some 99, .load 9 none (.t 98), some (11, false), [95, 96, 97, 98]⟩,
  ⟨some 100, .bin .neq 9 (.t 94) (.t 99) 9, some (11, false), [94, 99]⟩,
  ⟨some 101, .pick (.t 89) (.c (Value.bool true)) (.t 100), none, [89, 100]⟩] (some [⟨0, []⟩, ⟨1, []⟩, ⟨2, []⟩, ⟨3, []⟩, ⟨5, []⟩, ⟨6, []⟩, ⟨7, []⟩, ⟨8, []⟩, ⟨4, []⟩, ⟨9, []⟩, ⟨10, []⟩, ⟨11, []⟩, ⟨12, []⟩, ⟨13, []⟩, ⟨14, []⟩, ⟨15, []⟩, ⟨17, []⟩, ⟨18, []⟩, ⟨19, []⟩, ⟨20, []⟩, ⟨16, []⟩, ⟨21, []⟩, ⟨22, []⟩, ⟨23, []⟩]) [0, 3, 9, 21, 23, 24, 50, 52, 53, 74, 75, 101])
 (.cond [0, 3, 9, 21, 23, 24, 50, 52, 53, 74, 75] (.t 101) (.seq (.reg 20 [⟨some 2, .assign (.c (Value.bool false)), none, []⟩] none [2])
 .ret) .skip))))
 k2_thicketlaw03_ScanAgain)
def k3_thicketlaw03_ScanAgain : IR := .tail [0, 3, 9, 21, 23, 24, 50, 52, 53, 74, 75] j3_thicketlaw03_ScanAgain
def w1_thicketlaw03_ScanAgain : IR :=
 (.seq (.reg 17 [⟨some 76, .bin .lss 3 (.t 75) (.t 74) 3, none, []⟩] none [0, 3, 9, 21, 23, 24, 50, 52, 53, 74, 75, 76])
 (.seq (.cond [0, 3, 9, 21, 23, 24, 50, 52, 53, 74, 75] (.t 76) .skip (.exit 2))
 k3_thicketlaw03_ScanAgain))
def l1_thicketlaw03_ScanAgain : IR := .loop [0, 3, 9, 21, 23, 24, 50, 52, 53, 74, 75] w1_thicketlaw03_ScanAgain
def j4_thicketlaw03_ScanAgain : IR :=
 (.seq (.reg 16 [⟨some 73, .move (.t 3), none, []⟩,
  ⟨some 74, .len 27 false (.t 73), none, [73]⟩,
  ⟨some 75, .move (.c (Value.int IntKind.i64 0)), none, []⟩] none [0, 3, 9, 21, 23, 24, 50, 52, 53, 74, 75])
 (.block 2 l1_thicketlaw03_ScanAgain))
def k4_thicketlaw03_ScanAgain : IR := .tail [0, 3, 9, 21, 23, 24, 50, 52, 53] j4_thicketlaw03_ScanAgain
def j5_thicketlaw03_ScanAgain : IR :=
 (.seq (.reg 13 [⟨some 51, .move (.t 6), none, [6]⟩,
  ⟨some 52, .call n_scan_Words [(.t 51)] [9], none, [51]⟩,
  ⟨some 50, .move (.t 52), none, []⟩,
  ⟨some 53, .extr (.t 50) 0, none, []⟩,
  ⟨some 54, .extr (.t 50) 1, none, []⟩,
  ⟨some 55, .extr (.t 50) 2, none, []⟩,
  ⟨some 9, .assign (.t 53), none, []⟩,
  ⟨some 10, .assign (.t 54), none, [54]⟩,
  ⟨some 11, .assign (.t 55), none, [11, 55]⟩] none [0, 3, 9, 10, 21, 23, 24, 50, 52, 53])
 (.seq (.seq (.reg 14 [⟨some 56, .move (.t 10), none, [10]⟩,
  ⟨some 57, .bin .neq 28 (.t 56) (.c (Value.int IntKind.i64 0)) 28, none, [56]⟩,
  ⟨some 58, .move (.t 57), none, [57]⟩,
  ⟨some 59, .move (.t 9), some (2, false), []⟩,
  ⟨some 60, .len 27 false (.t 59), some (2, false), [59]⟩,
  ⟨some 61, .move (.t 3), some (2, false), []⟩,
  ⟨some 62, .len 27 false (.t 61), some (2, false), [61]⟩,
  ⟨some 63, .bin .neq 3 (.t 60) (.t 62) 3, some (2, false), [60, 62]⟩,
  ⟨some 64, .pick (.t 58) (.c (Value.bool true)) (.t 63), none, [58, 63]⟩,
  ⟨some 65, .move (.t 64), none, [64]⟩,
  ⟨some 66, .move (.t 3), some (9, false), []⟩,
  ⟨some 67, .len 27 false (.t 66), some (9, false), [66]⟩,
  ⟨some 68, .bin .eql 3 (.t 67) (.c (Value.int IntKind.i64 0)) 3, some (9, false), [67]⟩,
  ⟨some 69, .move (.t 0), some (9, false), []⟩,
  ⟨some 70, .call n_scan_Blank [(.t 69)] [9], some (9, false), [69]⟩,
  ⟨some 71, .eqs true 4 (.one .bool) (.t 68) (.t 70) 4, some (9, false), [68, 70]⟩,
  ⟨some 72, .pick (.t 65) (.c (Value.bool true)) (.t 71), none, [65, 71]⟩] none [0, 3, 9, 21, 23, 24, 50, 52, 53, 72])
 (.cond [0, 3, 9, 21, 23, 24, 50, 52, 53] (.t 72) (.seq (.reg 15 [⟨some 2, .assign (.c (Value.bool false)), none, []⟩] none [2])
 .ret) .skip))
 k4_thicketlaw03_ScanAgain))
def k5_thicketlaw03_ScanAgain : IR := .tail [0, 3, 6, 21, 23, 24] j5_thicketlaw03_ScanAgain
def j6_thicketlaw03_ScanAgain : IR :=
 (.reg 28 [⟨some 116, .bin .add 3 (.t 107) (.c (Value.int IntKind.i64 1)) 3, none, []⟩,
  ⟨some 107, .move (.t 116), none, [116]⟩] none [0, 13, 14, 104, 105, 106, 107])
def k6_thicketlaw03_ScanAgain : IR := .tail [0, 13, 14, 104, 105, 106, 107] j6_thicketlaw03_ScanAgain
def j7_thicketlaw03_ScanAgain : IR :=
 (.seq (.block 5 (.seq (.reg 26 [⟨some 109, .iaddr 24 (.sl 3) (.t 105) (.t 107), none, []⟩,
  ⟨some 110, .load 33 (some 3) (.t 109), none, [109]⟩,
  ⟨some 16, .alloc 33 [.v (.int .i64 0), .v (.int .i64 0), .v (.string ⟨#[]⟩)], none, []⟩,
  ⟨none, .store 33 (some 3) (.t 16) (.t 110), none, [110]⟩] none [0, 13, 14, 16, 104, 105, 106, 107])
 (.reg 27 [⟨some 111, .move (.t 14), none, []⟩,
  ⟨some 112, .faddr 33 (.t 16) 2 2, none, []⟩,
  ⟨some 113, .load 9 none (.t 112), none, [16, 112]⟩,
  ⟨some 114, .bin .add 9 (.t 111) (.t 113) 9, none, [111, 113]⟩,
  ⟨some 115, .bin .add 9 (.t 114) (.c (Value.string { data := #[10] })) 9, none, [114]⟩,
  ⟨some 14, .assign (.t 115), none, [115]⟩] none [0, 13, 14, 104, 105, 106, 107])))
 k6_thicketlaw03_ScanAgain)
def k7_thicketlaw03_ScanAgain : IR := .tail [0, 13, 14, 104, 105, 106, 107] j7_thicketlaw03_ScanAgain
def w2_thicketlaw03_ScanAgain : IR :=
 (.seq (.reg 25 [⟨some 108, .bin .lss 3 (.t 107) (.t 106) 3, none, []⟩] none [0, 13, 14, 104, 105, 106, 107, 108])
 (.seq (.cond [0, 13, 14, 104, 105, 106, 107] (.t 108) .skip (.exit 4))
 k7_thicketlaw03_ScanAgain))
def l2_thicketlaw03_ScanAgain : IR := .loop [0, 13, 14, 104, 105, 106, 107] w2_thicketlaw03_ScanAgain
def j8_thicketlaw03_ScanAgain : IR :=
 (.reg 37 [⟨some 212, .bin .add 3 (.t 126) (.c (Value.int IntKind.i64 1)) 3, none, []⟩,
  ⟨some 126, .move (.t 212), none, [212]⟩] none [0, 13, 17, 104, 118, 125, 126])
def k8_thicketlaw03_ScanAgain : IR := .tail [0, 13, 17, 104, 118, 125, 126] j8_thicketlaw03_ScanAgain
def j9_thicketlaw03_ScanAgain : IR :=
 (.seq (.block 7 (.seq (.reg 34 [⟨some 128, .move (.t 126), none, []⟩,
  ⟨some 18, .assign (.t 128), none, [128]⟩] none [0, 13, 17, 18, 104, 118, 125, 126])
 (.seq (.reg 35 [⟨some 129, .move (.t 13), none, []⟩,
  ⟨some 130, .move (.t 18), none, []⟩,
  ⟨some 131, .iaddr 24 (.sl 3) (.t 129) (.t 130), none, []⟩,
  ⟨some 132, .faddr 33 (.t 131) 2 2, none, []⟩,
  ⟨some 133, .load 9 none (.t 132), none, [129, 130, 131, 132]⟩,
  ⟨some 134, .move (.t 17), none, []⟩,
  ⟨some 135, .move (.t 18), none, []⟩,
  ⟨some 136, .iaddr 24 (.sl 3) (.t 134) (.t 135), none, []⟩,
  ⟨some 137, .faddr 33 (.t 136) 2 2, none, []⟩,
  ⟨some 138, .load 9 none (.t 137), none, [134, 135, 136, 137]⟩,
  ⟨some 139, .bin .neq 9 (.t 133) (.t 138) 9, none, [133, 138]⟩,
  ⟨some 140, .move (.t 139), none, [139]⟩,
  ⟨some 141, .move (.t 17), some (11, false), []⟩,
  ⟨some 142, .move (.t 18), some (11, false), []⟩,
  ⟨some 143, .iaddr 24 (.sl 3) (.t 141) (.t 142), some (11, false), []⟩,
  ⟨some 144, .faddr 33 (.t 143) 0 0, some (11, false), []⟩,
  ⟨some 145, .load 3 none (.t 144), some (11, false), [141, 142, 143, 144]⟩,
  ⟨some 146, .move (.t 18), some (11, false), []⟩,
  ⟨some 147, .bin .add 3 (.t 146) (.c (Value.int IntKind.i64 1)) 3, some (11, false), [146]⟩,
  ⟨some 148, .bin .neq 3 (.t 145) (.t 147) 3, some (11, false), [145, 147]⟩,
  ⟨some 149, .pick (.t 140) (.c (Value.bool true)) (.t 148), none, [140, 148]⟩,
  ⟨some 150, .move (.t 149), none, [149]⟩,
  ⟨some 151, .move (.t 13), some (21, false), []⟩,
  ⟨some 152, .move (.t 18), some (21, false), []⟩,
  ⟨some 153, .iaddr 24 (.sl 3) (.t 151) (.t 152), some (21, false), []⟩,
  ⟨some 154, .faddr 33 (.t 153) 0 0, some (21, false), []⟩,
  ⟨some 155, .load 3 none (.t 154), some (21, false), [151, 152, 153, 154]⟩,
  ⟨some 156, .move (.t 18), some (21, false), []⟩,
  ⟨some 157, .bin .add 3 (.t 156) (.c (Value.int IntKind.i64 1)) 3, some (21, false), [156]⟩,
  ⟨some 158, .bin .neq 3 (.t 155) (.t 157) 3, some (21, false), [155, 157]⟩,
  ⟨some 159, .pick (.t 150) (.c (Value.bool true)) (.t 158), none, [150, 158]⟩,
  ⟨some 160, .move (.t 159), none, [159]⟩,
  ⟨some 161, .move (.t 13), some (31, false), []⟩,
  ⟨some 162, .move (.t 18), some (31, false), []⟩,
  ⟨some 163, .iaddr 24 (.sl 3) (.t 161) (.t 162), some (31, false), []⟩,
  ⟨some 164, .faddr 33 (.t 163) 1 1, some (31, false), []⟩,
  ⟨some 165, .load 3 none (.t 164), some (31, false), [161, 162, 163, 164]⟩,
  ⟨some 166, .bin .lss 3 (.t 165) (.c (Value.int IntKind.i64 0)) 3, some (31, false), [165]⟩,
  ⟨some 167, .pick (.t 160) (.c (Value.bool true)) (.t 166), none, [160, 166]⟩,
  ⟨some 168, .move (.t 167), none, [167]⟩,
  ⟨some 169, .move (.t 13), some (39, false), []⟩,
  ⟨some 170, .move (.t 18), some (39, false), []⟩,
  ⟨some 171, .iaddr 24 (.sl 3) (.t 169) (.t 170), some (39, false), []⟩,
  ⟨some 172, .faddr 33 (.t 171) 1 1, some (39, false), []⟩,
  ⟨some 173, .load 3 none (.t 172), some (39, false), [169, 170, 171, 172]⟩,
  ⟨some 174, .move (.t 13), some (39, false), []⟩,
  ⟨some 175, .move (.t 18), some (39, false), []⟩,
  ⟨some 176, .iaddr 24 (.sl 3) (.t 174) (.t 175), some (39, false), []⟩,
  ⟨some 177, .faddr 33 (.t 176) 2 2, some (39, false), []⟩,
  ⟨some 178, .load 9 none (.t 177), some (39, false), [174, 175, 176, 177]⟩,
  ⟨some 179, .len 9 true (.t 178), some (39, false), [178]⟩,
  ⟨some 180, .bin .add 3 (.t 173) (.t 179) 3, some (39, false), [173, 179]⟩,
  ⟨some 181, .move (.t 0), some (39, false), []⟩,
  ⟨some 182, .len 9 true (.t 181), some (39, false), [181]⟩,
  ⟨some 183, .bin .gtr 3 (.t 180) (.t 182) 3, some (39, false), [180, 182]⟩,
  ⟨some 184, .pick (.t 168) (.c (Value.bool true)) (.t 183), none, [168, 183]⟩,
  ⟨some 185, .move (.t 184), none, [184]⟩,
  ⟨some 186, .move (.t 0), some (56, false), []⟩,
  ⟨some 187, .move (.t 13), some (56, false), []⟩,
  ⟨some 188, .move (.t 18), some (56, false), []⟩,
  ⟨some 189, .iaddr 24 (.sl 3) (.t 187) (.t 188), some (56, false), []⟩,
  ⟨some 190, .faddr 33 (.t 189) 1 1, some (56, false), []⟩,
  ⟨some 191, .load 3 none (.t 190), some (56, false), [187, 188, 189, 190]⟩,
  ⟨some 192, .move (.t 13), some (56, false), []⟩,
  ⟨some 193, .move (.t 18), some (56, false), []⟩,
  ⟨some 194, .iaddr 24 (.sl 3) (.t 192) (.t 193), some (56, false), []⟩,
  ⟨some 195, .faddr 33 (.t 194) 1 1, some (56, false), []⟩,
  ⟨some 196, .load 3 none (.t 195), some (56, false), [192, 193, 194, 195]⟩,
  ⟨some 197, .move (.t 13), some (56, false), []⟩,
  ⟨some 198, .move (.t 18), some (56, false), []⟩,
  ⟨some 199, .iaddr 24 (.sl 3) (.t 197) (.t 198), some (56, false), []⟩,
  ⟨some 200, .faddr 33 (.t 199) 2 2, some (56, false), []⟩,
  ⟨some 201, .load 9 none (.t 200), some (56, false), [197, 198, 199, 200]⟩,
  ⟨some 202, .len 9 true (.t 201), some (56, false), [201]⟩,
  ⟨some 203, .bin .add 3 (.t 196) (.t 202) 3, some (56, false), [196, 202]⟩,
  ⟨some 204, .slice 9 .str (.t 186) (some (.t 191)) (some (.t 203)) none, some (56, false), [186, 191, 203]⟩,
  ⟨some 205, .move (.t 13), some (56, false), []⟩,
  ⟨some 206, .move (.t 18), some (56, false), [18]⟩,
  ⟨some 207, .iaddr 24 (.sl 3) (.t 205) (.t 206), some (56, false), []⟩,
  ⟨some 208, .faddr 33 (.t 207) 2 2, some (56, false), []⟩,
  ⟨some 209, .load 9 none (.t 208), some (56, false), [205, 206, 207, 208]⟩,
  ⟨some 210, .bin .neq 9 (.t 204) (.t 209) 9, some (56, false), [204, 209]⟩,
  ⟨some 211, .pick (.t 185) (.c (Value.bool true)) (.t 210), none, [185, 210]⟩] (some [⟨0, []⟩, ⟨1, []⟩, ⟨2, []⟩, ⟨3, []⟩, ⟨5, []⟩, ⟨6, []⟩, ⟨7, []⟩, ⟨8, []⟩, ⟨4, []⟩, ⟨9, []⟩, ⟨10, []⟩, ⟨11, []⟩, ⟨12, []⟩, ⟨13, []⟩, ⟨14, []⟩, ⟨15, []⟩, ⟨17, []⟩, ⟨18, []⟩, ⟨16, []⟩, ⟨19, []⟩, ⟨20, []⟩, ⟨21, []⟩, ⟨22, []⟩, ⟨23, []⟩, ⟨24, []⟩, ⟨25, []⟩, ⟨27, []⟩, ⟨28, []⟩, ⟨26, []⟩, ⟨29, []⟩, ⟨30, []⟩, ⟨31, []⟩, ⟨32, []⟩, ⟨33, []⟩, ⟨34, []⟩, ⟨35, []⟩, ⟨36, []⟩, ⟨37, []⟩, ⟨38, []⟩, ⟨39, []⟩, ⟨40, []⟩, ⟨41, []⟩, ⟨42, []⟩, ⟨43, []⟩, ⟨45, []⟩, ⟨46, []⟩, ⟨47, []⟩, ⟨48, []⟩, ⟨52, []⟩, ⟨53, []⟩, ⟨44, []⟩, ⟨49, []⟩, ⟨50, []⟩, ⟨51, []⟩, ⟨54, []⟩, ⟨55, []⟩, ⟨56, []⟩, ⟨57, []⟩, ⟨58, []⟩, ⟨59, []⟩, ⟨60, []⟩, ⟨61, []⟩, ⟨63, []⟩, ⟨64, []⟩, ⟨65, []⟩, ⟨66, []⟩, ⟨68, []⟩, ⟨69, []⟩, ⟨70, []⟩, ⟨71, []⟩, ⟨76, []⟩, ⟨77, []⟩, ⟨78, []⟩, ⟨79, []⟩, ⟨62, []⟩, ⟨67, []⟩, ⟨72, []⟩, ⟨73, []⟩, ⟨74, []⟩, ⟨75, []⟩, ⟨80, []⟩, ⟨81, []⟩, ⟨82, []⟩]) [0, 13, 17, 104, 118, 125, 126, 211])
 (.cond [0, 13, 17, 104, 118, 125, 126] (.t 211) (.seq (.reg 36 [⟨some 2, .assign (.c (Value.bool false)), none, []⟩] none [2])
 .ret) .skip))))
 k8_thicketlaw03_ScanAgain)
def k9_thicketlaw03_ScanAgain : IR := .tail [0, 13, 17, 104, 118, 125, 126] j9_thicketlaw03_ScanAgain
def w3_thicketlaw03_ScanAgain : IR :=
 (.seq (.reg 33 [⟨some 127, .bin .lss 3 (.t 126) (.t 125) 3, none, []⟩] none [0, 13, 17, 104, 118, 125, 126, 127])
 (.seq (.cond [0, 13, 17, 104, 118, 125, 126] (.t 127) .skip (.exit 6))
 k9_thicketlaw03_ScanAgain))
def l3_thicketlaw03_ScanAgain : IR := .loop [0, 13, 17, 104, 118, 125, 126] w3_thicketlaw03_ScanAgain
def j10_thicketlaw03_ScanAgain : IR :=
 (.seq (.reg 38 [⟨some 2, .assign (.c (Value.bool true)), none, []⟩] none [2])
 .ret)
def k10_thicketlaw03_ScanAgain : IR := .tail [] j10_thicketlaw03_ScanAgain
def j11_thicketlaw03_ScanAgain : IR :=
 (.seq (.seq (.reg 32 [⟨some 124, .move (.t 13), none, []⟩,
  ⟨some 125, .len 24 false (.t 124), none, [124]⟩,
  ⟨some 126, .move (.c (Value.int IntKind.i64 0)), none, []⟩] none [0, 13, 17, 104, 118, 125, 126])
 (.block 6 l3_thicketlaw03_ScanAgain))
 k10_thicketlaw03_ScanAgain)
def k11_thicketlaw03_ScanAgain : IR := .tail [0, 13, 17, 104, 118] j11_thicketlaw03_ScanAgain
def j12_thicketlaw03_ScanAgain : IR :=
 (.seq (.reg 29 [⟨some 117, .move (.t 14), none, [14]⟩,
  ⟨some 118, .call n_scan_Rows [(.t 117)] [9], none, [117]⟩,
  ⟨some 17, .assign (.t 118), none, []⟩] none [0, 13, 17, 104, 118])
 (.seq (.seq (.reg 30 [⟨some 119, .move (.t 13), none, []⟩,
  ⟨some 120, .len 24 false (.t 119), none, [119]⟩,
  ⟨some 121, .move (.t 17), none, []⟩,
  ⟨some 122, .len 24 false (.t 121), none, [121]⟩,
  ⟨some 123, .bin .neq 3 (.t 120) (.t 122) 3, none, [120, 122]⟩] none [0, 13, 17, 104, 118, 123])
 (.cond [0, 13, 17, 104, 118] (.t 123) (.seq (.reg 31 [⟨some 2, .assign (.c (Value.bool false)), none, []⟩] none [2])
 .ret) .skip))
 k11_thicketlaw03_ScanAgain))
def k12_thicketlaw03_ScanAgain : IR := .tail [0, 13, 14, 104] j12_thicketlaw03_ScanAgain
def j13_thicketlaw03_ScanAgain : IR :=
 (.seq (.reg 22 [⟨some 103, .move (.t 0), none, []⟩,
  ⟨some 104, .call n_scan_Rows [(.t 103)] [9], none, [103]⟩,
  ⟨some 13, .assign (.t 104), none, []⟩] none [0, 13, 104])
 (.seq (.reg 23 [⟨some 14, .assign (.c (Value.string { data := #[] })), none, []⟩] none [0, 13, 14, 104])
 (.seq (.seq (.reg 24 [⟨some 105, .move (.t 13), none, []⟩,
  ⟨some 106, .len 24 false (.t 105), none, []⟩,
  ⟨some 107, .move (.c (Value.int IntKind.i64 0)), none, []⟩] none [0, 13, 14, 104, 105, 106, 107])
 (.block 4 l2_thicketlaw03_ScanAgain))
 k12_thicketlaw03_ScanAgain)))
def k13_thicketlaw03_ScanAgain : IR := .tail [0] j13_thicketlaw03_ScanAgain
def j14_thicketlaw03_ScanAgain : IR :=
 (.seq (.reg 3 [⟨some 22, .move (.t 0), none, []⟩,
  ⟨some 23, .call n_scan_Words [(.t 22)] [9], none, [22]⟩,
  ⟨some 21, .move (.t 23), none, []⟩,
  ⟨some 24, .extr (.t 21) 0, none, []⟩,
  ⟨some 25, .extr (.t 21) 1, none, []⟩,
  ⟨some 26, .extr (.t 21) 2, none, []⟩,
  ⟨some 3, .assign (.t 24), none, []⟩,
  ⟨some 4, .assign (.t 25), none, [25]⟩,
  ⟨some 5, .assign (.t 26), none, [5, 26]⟩] none [0, 3, 4, 21, 23, 24])
 (.seq (.seq (.reg 4 [⟨some 27, .move (.t 4), none, [4]⟩,
  ⟨some 28, .bin .eql 28 (.t 27) (.c (Value.int IntKind.i64 0)) 28, none, [27]⟩] none [0, 3, 21, 23, 24, 28])
 (.cond [0, 3, 21, 23, 24] (.t 28) (.seq (.reg 5 [⟨some 6, .assign (.c (Value.string { data := #[] })), none, []⟩] none [0, 3, 6, 21, 23, 24])
 (.seq (.seq (.reg 6 [⟨some 29, .move (.t 3), none, []⟩,
  ⟨some 30, .len 27 false (.t 29), none, []⟩,
  ⟨some 31, .move (.c (Value.int IntKind.i64 0)), none, []⟩] none [0, 3, 6, 21, 23, 24, 29, 30, 31])
 (.block 0 l0_thicketlaw03_ScanAgain))
 k5_thicketlaw03_ScanAgain)) .skip))
 k13_thicketlaw03_ScanAgain))
def k14_thicketlaw03_ScanAgain : IR := .tail [0] j14_thicketlaw03_ScanAgain
def b_thicketlaw03_ScanAgain : IR :=
 (.seq (.reg 0 [⟨some 2, .assign (.c (Value.bool false)), none, [2]⟩] none [0])
 (.seq (.seq (.reg 1 [⟨some 19, .call n_thicketlaw03_lives [] [], none, []⟩,
  ⟨some 20, .un .not 4 (.t 19), none, [19]⟩] none [0, 20])
 (.cond [0] (.t 20) (.seq (.reg 2 [⟨some 2, .assign (.c (Value.bool false)), none, []⟩] none [2])
 .ret) .skip))
 k14_thicketlaw03_ScanAgain))
def a_thicketlaw03_ScanAgain : AFunc := ⟨213, [.tmp 2], b_thicketlaw03_ScanAgain⟩

def fnTab : List (FuncId × AFunc) := [(n_stringslite_HasPrefix, a_stringslite_HasPrefix), (n_strings_HasPrefix, a_strings_HasPrefix), (n_scan_Rows, a_scan_Rows), (n_scan_of, a_scan_of), (n_scan_hex, a_scan_hex), (n_scan_escape, a_scan_escape), (n_scan_text, a_scan_text), (n_scan_one, a_scan_one), (n_scan_Words, a_scan_Words), (n_scan_badBy, a_scan_badBy), (n_scan_Fields, a_scan_Fields), (n_scan_Quote, a_scan_Quote), (n_thicketlaw03_lives, a_thicketlaw03_lives), (n_scan_Blank, a_scan_Blank), (n_thicketlaw03_ScanAgain, a_thicketlaw03_ScanAgain)]
def modeTab : List (FuncId × List Bool) := []
def G (n : Nat) : List PV := match n with | 0 => glob0 | _ => []
def extT : Oracle := fun _ _ => none
def T : Tab := { fns := fun f => fnTab.lookup f, ext := extT, modes := fun f => (modeTab.lookup f).getD [], glob := G }
theorem fn_stringslite_HasPrefix : T.fns n_stringslite_HasPrefix = some a_stringslite_HasPrefix := rfl
theorem run_stringslite_HasPrefix (xs : List PV) : Cinf T n_stringslite_HasPrefix xs = Run T a_stringslite_HasPrefix xs := Cinf_eq rfl fn_stringslite_HasPrefix
@[simp] theorem md_stringslite_HasPrefix : T.modes n_stringslite_HasPrefix = [] := rfl
@[simp] theorem call_stringslite_HasPrefix (C : Oracle) (e : Env) (xs : List PV) : call T C e n_stringslite_HasPrefix xs = callK1 C n_stringslite_HasPrefix xs (moves e [] [] xs) := call_modes md_stringslite_HasPrefix
theorem fn_strings_HasPrefix : T.fns n_strings_HasPrefix = some a_strings_HasPrefix := rfl
theorem run_strings_HasPrefix (xs : List PV) : Cinf T n_strings_HasPrefix xs = Run T a_strings_HasPrefix xs := Cinf_eq rfl fn_strings_HasPrefix
@[simp] theorem md_strings_HasPrefix : T.modes n_strings_HasPrefix = [] := rfl
@[simp] theorem call_strings_HasPrefix (C : Oracle) (e : Env) (xs : List PV) : call T C e n_strings_HasPrefix xs = callK1 C n_strings_HasPrefix xs (moves e [] [] xs) := call_modes md_strings_HasPrefix
theorem fn_scan_Rows : T.fns n_scan_Rows = some a_scan_Rows := rfl
@[simp] theorem tl0_scan_Rows (e : Env) : Exec T k0_scan_Rows e = Exec T j0_scan_Rows (e.keep [0, 3, 4, 5, 40]) := Exec_tail _ _ _
@[simp] theorem tl1_scan_Rows (e : Env) : Exec T k1_scan_Rows e = Exec T j1_scan_Rows (e.keep [0, 3, 5, 40]) := Exec_tail _ _ _
@[simp] theorem tl2_scan_Rows (e : Env) : Exec T k2_scan_Rows e = Exec T j2_scan_Rows (e.keep [0, 3, 4, 5, 40]) := Exec_tail _ _ _
@[simp] theorem tl3_scan_Rows (e : Env) : Exec T k3_scan_Rows e = Exec T j3_scan_Rows (e.keep [0, 3, 4, 40]) := Exec_tail _ _ _
@[simp] theorem tl4_scan_Rows (e : Env) : Exec T k4_scan_Rows e = Exec T j4_scan_Rows (e.keep [3, 40]) := Exec_tail _ _ _
theorem ex1_scan_Rows (e : Env) : Exec T l1_scan_Rows e = andThen (Exec T w1_scan_Rows (e.keep [0, 3, 4, 5, 40])) (Exec T l1_scan_Rows) := Exec_loop _ _ _
theorem ex0_scan_Rows (e : Env) : Exec T l0_scan_Rows e = andThen (Exec T w0_scan_Rows (e.keep [0, 3, 4, 40])) (Exec T l0_scan_Rows) := Exec_loop _ _ _
theorem run_scan_Rows (xs : List PV) : Cinf T n_scan_Rows xs = Run T a_scan_Rows xs := Cinf_eq rfl fn_scan_Rows
@[simp] theorem md_scan_Rows : T.modes n_scan_Rows = [] := rfl
@[simp] theorem call_scan_Rows (C : Oracle) (e : Env) (xs : List PV) : call T C e n_scan_Rows xs = callK1 C n_scan_Rows xs (moves e [] [] xs) := call_modes md_scan_Rows
theorem fn_scan_of : T.fns n_scan_of = some a_scan_of := rfl
@[simp] theorem tl0_scan_of (e : Env) : Exec T k0_scan_of e = Exec T j0_scan_of (e.keep [0]) := Exec_tail _ _ _
theorem run_scan_of (xs : List PV) : Cinf T n_scan_of xs = Run T a_scan_of xs := Cinf_eq rfl fn_scan_of
@[simp] theorem md_scan_of : T.modes n_scan_of = [] := rfl
@[simp] theorem call_scan_of (C : Oracle) (e : Env) (xs : List PV) : call T C e n_scan_of xs = callK1 C n_scan_of xs (moves e [] [] xs) := call_modes md_scan_of
theorem fn_scan_hex : T.fns n_scan_hex = some a_scan_hex := rfl
@[simp] theorem tl0_scan_hex (e : Env) : Exec T k0_scan_hex e = Exec T j0_scan_hex (e.keep []) := Exec_tail _ _ _
theorem run_scan_hex (xs : List PV) : Cinf T n_scan_hex xs = Run T a_scan_hex xs := Cinf_eq rfl fn_scan_hex
@[simp] theorem md_scan_hex : T.modes n_scan_hex = [] := rfl
@[simp] theorem call_scan_hex (C : Oracle) (e : Env) (xs : List PV) : call T C e n_scan_hex xs = callK1 C n_scan_hex xs (moves e [] [] xs) := call_modes md_scan_hex
theorem fn_scan_escape : T.fns n_scan_escape = some a_scan_escape := rfl
@[simp] theorem tl0_scan_escape (e : Env) : Exec T k0_scan_escape e = Exec T j0_scan_escape (e.keep [0, 1, 7, 8, 9]) := Exec_tail _ _ _
@[simp] theorem tl1_scan_escape (e : Env) : Exec T k1_scan_escape e = Exec T j1_scan_escape (e.keep [0, 1, 7, 8]) := Exec_tail _ _ _
@[simp] theorem tl2_scan_escape (e : Env) : Exec T k2_scan_escape e = Exec T j2_scan_escape (e.keep [0, 1, 7, 8]) := Exec_tail _ _ _
@[simp] theorem tl3_scan_escape (e : Env) : Exec T k3_scan_escape e = Exec T j3_scan_escape (e.keep [0, 1, 7, 8]) := Exec_tail _ _ _
@[simp] theorem tl4_scan_escape (e : Env) : Exec T k4_scan_escape e = Exec T j4_scan_escape (e.keep [1, 7]) := Exec_tail _ _ _
@[simp] theorem tl5_scan_escape (e : Env) : Exec T k5_scan_escape e = Exec T j5_scan_escape (e.keep [0, 1, 18, 19]) := Exec_tail _ _ _
@[simp] theorem tl6_scan_escape (e : Env) : Exec T k6_scan_escape e = Exec T j6_scan_escape (e.keep [1]) := Exec_tail _ _ _
@[simp] theorem tl7_scan_escape (e : Env) : Exec T k7_scan_escape e = Exec T j7_scan_escape (e.keep [0, 1]) := Exec_tail _ _ _
theorem ex0_scan_escape (e : Env) : Exec T l0_scan_escape e = andThen (Exec T w0_scan_escape (e.keep [0, 1, 7, 8])) (Exec T l0_scan_escape) := Exec_loop _ _ _
theorem run_scan_escape (xs : List PV) : Cinf T n_scan_escape xs = Run T a_scan_escape xs := Cinf_eq rfl fn_scan_escape
@[simp] theorem md_scan_escape : T.modes n_scan_escape = [] := rfl
@[simp] theorem call_scan_escape (C : Oracle) (e : Env) (xs : List PV) : call T C e n_scan_escape xs = callK1 C n_scan_escape xs (moves e [] [] xs) := call_modes md_scan_escape
theorem fn_scan_text : T.fns n_scan_text = some a_scan_text := rfl
@[simp] theorem tl0_scan_text (e : Env) : Exec T k0_scan_text e = Exec T j0_scan_text (e.keep [0, 8, 11, 12, 28, 53]) := Exec_tail _ _ _
@[simp] theorem tl1_scan_text (e : Env) : Exec T k1_scan_text e = Exec T j1_scan_text (e.keep [0, 8, 9, 28, 53]) := Exec_tail _ _ _
@[simp] theorem tl2_scan_text (e : Env) : Exec T k2_scan_text e = Exec T j2_scan_text (e.keep [0, 8, 9, 28, 53]) := Exec_tail _ _ _
@[simp] theorem tl3_scan_text (e : Env) : Exec T k3_scan_text e = Exec T j3_scan_text (e.keep [0]) := Exec_tail _ _ _
theorem ex0_scan_text (e : Env) : Exec T l0_scan_text e = andThen (Exec T w0_scan_text (e.keep [0, 8, 9, 28, 53])) (Exec T l0_scan_text) := Exec_loop _ _ _
theorem run_scan_text (xs : List PV) : Cinf T n_scan_text xs = Run T a_scan_text xs := Cinf_eq rfl fn_scan_text
@[simp] theorem md_scan_text : T.modes n_scan_text = [] := rfl
@[simp] theorem call_scan_text (C : Oracle) (e : Env) (xs : List PV) : call T C e n_scan_text xs = callK1 C n_scan_text xs (moves e [] [] xs) := call_modes md_scan_text
theorem fn_scan_one : T.fns n_scan_one = some a_scan_one := rfl
@[simp] theorem tl0_scan_one (e : Env) : Exec T k0_scan_one e = Exec T j0_scan_one (e.keep [1, 4, 12, 13, 14, 15]) := Exec_tail _ _ _
@[simp] theorem tl1_scan_one (e : Env) : Exec T k1_scan_one e = Exec T j1_scan_one (e.keep [0, 1, 4, 8, 9, 10]) := Exec_tail _ _ _
@[simp] theorem tl2_scan_one (e : Env) : Exec T k2_scan_one e = Exec T j2_scan_one (e.keep [0, 1, 4, 8, 9, 10]) := Exec_tail _ _ _
@[simp] theorem tl3_scan_one (e : Env) : Exec T k3_scan_one e = Exec T j3_scan_one (e.keep [4, 8, 9]) := Exec_tail _ _ _
@[simp] theorem tl4_scan_one (e : Env) : Exec T k4_scan_one e = Exec T j4_scan_one (e.keep [0, 1, 4, 8, 9]) := Exec_tail _ _ _
theorem ex0_scan_one (e : Env) : Exec T l0_scan_one e = andThen (Exec T w0_scan_one (e.keep [0, 1, 4, 8, 9, 10])) (Exec T l0_scan_one) := Exec_loop _ _ _
theorem ex1_scan_one (e : Env) : Exec T l1_scan_one e = andThen (Exec T w1_scan_one (e.keep [0, 1, 4, 8, 9, 10])) (Exec T l1_scan_one) := Exec_loop _ _ _
theorem run_scan_one (xs : List PV) : Cinf T n_scan_one xs = Run T a_scan_one xs := Cinf_eq rfl fn_scan_one
@[simp] theorem md_scan_one : T.modes n_scan_one = [] := rfl
@[simp] theorem call_scan_one (C : Oracle) (e : Env) (xs : List PV) : call T C e n_scan_one xs = callK1 C n_scan_one xs (moves e [] [] xs) := call_modes md_scan_one
theorem fn_scan_Words : T.fns n_scan_Words = some a_scan_Words := rfl
@[simp] theorem tl0_scan_Words (e : Env) : Exec T k0_scan_Words e = Exec T j0_scan_Words (e.keep [0, 5, 7, 8, 43]) := Exec_tail _ _ _
@[simp] theorem tl1_scan_Words (e : Env) : Exec T k1_scan_Words e = Exec T j1_scan_Words (e.keep [0, 5, 6, 43]) := Exec_tail _ _ _
@[simp] theorem tl2_scan_Words (e : Env) : Exec T k2_scan_Words e = Exec T j2_scan_Words (e.keep [0, 5, 6, 43]) := Exec_tail _ _ _
@[simp] theorem tl3_scan_Words (e : Env) : Exec T k3_scan_Words e = Exec T j3_scan_Words (e.keep [5, 43]) := Exec_tail _ _ _
theorem ex0_scan_Words (e : Env) : Exec T l0_scan_Words e = andThen (Exec T w0_scan_Words (e.keep [0, 5, 6, 43])) (Exec T l0_scan_Words) := Exec_loop _ _ _
theorem run_scan_Words (xs : List PV) : Cinf T n_scan_Words xs = Run T a_scan_Words xs := Cinf_eq rfl fn_scan_Words
@[simp] theorem md_scan_Words : T.modes n_scan_Words = [] := rfl
@[simp] theorem call_scan_Words (C : Oracle) (e : Env) (xs : List PV) : call T C e n_scan_Words xs = callK1 C n_scan_Words xs (moves e [] [] xs) := call_modes md_scan_Words
theorem fn_scan_badBy : T.fns n_scan_badBy = some a_scan_badBy := rfl
theorem run_scan_badBy (xs : List PV) : Cinf T n_scan_badBy xs = Run T a_scan_badBy xs := Cinf_eq rfl fn_scan_badBy
@[simp] theorem md_scan_badBy : T.modes n_scan_badBy = [] := rfl
@[simp] theorem call_scan_badBy (C : Oracle) (e : Env) (xs : List PV) : call T C e n_scan_badBy xs = callK1 C n_scan_badBy xs (moves e [] [] xs) := call_modes md_scan_badBy
theorem fn_scan_Fields : T.fns n_scan_Fields = some a_scan_Fields := rfl
@[simp] theorem tl0_scan_Fields (e : Env) : Exec T k0_scan_Fields e = Exec T j0_scan_Fields (e.keep [0, 1, 7, 8, 9, 54, 90, 95]) := Exec_tail _ _ _
@[simp] theorem tl1_scan_Fields (e : Env) : Exec T k1_scan_Fields e = Exec T j1_scan_Fields (e.keep [0, 1, 7, 8, 9, 54, 90, 95]) := Exec_tail _ _ _
@[simp] theorem tl2_scan_Fields (e : Env) : Exec T k2_scan_Fields e = Exec T j2_scan_Fields (e.keep [0, 1, 7, 8, 9, 54, 90, 95]) := Exec_tail _ _ _
@[simp] theorem tl3_scan_Fields (e : Env) : Exec T k3_scan_Fields e = Exec T j3_scan_Fields (e.keep [0, 1, 7, 8, 9, 54, 90, 95]) := Exec_tail _ _ _
@[simp] theorem tl4_scan_Fields (e : Env) : Exec T k4_scan_Fields e = Exec T j4_scan_Fields (e.keep [0, 1, 7, 8, 9, 10, 54, 90, 95]) := Exec_tail _ _ _
@[simp] theorem tl5_scan_Fields (e : Env) : Exec T k5_scan_Fields e = Exec T j5_scan_Fields (e.keep [0, 1, 7, 8, 9, 10, 54, 90, 95]) := Exec_tail _ _ _
@[simp] theorem tl6_scan_Fields (e : Env) : Exec T k6_scan_Fields e = Exec T j6_scan_Fields (e.keep [0, 1, 7, 8, 95]) := Exec_tail _ _ _
@[simp] theorem tl7_scan_Fields (e : Env) : Exec T k7_scan_Fields e = Exec T j7_scan_Fields (e.keep [0, 1, 7, 8, 9, 54, 90, 95]) := Exec_tail _ _ _
@[simp] theorem tl8_scan_Fields (e : Env) : Exec T k8_scan_Fields e = Exec T j8_scan_Fields (e.keep [0, 1]) := Exec_tail _ _ _
theorem ex1_scan_Fields (e : Env) : Exec T l1_scan_Fields e = andThen (Exec T w1_scan_Fields (e.keep [0, 1, 7, 8, 9, 54, 90, 95])) (Exec T l1_scan_Fields) := Exec_loop _ _ _
theorem ex2_scan_Fields (e : Env) : Exec T l2_scan_Fields e = andThen (Exec T w2_scan_Fields (e.keep [0, 1, 7, 8, 9, 10, 54, 90, 95])) (Exec T l2_scan_Fields) := Exec_loop _ _ _
theorem ex0_scan_Fields (e : Env) : Exec T l0_scan_Fields e = andThen (Exec T w0_scan_Fields (e.keep [0, 1, 7, 8, 95])) (Exec T l0_scan_Fields) := Exec_loop _ _ _
theorem run_scan_Fields (xs : List PV) : Cinf T n_scan_Fields xs = Run T a_scan_Fields xs := Cinf_eq rfl fn_scan_Fields
@[simp] theorem md_scan_Fields : T.modes n_scan_Fields = [] := rfl
@[simp] theorem call_scan_Fields (C : Oracle) (e : Env) (xs : List PV) : call T C e n_scan_Fields xs = callK1 C n_scan_Fields xs (moves e [] [] xs) := call_modes md_scan_Fields
theorem fn_scan_Quote : T.fns n_scan_Quote = some a_scan_Quote := rfl
@[simp] theorem tl0_scan_Quote (e : Env) : Exec T k0_scan_Quote e = Exec T j0_scan_Quote (e.keep [0, 3, 6, 8, 9, 18, 29, 35, 41, 57]) := Exec_tail _ _ _
@[simp] theorem tl1_scan_Quote (e : Env) : Exec T k1_scan_Quote e = Exec T j1_scan_Quote (e.keep [0, 3, 6, 8, 9, 18, 29, 35, 41, 57]) := Exec_tail _ _ _
@[simp] theorem tl2_scan_Quote (e : Env) : Exec T k2_scan_Quote e = Exec T j2_scan_Quote (e.keep [3, 6, 18, 29, 35, 41, 57]) := Exec_tail _ _ _
theorem ex0_scan_Quote (e : Env) : Exec T l0_scan_Quote e = andThen (Exec T w0_scan_Quote (e.keep [0, 3, 6, 8, 9, 18, 29, 35, 41, 57])) (Exec T l0_scan_Quote) := Exec_loop _ _ _
theorem run_scan_Quote (xs : List PV) : Cinf T n_scan_Quote xs = Run T a_scan_Quote xs := Cinf_eq rfl fn_scan_Quote
@[simp] theorem md_scan_Quote : T.modes n_scan_Quote = [] := rfl
@[simp] theorem call_scan_Quote (C : Oracle) (e : Env) (xs : List PV) : call T C e n_scan_Quote xs = callK1 C n_scan_Quote xs (moves e [] [] xs) := call_modes md_scan_Quote
theorem fn_thicketlaw03_lives : T.fns n_thicketlaw03_lives = some a_thicketlaw03_lives := rfl
theorem run_thicketlaw03_lives (xs : List PV) : Cinf T n_thicketlaw03_lives xs = Run T a_thicketlaw03_lives xs := Cinf_eq rfl fn_thicketlaw03_lives
@[simp] theorem md_thicketlaw03_lives : T.modes n_thicketlaw03_lives = [] := rfl
@[simp] theorem call_thicketlaw03_lives (C : Oracle) (e : Env) (xs : List PV) : call T C e n_thicketlaw03_lives xs = callK1 C n_thicketlaw03_lives xs (moves e [] [] xs) := call_modes md_thicketlaw03_lives
theorem fn_scan_Blank : T.fns n_scan_Blank = some a_scan_Blank := rfl
@[simp] theorem tl0_scan_Blank (e : Env) : Exec T k0_scan_Blank e = Exec T j0_scan_Blank (e.keep [0, 3, 5, 6]) := Exec_tail _ _ _
@[simp] theorem tl1_scan_Blank (e : Env) : Exec T k1_scan_Blank e = Exec T j1_scan_Blank (e.keep [0, 5, 6]) := Exec_tail _ _ _
@[simp] theorem tl2_scan_Blank (e : Env) : Exec T k2_scan_Blank e = Exec T j2_scan_Blank (e.keep [0, 5, 6]) := Exec_tail _ _ _
@[simp] theorem tl3_scan_Blank (e : Env) : Exec T k3_scan_Blank e = Exec T j3_scan_Blank (e.keep []) := Exec_tail _ _ _
theorem ex0_scan_Blank (e : Env) : Exec T l0_scan_Blank e = andThen (Exec T w0_scan_Blank (e.keep [0, 5, 6])) (Exec T l0_scan_Blank) := Exec_loop _ _ _
theorem run_scan_Blank (xs : List PV) : Cinf T n_scan_Blank xs = Run T a_scan_Blank xs := Cinf_eq rfl fn_scan_Blank
@[simp] theorem md_scan_Blank : T.modes n_scan_Blank = [] := rfl
@[simp] theorem call_scan_Blank (C : Oracle) (e : Env) (xs : List PV) : call T C e n_scan_Blank xs = callK1 C n_scan_Blank xs (moves e [] [] xs) := call_modes md_scan_Blank
theorem fn_thicketlaw03_ScanAgain : T.fns n_thicketlaw03_ScanAgain = some a_thicketlaw03_ScanAgain := rfl
@[simp] theorem tl0_thicketlaw03_ScanAgain (e : Env) : Exec T k0_thicketlaw03_ScanAgain e = Exec T j0_thicketlaw03_ScanAgain (e.keep [0, 3, 6, 21, 23, 24, 29, 30, 31]) := Exec_tail _ _ _
@[simp] theorem tl1_thicketlaw03_ScanAgain (e : Env) : Exec T k1_thicketlaw03_ScanAgain e = Exec T j1_thicketlaw03_ScanAgain (e.keep [0, 3, 6, 21, 23, 24, 29, 30, 31]) := Exec_tail _ _ _
@[simp] theorem tl2_thicketlaw03_ScanAgain (e : Env) : Exec T k2_thicketlaw03_ScanAgain e = Exec T j2_thicketlaw03_ScanAgain (e.keep [0, 3, 9, 21, 23, 24, 50, 52, 53, 74, 75]) := Exec_tail _ _ _
@[simp] theorem tl3_thicketlaw03_ScanAgain (e : Env) : Exec T k3_thicketlaw03_ScanAgain e = Exec T j3_thicketlaw03_ScanAgain (e.keep [0, 3, 9, 21, 23, 24, 50, 52, 53, 74, 75]) := Exec_tail _ _ _
@[simp] theorem tl4_thicketlaw03_ScanAgain (e : Env) : Exec T k4_thicketlaw03_ScanAgain e = Exec T j4_thicketlaw03_ScanAgain (e.keep [0, 3, 9, 21, 23, 24, 50, 52, 53]) := Exec_tail _ _ _
@[simp] theorem tl5_thicketlaw03_ScanAgain (e : Env) : Exec T k5_thicketlaw03_ScanAgain e = Exec T j5_thicketlaw03_ScanAgain (e.keep [0, 3, 6, 21, 23, 24]) := Exec_tail _ _ _
@[simp] theorem tl6_thicketlaw03_ScanAgain (e : Env) : Exec T k6_thicketlaw03_ScanAgain e = Exec T j6_thicketlaw03_ScanAgain (e.keep [0, 13, 14, 104, 105, 106, 107]) := Exec_tail _ _ _
@[simp] theorem tl7_thicketlaw03_ScanAgain (e : Env) : Exec T k7_thicketlaw03_ScanAgain e = Exec T j7_thicketlaw03_ScanAgain (e.keep [0, 13, 14, 104, 105, 106, 107]) := Exec_tail _ _ _
@[simp] theorem tl8_thicketlaw03_ScanAgain (e : Env) : Exec T k8_thicketlaw03_ScanAgain e = Exec T j8_thicketlaw03_ScanAgain (e.keep [0, 13, 17, 104, 118, 125, 126]) := Exec_tail _ _ _
@[simp] theorem tl9_thicketlaw03_ScanAgain (e : Env) : Exec T k9_thicketlaw03_ScanAgain e = Exec T j9_thicketlaw03_ScanAgain (e.keep [0, 13, 17, 104, 118, 125, 126]) := Exec_tail _ _ _
@[simp] theorem tl10_thicketlaw03_ScanAgain (e : Env) : Exec T k10_thicketlaw03_ScanAgain e = Exec T j10_thicketlaw03_ScanAgain (e.keep []) := Exec_tail _ _ _
@[simp] theorem tl11_thicketlaw03_ScanAgain (e : Env) : Exec T k11_thicketlaw03_ScanAgain e = Exec T j11_thicketlaw03_ScanAgain (e.keep [0, 13, 17, 104, 118]) := Exec_tail _ _ _
@[simp] theorem tl12_thicketlaw03_ScanAgain (e : Env) : Exec T k12_thicketlaw03_ScanAgain e = Exec T j12_thicketlaw03_ScanAgain (e.keep [0, 13, 14, 104]) := Exec_tail _ _ _
@[simp] theorem tl13_thicketlaw03_ScanAgain (e : Env) : Exec T k13_thicketlaw03_ScanAgain e = Exec T j13_thicketlaw03_ScanAgain (e.keep [0]) := Exec_tail _ _ _
@[simp] theorem tl14_thicketlaw03_ScanAgain (e : Env) : Exec T k14_thicketlaw03_ScanAgain e = Exec T j14_thicketlaw03_ScanAgain (e.keep [0]) := Exec_tail _ _ _
theorem ex0_thicketlaw03_ScanAgain (e : Env) : Exec T l0_thicketlaw03_ScanAgain e = andThen (Exec T w0_thicketlaw03_ScanAgain (e.keep [0, 3, 6, 21, 23, 24, 29, 30, 31])) (Exec T l0_thicketlaw03_ScanAgain) := Exec_loop _ _ _
theorem ex1_thicketlaw03_ScanAgain (e : Env) : Exec T l1_thicketlaw03_ScanAgain e = andThen (Exec T w1_thicketlaw03_ScanAgain (e.keep [0, 3, 9, 21, 23, 24, 50, 52, 53, 74, 75])) (Exec T l1_thicketlaw03_ScanAgain) := Exec_loop _ _ _
theorem ex2_thicketlaw03_ScanAgain (e : Env) : Exec T l2_thicketlaw03_ScanAgain e = andThen (Exec T w2_thicketlaw03_ScanAgain (e.keep [0, 13, 14, 104, 105, 106, 107])) (Exec T l2_thicketlaw03_ScanAgain) := Exec_loop _ _ _
theorem ex3_thicketlaw03_ScanAgain (e : Env) : Exec T l3_thicketlaw03_ScanAgain e = andThen (Exec T w3_thicketlaw03_ScanAgain (e.keep [0, 13, 17, 104, 118, 125, 126])) (Exec T l3_thicketlaw03_ScanAgain) := Exec_loop _ _ _
theorem run_thicketlaw03_ScanAgain (xs : List PV) : Cinf T n_thicketlaw03_ScanAgain xs = Run T a_thicketlaw03_ScanAgain xs := Cinf_eq rfl fn_thicketlaw03_ScanAgain
@[simp] theorem md_thicketlaw03_ScanAgain : T.modes n_thicketlaw03_ScanAgain = [] := rfl
@[simp] theorem call_thicketlaw03_ScanAgain (C : Oracle) (e : Env) (xs : List PV) : call T C e n_thicketlaw03_ScanAgain xs = callK1 C n_thicketlaw03_ScanAgain xs (moves e [] [] xs) := call_modes md_thicketlaw03_ScanAgain
end Go.AM.F
