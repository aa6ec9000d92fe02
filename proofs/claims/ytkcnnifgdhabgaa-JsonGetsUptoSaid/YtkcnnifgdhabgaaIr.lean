/- The functions of the program in the abstract machine's form, printed by a program of the session's own (ir.py); Lean checks them against the program. No conditions. -/
import Derived.Test.YtkcnnifgdhabgaaAmSim
namespace Go.AM.F
open Go Go.AM
set_option maxRecDepth 100000

abbrev n_thicketlaw10_JsonGets : FuncId := 3
abbrev n_json_Get : FuncId := 4
abbrev n_thicketref10_Get : FuncId := 5
abbrev n_thicketref10_Same : FuncId := 6
abbrev n_json_Same : FuncId := 7
abbrev n_thicketref10_Copy : FuncId := 8
abbrev n_json_Copy : FuncId := 9
abbrev n_slices_Index_string_string : FuncId := 10
abbrev n_slices_Equal_string_string : FuncId := 11
abbrev n_api_Json_api_Json_api_Json_api_Json : FuncId := 12
def j0_json_Copy : IR :=
 (.reg 7 [⟨some 31, .bin .add 3 (.t 20) (.c (Value.int IntKind.i64 1)) 3, none, []⟩,
  ⟨some 20, .move (.t 31), none, [31]⟩] none [1, 2, 3, 17, 18, 19, 20])
def k0_json_Copy : IR := .tail [1, 2, 3, 17, 18, 19, 20] j0_json_Copy
def j1_json_Copy : IR :=
 (.seq (.block 1 (.seq (.reg 5 [⟨some 22, .iaddr 24 (.sl 4) (.t 18) (.t 20), none, []⟩,
  ⟨some 23, .load 26 (some 4) (.t 22), none, []⟩,
  ⟨some 5, .alloc 26 [.v (.int .u8 0), .v (.string ⟨#[]⟩), .nil 1, .nil 4], none, []⟩,
  ⟨none, .store 26 (some 4) (.t 5) (.t 23), none, [22, 23]⟩] none [1, 2, 3, 5, 17, 18, 19, 20])
 (.reg 6 [⟨some 24, .faddr 26 (.t 3) 3 3, none, []⟩,
  ⟨some 25, .load 24 none (.t 24), none, []⟩,
  ⟨some 26, .load 26 (some 4) (.t 5), none, []⟩,
  ⟨some 27, .call n_json_Copy [(.t 26)] [26], none, [5, 26]⟩,
  ⟨some 28, .lit 24 4 [(.t 27)], none, [27]⟩,
  ⟨some 29, .append 24 24 false 4 72 (.t 25) (.t 28), none, [24, 25, 28]⟩,
  ⟨some 30, .faddr 26 (.t 3) 3 3, none, []⟩,
  ⟨none, .store 24 none (.t 30) (.t 29), none, [29, 30]⟩] (some [⟨0, []⟩, ⟨1, []⟩, ⟨2, []⟩, ⟨3, [1]⟩, ⟨4, [1]⟩, ⟨5, []⟩, ⟨6, []⟩, ⟨7, []⟩]) [1, 2, 3, 17, 18, 19, 20])))
 k0_json_Copy)
def k1_json_Copy : IR := .tail [1, 2, 3, 17, 18, 19, 20] j1_json_Copy
def w0_json_Copy : IR :=
 (.seq (.reg 4 [⟨some 21, .bin .lss 3 (.t 20) (.t 19) 3, none, []⟩] none [1, 2, 3, 17, 18, 19, 20, 21])
 (.seq (.cond [1, 2, 3, 17, 18, 19, 20] (.t 21) .skip (.exit 0))
 k1_json_Copy))
def l0_json_Copy : IR := .loop [1, 2, 3, 17, 18, 19, 20] w0_json_Copy
def j2_json_Copy : IR :=
 (.seq (.reg 8 [⟨some 32, .load 26 (some 4) (.t 3), none, []⟩,
  ⟨none, .store 26 (some 4) (.t 2) (.t 32), none, [3, 32]⟩] none [2])
 .ret)
def k2_json_Copy : IR := .tail [2, 3] j2_json_Copy
def b_json_Copy : IR :=
 (.seq (.reg 0 [⟨some 1, .box 26 (.t 0), none, [0]⟩,
  ⟨some 2, .alloc 26 [.v (.int .u8 0), .v (.string ⟨#[]⟩), .nil 1, .nil 4], none, []⟩] none [1, 2])
 (.seq (.reg 1 [⟨some 6, .faddr 26 (.t 1) 0 0, none, []⟩,
  ⟨some 7, .load 22 none (.t 6), none, [6]⟩,
  ⟨some 8, .faddr 26 (.t 1) 1 1, none, []⟩,
  ⟨some 9, .load 9 none (.t 8), none, [8]⟩,
  ⟨some 10, .build 26 [(0, 1), (1, 1), (2, 1), (3, 1)] [.v (.int .u8 0), .v (.string ⟨#[]⟩), .nil 1, .nil 4] [(0, (.t 7)), (1, (.t 9))], none, []⟩,
  ⟨some 3, .alloc 26 [.v (.int .u8 0), .v (.string ⟨#[]⟩), .nil 1, .nil 4], none, []⟩,
  ⟨none, .store 26 (some 4) (.t 3) (.t 10), none, [7, 9, 10]⟩] none [1, 2, 3])
 (.seq (.reg 2 [⟨some 11, .faddr 26 (.t 3) 2 2, none, []⟩,
  ⟨some 12, .load 23 none (.t 11), none, []⟩,
  ⟨some 13, .faddr 26 (.t 1) 2 2, none, []⟩,
  ⟨some 14, .load 23 none (.t 13), none, []⟩,
  ⟨some 15, .append 23 23 false 1 16 (.t 12) (.t 14), none, [11, 12, 13, 14]⟩,
  ⟨some 16, .faddr 26 (.t 3) 2 2, none, []⟩,
  ⟨none, .store 23 none (.t 16) (.t 15), none, [15, 16]⟩] none [1, 2, 3])
 (.seq (.seq (.reg 3 [⟨some 17, .faddr 26 (.t 1) 3 3, none, []⟩,
  ⟨some 18, .load 24 none (.t 17), none, []⟩,
  ⟨some 19, .len 24 false (.t 18), none, []⟩,
  ⟨some 20, .move (.c (Value.int IntKind.i64 0)), none, []⟩] none [1, 2, 3, 17, 18, 19, 20])
 (.block 0 l0_json_Copy))
 k2_json_Copy))))
def a_json_Copy : AFunc := ⟨33, [.cell 2 26 (some 4)], b_json_Copy⟩

def j0_slices_Index_string_string : IR :=
 (.reg 6 [⟨some 18, .bin .add 3 (.t 8) (.c (Value.int IntKind.i64 1)) 3, none, []⟩,
  ⟨some 8, .move (.t 18), none, [18]⟩] none [0, 1, 7, 8])
def k0_slices_Index_string_string : IR := .tail [0, 1, 7, 8] j0_slices_Index_string_string
def j1_slices_Index_string_string : IR :=
 (.seq (.block 1 (.seq (.reg 3 [⟨some 10, .move (.t 8), none, []⟩,
  ⟨some 5, .assign (.t 10), none, [10]⟩] none [0, 1, 5, 7, 8])
 (.seq (.reg 4 [⟨some 11, .move (.t 1), none, []⟩,
  ⟨some 12, .move (.t 0), none, []⟩,
  ⟨some 13, .move (.t 5), none, []⟩,
  ⟨some 14, .iaddr 23 (.sl 1) (.t 12) (.t 13), none, []⟩,
  ⟨some 15, .load 9 none (.t 14), none, [12, 13, 14]⟩,
  ⟨some 16, .bin .eql 9 (.t 11) (.t 15) 9, none, [11, 15]⟩] none [0, 1, 5, 7, 8, 16])
 (.cond [0, 1, 5, 7, 8] (.t 16) (.seq (.reg 5 [⟨some 17, .move (.t 5), none, [5]⟩,
  ⟨some 4, .assign (.t 17), none, [17]⟩] none [4])
 .ret) .skip))))
 k0_slices_Index_string_string)
def k1_slices_Index_string_string : IR := .tail [0, 1, 7, 8] j1_slices_Index_string_string
def w0_slices_Index_string_string : IR :=
 (.seq (.reg 2 [⟨some 9, .bin .lss 3 (.t 8) (.t 7) 3, none, []⟩] none [0, 1, 7, 8, 9])
 (.seq (.cond [0, 1, 7, 8] (.t 9) .skip (.exit 0))
 k1_slices_Index_string_string))
def l0_slices_Index_string_string : IR := .loop [0, 1, 7, 8] w0_slices_Index_string_string
def j2_slices_Index_string_string : IR :=
 (.seq (.reg 7 [⟨some 4, .assign (.c (Value.int IntKind.i64 (-1))), none, []⟩] none [4])
 .ret)
def k2_slices_Index_string_string : IR := .tail [] j2_slices_Index_string_string
def b_slices_Index_string_string : IR :=
 (.seq (.reg 0 [⟨some 4, .assign (.c (Value.int IntKind.i64 0)), none, [4]⟩] none [0, 1])
 (.seq (.seq (.reg 1 [⟨some 6, .move (.t 0), none, []⟩,
  ⟨some 7, .len 23 false (.t 6), none, [6]⟩,
  ⟨some 8, .move (.c (Value.int IntKind.i64 0)), none, []⟩] none [0, 1, 7, 8])
 (.block 0 l0_slices_Index_string_string))
 k2_slices_Index_string_string))
def a_slices_Index_string_string : AFunc := ⟨19, [.tmp 4], b_slices_Index_string_string⟩

def j0_json_Get : IR :=
 (.seq (.reg 6 [⟨some 30, .build 26 [(0, 1), (1, 1), (2, 1), (3, 1)] [.v (.int .u8 0), .v (.string ⟨#[]⟩), .nil 1, .nil 4] [], none, []⟩,
  ⟨none, .store 26 (some 4) (.t 4) (.t 30), none, [30]⟩,
  ⟨some 5, .assign (.c (Value.bool false)), none, []⟩] none [4, 5])
 .ret)
def k0_json_Get : IR := .tail [4] j0_json_Get
def j1_json_Get : IR :=
 (.seq (.seq (.reg 3 [⟨some 11, .faddr 26 (.t 2) 2 2, none, []⟩,
  ⟨some 12, .load 23 none (.t 11), none, []⟩,
  ⟨some 13, .move (.t 1), none, [1]⟩,
  ⟨some 14, .call n_slices_Index_string_string [(.t 12), (.t 13)] [23, 9], none, [11, 12, 13]⟩,
  ⟨some 6, .assign (.t 14), none, [14]⟩] none [2, 4, 6])
 (.seq (.reg 4 [⟨some 15, .move (.t 6), none, []⟩,
  ⟨some 16, .bin .geq 3 (.t 15) (.c (Value.int IntKind.i64 0)) 3, none, [15]⟩,
  ⟨some 17, .move (.t 16), none, [16]⟩,
  ⟨some 18, .move (.t 6), some (2, true), []⟩,
  ⟨some 19, .faddr 26 (.t 2) 3 3, some (2, true), []⟩,
  ⟨some 20, .load 24 none (.t 19), some (2, true), []⟩,
  ⟨some 21, .len 24 false (.t 20), some (2, true), [19, 20]⟩,
  ⟨some 22, .bin .lss 3 (.t 18) (.t 21) 3, some (2, true), [18, 21]⟩,
  ⟨some 23, .pick (.t 17) (.t 22) (.c (Value.bool false)), none, [17, 22]⟩] none [2, 4, 6, 23])
 (.cond [2, 4, 6] (.t 23) (.seq (.reg 5 [⟨some 24, .faddr 26 (.t 2) 3 3, none, []⟩,
  ⟨some 25, .load 24 none (.t 24), none, []⟩,
  ⟨some 26, .move (.t 6), none, [6]⟩,
  ⟨some 27, .iaddr 24 (.sl 4) (.t 25) (.t 26), none, []⟩,
  ⟨some 28, .load 26 (some 4) (.t 27), none, []⟩,
  ⟨some 29, .call n_json_Copy [(.t 28)] [26], none, [2, 24, 25, 26, 27, 28]⟩,
  ⟨none, .store 26 (some 4) (.t 4) (.t 29), none, [29]⟩,
  ⟨some 5, .assign (.c (Value.bool true)), none, []⟩] none [4, 5])
 .ret) .skip)))
 k0_json_Get)
def k1_json_Get : IR := .tail [1, 2, 4] j1_json_Get
def b_json_Get : IR :=
 (.seq (.reg 0 [⟨some 2, .box 26 (.t 0), none, [0]⟩,
  ⟨some 4, .alloc 26 [.v (.int .u8 0), .v (.string ⟨#[]⟩), .nil 1, .nil 4], none, []⟩,
  ⟨some 5, .assign (.c (Value.bool false)), none, [5]⟩] none [1, 2, 4])
 (.seq (.seq (.reg 1 [⟨some 7, .faddr 26 (.t 2) 0 0, none, []⟩,
  ⟨some 8, .load 22 none (.t 7), none, [7]⟩,
  ⟨some 9, .bin .neq 22 (.t 8) (.c (Value.int IntKind.u8 7)) 22, none, [8]⟩] none [1, 2, 4, 9])
 (.cond [1, 2, 4] (.t 9) (.seq (.reg 2 [⟨some 10, .build 26 [(0, 1), (1, 1), (2, 1), (3, 1)] [.v (.int .u8 0), .v (.string ⟨#[]⟩), .nil 1, .nil 4] [], none, []⟩,
  ⟨none, .store 26 (some 4) (.t 4) (.t 10), none, [10]⟩,
  ⟨some 5, .assign (.c (Value.bool false)), none, []⟩] none [4, 5])
 .ret) .skip))
 k1_json_Get))
def a_json_Get : AFunc := ⟨31, [.cell 4 26 (some 4), .tmp 5], b_json_Get⟩

def j0_thicketref10_Get : IR :=
 (.seq (.reg 7 [⟨some 32, .faddr 26 (.t 2) 3 3, none, []⟩,
  ⟨some 33, .load 24 none (.t 32), none, []⟩,
  ⟨some 34, .move (.t 6), none, [6]⟩,
  ⟨some 35, .iaddr 24 (.sl 4) (.t 33) (.t 34), none, []⟩,
  ⟨some 36, .load 26 (some 4) (.t 35), none, []⟩,
  ⟨none, .store 26 (some 4) (.t 4) (.t 36), none, [2, 32, 33, 34, 35, 36]⟩,
  ⟨some 5, .assign (.c (Value.bool true)), none, []⟩] none [4, 5])
 .ret)
def k0_thicketref10_Get : IR := .tail [2, 4, 6] j0_thicketref10_Get
def j1_thicketref10_Get : IR :=
 (.reg 3 [⟨some 17, .move (.t 6), none, []⟩,
  ⟨some 18, .bin .add 3 (.t 17) (.c (Value.int IntKind.i64 1)) 3, none, [17]⟩,
  ⟨some 6, .assign (.t 18), none, [18]⟩] none [1, 2, 4, 6])
def k1_thicketref10_Get : IR := .tail [1, 2, 4, 6] j1_thicketref10_Get
def j2_thicketref10_Get : IR :=
 (.seq (.block 1 (.seq (.reg 4 [⟨some 19, .faddr 26 (.t 2) 2 2, none, []⟩,
  ⟨some 20, .load 23 none (.t 19), none, []⟩,
  ⟨some 21, .move (.t 6), none, []⟩,
  ⟨some 22, .iaddr 23 (.sl 1) (.t 20) (.t 21), none, []⟩,
  ⟨some 23, .load 9 none (.t 22), none, [19, 20, 21, 22]⟩,
  ⟨some 24, .move (.t 1), none, []⟩,
  ⟨some 25, .bin .eql 9 (.t 23) (.t 24) 9, none, [23, 24]⟩] none [1, 2, 4, 6, 25])
 (.cond [1, 2, 4, 6] (.t 25) (.seq (.seq (.reg 5 [⟨some 26, .move (.t 6), none, []⟩,
  ⟨some 27, .faddr 26 (.t 2) 3 3, none, []⟩,
  ⟨some 28, .load 24 none (.t 27), none, []⟩,
  ⟨some 29, .len 24 false (.t 28), none, [27, 28]⟩,
  ⟨some 30, .bin .geq 3 (.t 26) (.t 29) 3, none, [26, 29]⟩] none [2, 4, 6, 30])
 (.cond [2, 4, 6] (.t 30) (.seq (.reg 6 [⟨some 31, .build 26 [(0, 1), (1, 1), (2, 1), (3, 1)] [.v (.int .u8 0), .v (.string ⟨#[]⟩), .nil 1, .nil 4] [], none, []⟩,
  ⟨none, .store 26 (some 4) (.t 4) (.t 31), none, [31]⟩,
  ⟨some 5, .assign (.c (Value.bool false)), none, []⟩] none [4, 5])
 .ret) .skip))
 k0_thicketref10_Get) .skip)))
 k1_thicketref10_Get)
def k2_thicketref10_Get : IR := .tail [1, 2, 4, 6] j2_thicketref10_Get
def w0_thicketref10_Get : IR :=
 (.seq (.seq (.reg 2 [⟨some 7, .move (.t 6), none, []⟩,
  ⟨some 8, .faddr 26 (.t 2) 2 2, none, []⟩,
  ⟨some 9, .load 23 none (.t 8), none, []⟩,
  ⟨some 10, .len 23 false (.t 9), none, [8, 9]⟩,
  ⟨some 11, .bin .lss 3 (.t 7) (.t 10) 3, none, [7, 10]⟩,
  ⟨some 12, .move (.t 11), none, [11]⟩,
  ⟨some 13, .faddr 26 (.t 2) 0 0, some (5, true), []⟩,
  ⟨some 14, .load 22 none (.t 13), some (5, true), [13]⟩,
  ⟨some 15, .bin .eql 22 (.t 14) (.c (Value.int IntKind.u8 7)) 22, some (5, true), [14]⟩,
  ⟨some 16, .pick (.t 12) (.t 15) (.c (Value.bool false)), none, [12, 15]⟩] none [1, 2, 4, 6, 16])
 (.cond [1, 2, 4, 6] (.t 16) .skip (.exit 0)))
 k2_thicketref10_Get)
def l0_thicketref10_Get : IR := .loop [1, 2, 4, 6] w0_thicketref10_Get
def j3_thicketref10_Get : IR :=
 (.seq (.reg 8 [⟨some 37, .build 26 [(0, 1), (1, 1), (2, 1), (3, 1)] [.v (.int .u8 0), .v (.string ⟨#[]⟩), .nil 1, .nil 4] [], none, []⟩,
  ⟨none, .store 26 (some 4) (.t 4) (.t 37), none, [37]⟩,
  ⟨some 5, .assign (.c (Value.bool false)), none, []⟩] none [4, 5])
 .ret)
def k3_thicketref10_Get : IR := .tail [4] j3_thicketref10_Get
def b_thicketref10_Get : IR :=
 (.seq (.reg 0 [⟨some 2, .box 26 (.t 0), none, [0]⟩,
  ⟨some 4, .alloc 26 [.v (.int .u8 0), .v (.string ⟨#[]⟩), .nil 1, .nil 4], none, []⟩,
  ⟨some 5, .assign (.c (Value.bool false)), none, [5]⟩] none [1, 2, 4])
 (.seq (.seq (.reg 1 [⟨some 6, .assign (.c (Value.int IntKind.i64 0)), none, []⟩] none [1, 2, 4, 6])
 (.block 0 l0_thicketref10_Get))
 k3_thicketref10_Get))
def a_thicketref10_Get : AFunc := ⟨38, [.cell 4 26 (some 4), .tmp 5], b_thicketref10_Get⟩

def j0_thicketref10_Same : IR :=
 (.reg 5 [⟨some 42, .move (.t 5), none, []⟩,
  ⟨some 43, .bin .add 3 (.t 42) (.c (Value.int IntKind.i64 1)) 3, none, [42]⟩,
  ⟨some 5, .assign (.t 43), none, [43]⟩] none [2, 3, 5])
def k0_thicketref10_Same : IR := .tail [2, 3, 5] j0_thicketref10_Same
def j1_thicketref10_Same : IR :=
 (.seq (.block 1 (.seq (.reg 6 [⟨some 44, .faddr 26 (.t 2) 2 2, none, []⟩,
  ⟨some 45, .load 23 none (.t 44), none, []⟩,
  ⟨some 46, .move (.t 5), none, []⟩,
  ⟨some 47, .iaddr 23 (.sl 1) (.t 45) (.t 46), none, []⟩,
  ⟨some 48, .load 9 none (.t 47), none, [44, 45, 46, 47]⟩,
  ⟨some 49, .faddr 26 (.t 3) 2 2, none, []⟩,
  ⟨some 50, .load 23 none (.t 49), none, []⟩,
  ⟨some 51, .move (.t 5), none, []⟩,
  ⟨some 52, .iaddr 23 (.sl 1) (.t 50) (.t 51), none, []⟩,
  ⟨some 53, .load 9 none (.t 52), none, [49, 50, 51, 52]⟩,
  ⟨some 54, .bin .neq 9 (.t 48) (.t 53) 9, none, [48, 53]⟩] (some [⟨0, []⟩, ⟨2, []⟩, ⟨5, []⟩, ⟨7, []⟩, ⟨1, []⟩, ⟨3, []⟩, ⟨4, []⟩, ⟨6, []⟩, ⟨8, []⟩, ⟨9, []⟩, ⟨10, []⟩]) [2, 3, 5, 54])
 (.cond [2, 3, 5] (.t 54) (.seq (.reg 7 [⟨some 4, .assign (.c (Value.bool false)), none, []⟩] none [4])
 .ret) .skip)))
 k0_thicketref10_Same)
def k1_thicketref10_Same : IR := .tail [2, 3, 5] j1_thicketref10_Same
def w0_thicketref10_Same : IR :=
 (.seq (.seq (.reg 4 [⟨some 37, .move (.t 5), none, []⟩,
  ⟨some 38, .faddr 26 (.t 2) 2 2, none, []⟩,
  ⟨some 39, .load 23 none (.t 38), none, []⟩,
  ⟨some 40, .len 23 false (.t 39), none, [38, 39]⟩,
  ⟨some 41, .bin .lss 3 (.t 37) (.t 40) 3, none, [37, 40]⟩] none [2, 3, 5, 41])
 (.cond [2, 3, 5] (.t 41) .skip (.exit 0)))
 k1_thicketref10_Same)
def l0_thicketref10_Same : IR := .loop [2, 3, 5] w0_thicketref10_Same
def j2_thicketref10_Same : IR :=
 (.reg 10 [⟨some 60, .move (.t 6), none, []⟩,
  ⟨some 61, .bin .add 3 (.t 60) (.c (Value.int IntKind.i64 1)) 3, none, [60]⟩,
  ⟨some 6, .assign (.t 61), none, [61]⟩] none [2, 3, 6])
def k2_thicketref10_Same : IR := .tail [2, 3, 6] j2_thicketref10_Same
def j3_thicketref10_Same : IR :=
 (.seq (.block 3 (.seq (.reg 11 [⟨some 62, .faddr 26 (.t 2) 3 3, none, []⟩,
  ⟨some 63, .load 24 none (.t 62), none, []⟩,
  ⟨some 64, .move (.t 6), none, []⟩,
  ⟨some 65, .iaddr 24 (.sl 4) (.t 63) (.t 64), none, []⟩,
  ⟨some 66, .load 26 (some 4) (.t 65), none, []⟩,
  ⟨some 67, .faddr 26 (.t 3) 3 3, none, []⟩,
  ⟨some 68, .load 24 none (.t 67), none, []⟩,
  ⟨some 69, .move (.t 6), none, []⟩,
  ⟨some 70, .iaddr 24 (.sl 4) (.t 68) (.t 69), none, []⟩,
  ⟨some 71, .load 26 (some 4) (.t 70), none, []⟩,
  ⟨some 72, .call n_thicketref10_Same [(.t 66), (.t 71)] [26, 26], none, [62, 63, 64, 65, 66, 67, 68, 69, 70, 71]⟩,
  ⟨some 73, .un .not 4 (.t 72), none, [72]⟩] (some [⟨0, []⟩, ⟨2, []⟩, ⟨5, []⟩, ⟨7, []⟩, ⟨1, []⟩, ⟨3, []⟩, ⟨4, []⟩, ⟨6, []⟩, ⟨8, []⟩, ⟨9, []⟩, ⟨10, []⟩, ⟨11, []⟩]) [2, 3, 6, 73])
 (.cond [2, 3, 6] (.t 73) (.seq (.reg 12 [⟨some 4, .assign (.c (Value.bool false)), none, []⟩] none [4])
 .ret) .skip)))
 k2_thicketref10_Same)
def k3_thicketref10_Same : IR := .tail [2, 3, 6] j3_thicketref10_Same
def w1_thicketref10_Same : IR :=
 (.seq (.seq (.reg 9 [⟨some 55, .move (.t 6), none, []⟩,
  ⟨some 56, .faddr 26 (.t 2) 3 3, none, []⟩,
  ⟨some 57, .load 24 none (.t 56), none, []⟩,
  ⟨some 58, .len 24 false (.t 57), none, [56, 57]⟩,
  ⟨some 59, .bin .lss 3 (.t 55) (.t 58) 3, none, [55, 58]⟩] none [2, 3, 6, 59])
 (.cond [2, 3, 6] (.t 59) .skip (.exit 2)))
 k3_thicketref10_Same)
def l1_thicketref10_Same : IR := .loop [2, 3, 6] w1_thicketref10_Same
def j4_thicketref10_Same : IR :=
 (.seq (.reg 13 [⟨some 4, .assign (.c (Value.bool true)), none, []⟩] none [4])
 .ret)
def k4_thicketref10_Same : IR := .tail [] j4_thicketref10_Same
def j5_thicketref10_Same : IR :=
 (.seq (.seq (.reg 8 [⟨some 6, .assign (.c (Value.int IntKind.i64 0)), none, []⟩] none [2, 3, 6])
 (.block 2 l1_thicketref10_Same))
 k4_thicketref10_Same)
def k5_thicketref10_Same : IR := .tail [2, 3] j5_thicketref10_Same
def j6_thicketref10_Same : IR :=
 (.seq (.seq (.reg 3 [⟨some 5, .assign (.c (Value.int IntKind.i64 0)), none, []⟩] none [2, 3, 5])
 (.block 0 l0_thicketref10_Same))
 k5_thicketref10_Same)
def k6_thicketref10_Same : IR := .tail [2, 3] j6_thicketref10_Same
def b_thicketref10_Same : IR :=
 (.seq (.reg 0 [⟨some 2, .box 26 (.t 0), none, [0]⟩,
  ⟨some 3, .box 26 (.t 1), none, [1]⟩,
  ⟨some 4, .assign (.c (Value.bool false)), none, [4]⟩] none [2, 3])
 (.seq (.seq (.reg 1 [⟨some 7, .faddr 26 (.t 2) 0 0, none, []⟩,
  ⟨some 8, .load 22 none (.t 7), none, [7]⟩,
  ⟨some 9, .faddr 26 (.t 3) 0 0, none, []⟩,
  ⟨some 10, .load 22 none (.t 9), none, [9]⟩,
  ⟨some 11, .bin .neq 22 (.t 8) (.t 10) 22, none, [8, 10]⟩,
  ⟨some 12, .move (.t 11), none, [11]⟩,
  ⟨some 13, .faddr 26 (.t 2) 1 1, some (5, false), []⟩,
  ⟨some 14, .load 9 none (.t 13), some (5, false), [13]⟩,
  ⟨some 15, .faddr 26 (.t 3) 1 1, some (5, false), []⟩,
  ⟨some 16, .load 9 none (.t 15), some (5, false), [15]⟩,
  ⟨some 17, .bin .neq 9 (.t 14) (.t 16) 9, some (5, false), [14, 16]⟩,
  ⟨some 18, .pick (.t 12) (.c (Value.bool true)) (.t 17), none, [12, 17]⟩,
  ⟨some 19, .move (.t 18), none, [18]⟩,
  ⟨some 20, .faddr 26 (.t 2) 2 2, some (12, false), []⟩,
  ⟨some 21, .load 23 none (.t 20), some (12, false), []⟩,
  ⟨some 22, .len 23 false (.t 21), some (12, false), [20, 21]⟩,
  ⟨some 23, .faddr 26 (.t 3) 2 2, some (12, false), []⟩,
  ⟨some 24, .load 23 none (.t 23), some (12, false), []⟩,
  ⟨some 25, .len 23 false (.t 24), some (12, false), [23, 24]⟩,
  ⟨some 26, .bin .neq 3 (.t 22) (.t 25) 3, some (12, false), [22, 25]⟩,
  ⟨some 27, .pick (.t 19) (.c (Value.bool true)) (.t 26), none, [19, 26]⟩,
  ⟨some 28, .move (.t 27), none, [27]⟩,
  ⟨some 29, .faddr 26 (.t 2) 3 3, some (21, false), []⟩,
  ⟨some 30, .load 24 none (.t 29), some (21, false), []⟩,
  ⟨some 31, .len 24 false (.t 30), some (21, false), [29, 30]⟩,
  ⟨some 32, .faddr 26 (.t 3) 3 3, some (21, false), []⟩,
  ⟨some 33, .load 24 none (.t 32), some (21, false), []⟩,
  ⟨some 34, .len 24 false (.t 33), some (21, false), [32, 33]⟩,
  ⟨some 35, .bin .neq 3 (.t 31) (.t 34) 3, some (21, false), [31, 34]⟩,
  ⟨some 36, .pick (.t 28) (.c (Value.bool true)) (.t 35), none, [28, 35]⟩] none [2, 3, 36])
 (.cond [2, 3] (.t 36) (.seq (.reg 2 [⟨some 4, .assign (.c (Value.bool false)), none, []⟩] none [4])
 .ret) .skip))
 k6_thicketref10_Same))
def a_thicketref10_Same : AFunc := ⟨74, [.tmp 4], b_thicketref10_Same⟩

def j0_slices_Equal_string_string : IR :=
 (.reg 8 [⟨some 25, .bin .add 3 (.t 13) (.c (Value.int IntKind.i64 1)) 3, none, []⟩,
  ⟨some 13, .move (.t 25), none, [25]⟩] none [0, 1, 12, 13])
def k0_slices_Equal_string_string : IR := .tail [0, 1, 12, 13] j0_slices_Equal_string_string
def j1_slices_Equal_string_string : IR :=
 (.seq (.block 1 (.seq (.reg 5 [⟨some 15, .move (.t 13), none, []⟩,
  ⟨some 5, .assign (.t 15), none, [15]⟩] none [0, 1, 5, 12, 13])
 (.seq (.reg 6 [⟨some 16, .move (.t 0), none, []⟩,
  ⟨some 17, .move (.t 5), none, []⟩,
  ⟨some 18, .iaddr 23 (.sl 1) (.t 16) (.t 17), none, []⟩,
  ⟨some 19, .load 9 none (.t 18), none, [16, 17, 18]⟩,
  ⟨some 20, .move (.t 1), none, []⟩,
  ⟨some 21, .move (.t 5), none, [5]⟩,
  ⟨some 22, .iaddr 23 (.sl 1) (.t 20) (.t 21), none, []⟩,
  ⟨some 23, .load 9 none (.t 22), none, [20, 21, 22]⟩,
  ⟨some 24, .bin .neq 9 (.t 19) (.t 23) 9, none, [19, 23]⟩] (some [⟨0, []⟩, ⟨1, []⟩, ⟨2, []⟩, ⟨4, []⟩, ⟨5, []⟩, ⟨6, []⟩, ⟨3, []⟩, ⟨7, []⟩, ⟨8, []⟩]) [0, 1, 12, 13, 24])
 (.cond [0, 1, 12, 13] (.t 24) (.seq (.reg 7 [⟨some 4, .assign (.c (Value.bool false)), none, []⟩] none [4])
 .ret) .skip))))
 k0_slices_Equal_string_string)
def k1_slices_Equal_string_string : IR := .tail [0, 1, 12, 13] j1_slices_Equal_string_string
def w0_slices_Equal_string_string : IR :=
 (.seq (.reg 4 [⟨some 14, .bin .lss 3 (.t 13) (.t 12) 3, none, []⟩] none [0, 1, 12, 13, 14])
 (.seq (.cond [0, 1, 12, 13] (.t 14) .skip (.exit 0))
 k1_slices_Equal_string_string))
def l0_slices_Equal_string_string : IR := .loop [0, 1, 12, 13] w0_slices_Equal_string_string
def j2_slices_Equal_string_string : IR :=
 (.seq (.reg 9 [⟨some 4, .assign (.c (Value.bool true)), none, []⟩] none [4])
 .ret)
def k2_slices_Equal_string_string : IR := .tail [] j2_slices_Equal_string_string
def j3_slices_Equal_string_string : IR :=
 (.seq (.seq (.reg 3 [⟨some 11, .move (.t 0), none, []⟩,
  ⟨some 12, .len 23 false (.t 11), none, [11]⟩,
  ⟨some 13, .move (.c (Value.int IntKind.i64 0)), none, []⟩] none [0, 1, 12, 13])
 (.block 0 l0_slices_Equal_string_string))
 k2_slices_Equal_string_string)
def k3_slices_Equal_string_string : IR := .tail [0, 1] j3_slices_Equal_string_string
def b_slices_Equal_string_string : IR :=
 (.seq (.reg 0 [⟨some 4, .assign (.c (Value.bool false)), none, [4]⟩] none [0, 1])
 (.seq (.seq (.reg 1 [⟨some 6, .move (.t 0), none, []⟩,
  ⟨some 7, .len 23 false (.t 6), none, [6]⟩,
  ⟨some 8, .move (.t 1), none, []⟩,
  ⟨some 9, .len 23 false (.t 8), none, [8]⟩,
  ⟨some 10, .bin .neq 3 (.t 7) (.t 9) 3, none, [7, 9]⟩] none [0, 1, 10])
 (.cond [0, 1] (.t 10) (.seq (.reg 2 [⟨some 4, .assign (.c (Value.bool false)), none, []⟩] none [4])
 .ret) .skip))
 k3_slices_Equal_string_string))
def a_slices_Equal_string_string : AFunc := ⟨26, [.tmp 4], b_slices_Equal_string_string⟩

def j0_api_Json_api_Json_api_Json_api_Json : IR :=
 (.reg 9 [⟨some 31, .bin .add 3 (.t 17) (.c (Value.int IntKind.i64 1)) 3, none, []⟩,
  ⟨some 17, .move (.t 31), none, [31]⟩] none [0, 1, 2, 15, 16, 17])
def k0_api_Json_api_Json_api_Json_api_Json : IR := .tail [0, 1, 2, 15, 16, 17] j0_api_Json_api_Json_api_Json_api_Json
def j1_api_Json_api_Json_api_Json_api_Json : IR :=
 (.seq (.block 1 (.seq (.reg 5 [⟨some 19, .move (.t 17), none, []⟩,
  ⟨some 20, .iaddr 24 (.sl 4) (.t 15) (.t 17), none, []⟩,
  ⟨some 21, .load 26 (some 4) (.t 20), none, []⟩,
  ⟨some 8, .alloc 26 [.v (.int .u8 0), .v (.string ⟨#[]⟩), .nil 1, .nil 4], none, []⟩,
  ⟨some 7, .assign (.t 19), none, [19]⟩,
  ⟨none, .store 26 (some 4) (.t 8) (.t 21), none, [20, 21]⟩] none [0, 1, 2, 7, 8, 15, 16, 17])
 (.seq (.reg 6 [⟨some 22, .move (.t 1), none, []⟩,
  ⟨some 23, .move (.t 7), none, [7]⟩,
  ⟨some 24, .iaddr 24 (.sl 4) (.t 22) (.t 23), none, []⟩,
  ⟨some 25, .load 26 (some 4) (.t 24), none, []⟩,
  ⟨some 9, .alloc 26 [.v (.int .u8 0), .v (.string ⟨#[]⟩), .nil 1, .nil 4], none, []⟩,
  ⟨none, .store 26 (some 4) (.t 9) (.t 25), none, [22, 23, 24, 25]⟩] none [0, 1, 2, 8, 9, 15, 16, 17])
 (.seq (.reg 7 [⟨some 26, .move (.t 2), none, []⟩,
  ⟨some 27, .load 26 (some 4) (.t 8), none, []⟩,
  ⟨some 28, .load 26 (some 4) (.t 9), none, []⟩,
  ⟨some 29, .callv [n_json_Same] (.t 26) [(.t 27), (.t 28)] [26, 26], none, [8, 9, 26, 27, 28]⟩,
  ⟨some 30, .un .not 4 (.t 29), none, [29]⟩] none [0, 1, 2, 15, 16, 17, 30])
 (.cond [0, 1, 2, 15, 16, 17] (.t 30) (.seq (.reg 8 [⟨some 6, .assign (.c (Value.bool false)), none, []⟩] none [6])
 .ret) .skip)))))
 k0_api_Json_api_Json_api_Json_api_Json)
def k1_api_Json_api_Json_api_Json_api_Json : IR := .tail [0, 1, 2, 15, 16, 17] j1_api_Json_api_Json_api_Json_api_Json
def w0_api_Json_api_Json_api_Json_api_Json : IR :=
 (.seq (.reg 4 [⟨some 18, .bin .lss 3 (.t 17) (.t 16) 3, none, []⟩] none [0, 1, 2, 15, 16, 17, 18])
 (.seq (.cond [0, 1, 2, 15, 16, 17] (.t 18) .skip (.exit 0))
 k1_api_Json_api_Json_api_Json_api_Json))
def l0_api_Json_api_Json_api_Json_api_Json : IR := .loop [0, 1, 2, 15, 16, 17] w0_api_Json_api_Json_api_Json_api_Json
def j2_api_Json_api_Json_api_Json_api_Json : IR :=
 (.seq (.reg 10 [⟨some 6, .assign (.c (Value.bool true)), none, []⟩] none [6])
 .ret)
def k2_api_Json_api_Json_api_Json_api_Json : IR := .tail [] j2_api_Json_api_Json_api_Json_api_Json
def j3_api_Json_api_Json_api_Json_api_Json : IR :=
 (.seq (.seq (.reg 3 [⟨some 15, .move (.t 0), none, []⟩,
  ⟨some 16, .len 24 false (.t 15), none, []⟩,
  ⟨some 17, .move (.c (Value.int IntKind.i64 0)), none, []⟩] none [0, 1, 2, 15, 16, 17])
 (.block 0 l0_api_Json_api_Json_api_Json_api_Json))
 k2_api_Json_api_Json_api_Json_api_Json)
def k3_api_Json_api_Json_api_Json_api_Json : IR := .tail [0, 1, 2] j3_api_Json_api_Json_api_Json_api_Json
def b_api_Json_api_Json_api_Json_api_Json : IR :=
 (.seq (.reg 0 [⟨some 6, .assign (.c (Value.bool false)), none, [6]⟩] none [0, 1, 2])
 (.seq (.seq (.reg 1 [⟨some 10, .move (.t 0), none, []⟩,
  ⟨some 11, .len 24 false (.t 10), none, [10]⟩,
  ⟨some 12, .move (.t 1), none, []⟩,
  ⟨some 13, .len 24 false (.t 12), none, [12]⟩,
  ⟨some 14, .bin .neq 3 (.t 11) (.t 13) 3, none, [11, 13]⟩] none [0, 1, 2, 14])
 (.cond [0, 1, 2] (.t 14) (.seq (.reg 2 [⟨some 6, .assign (.c (Value.bool false)), none, []⟩] none [6])
 .ret) .skip))
 k3_api_Json_api_Json_api_Json_api_Json))
def a_api_Json_api_Json_api_Json_api_Json : AFunc := ⟨32, [.tmp 6], b_api_Json_api_Json_api_Json_api_Json⟩

def b_json_Same : IR :=
 (.seq (.reg 0 [⟨some 2, .box 26 (.t 0), none, [0]⟩,
  ⟨some 3, .box 26 (.t 1), none, [1]⟩,
  ⟨some 4, .assign (.c (Value.bool false)), none, [4]⟩] none [2, 3])
 (.seq (.reg 1 [⟨some 5, .faddr 26 (.t 2) 0 0, none, []⟩,
  ⟨some 6, .load 22 none (.t 5), none, [5]⟩,
  ⟨some 7, .faddr 26 (.t 3) 0 0, none, []⟩,
  ⟨some 8, .load 22 none (.t 7), none, [7]⟩,
  ⟨some 9, .bin .eql 22 (.t 6) (.t 8) 22, none, [6, 8]⟩,
  ⟨some 10, .move (.t 9), none, [9]⟩,
  ⟨some 11, .faddr 26 (.t 2) 1 1, some (5, true), []⟩,
  ⟨some 12, .load 9 none (.t 11), some (5, true), [11]⟩,
  ⟨some 13, .faddr 26 (.t 3) 1 1, some (5, true), []⟩,
  ⟨some 14, .load 9 none (.t 13), some (5, true), [13]⟩,
  ⟨some 15, .bin .eql 9 (.t 12) (.t 14) 9, some (5, true), [12, 14]⟩,
  ⟨some 16, .pick (.t 10) (.t 15) (.c (Value.bool false)), none, [10, 15]⟩,
  ⟨some 17, .move (.t 16), none, [16]⟩,
  ⟨some 18, .faddr 26 (.t 2) 2 2, some (12, true), []⟩,
  ⟨some 19, .load 23 none (.t 18), some (12, true), []⟩,
  ⟨some 20, .faddr 26 (.t 3) 2 2, some (12, true), []⟩,
  ⟨some 21, .load 23 none (.t 20), some (12, true), []⟩,
  ⟨some 22, .call n_slices_Equal_string_string [(.t 19), (.t 21)] [23, 23], some (12, true), [18, 19, 20, 21]⟩,
  ⟨some 23, .pick (.t 17) (.t 22) (.c (Value.bool false)), none, [17, 22]⟩,
  ⟨some 24, .move (.t 23), none, [23]⟩,
  ⟨some 25, .faddr 26 (.t 2) 3 3, some (19, true), []⟩,
  ⟨some 26, .load 24 none (.t 25), some (19, true), []⟩,
  ⟨some 27, .faddr 26 (.t 3) 3 3, some (19, true), []⟩,
  ⟨some 28, .load 24 none (.t 27), some (19, true), []⟩,
  ⟨some 29, .call n_api_Json_api_Json_api_Json_api_Json [(.t 26), (.t 28), (.f n_json_Same)] [24, 24, 29], some (19, true), [2, 3, 25, 26, 27, 28]⟩,
  ⟨some 30, .pick (.t 24) (.t 29) (.c (Value.bool false)), none, [24, 29]⟩,
  ⟨some 4, .assign (.t 30), none, [30]⟩] none [4])
 .ret))
def a_json_Same : AFunc := ⟨31, [.tmp 4], b_json_Same⟩

def j0_thicketref10_Copy : IR :=
 (.reg 4 [⟨some 16, .move (.t 4), none, []⟩,
  ⟨some 17, .bin .add 3 (.t 16) (.c (Value.int IntKind.i64 1)) 3, none, [16]⟩,
  ⟨some 4, .assign (.t 17), none, [17]⟩] none [1, 2, 3, 4])
def k0_thicketref10_Copy : IR := .tail [1, 2, 3, 4] j0_thicketref10_Copy
def j1_thicketref10_Copy : IR :=
 (.seq (.block 1 (.reg 5 [⟨some 18, .faddr 26 (.t 3) 2 2, none, []⟩,
  ⟨some 19, .load 23 none (.t 18), none, []⟩,
  ⟨some 20, .faddr 26 (.t 1) 2 2, none, []⟩,
  ⟨some 21, .load 23 none (.t 20), none, []⟩,
  ⟨some 22, .move (.t 4), none, []⟩,
  ⟨some 23, .iaddr 23 (.sl 1) (.t 21) (.t 22), none, []⟩,
  ⟨some 24, .load 9 none (.t 23), none, [20, 21, 22, 23]⟩,
  ⟨some 25, .lit 23 1 [(.t 24)], none, [24]⟩,
  ⟨some 26, .append 23 23 false 1 16 (.t 19) (.t 25), none, [18, 19, 25]⟩,
  ⟨some 27, .faddr 26 (.t 3) 2 2, none, []⟩,
  ⟨none, .store 23 none (.t 27) (.t 26), none, [26, 27]⟩] (some [⟨0, []⟩, ⟨2, []⟩, ⟨4, []⟩, ⟨1, []⟩, ⟨3, []⟩, ⟨5, []⟩, ⟨6, []⟩, ⟨7, [1]⟩, ⟨8, []⟩, ⟨9, []⟩, ⟨10, []⟩]) [1, 2, 3, 4]))
 k0_thicketref10_Copy)
def k1_thicketref10_Copy : IR := .tail [1, 2, 3, 4] j1_thicketref10_Copy
def w0_thicketref10_Copy : IR :=
 (.seq (.seq (.reg 3 [⟨some 11, .move (.t 4), none, []⟩,
  ⟨some 12, .faddr 26 (.t 1) 2 2, none, []⟩,
  ⟨some 13, .load 23 none (.t 12), none, []⟩,
  ⟨some 14, .len 23 false (.t 13), none, [12, 13]⟩,
  ⟨some 15, .bin .lss 3 (.t 11) (.t 14) 3, none, [11, 14]⟩] none [1, 2, 3, 4, 15])
 (.cond [1, 2, 3, 4] (.t 15) .skip (.exit 0)))
 k1_thicketref10_Copy)
def l0_thicketref10_Copy : IR := .loop [1, 2, 3, 4] w0_thicketref10_Copy
def j2_thicketref10_Copy : IR :=
 (.reg 8 [⟨some 33, .move (.t 5), none, []⟩,
  ⟨some 34, .bin .add 3 (.t 33) (.c (Value.int IntKind.i64 1)) 3, none, [33]⟩,
  ⟨some 5, .assign (.t 34), none, [34]⟩] none [1, 2, 3, 5])
def k2_thicketref10_Copy : IR := .tail [1, 2, 3, 5] j2_thicketref10_Copy
def j3_thicketref10_Copy : IR :=
 (.seq (.block 3 (.reg 9 [⟨some 35, .faddr 26 (.t 3) 3 3, none, []⟩,
  ⟨some 36, .load 24 none (.t 35), none, []⟩,
  ⟨some 37, .faddr 26 (.t 1) 3 3, none, []⟩,
  ⟨some 38, .load 24 none (.t 37), none, []⟩,
  ⟨some 39, .move (.t 5), none, []⟩,
  ⟨some 40, .iaddr 24 (.sl 4) (.t 38) (.t 39), none, []⟩,
  ⟨some 41, .load 26 (some 4) (.t 40), none, []⟩,
  ⟨some 42, .call n_thicketref10_Copy [(.t 41)] [26], none, [37, 38, 39, 40, 41]⟩,
  ⟨some 43, .lit 24 4 [(.t 42)], none, [42]⟩,
  ⟨some 44, .append 24 24 false 4 72 (.t 36) (.t 43), none, [35, 36, 43]⟩,
  ⟨some 45, .faddr 26 (.t 3) 3 3, none, []⟩,
  ⟨none, .store 24 none (.t 45) (.t 44), none, [44, 45]⟩] (some [⟨0, []⟩, ⟨2, []⟩, ⟨4, []⟩, ⟨1, []⟩, ⟨3, []⟩, ⟨5, []⟩, ⟨6, []⟩, ⟨7, [1]⟩, ⟨8, [1]⟩, ⟨9, []⟩, ⟨10, []⟩, ⟨11, []⟩]) [1, 2, 3, 5]))
 k2_thicketref10_Copy)
def k3_thicketref10_Copy : IR := .tail [1, 2, 3, 5] j3_thicketref10_Copy
def w1_thicketref10_Copy : IR :=
 (.seq (.seq (.reg 7 [⟨some 28, .move (.t 5), none, []⟩,
  ⟨some 29, .faddr 26 (.t 1) 3 3, none, []⟩,
  ⟨some 30, .load 24 none (.t 29), none, []⟩,
  ⟨some 31, .len 24 false (.t 30), none, [29, 30]⟩,
  ⟨some 32, .bin .lss 3 (.t 28) (.t 31) 3, none, [28, 31]⟩] none [1, 2, 3, 5, 32])
 (.cond [1, 2, 3, 5] (.t 32) .skip (.exit 2)))
 k3_thicketref10_Copy)
def l1_thicketref10_Copy : IR := .loop [1, 2, 3, 5] w1_thicketref10_Copy
def j4_thicketref10_Copy : IR :=
 (.seq (.reg 10 [⟨some 46, .load 26 (some 4) (.t 3), none, []⟩,
  ⟨none, .store 26 (some 4) (.t 2) (.t 46), none, [3, 46]⟩] none [2])
 .ret)
def k4_thicketref10_Copy : IR := .tail [2, 3] j4_thicketref10_Copy
def j5_thicketref10_Copy : IR :=
 (.seq (.seq (.reg 6 [⟨some 5, .assign (.c (Value.int IntKind.i64 0)), none, []⟩] none [1, 2, 3, 5])
 (.block 2 l1_thicketref10_Copy))
 k4_thicketref10_Copy)
def k5_thicketref10_Copy : IR := .tail [1, 2, 3] j5_thicketref10_Copy
def b_thicketref10_Copy : IR :=
 (.seq (.reg 0 [⟨some 1, .box 26 (.t 0), none, [0]⟩,
  ⟨some 2, .alloc 26 [.v (.int .u8 0), .v (.string ⟨#[]⟩), .nil 1, .nil 4], none, []⟩] none [1, 2])
 (.seq (.reg 1 [⟨some 6, .faddr 26 (.t 1) 0 0, none, []⟩,
  ⟨some 7, .load 22 none (.t 6), none, [6]⟩,
  ⟨some 8, .faddr 26 (.t 1) 1 1, none, []⟩,
  ⟨some 9, .load 9 none (.t 8), none, [8]⟩,
  ⟨some 10, .build 26 [(0, 1), (1, 1), (2, 1), (3, 1)] [.v (.int .u8 0), .v (.string ⟨#[]⟩), .nil 1, .nil 4] [(0, (.t 7)), (1, (.t 9))], none, []⟩,
  ⟨some 3, .alloc 26 [.v (.int .u8 0), .v (.string ⟨#[]⟩), .nil 1, .nil 4], none, []⟩,
  ⟨none, .store 26 (some 4) (.t 3) (.t 10), none, [7, 9, 10]⟩] none [1, 2, 3])
 (.seq (.seq (.reg 2 [⟨some 4, .assign (.c (Value.int IntKind.i64 0)), none, []⟩] none [1, 2, 3, 4])
 (.block 0 l0_thicketref10_Copy))
 k5_thicketref10_Copy)))
def a_thicketref10_Copy : AFunc := ⟨47, [.cell 2 26 (some 4)], b_thicketref10_Copy⟩

def b_thicketlaw10_JsonGets : IR :=
 (.seq (.reg 0 [⟨some 3, .box 26 (.t 0), none, [0]⟩,
  ⟨some 4, .box 26 (.t 1), none, [1]⟩,
  ⟨some 6, .assign (.c (Value.bool false)), none, [6]⟩] none [2, 3, 4])
 (.seq (.reg 1 [⟨some 12, .load 26 (some 4) (.t 3), none, []⟩,
  ⟨some 13, .move (.t 2), none, []⟩,
  ⟨some 14, .call n_json_Get [(.t 12), (.t 13)] [26, 9], none, [12, 13]⟩,
  ⟨some 11, .move (.t 14), none, []⟩,
  ⟨some 15, .extr (.t 11) 0, none, []⟩,
  ⟨some 16, .extr (.t 11) 1, none, []⟩,
  ⟨some 7, .alloc 26 [.v (.int .u8 0), .v (.string ⟨#[]⟩), .nil 1, .nil 4], none, []⟩,
  ⟨none, .store 26 (some 4) (.t 7) (.t 15), none, [11, 14, 15]⟩,
  ⟨some 8, .assign (.t 16), none, [16]⟩] none [2, 3, 4, 7, 8])
 (.seq (.reg 2 [⟨some 18, .load 26 (some 4) (.t 3), none, []⟩,
  ⟨some 19, .move (.t 2), none, [2]⟩,
  ⟨some 20, .call n_thicketref10_Get [(.t 18), (.t 19)] [26, 9], none, [18, 19]⟩,
  ⟨some 17, .move (.t 20), none, []⟩,
  ⟨some 21, .extr (.t 17) 0, none, []⟩,
  ⟨some 22, .extr (.t 17) 1, none, []⟩,
  ⟨some 9, .alloc 26 [.v (.int .u8 0), .v (.string ⟨#[]⟩), .nil 1, .nil 4], none, []⟩,
  ⟨none, .store 26 (some 4) (.t 9) (.t 21), none, [17, 20, 21]⟩,
  ⟨some 10, .assign (.t 22), none, [22]⟩] none [3, 4, 7, 8, 9, 10])
 (.seq (.reg 3 [⟨some 23, .load 26 (some 4) (.t 7), none, []⟩,
  ⟨some 24, .load 26 (some 4) (.t 9), none, []⟩,
  ⟨some 25, .call n_thicketref10_Same [(.t 23), (.t 24)] [26, 26], none, [7, 9, 23, 24]⟩,
  ⟨some 26, .move (.t 25), none, [25]⟩,
  ⟨some 27, .move (.t 8), some (3, true), [8]⟩,
  ⟨some 28, .move (.t 10), some (3, true), [10]⟩,
  ⟨some 29, .eqs false 4 (.one .bool) (.t 27) (.t 28) 4, some (3, true), [27, 28]⟩,
  ⟨some 30, .pick (.t 26) (.t 29) (.c (Value.bool false)), none, [26, 29]⟩,
  ⟨some 31, .move (.t 30), none, [30]⟩,
  ⟨some 32, .load 26 (some 4) (.t 3), some (8, true), []⟩,
  ⟨some 33, .load 26 (some 4) (.t 4), some (8, true), []⟩,
  ⟨some 34, .call n_json_Same [(.t 32), (.t 33)] [26, 26], some (8, true), [32, 33]⟩,
  ⟨some 35, .load 26 (some 4) (.t 3), some (8, true), []⟩,
  ⟨some 36, .load 26 (some 4) (.t 4), some (8, true), []⟩,
  ⟨some 37, .call n_thicketref10_Same [(.t 35), (.t 36)] [26, 26], some (8, true), [4, 35, 36]⟩,
  ⟨some 38, .eqs false 4 (.one .bool) (.t 34) (.t 37) 4, some (8, true), [34, 37]⟩,
  ⟨some 39, .pick (.t 31) (.t 38) (.c (Value.bool false)), none, [31, 38]⟩,
  ⟨some 40, .move (.t 39), none, [39]⟩,
  ⟨some 41, .load 26 (some 4) (.t 3), some (17, true), []⟩,
  ⟨some 42, .load 26 (some 4) (.t 3), some (17, true), []⟩,
  ⟨some 43, .call n_thicketref10_Copy [(.t 42)] [26], some (17, true), [42]⟩,
  ⟨some 44, .call n_json_Same [(.t 41), (.t 43)] [26, 26], some (17, true), [41, 43]⟩,
  ⟨some 45, .pick (.t 40) (.t 44) (.c (Value.bool false)), none, [40, 44]⟩,
  ⟨some 46, .move (.t 45), none, [45]⟩,
  ⟨some 47, .load 26 (some 4) (.t 3), some (23, true), []⟩,
  ⟨some 48, .call n_json_Copy [(.t 47)] [26], some (23, true), [47]⟩,
  ⟨some 49, .load 26 (some 4) (.t 3), some (23, true), []⟩,
  ⟨some 50, .call n_thicketref10_Same [(.t 48), (.t 49)] [26, 26], some (23, true), [3, 48, 49]⟩,
  ⟨some 51, .pick (.t 46) (.t 50) (.c (Value.bool false)), none, [46, 50]⟩,
  ⟨some 6, .assign (.t 51), none, [51]⟩] (some [⟨0, []⟩, ⟨1, []⟩, ⟨2, []⟩, ⟨3, []⟩, ⟨4, []⟩, ⟨5, []⟩, ⟨6, []⟩, ⟨7, []⟩, ⟨8, []⟩, ⟨9, []⟩, ⟨10, []⟩, ⟨12, []⟩, ⟨13, []⟩, ⟨11, [12, 13]⟩, ⟨14, []⟩, ⟨15, []⟩, ⟨16, []⟩, ⟨17, []⟩, ⟨18, []⟩, ⟨19, []⟩, ⟨20, [18]⟩, ⟨21, []⟩, ⟨22, []⟩, ⟨23, []⟩, ⟨24, []⟩, ⟨26, []⟩, ⟨25, [26]⟩, ⟨27, []⟩, ⟨28, []⟩, ⟨29, []⟩]) [6])
 .ret))))
def a_thicketlaw10_JsonGets : AFunc := ⟨52, [.tmp 6], b_thicketlaw10_JsonGets⟩

def fnTab : List (FuncId × AFunc) := [(n_json_Copy, a_json_Copy), (n_slices_Index_string_string, a_slices_Index_string_string), (n_json_Get, a_json_Get), (n_thicketref10_Get, a_thicketref10_Get), (n_thicketref10_Same, a_thicketref10_Same), (n_slices_Equal_string_string, a_slices_Equal_string_string), (n_api_Json_api_Json_api_Json_api_Json, a_api_Json_api_Json_api_Json_api_Json), (n_json_Same, a_json_Same), (n_thicketref10_Copy, a_thicketref10_Copy), (n_thicketlaw10_JsonGets, a_thicketlaw10_JsonGets)]
def modeTab : List (FuncId × List Bool) := []
def G (n : Nat) : List PV := match n with  | _ => []
def T : Tab := { fns := fun f => fnTab.lookup f, ext := fun _ _ => none, modes := fun f => (modeTab.lookup f).getD [], glob := G }
theorem fn_json_Copy : T.fns n_json_Copy = some a_json_Copy := rfl
@[simp] theorem tl0_json_Copy (e : Env) : Exec T k0_json_Copy e = Exec T j0_json_Copy (e.keep [1, 2, 3, 17, 18, 19, 20]) := Exec_tail _ _ _
@[simp] theorem tl1_json_Copy (e : Env) : Exec T k1_json_Copy e = Exec T j1_json_Copy (e.keep [1, 2, 3, 17, 18, 19, 20]) := Exec_tail _ _ _
@[simp] theorem tl2_json_Copy (e : Env) : Exec T k2_json_Copy e = Exec T j2_json_Copy (e.keep [2, 3]) := Exec_tail _ _ _
theorem ex0_json_Copy (e : Env) : Exec T l0_json_Copy e = andThen (Exec T w0_json_Copy (e.keep [1, 2, 3, 17, 18, 19, 20])) (Exec T l0_json_Copy) := Exec_loop _ _ _
theorem run_json_Copy (xs : List PV) : Cinf T n_json_Copy xs = Run T a_json_Copy xs := Cinf_eq rfl fn_json_Copy
@[simp] theorem md_json_Copy : T.modes n_json_Copy = [] := rfl
@[simp] theorem call_json_Copy (C : Oracle) (e : Env) (xs : List PV) : call T C e n_json_Copy xs = callK1 C n_json_Copy xs (moves e [] [] xs) := call_modes md_json_Copy
theorem fn_slices_Index_string_string : T.fns n_slices_Index_string_string = some a_slices_Index_string_string := rfl
@[simp] theorem tl0_slices_Index_string_string (e : Env) : Exec T k0_slices_Index_string_string e = Exec T j0_slices_Index_string_string (e.keep [0, 1, 7, 8]) := Exec_tail _ _ _
@[simp] theorem tl1_slices_Index_string_string (e : Env) : Exec T k1_slices_Index_string_string e = Exec T j1_slices_Index_string_string (e.keep [0, 1, 7, 8]) := Exec_tail _ _ _
@[simp] theorem tl2_slices_Index_string_string (e : Env) : Exec T k2_slices_Index_string_string e = Exec T j2_slices_Index_string_string (e.keep []) := Exec_tail _ _ _
theorem ex0_slices_Index_string_string (e : Env) : Exec T l0_slices_Index_string_string e = andThen (Exec T w0_slices_Index_string_string (e.keep [0, 1, 7, 8])) (Exec T l0_slices_Index_string_string) := Exec_loop _ _ _
theorem run_slices_Index_string_string (xs : List PV) : Cinf T n_slices_Index_string_string xs = Run T a_slices_Index_string_string xs := Cinf_eq rfl fn_slices_Index_string_string
@[simp] theorem md_slices_Index_string_string : T.modes n_slices_Index_string_string = [] := rfl
@[simp] theorem call_slices_Index_string_string (C : Oracle) (e : Env) (xs : List PV) : call T C e n_slices_Index_string_string xs = callK1 C n_slices_Index_string_string xs (moves e [] [] xs) := call_modes md_slices_Index_string_string
theorem fn_json_Get : T.fns n_json_Get = some a_json_Get := rfl
@[simp] theorem tl0_json_Get (e : Env) : Exec T k0_json_Get e = Exec T j0_json_Get (e.keep [4]) := Exec_tail _ _ _
@[simp] theorem tl1_json_Get (e : Env) : Exec T k1_json_Get e = Exec T j1_json_Get (e.keep [1, 2, 4]) := Exec_tail _ _ _
theorem run_json_Get (xs : List PV) : Cinf T n_json_Get xs = Run T a_json_Get xs := Cinf_eq rfl fn_json_Get
@[simp] theorem md_json_Get : T.modes n_json_Get = [] := rfl
@[simp] theorem call_json_Get (C : Oracle) (e : Env) (xs : List PV) : call T C e n_json_Get xs = callK1 C n_json_Get xs (moves e [] [] xs) := call_modes md_json_Get
theorem fn_thicketref10_Get : T.fns n_thicketref10_Get = some a_thicketref10_Get := rfl
@[simp] theorem tl0_thicketref10_Get (e : Env) : Exec T k0_thicketref10_Get e = Exec T j0_thicketref10_Get (e.keep [2, 4, 6]) := Exec_tail _ _ _
@[simp] theorem tl1_thicketref10_Get (e : Env) : Exec T k1_thicketref10_Get e = Exec T j1_thicketref10_Get (e.keep [1, 2, 4, 6]) := Exec_tail _ _ _
@[simp] theorem tl2_thicketref10_Get (e : Env) : Exec T k2_thicketref10_Get e = Exec T j2_thicketref10_Get (e.keep [1, 2, 4, 6]) := Exec_tail _ _ _
@[simp] theorem tl3_thicketref10_Get (e : Env) : Exec T k3_thicketref10_Get e = Exec T j3_thicketref10_Get (e.keep [4]) := Exec_tail _ _ _
theorem ex0_thicketref10_Get (e : Env) : Exec T l0_thicketref10_Get e = andThen (Exec T w0_thicketref10_Get (e.keep [1, 2, 4, 6])) (Exec T l0_thicketref10_Get) := Exec_loop _ _ _
theorem run_thicketref10_Get (xs : List PV) : Cinf T n_thicketref10_Get xs = Run T a_thicketref10_Get xs := Cinf_eq rfl fn_thicketref10_Get
@[simp] theorem md_thicketref10_Get : T.modes n_thicketref10_Get = [] := rfl
@[simp] theorem call_thicketref10_Get (C : Oracle) (e : Env) (xs : List PV) : call T C e n_thicketref10_Get xs = callK1 C n_thicketref10_Get xs (moves e [] [] xs) := call_modes md_thicketref10_Get
theorem fn_thicketref10_Same : T.fns n_thicketref10_Same = some a_thicketref10_Same := rfl
@[simp] theorem tl0_thicketref10_Same (e : Env) : Exec T k0_thicketref10_Same e = Exec T j0_thicketref10_Same (e.keep [2, 3, 5]) := Exec_tail _ _ _
@[simp] theorem tl1_thicketref10_Same (e : Env) : Exec T k1_thicketref10_Same e = Exec T j1_thicketref10_Same (e.keep [2, 3, 5]) := Exec_tail _ _ _
@[simp] theorem tl2_thicketref10_Same (e : Env) : Exec T k2_thicketref10_Same e = Exec T j2_thicketref10_Same (e.keep [2, 3, 6]) := Exec_tail _ _ _
@[simp] theorem tl3_thicketref10_Same (e : Env) : Exec T k3_thicketref10_Same e = Exec T j3_thicketref10_Same (e.keep [2, 3, 6]) := Exec_tail _ _ _
@[simp] theorem tl4_thicketref10_Same (e : Env) : Exec T k4_thicketref10_Same e = Exec T j4_thicketref10_Same (e.keep []) := Exec_tail _ _ _
@[simp] theorem tl5_thicketref10_Same (e : Env) : Exec T k5_thicketref10_Same e = Exec T j5_thicketref10_Same (e.keep [2, 3]) := Exec_tail _ _ _
@[simp] theorem tl6_thicketref10_Same (e : Env) : Exec T k6_thicketref10_Same e = Exec T j6_thicketref10_Same (e.keep [2, 3]) := Exec_tail _ _ _
theorem ex0_thicketref10_Same (e : Env) : Exec T l0_thicketref10_Same e = andThen (Exec T w0_thicketref10_Same (e.keep [2, 3, 5])) (Exec T l0_thicketref10_Same) := Exec_loop _ _ _
theorem ex1_thicketref10_Same (e : Env) : Exec T l1_thicketref10_Same e = andThen (Exec T w1_thicketref10_Same (e.keep [2, 3, 6])) (Exec T l1_thicketref10_Same) := Exec_loop _ _ _
theorem run_thicketref10_Same (xs : List PV) : Cinf T n_thicketref10_Same xs = Run T a_thicketref10_Same xs := Cinf_eq rfl fn_thicketref10_Same
@[simp] theorem md_thicketref10_Same : T.modes n_thicketref10_Same = [] := rfl
@[simp] theorem call_thicketref10_Same (C : Oracle) (e : Env) (xs : List PV) : call T C e n_thicketref10_Same xs = callK1 C n_thicketref10_Same xs (moves e [] [] xs) := call_modes md_thicketref10_Same
theorem fn_slices_Equal_string_string : T.fns n_slices_Equal_string_string = some a_slices_Equal_string_string := rfl
@[simp] theorem tl0_slices_Equal_string_string (e : Env) : Exec T k0_slices_Equal_string_string e = Exec T j0_slices_Equal_string_string (e.keep [0, 1, 12, 13]) := Exec_tail _ _ _
@[simp] theorem tl1_slices_Equal_string_string (e : Env) : Exec T k1_slices_Equal_string_string e = Exec T j1_slices_Equal_string_string (e.keep [0, 1, 12, 13]) := Exec_tail _ _ _
@[simp] theorem tl2_slices_Equal_string_string (e : Env) : Exec T k2_slices_Equal_string_string e = Exec T j2_slices_Equal_string_string (e.keep []) := Exec_tail _ _ _
@[simp] theorem tl3_slices_Equal_string_string (e : Env) : Exec T k3_slices_Equal_string_string e = Exec T j3_slices_Equal_string_string (e.keep [0, 1]) := Exec_tail _ _ _
theorem ex0_slices_Equal_string_string (e : Env) : Exec T l0_slices_Equal_string_string e = andThen (Exec T w0_slices_Equal_string_string (e.keep [0, 1, 12, 13])) (Exec T l0_slices_Equal_string_string) := Exec_loop _ _ _
theorem run_slices_Equal_string_string (xs : List PV) : Cinf T n_slices_Equal_string_string xs = Run T a_slices_Equal_string_string xs := Cinf_eq rfl fn_slices_Equal_string_string
@[simp] theorem md_slices_Equal_string_string : T.modes n_slices_Equal_string_string = [] := rfl
@[simp] theorem call_slices_Equal_string_string (C : Oracle) (e : Env) (xs : List PV) : call T C e n_slices_Equal_string_string xs = callK1 C n_slices_Equal_string_string xs (moves e [] [] xs) := call_modes md_slices_Equal_string_string
theorem fn_api_Json_api_Json_api_Json_api_Json : T.fns n_api_Json_api_Json_api_Json_api_Json = some a_api_Json_api_Json_api_Json_api_Json := rfl
@[simp] theorem tl0_api_Json_api_Json_api_Json_api_Json (e : Env) : Exec T k0_api_Json_api_Json_api_Json_api_Json e = Exec T j0_api_Json_api_Json_api_Json_api_Json (e.keep [0, 1, 2, 15, 16, 17]) := Exec_tail _ _ _
@[simp] theorem tl1_api_Json_api_Json_api_Json_api_Json (e : Env) : Exec T k1_api_Json_api_Json_api_Json_api_Json e = Exec T j1_api_Json_api_Json_api_Json_api_Json (e.keep [0, 1, 2, 15, 16, 17]) := Exec_tail _ _ _
@[simp] theorem tl2_api_Json_api_Json_api_Json_api_Json (e : Env) : Exec T k2_api_Json_api_Json_api_Json_api_Json e = Exec T j2_api_Json_api_Json_api_Json_api_Json (e.keep []) := Exec_tail _ _ _
@[simp] theorem tl3_api_Json_api_Json_api_Json_api_Json (e : Env) : Exec T k3_api_Json_api_Json_api_Json_api_Json e = Exec T j3_api_Json_api_Json_api_Json_api_Json (e.keep [0, 1, 2]) := Exec_tail _ _ _
theorem ex0_api_Json_api_Json_api_Json_api_Json (e : Env) : Exec T l0_api_Json_api_Json_api_Json_api_Json e = andThen (Exec T w0_api_Json_api_Json_api_Json_api_Json (e.keep [0, 1, 2, 15, 16, 17])) (Exec T l0_api_Json_api_Json_api_Json_api_Json) := Exec_loop _ _ _
theorem run_api_Json_api_Json_api_Json_api_Json (xs : List PV) : Cinf T n_api_Json_api_Json_api_Json_api_Json xs = Run T a_api_Json_api_Json_api_Json_api_Json xs := Cinf_eq rfl fn_api_Json_api_Json_api_Json_api_Json
@[simp] theorem md_api_Json_api_Json_api_Json_api_Json : T.modes n_api_Json_api_Json_api_Json_api_Json = [] := rfl
@[simp] theorem call_api_Json_api_Json_api_Json_api_Json (C : Oracle) (e : Env) (xs : List PV) : call T C e n_api_Json_api_Json_api_Json_api_Json xs = callK1 C n_api_Json_api_Json_api_Json_api_Json xs (moves e [] [] xs) := call_modes md_api_Json_api_Json_api_Json_api_Json
theorem fn_json_Same : T.fns n_json_Same = some a_json_Same := rfl
theorem run_json_Same (xs : List PV) : Cinf T n_json_Same xs = Run T a_json_Same xs := Cinf_eq rfl fn_json_Same
@[simp] theorem md_json_Same : T.modes n_json_Same = [] := rfl
@[simp] theorem call_json_Same (C : Oracle) (e : Env) (xs : List PV) : call T C e n_json_Same xs = callK1 C n_json_Same xs (moves e [] [] xs) := call_modes md_json_Same
theorem fn_thicketref10_Copy : T.fns n_thicketref10_Copy = some a_thicketref10_Copy := rfl
@[simp] theorem tl0_thicketref10_Copy (e : Env) : Exec T k0_thicketref10_Copy e = Exec T j0_thicketref10_Copy (e.keep [1, 2, 3, 4]) := Exec_tail _ _ _
@[simp] theorem tl1_thicketref10_Copy (e : Env) : Exec T k1_thicketref10_Copy e = Exec T j1_thicketref10_Copy (e.keep [1, 2, 3, 4]) := Exec_tail _ _ _
@[simp] theorem tl2_thicketref10_Copy (e : Env) : Exec T k2_thicketref10_Copy e = Exec T j2_thicketref10_Copy (e.keep [1, 2, 3, 5]) := Exec_tail _ _ _
@[simp] theorem tl3_thicketref10_Copy (e : Env) : Exec T k3_thicketref10_Copy e = Exec T j3_thicketref10_Copy (e.keep [1, 2, 3, 5]) := Exec_tail _ _ _
@[simp] theorem tl4_thicketref10_Copy (e : Env) : Exec T k4_thicketref10_Copy e = Exec T j4_thicketref10_Copy (e.keep [2, 3]) := Exec_tail _ _ _
@[simp] theorem tl5_thicketref10_Copy (e : Env) : Exec T k5_thicketref10_Copy e = Exec T j5_thicketref10_Copy (e.keep [1, 2, 3]) := Exec_tail _ _ _
theorem ex0_thicketref10_Copy (e : Env) : Exec T l0_thicketref10_Copy e = andThen (Exec T w0_thicketref10_Copy (e.keep [1, 2, 3, 4])) (Exec T l0_thicketref10_Copy) := Exec_loop _ _ _
theorem ex1_thicketref10_Copy (e : Env) : Exec T l1_thicketref10_Copy e = andThen (Exec T w1_thicketref10_Copy (e.keep [1, 2, 3, 5])) (Exec T l1_thicketref10_Copy) := Exec_loop _ _ _
theorem run_thicketref10_Copy (xs : List PV) : Cinf T n_thicketref10_Copy xs = Run T a_thicketref10_Copy xs := Cinf_eq rfl fn_thicketref10_Copy
@[simp] theorem md_thicketref10_Copy : T.modes n_thicketref10_Copy = [] := rfl
@[simp] theorem call_thicketref10_Copy (C : Oracle) (e : Env) (xs : List PV) : call T C e n_thicketref10_Copy xs = callK1 C n_thicketref10_Copy xs (moves e [] [] xs) := call_modes md_thicketref10_Copy
theorem fn_thicketlaw10_JsonGets : T.fns n_thicketlaw10_JsonGets = some a_thicketlaw10_JsonGets := rfl
theorem run_thicketlaw10_JsonGets (xs : List PV) : Cinf T n_thicketlaw10_JsonGets xs = Run T a_thicketlaw10_JsonGets xs := Cinf_eq rfl fn_thicketlaw10_JsonGets
@[simp] theorem md_thicketlaw10_JsonGets : T.modes n_thicketlaw10_JsonGets = [] := rfl
@[simp] theorem call_thicketlaw10_JsonGets (C : Oracle) (e : Env) (xs : List PV) : call T C e n_thicketlaw10_JsonGets xs = callK1 C n_thicketlaw10_JsonGets xs (moves e [] [] xs) := call_modes md_thicketlaw10_JsonGets
end Go.AM.F
