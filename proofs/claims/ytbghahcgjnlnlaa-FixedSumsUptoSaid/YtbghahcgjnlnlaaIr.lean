/- The functions of the program in the abstract machine's form, printed by a program of the session's own (ir.py); Lean checks them against the program. No conditions. -/
import Derived.Test.YtbghahcgjnlnlaaAmSim
namespace Go.AM.F
open Go Go.AM
set_option maxRecDepth 100000

abbrev n_thicketlaw04_FixedSums : FuncId := 3
abbrev n_fixed_Sum : FuncId := 5
abbrev n_thicketref04_Sum : FuncId := 6
abbrev n_fixed_Add : FuncId := 7
abbrev n_thicketlaw04_same : FuncId := 8
abbrev n_bits_Add64 : FuncId := 11
abbrev n_thicketref04_amount : FuncId := 12
abbrev n_thicketref04_signed : FuncId := 13
def j0_fixed_Sum : IR :=
 (.reg 10 [⟨some 32, .bin .add 3 (.t 12) (.c (Value.int IntKind.i64 1)) 3, none⟩,
  ⟨some 12, .move (.t 32), none⟩] none [0, 4, 5, 10, 11, 12])
def k0_fixed_Sum : IR := .tail [0, 4, 5, 10, 11, 12] j0_fixed_Sum
def j1_fixed_Sum : IR :=
 (.seq (.block 1 (.seq (.reg 4 [⟨some 14, .iaddr 22 (.sl 1) (.t 10) (.t 12), none⟩,
  ⟨some 15, .load 2 none (.t 14), none⟩,
  ⟨some 7, .assign (.t 15), none⟩] none [0, 4, 5, 7, 10, 11, 12])
 (.seq (.reg 5 [⟨some 17, .move (.t 5), none⟩,
  ⟨some 18, .move (.t 7), none⟩,
  ⟨some 19, .conv 2 31 (.int .u64) (.t 18), none⟩,
  ⟨some 20, .ext n_bits_Add64 .add64 [(.t 17), (.t 19), (.c (Value.int IntKind.u64 0))] [31, 31, 31], none⟩,
  ⟨some 16, .move (.t 20), none⟩,
  ⟨some 21, .extr (.t 16) 0, none⟩,
  ⟨some 22, .extr (.t 16) 1, none⟩,
  ⟨some 8, .assign (.t 21), none⟩,
  ⟨some 9, .assign (.t 22), none⟩] none [0, 4, 7, 8, 9, 10, 11, 12])
 (.seq (.reg 6 [⟨some 23, .move (.t 8), none⟩,
  ⟨some 5, .assign (.t 23), none⟩] none [0, 4, 5, 7, 9, 10, 11, 12])
 (.seq (.reg 7 [⟨some 24, .move (.t 4), none⟩,
  ⟨some 25, .move (.t 9), none⟩,
  ⟨some 26, .conv 31 2 (.int .i64) (.t 25), none⟩,
  ⟨some 27, .bin .add 2 (.t 24) (.t 26) 2, none⟩,
  ⟨some 4, .assign (.t 27), none⟩] none [0, 4, 5, 7, 10, 11, 12])
 (.seq (.reg 8 [⟨some 28, .move (.t 7), none⟩,
  ⟨some 29, .bin .lss 2 (.t 28) (.c (Value.int IntKind.i64 0)) 2, none⟩] none [0, 4, 5, 10, 11, 12, 29])
 (.cond [0, 4, 5, 10, 11, 12] (.t 29) (.reg 9 [⟨some 30, .move (.t 4), none⟩,
  ⟨some 31, .bin .sub 2 (.t 30) (.c (Value.int IntKind.i64 1)) 2, none⟩,
  ⟨some 4, .assign (.t 31), none⟩] none [0, 4, 5, 10, 11, 12]) .skip)))))))
 k0_fixed_Sum)
def k1_fixed_Sum : IR := .tail [0, 4, 5, 10, 11, 12] j1_fixed_Sum
def w0_fixed_Sum : IR :=
 (.seq (.reg 3 [⟨some 13, .bin .lss 3 (.t 12) (.t 11) 3, none⟩] none [0, 4, 5, 10, 11, 12, 13])
 (.seq (.cond [0, 4, 5, 10, 11, 12] (.t 13) .skip (.exit 0))
 k1_fixed_Sum))
def l0_fixed_Sum : IR := .loop [0, 4, 5, 10, 11, 12] w0_fixed_Sum
def j2_fixed_Sum : IR :=
 (.seq (.reg 13 [⟨some 2, .assign (.c (Value.int IntKind.i64 0)), none⟩,
  ⟨some 3, .assign (.c (Value.int IntKind.i64 41)), none⟩] none [2, 3])
 .ret)
def k2_fixed_Sum : IR := .tail [] j2_fixed_Sum
def j3_fixed_Sum : IR :=
 (.seq (.seq (.reg 11 [⟨some 33, .move (.t 4), none⟩,
  ⟨some 34, .bin .eql 2 (.t 33) (.c (Value.int IntKind.i64 0)) 2, none⟩,
  ⟨some 35, .move (.t 34), none⟩,
  ⟨some 36, .move (.t 5), some (2, true)⟩,
  ⟨some 37, .bin .lss 31 (.t 36) (.c (Value.int IntKind.u64 9223372036854775808)) 31, some (2, true)⟩,
  ⟨some 38, .pick (.t 35) (.t 37) (.c (Value.bool false)), none⟩,
  ⟨some 39, .move (.t 38), none⟩,
  ⟨some 40, .move (.t 4), some (6, false)⟩,
  ⟨some 41, .bin .eql 2 (.t 40) (.c (Value.int IntKind.i64 (-1))) 2, some (6, false)⟩,
  ⟨some 42, .move (.t 41), some (6, false)⟩,
  ⟨some 43, .move (.t 5), some (9, true)⟩,
  ⟨some 44, .bin .geq 31 (.t 43) (.c (Value.int IntKind.u64 9223372036854775808)) 31, some (9, true)⟩,
  ⟨some 45, .pick (.t 42) (.t 44) (.c (Value.bool false)), some (6, false)⟩,
  ⟨some 46, .pick (.t 39) (.c (Value.bool true)) (.t 45), none⟩] none [5, 46])
 (.cond [5] (.t 46) (.seq (.reg 12 [⟨some 47, .move (.t 5), none⟩,
  ⟨some 48, .conv 31 2 (.int .i64) (.t 47), none⟩,
  ⟨some 2, .assign (.t 48), none⟩,
  ⟨some 3, .assign (.c (Value.int IntKind.i64 0)), none⟩] none [2, 3])
 .ret) .skip))
 k2_fixed_Sum)
def k3_fixed_Sum : IR := .tail [4, 5] j3_fixed_Sum
def b_fixed_Sum : IR :=
 (.seq (.reg 0 [⟨some 2, .assign (.c (Value.int IntKind.i64 0)), none⟩,
  ⟨some 3, .assign (.c (Value.int IntKind.i64 0)), none⟩] none [0])
 (.seq (.reg 1 [⟨some 4, .assign (.c (Value.int IntKind.i64 0)), none⟩,
  ⟨some 5, .assign (.c (Value.int IntKind.u64 0)), none⟩] none [0, 4, 5])
 (.seq (.seq (.reg 2 [⟨some 10, .move (.t 0), none⟩,
  ⟨some 11, .len 22 false (.t 10), none⟩,
  ⟨some 12, .move (.c (Value.int IntKind.i64 0)), none⟩] none [0, 4, 5, 10, 11, 12])
 (.block 0 l0_fixed_Sum))
 k3_fixed_Sum)))
def a_fixed_Sum : AFunc := ⟨49, [.tmp 2, .tmp 3], b_fixed_Sum⟩

def j0_thicketref04_amount : IR :=
 (.seq (.reg 3 [⟨some 8, .move (.t 0), none⟩,
  ⟨some 9, .conv 2 31 (.int .u64) (.t 8), none⟩,
  ⟨some 2, .assign (.t 9), none⟩] none [2])
 .ret)
def k0_thicketref04_amount : IR := .tail [0] j0_thicketref04_amount
def b_thicketref04_amount : IR :=
 (.seq (.reg 0 [⟨some 2, .assign (.c (Value.int IntKind.u64 0)), none⟩] none [0])
 (.seq (.seq (.reg 1 [⟨some 3, .move (.t 0), none⟩,
  ⟨some 4, .bin .lss 2 (.t 3) (.c (Value.int IntKind.i64 0)) 2, none⟩] none [0, 4])
 (.cond [0] (.t 4) (.seq (.reg 2 [⟨some 5, .move (.t 0), none⟩,
  ⟨some 6, .conv 2 31 (.int .u64) (.t 5), none⟩,
  ⟨some 7, .un .neg 31 (.t 6), none⟩,
  ⟨some 2, .assign (.t 7), none⟩] none [2])
 .ret) .skip))
 k0_thicketref04_amount))
def a_thicketref04_amount : AFunc := ⟨10, [.tmp 2], b_thicketref04_amount⟩

def j0_thicketref04_signed : IR :=
 (.seq (.reg 3 [⟨some 14, .move (.t 1), none⟩,
  ⟨some 15, .conv 31 2 (.int .i64) (.t 14), none⟩,
  ⟨some 16, .move (.t 1), none⟩,
  ⟨some 17, .bin .lss 31 (.t 16) (.c (Value.int IntKind.u64 9223372036854775808)) 31, none⟩,
  ⟨some 4, .assign (.t 15), none⟩,
  ⟨some 5, .assign (.t 17), none⟩] none [4, 5])
 .ret)
def k0_thicketref04_signed : IR := .tail [1] j0_thicketref04_signed
def b_thicketref04_signed : IR :=
 (.seq (.reg 0 [⟨some 4, .assign (.c (Value.int IntKind.i64 0)), none⟩,
  ⟨some 5, .assign (.c (Value.bool false)), none⟩] none [0, 1])
 (.seq (.seq (.reg 1 [⟨some 6, .move (.t 0), none⟩,
  ⟨some 7, .move (.t 6), none⟩,
  ⟨some 8, .move (.t 1), some (1, true)⟩,
  ⟨some 9, .bin .leq 31 (.t 8) (.c (Value.int IntKind.u64 9223372036854775808)) 31, some (1, true)⟩,
  ⟨some 10, .pick (.t 7) (.t 9) (.c (Value.bool false)), none⟩] none [1, 10])
 (.cond [1] (.t 10) (.seq (.reg 2 [⟨some 11, .move (.t 1), none⟩,
  ⟨some 12, .conv 31 2 (.int .i64) (.t 11), none⟩,
  ⟨some 13, .un .neg 2 (.t 12), none⟩,
  ⟨some 4, .assign (.t 13), none⟩,
  ⟨some 5, .assign (.c (Value.bool true)), none⟩] none [4, 5])
 .ret) .skip))
 k0_thicketref04_signed))
def a_thicketref04_signed : AFunc := ⟨18, [.tmp 4, .tmp 5], b_thicketref04_signed⟩

def j0_thicketref04_Sum : IR :=
 (.seq (.reg 8 [⟨some 24, .move (.t 0), none⟩,
  ⟨some 25, .move (.t 6), none⟩,
  ⟨some 26, .iaddr 22 (.sl 1) (.t 24) (.t 25), none⟩,
  ⟨some 27, .load 2 none (.t 26), none⟩,
  ⟨some 28, .call n_thicketref04_amount [(.t 27)] [2], none⟩,
  ⟨some 8, .assign (.t 28), none⟩] none [0, 4, 5, 6, 7, 8])
 (.seq (.reg 9 [⟨some 29, .move (.t 7), none⟩,
  ⟨some 30, .move (.t 7), none⟩,
  ⟨some 31, .iaddr 34 (.arr 2 1) (.t 4) (.t 30), none⟩,
  ⟨some 32, .load 31 none (.t 31), none⟩,
  ⟨some 33, .move (.t 8), none⟩,
  ⟨some 34, .bin .add 31 (.t 32) (.t 33) 31, none⟩,
  ⟨some 35, .iaddr 34 (.arr 2 1) (.t 4) (.t 29), none⟩,
  ⟨none, .store 31 none (.t 35) (.t 34), none⟩] none [0, 4, 5, 6, 7, 8])
 (.seq (.reg 10 [⟨some 36, .move (.t 7), none⟩,
  ⟨some 37, .iaddr 34 (.arr 2 1) (.t 4) (.t 36), none⟩,
  ⟨some 38, .load 31 none (.t 37), none⟩,
  ⟨some 39, .move (.t 8), none⟩,
  ⟨some 40, .bin .lss 31 (.t 38) (.t 39) 31, none⟩] none [0, 4, 5, 6, 7, 40])
 (.cond [0, 4, 5, 6, 7] (.t 40) (.reg 11 [⟨some 41, .move (.t 7), none⟩,
  ⟨some 42, .iaddr 34 (.arr 2 1) (.t 5) (.t 41), none⟩,
  ⟨some 43, .load 31 none (.t 42), none⟩,
  ⟨some 44, .bin .add 31 (.t 43) (.c (Value.int IntKind.u64 1)) 31, none⟩,
  ⟨some 45, .iaddr 34 (.arr 2 1) (.t 5) (.t 41), none⟩,
  ⟨none, .store 31 none (.t 45) (.t 44), none⟩] none [0, 4, 5, 6]) .skip))))
def k0_thicketref04_Sum : IR := .tail [0, 4, 5, 6, 7] j0_thicketref04_Sum
def j1_thicketref04_Sum : IR :=
 (.reg 4 [⟨some 17, .move (.t 6), none⟩,
  ⟨some 18, .bin .add 3 (.t 17) (.c (Value.int IntKind.i64 1)) 3, none⟩,
  ⟨some 6, .assign (.t 18), none⟩] none [0, 4, 5, 6])
def k1_thicketref04_Sum : IR := .tail [0, 4, 5, 6] j1_thicketref04_Sum
def j2_thicketref04_Sum : IR :=
 (.seq (.block 1 (.seq (.reg 5 [⟨some 7, .assign (.c (Value.int IntKind.i64 0)), none⟩] none [0, 4, 5, 6, 7])
 (.seq (.seq (.reg 6 [⟨some 19, .move (.t 0), none⟩,
  ⟨some 20, .move (.t 6), none⟩,
  ⟨some 21, .iaddr 22 (.sl 1) (.t 19) (.t 20), none⟩,
  ⟨some 22, .load 2 none (.t 21), none⟩,
  ⟨some 23, .bin .lss 2 (.t 22) (.c (Value.int IntKind.i64 0)) 2, none⟩] none [0, 4, 5, 6, 7, 23])
 (.cond [0, 4, 5, 6, 7] (.t 23) (.reg 7 [⟨some 7, .assign (.c (Value.int IntKind.i64 1)), none⟩] none [0, 4, 5, 6, 7]) .skip))
 k0_thicketref04_Sum)))
 k1_thicketref04_Sum)
def k2_thicketref04_Sum : IR := .tail [0, 4, 5, 6] j2_thicketref04_Sum
def w0_thicketref04_Sum : IR :=
 (.seq (.seq (.reg 3 [⟨some 13, .move (.t 6), none⟩,
  ⟨some 14, .move (.t 0), none⟩,
  ⟨some 15, .len 22 false (.t 14), none⟩,
  ⟨some 16, .bin .lss 3 (.t 13) (.t 15) 3, none⟩] none [0, 4, 5, 6, 16])
 (.cond [0, 4, 5, 6] (.t 16) .skip (.exit 0)))
 k2_thicketref04_Sum)
def l0_thicketref04_Sum : IR := .loop [0, 4, 5, 6] w0_thicketref04_Sum
def j3_thicketref04_Sum : IR :=
 (.seq (.reg 22 [⟨some 106, .move (.t 11), none⟩,
  ⟨some 2, .assign (.t 106), none⟩,
  ⟨some 3, .assign (.c (Value.int IntKind.i64 0)), none⟩] none [2, 3])
 .ret)
def k3_thicketref04_Sum : IR := .tail [11] j3_thicketref04_Sum
def j4_thicketref04_Sum : IR :=
 (.seq (.reg 19 [⟨some 91, .move (.t 9), none⟩,
  ⟨some 92, .iaddr 34 (.arr 2 1) (.t 4) (.c (Value.int IntKind.i64 0)), none⟩,
  ⟨some 93, .load 31 none (.t 92), none⟩,
  ⟨some 94, .iaddr 34 (.arr 2 1) (.t 4) (.c (Value.int IntKind.i64 1)), none⟩,
  ⟨some 95, .load 31 none (.t 94), none⟩,
  ⟨some 96, .bin .sub 31 (.t 93) (.t 95) 31, none⟩,
  ⟨some 97, .call n_thicketref04_signed [(.t 91), (.t 96)] [4, 31], none⟩,
  ⟨some 90, .move (.t 97), none⟩,
  ⟨some 98, .extr (.t 90) 0, none⟩,
  ⟨some 99, .extr (.t 90) 1, none⟩,
  ⟨some 11, .assign (.t 98), none⟩,
  ⟨some 12, .assign (.t 99), none⟩] none [10, 11, 12])
 (.seq (.seq (.reg 20 [⟨some 100, .move (.t 10), none⟩,
  ⟨some 101, .bin .neq 31 (.t 100) (.c (Value.int IntKind.u64 0)) 31, none⟩,
  ⟨some 102, .move (.t 101), none⟩,
  ⟨some 103, .move (.t 12), some (2, false)⟩,
  ⟨some 104, .un .not 4 (.t 103), some (2, false)⟩,
  ⟨some 105, .pick (.t 102) (.c (Value.bool true)) (.t 104), none⟩] none [11, 105])
 (.cond [11] (.t 105) (.seq (.reg 21 [⟨some 2, .assign (.c (Value.int IntKind.i64 0)), none⟩,
  ⟨some 3, .assign (.c (Value.int IntKind.i64 41)), none⟩] none [2, 3])
 .ret) .skip))
 k3_thicketref04_Sum))
def k4_thicketref04_Sum : IR := .tail [4, 9, 10] j4_thicketref04_Sum
def j5_thicketref04_Sum : IR :=
 (.seq (.reg 16 [⟨some 78, .iaddr 34 (.arr 2 1) (.t 5) (.c (Value.int IntKind.i64 0)), none⟩,
  ⟨some 79, .load 31 none (.t 78), none⟩,
  ⟨some 80, .iaddr 34 (.arr 2 1) (.t 5) (.c (Value.int IntKind.i64 1)), none⟩,
  ⟨some 81, .load 31 none (.t 80), none⟩,
  ⟨some 82, .bin .sub 31 (.t 79) (.t 81) 31, none⟩,
  ⟨some 10, .assign (.t 82), none⟩] none [4, 9, 10])
 (.seq (.seq (.reg 17 [⟨some 83, .iaddr 34 (.arr 2 1) (.t 4) (.c (Value.int IntKind.i64 0)), none⟩,
  ⟨some 84, .load 31 none (.t 83), none⟩,
  ⟨some 85, .iaddr 34 (.arr 2 1) (.t 4) (.c (Value.int IntKind.i64 1)), none⟩,
  ⟨some 86, .load 31 none (.t 85), none⟩,
  ⟨some 87, .bin .lss 31 (.t 84) (.t 86) 31, none⟩] none [4, 9, 10, 87])
 (.cond [4, 9, 10] (.t 87) (.reg 18 [⟨some 88, .move (.t 10), none⟩,
  ⟨some 89, .bin .sub 31 (.t 88) (.c (Value.int IntKind.u64 1)) 31, none⟩,
  ⟨some 10, .assign (.t 89), none⟩] none [4, 9, 10]) .skip))
 k4_thicketref04_Sum))
def k5_thicketref04_Sum : IR := .tail [4, 5, 9] j5_thicketref04_Sum
def j6_thicketref04_Sum : IR :=
 (.seq (.reg 12 [⟨some 46, .iaddr 34 (.arr 2 1) (.t 5) (.c (Value.int IntKind.i64 1)), none⟩,
  ⟨some 47, .load 31 none (.t 46), none⟩,
  ⟨some 48, .iaddr 34 (.arr 2 1) (.t 5) (.c (Value.int IntKind.i64 0)), none⟩,
  ⟨some 49, .load 31 none (.t 48), none⟩,
  ⟨some 50, .bin .gtr 31 (.t 47) (.t 49) 31, none⟩,
  ⟨some 51, .move (.t 50), none⟩,
  ⟨some 52, .iaddr 34 (.arr 2 1) (.t 5) (.c (Value.int IntKind.i64 1)), some (5, false)⟩,
  ⟨some 53, .load 31 none (.t 52), some (5, false)⟩,
  ⟨some 54, .iaddr 34 (.arr 2 1) (.t 5) (.c (Value.int IntKind.i64 0)), some (5, false)⟩,
  ⟨some 55, .load 31 none (.t 54), some (5, false)⟩,
  ⟨some 56, .bin .eql 31 (.t 53) (.t 55) 31, some (5, false)⟩,
  ⟨some 57, .move (.t 56), some (5, false)⟩,
  ⟨some 58, .iaddr 34 (.arr 2 1) (.t 4) (.c (Value.int IntKind.i64 1)), some (11, true)⟩,
  ⟨some 59, .load 31 none (.t 58), some (11, true)⟩,
  ⟨some 60, .iaddr 34 (.arr 2 1) (.t 4) (.c (Value.int IntKind.i64 0)), some (11, true)⟩,
  ⟨some 61, .load 31 none (.t 60), some (11, true)⟩,
  ⟨some 62, .bin .gtr 31 (.t 59) (.t 61) 31, some (11, true)⟩,
  ⟨some 63, .pick (.t 57) (.t 62) (.c (Value.bool false)), some (5, false)⟩,
  ⟨some 64, .pick (.t 51) (.c (Value.bool true)) (.t 63), none⟩,
  ⟨some 9, .assign (.t 64), none⟩] none [4, 5, 9])
 (.seq (.seq (.reg 13 [⟨some 65, .move (.t 9), none⟩] none [4, 5, 9, 65])
 (.cond [4, 5, 9] (.t 65) (.seq (.reg 14 [⟨some 66, .iaddr 34 (.arr 2 1) (.t 4) (.c (Value.int IntKind.i64 1)), none⟩,
  ⟨some 67, .load 31 none (.t 66), none⟩,
  ⟨some 68, .iaddr 34 (.arr 2 1) (.t 4) (.c (Value.int IntKind.i64 0)), none⟩,
  ⟨some 69, .load 31 none (.t 68), none⟩,
  ⟨some 70, .iaddr 34 (.arr 2 1) (.t 4) (.c (Value.int IntKind.i64 0)), none⟩,
  ⟨none, .store 31 none (.t 70) (.t 67), none⟩,
  ⟨some 71, .iaddr 34 (.arr 2 1) (.t 4) (.c (Value.int IntKind.i64 1)), none⟩,
  ⟨none, .store 31 none (.t 71) (.t 69), none⟩] none [4, 5, 9])
 (.reg 15 [⟨some 72, .iaddr 34 (.arr 2 1) (.t 5) (.c (Value.int IntKind.i64 1)), none⟩,
  ⟨some 73, .load 31 none (.t 72), none⟩,
  ⟨some 74, .iaddr 34 (.arr 2 1) (.t 5) (.c (Value.int IntKind.i64 0)), none⟩,
  ⟨some 75, .load 31 none (.t 74), none⟩,
  ⟨some 76, .iaddr 34 (.arr 2 1) (.t 5) (.c (Value.int IntKind.i64 0)), none⟩,
  ⟨none, .store 31 none (.t 76) (.t 73), none⟩,
  ⟨some 77, .iaddr 34 (.arr 2 1) (.t 5) (.c (Value.int IntKind.i64 1)), none⟩,
  ⟨none, .store 31 none (.t 77) (.t 75), none⟩] none [4, 5, 9])) .skip))
 k5_thicketref04_Sum))
def k6_thicketref04_Sum : IR := .tail [4, 5] j6_thicketref04_Sum
def b_thicketref04_Sum : IR :=
 (.seq (.reg 0 [⟨some 2, .assign (.c (Value.int IntKind.i64 0)), none⟩,
  ⟨some 3, .assign (.c (Value.int IntKind.i64 0)), none⟩] none [0])
 (.seq (.reg 1 [⟨some 4, .alloc 34 [.v (.int .u64 0), .v (.int .u64 0)], none⟩,
  ⟨some 5, .alloc 34 [.v (.int .u64 0), .v (.int .u64 0)], none⟩] none [0, 4, 5])
 (.seq (.seq (.reg 2 [⟨some 6, .assign (.c (Value.int IntKind.i64 0)), none⟩] none [0, 4, 5, 6])
 (.block 0 l0_thicketref04_Sum))
 k6_thicketref04_Sum)))
def a_thicketref04_Sum : AFunc := ⟨107, [.tmp 2, .tmp 3], b_thicketref04_Sum⟩

def b_fixed_Add : IR :=
 (.seq (.reg 0 [⟨some 4, .assign (.c (Value.int IntKind.i64 0)), none⟩,
  ⟨some 5, .assign (.c (Value.int IntKind.i64 0)), none⟩] none [0, 1])
 (.seq (.reg 1 [⟨some 6, .move (.t 0), none⟩,
  ⟨some 7, .move (.t 1), none⟩,
  ⟨some 8, .lit 22 1 [(.t 6), (.t 7)], none⟩,
  ⟨some 9, .call n_fixed_Sum [(.t 8)] [22], none⟩,
  ⟨some 10, .extr (.t 9) 0, none⟩,
  ⟨some 11, .extr (.t 9) 1, none⟩,
  ⟨some 4, .assign (.t 10), none⟩,
  ⟨some 5, .assign (.t 11), none⟩] none [4, 5])
 .ret))
def a_fixed_Add : AFunc := ⟨12, [.tmp 4, .tmp 5], b_fixed_Add⟩

def j0_thicketlaw04_same : IR :=
 (.reg 5 [⟨some 15, .move (.t 5), none⟩,
  ⟨some 16, .bin .add 3 (.t 15) (.c (Value.int IntKind.i64 1)) 3, none⟩,
  ⟨some 5, .assign (.t 16), none⟩] none [0, 1, 5])
def k0_thicketlaw04_same : IR := .tail [0, 1, 5] j0_thicketlaw04_same
def j1_thicketlaw04_same : IR :=
 (.seq (.block 1 (.seq (.reg 6 [⟨some 17, .move (.t 0), none⟩,
  ⟨some 18, .move (.t 5), none⟩,
  ⟨some 19, .iaddr 22 (.sl 1) (.t 17) (.t 18), none⟩,
  ⟨some 20, .load 2 none (.t 19), none⟩,
  ⟨some 21, .move (.t 1), none⟩,
  ⟨some 22, .move (.t 5), none⟩,
  ⟨some 23, .iaddr 22 (.sl 1) (.t 21) (.t 22), none⟩,
  ⟨some 24, .load 2 none (.t 23), none⟩,
  ⟨some 25, .bin .neq 2 (.t 20) (.t 24) 2, none⟩] (some [⟨0, []⟩, ⟨1, []⟩, ⟨2, []⟩, ⟨4, []⟩, ⟨5, []⟩, ⟨6, []⟩, ⟨3, []⟩, ⟨7, []⟩, ⟨8, []⟩]) [0, 1, 5, 25])
 (.cond [0, 1, 5] (.t 25) (.seq (.reg 7 [⟨some 4, .assign (.c (Value.bool false)), none⟩] none [4])
 .ret) .skip)))
 k0_thicketlaw04_same)
def k1_thicketlaw04_same : IR := .tail [0, 1, 5] j1_thicketlaw04_same
def w0_thicketlaw04_same : IR :=
 (.seq (.seq (.reg 4 [⟨some 11, .move (.t 5), none⟩,
  ⟨some 12, .move (.t 0), none⟩,
  ⟨some 13, .len 22 false (.t 12), none⟩,
  ⟨some 14, .bin .lss 3 (.t 11) (.t 13) 3, none⟩] none [0, 1, 5, 14])
 (.cond [0, 1, 5] (.t 14) .skip (.exit 0)))
 k1_thicketlaw04_same)
def l0_thicketlaw04_same : IR := .loop [0, 1, 5] w0_thicketlaw04_same
def j2_thicketlaw04_same : IR :=
 (.seq (.reg 8 [⟨some 4, .assign (.c (Value.bool true)), none⟩] none [4])
 .ret)
def k2_thicketlaw04_same : IR := .tail [] j2_thicketlaw04_same
def j3_thicketlaw04_same : IR :=
 (.seq (.seq (.reg 3 [⟨some 5, .assign (.c (Value.int IntKind.i64 0)), none⟩] none [0, 1, 5])
 (.block 0 l0_thicketlaw04_same))
 k2_thicketlaw04_same)
def k3_thicketlaw04_same : IR := .tail [0, 1] j3_thicketlaw04_same
def b_thicketlaw04_same : IR :=
 (.seq (.reg 0 [⟨some 4, .assign (.c (Value.bool false)), none⟩] none [0, 1])
 (.seq (.seq (.reg 1 [⟨some 6, .move (.t 0), none⟩,
  ⟨some 7, .len 22 false (.t 6), none⟩,
  ⟨some 8, .move (.t 1), none⟩,
  ⟨some 9, .len 22 false (.t 8), none⟩,
  ⟨some 10, .bin .neq 3 (.t 7) (.t 9) 3, none⟩] none [0, 1, 10])
 (.cond [0, 1] (.t 10) (.seq (.reg 2 [⟨some 4, .assign (.c (Value.bool false)), none⟩] none [4])
 .ret) .skip))
 k3_thicketlaw04_same))
def a_thicketlaw04_same : AFunc := ⟨26, [.tmp 4], b_thicketlaw04_same⟩

def b_thicketlaw04_FixedSums : IR :=
 (.seq (.reg 0 [⟨some 6, .assign (.c (Value.bool false)), none⟩] none [0, 1, 2])
 (.seq (.reg 1 [⟨some 16, .lit 22 1 [], none⟩,
  ⟨some 17, .move (.t 0), none⟩,
  ⟨some 18, .append 22 22 false 1 8 (.t 16) (.t 17), none⟩,
  ⟨some 7, .assign (.t 18), none⟩] none [0, 1, 2, 7, 18])
 (.seq (.reg 2 [⟨some 20, .move (.t 7), none⟩,
  ⟨some 21, .call n_fixed_Sum [(.t 20)] [22], none⟩,
  ⟨some 19, .move (.t 21), none⟩,
  ⟨some 22, .extr (.t 19) 0, none⟩,
  ⟨some 23, .extr (.t 19) 1, none⟩,
  ⟨some 8, .assign (.t 22), none⟩,
  ⟨some 9, .assign (.t 23), none⟩] none [0, 1, 2, 7, 8, 9, 18])
 (.seq (.reg 3 [⟨some 25, .move (.t 0), none⟩,
  ⟨some 26, .call n_thicketref04_Sum [(.t 25)] [22], none⟩,
  ⟨some 24, .move (.t 26), none⟩,
  ⟨some 27, .extr (.t 24) 0, none⟩,
  ⟨some 28, .extr (.t 24) 1, none⟩,
  ⟨some 10, .assign (.t 27), none⟩,
  ⟨some 11, .assign (.t 28), none⟩] none [0, 1, 2, 7, 8, 9, 10, 11, 18])
 (.seq (.reg 4 [⟨some 30, .move (.t 1), none⟩,
  ⟨some 31, .move (.t 2), none⟩,
  ⟨some 32, .call n_fixed_Add [(.t 30), (.t 31)] [2, 2], none⟩,
  ⟨some 29, .move (.t 32), none⟩,
  ⟨some 33, .extr (.t 29) 0, none⟩,
  ⟨some 34, .extr (.t 29) 1, none⟩,
  ⟨some 12, .assign (.t 33), none⟩,
  ⟨some 13, .assign (.t 34), none⟩] none [0, 1, 2, 7, 8, 9, 10, 11, 12, 13, 18])
 (.seq (.reg 5 [⟨some 36, .move (.t 1), none⟩,
  ⟨some 37, .move (.t 2), none⟩,
  ⟨some 38, .lit 22 1 [(.t 36), (.t 37)], none⟩,
  ⟨some 39, .call n_thicketref04_Sum [(.t 38)] [22], none⟩,
  ⟨some 35, .move (.t 39), none⟩,
  ⟨some 40, .extr (.t 35) 0, none⟩,
  ⟨some 41, .extr (.t 35) 1, none⟩,
  ⟨some 14, .assign (.t 40), none⟩,
  ⟨some 15, .assign (.t 41), none⟩] none [0, 7, 8, 9, 10, 11, 12, 13, 14, 15, 18])
 (.seq (.reg 6 [⟨some 42, .move (.t 8), none⟩,
  ⟨some 43, .move (.t 10), none⟩,
  ⟨some 44, .bin .eql 2 (.t 42) (.t 43) 2, none⟩,
  ⟨some 45, .move (.t 44), none⟩,
  ⟨some 46, .move (.t 9), some (3, true)⟩,
  ⟨some 47, .move (.t 11), some (3, true)⟩,
  ⟨some 48, .bin .eql 23 (.t 46) (.t 47) 23, some (3, true)⟩,
  ⟨some 49, .pick (.t 45) (.t 48) (.c (Value.bool false)), none⟩,
  ⟨some 50, .move (.t 49), none⟩,
  ⟨some 51, .move (.t 12), some (8, true)⟩,
  ⟨some 52, .move (.t 14), some (8, true)⟩,
  ⟨some 53, .bin .eql 2 (.t 51) (.t 52) 2, some (8, true)⟩,
  ⟨some 54, .pick (.t 50) (.t 53) (.c (Value.bool false)), none⟩,
  ⟨some 55, .move (.t 54), none⟩,
  ⟨some 56, .move (.t 13), some (13, true)⟩,
  ⟨some 57, .move (.t 15), some (13, true)⟩,
  ⟨some 58, .bin .eql 23 (.t 56) (.t 57) 23, some (13, true)⟩,
  ⟨some 59, .pick (.t 55) (.t 58) (.c (Value.bool false)), none⟩,
  ⟨some 60, .move (.t 59), none⟩,
  ⟨some 61, .move (.t 7), some (18, true)⟩,
  ⟨some 62, .move (.t 0), some (18, true)⟩,
  ⟨some 63, .call n_thicketlaw04_same [(.t 61), (.t 62)] [22, 22], some (18, true)⟩,
  ⟨some 64, .pick (.t 60) (.t 63) (.c (Value.bool false)), none⟩,
  ⟨some 6, .assign (.t 64), none⟩] none [6])
 .ret)))))))
def a_thicketlaw04_FixedSums : AFunc := ⟨65, [.tmp 6], b_thicketlaw04_FixedSums⟩

def fnTab : List (FuncId × AFunc) := [(n_fixed_Sum, a_fixed_Sum), (n_thicketref04_amount, a_thicketref04_amount), (n_thicketref04_signed, a_thicketref04_signed), (n_thicketref04_Sum, a_thicketref04_Sum), (n_fixed_Add, a_fixed_Add), (n_thicketlaw04_same, a_thicketlaw04_same), (n_thicketlaw04_FixedSums, a_thicketlaw04_FixedSums)]
def modeTab : List (FuncId × List Bool) := []
def G (n : Nat) : List PV := match n with  | _ => []
def T : Tab := { fns := fun f => fnTab.lookup f, ext := fun _ _ => none, modes := fun f => (modeTab.lookup f).getD [], glob := G }
theorem fn_fixed_Sum : T.fns n_fixed_Sum = some a_fixed_Sum := rfl
@[simp] theorem tl0_fixed_Sum (e : Env) : Exec T k0_fixed_Sum e = Exec T j0_fixed_Sum (e.keep [0, 4, 5, 10, 11, 12]) := Exec_tail _ _ _
@[simp] theorem tl1_fixed_Sum (e : Env) : Exec T k1_fixed_Sum e = Exec T j1_fixed_Sum (e.keep [0, 4, 5, 10, 11, 12]) := Exec_tail _ _ _
@[simp] theorem tl2_fixed_Sum (e : Env) : Exec T k2_fixed_Sum e = Exec T j2_fixed_Sum (e.keep []) := Exec_tail _ _ _
@[simp] theorem tl3_fixed_Sum (e : Env) : Exec T k3_fixed_Sum e = Exec T j3_fixed_Sum (e.keep [4, 5]) := Exec_tail _ _ _
theorem ex0_fixed_Sum (e : Env) : Exec T l0_fixed_Sum e = andThen (Exec T w0_fixed_Sum (e.keep [0, 4, 5, 10, 11, 12])) (Exec T l0_fixed_Sum) := Exec_loop _ _ _
theorem run_fixed_Sum (xs : List PV) : Cinf T n_fixed_Sum xs = Run T a_fixed_Sum xs := Cinf_eq rfl fn_fixed_Sum
theorem md_fixed_Sum : T.modes n_fixed_Sum = [] := rfl
@[simp] theorem call_fixed_Sum (C : Oracle) (e : Env) (xs : List PV) : call T C e n_fixed_Sum xs = callK1 C n_fixed_Sum xs (moves e [] [] xs) := call_modes md_fixed_Sum
theorem fn_thicketref04_amount : T.fns n_thicketref04_amount = some a_thicketref04_amount := rfl
@[simp] theorem tl0_thicketref04_amount (e : Env) : Exec T k0_thicketref04_amount e = Exec T j0_thicketref04_amount (e.keep [0]) := Exec_tail _ _ _
theorem run_thicketref04_amount (xs : List PV) : Cinf T n_thicketref04_amount xs = Run T a_thicketref04_amount xs := Cinf_eq rfl fn_thicketref04_amount
theorem md_thicketref04_amount : T.modes n_thicketref04_amount = [] := rfl
@[simp] theorem call_thicketref04_amount (C : Oracle) (e : Env) (xs : List PV) : call T C e n_thicketref04_amount xs = callK1 C n_thicketref04_amount xs (moves e [] [] xs) := call_modes md_thicketref04_amount
theorem fn_thicketref04_signed : T.fns n_thicketref04_signed = some a_thicketref04_signed := rfl
@[simp] theorem tl0_thicketref04_signed (e : Env) : Exec T k0_thicketref04_signed e = Exec T j0_thicketref04_signed (e.keep [1]) := Exec_tail _ _ _
theorem run_thicketref04_signed (xs : List PV) : Cinf T n_thicketref04_signed xs = Run T a_thicketref04_signed xs := Cinf_eq rfl fn_thicketref04_signed
theorem md_thicketref04_signed : T.modes n_thicketref04_signed = [] := rfl
@[simp] theorem call_thicketref04_signed (C : Oracle) (e : Env) (xs : List PV) : call T C e n_thicketref04_signed xs = callK1 C n_thicketref04_signed xs (moves e [] [] xs) := call_modes md_thicketref04_signed
theorem fn_thicketref04_Sum : T.fns n_thicketref04_Sum = some a_thicketref04_Sum := rfl
@[simp] theorem tl0_thicketref04_Sum (e : Env) : Exec T k0_thicketref04_Sum e = Exec T j0_thicketref04_Sum (e.keep [0, 4, 5, 6, 7]) := Exec_tail _ _ _
@[simp] theorem tl1_thicketref04_Sum (e : Env) : Exec T k1_thicketref04_Sum e = Exec T j1_thicketref04_Sum (e.keep [0, 4, 5, 6]) := Exec_tail _ _ _
@[simp] theorem tl2_thicketref04_Sum (e : Env) : Exec T k2_thicketref04_Sum e = Exec T j2_thicketref04_Sum (e.keep [0, 4, 5, 6]) := Exec_tail _ _ _
@[simp] theorem tl3_thicketref04_Sum (e : Env) : Exec T k3_thicketref04_Sum e = Exec T j3_thicketref04_Sum (e.keep [11]) := Exec_tail _ _ _
@[simp] theorem tl4_thicketref04_Sum (e : Env) : Exec T k4_thicketref04_Sum e = Exec T j4_thicketref04_Sum (e.keep [4, 9, 10]) := Exec_tail _ _ _
@[simp] theorem tl5_thicketref04_Sum (e : Env) : Exec T k5_thicketref04_Sum e = Exec T j5_thicketref04_Sum (e.keep [4, 5, 9]) := Exec_tail _ _ _
@[simp] theorem tl6_thicketref04_Sum (e : Env) : Exec T k6_thicketref04_Sum e = Exec T j6_thicketref04_Sum (e.keep [4, 5]) := Exec_tail _ _ _
theorem ex0_thicketref04_Sum (e : Env) : Exec T l0_thicketref04_Sum e = andThen (Exec T w0_thicketref04_Sum (e.keep [0, 4, 5, 6])) (Exec T l0_thicketref04_Sum) := Exec_loop _ _ _
theorem run_thicketref04_Sum (xs : List PV) : Cinf T n_thicketref04_Sum xs = Run T a_thicketref04_Sum xs := Cinf_eq rfl fn_thicketref04_Sum
theorem md_thicketref04_Sum : T.modes n_thicketref04_Sum = [] := rfl
@[simp] theorem call_thicketref04_Sum (C : Oracle) (e : Env) (xs : List PV) : call T C e n_thicketref04_Sum xs = callK1 C n_thicketref04_Sum xs (moves e [] [] xs) := call_modes md_thicketref04_Sum
theorem fn_fixed_Add : T.fns n_fixed_Add = some a_fixed_Add := rfl
theorem run_fixed_Add (xs : List PV) : Cinf T n_fixed_Add xs = Run T a_fixed_Add xs := Cinf_eq rfl fn_fixed_Add
theorem md_fixed_Add : T.modes n_fixed_Add = [] := rfl
@[simp] theorem call_fixed_Add (C : Oracle) (e : Env) (xs : List PV) : call T C e n_fixed_Add xs = callK1 C n_fixed_Add xs (moves e [] [] xs) := call_modes md_fixed_Add
theorem fn_thicketlaw04_same : T.fns n_thicketlaw04_same = some a_thicketlaw04_same := rfl
@[simp] theorem tl0_thicketlaw04_same (e : Env) : Exec T k0_thicketlaw04_same e = Exec T j0_thicketlaw04_same (e.keep [0, 1, 5]) := Exec_tail _ _ _
@[simp] theorem tl1_thicketlaw04_same (e : Env) : Exec T k1_thicketlaw04_same e = Exec T j1_thicketlaw04_same (e.keep [0, 1, 5]) := Exec_tail _ _ _
@[simp] theorem tl2_thicketlaw04_same (e : Env) : Exec T k2_thicketlaw04_same e = Exec T j2_thicketlaw04_same (e.keep []) := Exec_tail _ _ _
@[simp] theorem tl3_thicketlaw04_same (e : Env) : Exec T k3_thicketlaw04_same e = Exec T j3_thicketlaw04_same (e.keep [0, 1]) := Exec_tail _ _ _
theorem ex0_thicketlaw04_same (e : Env) : Exec T l0_thicketlaw04_same e = andThen (Exec T w0_thicketlaw04_same (e.keep [0, 1, 5])) (Exec T l0_thicketlaw04_same) := Exec_loop _ _ _
theorem run_thicketlaw04_same (xs : List PV) : Cinf T n_thicketlaw04_same xs = Run T a_thicketlaw04_same xs := Cinf_eq rfl fn_thicketlaw04_same
theorem md_thicketlaw04_same : T.modes n_thicketlaw04_same = [] := rfl
@[simp] theorem call_thicketlaw04_same (C : Oracle) (e : Env) (xs : List PV) : call T C e n_thicketlaw04_same xs = callK1 C n_thicketlaw04_same xs (moves e [] [] xs) := call_modes md_thicketlaw04_same
theorem fn_thicketlaw04_FixedSums : T.fns n_thicketlaw04_FixedSums = some a_thicketlaw04_FixedSums := rfl
theorem run_thicketlaw04_FixedSums (xs : List PV) : Cinf T n_thicketlaw04_FixedSums xs = Run T a_thicketlaw04_FixedSums xs := Cinf_eq rfl fn_thicketlaw04_FixedSums
theorem md_thicketlaw04_FixedSums : T.modes n_thicketlaw04_FixedSums = [] := rfl
@[simp] theorem call_thicketlaw04_FixedSums (C : Oracle) (e : Env) (xs : List PV) : call T C e n_thicketlaw04_FixedSums xs = callK1 C n_thicketlaw04_FixedSums xs (moves e [] [] xs) := call_modes md_thicketlaw04_FixedSums
end Go.AM.F
