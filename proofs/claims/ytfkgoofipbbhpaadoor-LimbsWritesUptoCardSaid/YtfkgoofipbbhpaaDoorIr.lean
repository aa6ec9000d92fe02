/- The functions of the program in the abstract machine's form, printed by a program of the session's own (ir.py); Lean checks them against the program. No conditions. -/
import Derived.Test.YtfkgoofipbbhpaaDoorAmBld
namespace Go.AM.F
open Go Go.AM
set_option maxRecDepth 100000

abbrev n_thicketlaw01_LimbsWrites : FuncId := 12
abbrev n_limbs_Read : FuncId := 13
abbrev n_thicketlaw01_lives : FuncId := 15
abbrev n_limbs_Print : FuncId := 17
abbrev n_thicketref01_Print : FuncId := 18
abbrev n_limbs_DivMod : FuncId := 19
abbrev n_thicketref01_DivMod : FuncId := 20
abbrev n_limbs_Gcd : FuncId := 21
abbrev n_thicketref01_Gcd : FuncId := 22
abbrev n_thicketref01_Small : FuncId := 24
abbrev n_limbs_Norm : FuncId := 25
abbrev n_thicketref01_Norm : FuncId := 26
abbrev n_limbs_From : FuncId := 27
abbrev n_thicketref01_From : FuncId := 28
abbrev n_limbs_Cmp : FuncId := 29
abbrev n_thicketref01_Cmp : FuncId := 30
abbrev n_thicketref01_Len : FuncId := 32
abbrev n_limbs_Bit : FuncId := 33
abbrev n_thicketref01_Bit : FuncId := 34
abbrev n_thicketref01_Sub : FuncId := 36
abbrev n_limbs_Add : FuncId := 37
abbrev n_thicketref01_Add : FuncId := 38
abbrev n_limbs_Mul : FuncId := 39
abbrev n_thicketref01_Mul : FuncId := 40
abbrev n_limbs_Over : FuncId := 49
abbrev n_thicketref01_Over : FuncId := 50
abbrev n_limbs_Write : FuncId := 64
abbrev n_thicketref01_Write : FuncId := 65
abbrev n_limbs_Decimal : FuncId := 66
abbrev n_thicketref01_Decimal : FuncId := 67
abbrev n_limbs_grow : FuncId := 68
abbrev n_limbs_trim : FuncId := 69
abbrev n_strings_Builder_WriteString : FuncId := 70
abbrev n_strings_TrimLeft : FuncId := 71
abbrev n_strings_Builder_String : FuncId := 72
abbrev n_bits_LeadingZeros32 : FuncId := 73
abbrev n_limbs_up : FuncId := 74
abbrev n_limbs_long : FuncId := 75
abbrev n_limbs_down : FuncId := 76
abbrev n_thicketref01_double : FuncId := 77
abbrev n_limbs_low : FuncId := 78
abbrev n_limbs_high : FuncId := 79
abbrev n_bits_Len32 : FuncId := 80
abbrev n_limbs_right : FuncId := 82
abbrev n_strings_Repeat : FuncId := 84
abbrev n_strings_trimLeftByte : FuncId := 86
abbrev n_strings_makeASCIISet : FuncId := 87
abbrev n_strings_trimLeftASCII : FuncId := 88
abbrev n_strings_trimLeftUnicode : FuncId := 89
abbrev n_bits_Sub32 : FuncId := 90
abbrev n_bits_Add32 : FuncId := 91
def b_limbs_low : IR :=
 (.seq (.reg 0 [⟨some 2, .assign (.c (Value.int IntKind.u32 0)), none, [2]⟩] none [0])
 (.seq (.reg 1 [⟨some 3, .move (.t 0), none, [0]⟩,
  ⟨some 4, .bin .and 33 (.t 3) (.c (Value.int IntKind.u64 4294967295)) 33, none, [3]⟩,
  ⟨some 5, .conv 33 49 (.int .u32) (.t 4), none, [4]⟩,
  ⟨some 2, .assign (.t 5), none, [5]⟩] none [2])
 .ret))
def a_limbs_low : AFunc := ⟨6, [.tmp 2], b_limbs_low⟩

def b_limbs_high : IR :=
 (.seq (.reg 0 [⟨some 2, .assign (.c (Value.int IntKind.u64 0)), none, [2]⟩] none [0])
 (.seq (.reg 1 [⟨some 3, .move (.t 0), none, [0]⟩,
  ⟨some 4, .bin .shr 33 (.t 3) (.c (Value.int IntKind.u64 32)) 68, none, [3]⟩,
  ⟨some 2, .assign (.t 4), none, [4]⟩] none [2])
 .ret))
def a_limbs_high : AFunc := ⟨5, [.tmp 2], b_limbs_high⟩

def j0_limbs_grow : IR :=
 (.reg 8 [⟨some 33, .bin .add 3 (.t 13) (.c (Value.int IntKind.i64 1)) 3, none, []⟩,
  ⟨some 13, .move (.t 33), none, [33]⟩] none [0, 1, 7, 12, 13, 40, 100000])
def k0_limbs_grow : IR := .tail [0, 1, 7, 12, 13, 40, 100000] j0_limbs_grow
def j1_limbs_grow : IR :=
 (.seq (.block 1 (.seq (.reg 4 [⟨some 15, .move (.t 13), none, []⟩,
  ⟨some 8, .assign (.t 15), none, [15]⟩] none [0, 1, 7, 8, 12, 13, 40, 100000])
 (.seq (.reg 5 [⟨some 16, .move (.t 7), none, []⟩,
  ⟨some 17, .move (.t 0), none, []⟩,
  ⟨some 18, .move (.t 8), none, []⟩,
  ⟨some 19, .iaddr 22 (.sl 1) (.t 17) (.t 18), none, []⟩,
  ⟨some 20, .load 49 none (.t 19), none, [17, 18, 19]⟩,
  ⟨some 21, .conv 49 33 (.int .u64) (.t 20), none, [20]⟩,
  ⟨some 22, .move (.t 1), none, []⟩,
  ⟨some 23, .conv 49 33 (.int .u64) (.t 22), none, [22]⟩,
  ⟨some 24, .bin .mul 33 (.t 21) (.t 23) 33, none, [21, 23]⟩,
  ⟨some 25, .bin .add 33 (.t 16) (.t 24) 33, none, [16, 24]⟩,
  ⟨some 7, .assign (.t 25), none, [25]⟩] none [0, 1, 7, 8, 12, 13, 40, 100000])
 (.seq (.reg 6 [⟨some 26, .move (.t 0), none, []⟩,
  ⟨some 27, .move (.t 8), none, [8]⟩,
  ⟨some 28, .move (.t 7), none, []⟩,
  ⟨some 29, .call n_limbs_low [(.t 28)] [33], none, [28]⟩,
  ⟨some 30, .iaddr 22 (.sl 1) (.t 26) (.t 27), none, []⟩,
  ⟨none, .store 49 none (.t 30) (.t 29), none, [26, 27, 29, 30]⟩] none [0, 1, 7, 12, 13, 40, 100000])
 (.reg 7 [⟨some 31, .move (.t 7), none, []⟩,
  ⟨some 32, .call n_limbs_high [(.t 31)] [33], none, [31]⟩,
  ⟨some 7, .assign (.t 32), none, [32]⟩] none [0, 1, 7, 12, 13, 40, 100000])))))
 k0_limbs_grow)
def k1_limbs_grow : IR := .tail [0, 1, 7, 12, 13, 40, 100000] j1_limbs_grow
def w0_limbs_grow : IR :=
 (.seq (.reg 3 [⟨some 14, .bin .lss 3 (.t 13) (.t 12) 3, none, []⟩] none [0, 1, 7, 12, 13, 14, 40, 100000])
 (.seq (.cond [0, 1, 7, 12, 13, 40, 100000] (.t 14) .skip (.exit 0))
 k1_limbs_grow))
def l0_limbs_grow : IR := .loop [0, 1, 7, 12, 13, 40, 100000] w0_limbs_grow
def j2_limbs_grow : IR :=
 (.seq (.reg 11 [⟨some 41, .move (.t 0), none, []⟩,
  ⟨some 6, .assign (.t 41), none, []⟩] none [0, 6, 40, 41, 100000])
 .ret)
def k2_limbs_grow : IR := .tail [0, 40, 100000] j2_limbs_grow
def j3_limbs_grow : IR :=
 (.seq (.seq (.reg 9 [⟨some 34, .move (.t 7), none, []⟩,
  ⟨some 35, .bin .gtr 33 (.t 34) (.c (Value.int IntKind.u64 0)) 33, none, [34]⟩] none [0, 7, 35, 40, 100000])
 (.cond [0, 7, 40, 100000] (.t 35) (.reg 10 [⟨some 36, .move (.t 0), none, []⟩,
  ⟨some 37, .move (.t 7), none, [7]⟩,
  ⟨some 38, .conv 33 49 (.int .u32) (.t 37), none, [37]⟩,
  ⟨some 39, .lit 22 1 [(.t 38)], none, [38]⟩,
  ⟨some 40, .append 22 22 false 1 4 (.t 36) (.t 39), none, [36, 39]⟩,
  ⟨some 0, .assign (.t 40), none, []⟩] none [0, 40, 100000]) .skip))
 k2_limbs_grow)
def k3_limbs_grow : IR := .tail [0, 7, 40, 100000] j3_limbs_grow
def b_limbs_grow : IR :=
 (.seq (.reg 0 [⟨some 6, .assign (.nilS 1), none, [6]⟩] none [0, 1, 2, 40, 100000])
 (.seq (.reg 1 [⟨some 9, .move (.t 2), none, [2]⟩,
  ⟨some 10, .conv 49 33 (.int .u64) (.t 9), none, [9]⟩,
  ⟨some 7, .assign (.t 10), none, [10]⟩] none [0, 1, 7, 40, 100000])
 (.seq (.seq (.reg 2 [⟨some 11, .move (.t 0), none, []⟩,
  ⟨some 12, .len 22 false (.t 11), none, [11]⟩,
  ⟨some 13, .move (.c (Value.int IntKind.i64 0)), none, []⟩] none [0, 1, 7, 12, 13, 40, 100000])
 (.block 0 l0_limbs_grow))
 k3_limbs_grow)))
def a_limbs_grow : AFunc := ⟨42, [.tmp 6], b_limbs_grow⟩

def j0_limbs_trim : IR :=
 (.block 1 (.reg 3 [⟨some 16, .move (.t 3), none, []⟩,
  ⟨some 17, .bin .sub 3 (.t 16) (.c (Value.int IntKind.i64 1)) 3, none, [16]⟩,
  ⟨some 3, .assign (.t 17), none, [17]⟩] none [0, 3, 100000]))
def k0_limbs_trim : IR := .tail [0, 3, 100000] j0_limbs_trim
def w0_limbs_trim : IR :=
 (.seq (.seq (.reg 2 [⟨some 6, .move (.t 3), none, []⟩,
  ⟨some 7, .bin .gtr 3 (.t 6) (.c (Value.int IntKind.i64 0)) 3, none, [6]⟩,
  ⟨some 8, .move (.t 7), none, [7]⟩,
  ⟨some 9, .move (.t 0), some (2, true), []⟩,
  ⟨some 10, .move (.t 3), some (2, true), []⟩,
  ⟨some 11, .bin .sub 3 (.t 10) (.c (Value.int IntKind.i64 1)) 3, some (2, true), [10]⟩,
  ⟨some 12, .iaddr 22 (.sl 1) (.t 9) (.t 11), some (2, true), []⟩,
  ⟨some 13, .load 49 none (.t 12), some (2, true), [9, 11, 12]⟩,
  ⟨some 14, .bin .eql 49 (.t 13) (.c (Value.int IntKind.u32 0)) 49, some (2, true), [13]⟩,
  ⟨some 15, .pick (.t 8) (.t 14) (.c (Value.bool false)), none, [8, 14]⟩] none [0, 3, 15, 100000])
 (.cond [0, 3, 100000] (.t 15) .skip (.exit 0)))
 k0_limbs_trim)
def l0_limbs_trim : IR := .loop [0, 3, 100000] w0_limbs_trim
def j1_limbs_trim : IR :=
 (.seq (.reg 4 [⟨some 18, .move (.t 0), none, []⟩,
  ⟨some 19, .move (.t 3), none, []⟩,
  ⟨some 20, .move (.t 3), none, [3]⟩,
  ⟨some 21, .slice 22 (.sl 1) (.t 18) none (some (.t 19)) (some (.t 20)), none, []⟩,
  ⟨some 2, .assign (.t 21), none, []⟩] none [0, 2, 18, 19, 20, 21, 100000])
 .ret)
def k1_limbs_trim : IR := .tail [0, 3, 100000] j1_limbs_trim
def b_limbs_trim : IR :=
 (.seq (.reg 0 [⟨some 2, .assign (.nilS 1), none, [2]⟩] none [0, 100000])
 (.seq (.reg 1 [⟨some 4, .move (.t 0), none, []⟩,
  ⟨some 5, .len 22 false (.t 4), none, [4]⟩,
  ⟨some 3, .assign (.t 5), none, [5]⟩] none [0, 3, 100000])
 (.seq (.block 0 l0_limbs_trim)
 k1_limbs_trim)))
def a_limbs_trim : AFunc := ⟨22, [.tmp 2], b_limbs_trim⟩

def j0_limbs_Read : IR :=
 (.reg 6 [⟨some 27, .bin .add 3 (.t 13) (.c (Value.int IntKind.i64 1)) 3, none, []⟩,
  ⟨some 13, .move (.t 27), none, [27]⟩] none [0, 12, 13])
def k0_limbs_Read : IR := .tail [0, 12, 13] j0_limbs_Read
def j1_limbs_Read : IR :=
 (.seq (.block 1 (.seq (.reg 3 [⟨some 15, .move (.t 13), none, []⟩,
  ⟨some 5, .assign (.t 15), none, [15]⟩] none [0, 5, 12, 13])
 (.seq (.reg 4 [⟨some 16, .move (.t 0), none, []⟩,
  ⟨some 17, .move (.t 5), none, []⟩,
  ⟨some 18, .index 9 .str none (.t 16) (.t 17), none, [16, 17]⟩,
  ⟨some 19, .bin .lss 5 (.t 18) (.c (Value.int IntKind.u8 48)) 5, none, [18]⟩,
  ⟨some 20, .move (.t 19), none, [19]⟩,
  ⟨some 21, .move (.t 0), some (4, false), []⟩,
  ⟨some 22, .move (.t 5), some (4, false), []⟩,
  ⟨some 23, .index 9 .str none (.t 21) (.t 22), some (4, false), [21, 22]⟩,
  ⟨some 24, .bin .gtr 5 (.t 23) (.c (Value.int IntKind.u8 57)) 5, some (4, false), [23]⟩,
  ⟨some 25, .pick (.t 20) (.c (Value.bool true)) (.t 24), none, [20, 24]⟩] none [0, 5, 12, 13, 25])
 (.cond [0, 5, 12, 13] (.t 25) (.seq (.reg 5 [⟨some 26, .move (.t 5), none, [5]⟩,
  ⟨some 2, .assign (.nilS 1), none, []⟩,
  ⟨some 3, .assign (.c (Value.int IntKind.i64 10)), none, []⟩,
  ⟨some 4, .assign (.t 26), none, [26]⟩] none [2, 3, 4, 59])
 .ret) .skip))))
 k0_limbs_Read)
def k1_limbs_Read : IR := .tail [0, 12, 13] j1_limbs_Read
def w0_limbs_Read : IR :=
 (.seq (.reg 2 [⟨some 14, .bin .lss 3 (.t 13) (.t 12) 3, none, []⟩] none [0, 12, 13, 14])
 (.seq (.cond [0, 12, 13] (.t 14) .skip (.exit 0))
 k1_limbs_Read))
def l0_limbs_Read : IR := .loop [0, 12, 13] w0_limbs_Read
def j2_limbs_Read : IR :=
 (.reg 18 [⟨some 50, .bin .add 3 (.t 37) (.c (Value.int IntKind.i64 1)) 3, none, []⟩,
  ⟨some 37, .move (.t 50), none, [50]⟩] none [0, 6, 7, 8, 9, 36, 37, 54])
def k2_limbs_Read : IR := .tail [0, 6, 7, 8, 9, 36, 37, 54] j2_limbs_Read
def j3_limbs_Read : IR :=
 (.seq (.block 5 (.seq (.reg 15 [⟨some 39, .move (.t 37), none, []⟩,
  ⟨some 10, .assign (.t 39), none, [39]⟩] none [0, 6, 7, 8, 9, 10, 36, 37, 54])
 (.seq (.reg 16 [⟨some 40, .move (.t 8), none, []⟩,
  ⟨some 41, .bin .mul 49 (.t 40) (.c (Value.int IntKind.u32 10)) 49, none, [40]⟩,
  ⟨some 8, .assign (.t 41), none, [41]⟩] none [0, 6, 7, 8, 9, 10, 36, 37, 54])
 (.reg 17 [⟨some 42, .move (.t 9), none, []⟩,
  ⟨some 43, .bin .mul 49 (.c (Value.int IntKind.u32 10)) (.t 42) 49, none, [42]⟩,
  ⟨some 44, .move (.t 0), none, []⟩,
  ⟨some 45, .move (.t 10), none, [10]⟩,
  ⟨some 46, .index 9 .str none (.t 44) (.t 45), none, [44, 45]⟩,
  ⟨some 47, .bin .sub 5 (.t 46) (.c (Value.int IntKind.u8 48)) 5, none, [46]⟩,
  ⟨some 48, .conv 5 49 (.int .u32) (.t 47), none, [47]⟩,
  ⟨some 49, .bin .add 49 (.t 43) (.t 48) 49, none, [43, 48]⟩,
  ⟨some 9, .assign (.t 49), none, [49]⟩] none [0, 6, 7, 8, 9, 36, 37, 54]))))
 k2_limbs_Read)
def k3_limbs_Read : IR := .tail [0, 6, 7, 8, 9, 36, 37, 54] j3_limbs_Read
def w2_limbs_Read : IR :=
 (.seq (.reg 14 [⟨some 38, .bin .lss 3 (.t 37) (.t 36) 3, none, []⟩] none [0, 6, 7, 8, 9, 36, 37, 38, 54])
 (.seq (.cond [0, 6, 7, 8, 9, 36, 37, 54] (.t 38) .skip (.exit 4))
 k3_limbs_Read))
def l2_limbs_Read : IR := .loop [0, 6, 7, 8, 9, 36, 37, 54] w2_limbs_Read
def j4_limbs_Read : IR :=
 (.seq (.reg 19 [⟨some 51, .move (.t 6), none, []⟩,
  ⟨some 52, .move (.t 8), none, [8]⟩,
  ⟨some 53, .move (.t 9), none, [9]⟩,
  ⟨some 54, .call n_limbs_grow [(.t 51), (.t 52), (.t 53)] [22, 49, 49], none, [51, 52, 53]⟩,
  ⟨some 6, .assign (.t 54), none, []⟩] none [0, 6, 7, 54])
 (.reg 20 [⟨some 55, .move (.t 0), none, []⟩,
  ⟨some 56, .move (.t 7), none, [7]⟩,
  ⟨some 57, .slice 9 .str (.t 55) (some (.t 56)) none none, none, [55, 56]⟩,
  ⟨some 0, .assign (.t 57), none, [57]⟩] none [0, 6, 54]))
def k4_limbs_Read : IR := .tail [0, 6, 7, 8, 9, 54] j4_limbs_Read
def j5_limbs_Read : IR :=
 (.block 3 (.seq (.reg 11 [⟨some 33, .move (.t 0), none, []⟩,
  ⟨some 34, .len 9 true (.t 33), none, [33]⟩,
  ⟨some 35, .minmax false [3, 3] (.c (Value.int IntKind.i64 9)) (.t 34), none, [34]⟩,
  ⟨some 7, .assign (.t 35), none, [35]⟩] none [0, 6, 7, 54])
 (.seq (.reg 12 [⟨some 8, .assign (.c (Value.int IntKind.u32 1)), none, []⟩,
  ⟨some 9, .assign (.c (Value.int IntKind.u32 0)), none, []⟩] none [0, 6, 7, 8, 9, 54])
 (.seq (.seq (.reg 13 [⟨some 36, .move (.t 7), none, []⟩,
  ⟨some 37, .move (.c (Value.int IntKind.i64 0)), none, []⟩] none [0, 6, 7, 8, 9, 36, 37, 54])
 (.block 4 l2_limbs_Read))
 k4_limbs_Read))))
def k5_limbs_Read : IR := .tail [0, 6, 54] j5_limbs_Read
def w1_limbs_Read : IR :=
 (.seq (.seq (.reg 10 [⟨some 30, .move (.t 0), none, []⟩,
  ⟨some 31, .len 9 true (.t 30), none, [30]⟩,
  ⟨some 32, .bin .gtr 3 (.t 31) (.c (Value.int IntKind.i64 0)) 3, none, [31]⟩] none [0, 6, 32, 54])
 (.cond [0, 6, 54] (.t 32) .skip (.exit 2)))
 k5_limbs_Read)
def l1_limbs_Read : IR := .loop [0, 6, 54] w1_limbs_Read
def j6_limbs_Read : IR :=
 (.seq (.reg 21 [⟨some 58, .move (.t 6), none, []⟩,
  ⟨some 59, .call n_limbs_trim [(.t 58)] [22], none, [6, 54, 58]⟩,
  ⟨some 2, .assign (.t 59), none, []⟩,
  ⟨some 3, .assign (.c (Value.int IntKind.i64 0)), none, []⟩,
  ⟨some 4, .assign (.c (Value.int IntKind.i64 0)), none, []⟩] none [2, 3, 4, 59])
 .ret)
def k6_limbs_Read : IR := .tail [6, 54] j6_limbs_Read
def j7_limbs_Read : IR :=
 (.seq (.reg 9 [⟨some 6, .assign (.nilS 1), none, []⟩] none [0, 6, 54])
 (.seq (.block 2 l1_limbs_Read)
 k6_limbs_Read))
def k7_limbs_Read : IR := .tail [0] j7_limbs_Read
def j8_limbs_Read : IR :=
 (.seq (.seq (.reg 7 [⟨some 28, .move (.t 0), none, []⟩,
  ⟨some 29, .bin .eql 9 (.t 28) (.c (Value.string { data := #[] })) 9, none, [28]⟩] none [0, 29])
 (.cond [0] (.t 29) (.seq (.reg 8 [⟨some 2, .assign (.nilS 1), none, []⟩,
  ⟨some 3, .assign (.c (Value.int IntKind.i64 10)), none, []⟩,
  ⟨some 4, .assign (.c (Value.int IntKind.i64 0)), none, []⟩] none [2, 3, 4, 59])
 .ret) .skip))
 k7_limbs_Read)
def k8_limbs_Read : IR := .tail [0] j8_limbs_Read
def b_limbs_Read : IR :=
 (.seq (.reg 0 [⟨some 2, .assign (.nilS 1), none, [2]⟩,
  ⟨some 3, .assign (.c (Value.int IntKind.i64 0)), none, [3]⟩,
  ⟨some 4, .assign (.c (Value.int IntKind.i64 0)), none, [4]⟩] none [0])
 (.seq (.seq (.reg 1 [⟨some 11, .move (.t 0), none, []⟩,
  ⟨some 12, .len 9 true (.t 11), none, [11]⟩,
  ⟨some 13, .move (.c (Value.int IntKind.i64 0)), none, []⟩] none [0, 12, 13])
 (.block 0 l0_limbs_Read))
 k8_limbs_Read))
def a_limbs_Read : AFunc := ⟨60, [.tmp 2, .tmp 3, .tmp 4], b_limbs_Read⟩

def b_limbs_Norm : IR :=
 (.seq (.reg 0 [⟨some 2, .assign (.nilS 1), none, [2]⟩] none [0])
 (.seq (.reg 1 [⟨some 3, .move (.t 0), none, []⟩,
  ⟨some 4, .call n_limbs_trim [(.t 3)] [22], none, [0, 3]⟩,
  ⟨some 5, .append 22 22 false 1 4 (.nilS 1) (.t 4), none, [4]⟩,
  ⟨some 2, .assign (.t 5), none, []⟩] none [2, 5])
 .ret))
def a_limbs_Norm : AFunc := ⟨6, [.tmp 2], b_limbs_Norm⟩

def j0_strings_trimLeftByte : IR :=
 (.block 1 (.reg 2 [⟨some 14, .move (.t 0), none, []⟩,
  ⟨some 15, .slice 9 .str (.t 14) (some (.c (Value.int IntKind.i64 1))) none none, none, [14]⟩,
  ⟨some 0, .assign (.t 15), none, [15]⟩] none [0, 1]))
def k0_strings_trimLeftByte : IR := .tail [0, 1] j0_strings_trimLeftByte
def w0_strings_trimLeftByte : IR :=
 (.seq (.seq (.reg 1 [⟨some 5, .move (.t 0), none, []⟩,
  ⟨some 6, .len 9 true (.t 5), none, [5]⟩,
  ⟨some 7, .bin .gtr 3 (.t 6) (.c (Value.int IntKind.i64 0)) 3, none, [6]⟩,
  ⟨some 8, .move (.t 7), none, [7]⟩,
  ⟨some 9, .move (.t 0), some (3, true), []⟩,
  ⟨some 10, .index 9 .str none (.t 9) (.c (Value.int IntKind.i64 0)), some (3, true), [9]⟩,
  ⟨some 11, .move (.t 1), some (3, true), []⟩,
  ⟨some 12, .bin .eql 5 (.t 10) (.t 11) 5, some (3, true), [10, 11]⟩,
  ⟨some 13, .pick (.t 8) (.t 12) (.c (Value.bool false)), none, [8, 12]⟩] none [0, 1, 13])
 (.cond [0, 1] (.t 13) .skip (.exit 0)))
 k0_strings_trimLeftByte)
def l0_strings_trimLeftByte : IR := .loop [0, 1] w0_strings_trimLeftByte
def j1_strings_trimLeftByte : IR :=
 (.seq (.reg 3 [⟨some 16, .move (.t 0), none, [0]⟩,
  ⟨some 4, .assign (.t 16), none, [16]⟩] none [4])
 .ret)
def k1_strings_trimLeftByte : IR := .tail [0] j1_strings_trimLeftByte
def b_strings_trimLeftByte : IR :=
 (.seq (.reg 0 [⟨some 4, .assign (.c (Value.string { data := #[] })), none, [4]⟩] none [0, 1])
 (.seq (.block 0 l0_strings_trimLeftByte)
 k1_strings_trimLeftByte))
def a_strings_trimLeftByte : AFunc := ⟨17, [.tmp 4], b_strings_trimLeftByte⟩

def j0_strings_TrimLeft : IR :=
 (.seq (.reg 8 [⟨some 34, .move (.t 0), none, [0]⟩,
  ⟨some 35, .move (.t 1), none, [1]⟩,
  ⟨some 36, .call n_strings_trimLeftUnicode [(.t 34), (.t 35)] [9, 9], none, [34, 35]⟩,
  ⟨some 4, .assign (.t 36), none, [36]⟩] none [4])
 .ret)
def k0_strings_TrimLeft : IR := .tail [0, 1] j0_strings_TrimLeft
def j1_strings_TrimLeft : IR :=
 (.seq (.seq (.reg 5 [⟨some 27, .move (.t 1), none, []⟩,
  ⟨some 28, .call n_strings_makeASCIISet [(.t 27)] [9], none, [27]⟩,
  ⟨some 26, .move (.t 28), none, [28]⟩,
  ⟨some 29, .extr (.t 26) 0, none, []⟩,
  ⟨some 30, .extr (.t 26) 1, none, [26]⟩,
  ⟨some 5, .alloc 90 [.v (.bool false), .v (.bool false), .v (.bool false), .v (.bool false), .v (.bool false), .v (.bool false), .v (.bool false), .v (.bool false), .v (.bool false), .v (.bool false), .v (.bool false), .v (.bool false), .v (.bool false), .v (.bool false), .v (.bool false), .v (.bool false), .v (.bool false), .v (.bool false), .v (.bool false), .v (.bool false), .v (.bool false), .v (.bool false), .v (.bool false), .v (.bool false), .v (.bool false), .v (.bool false), .v (.bool false), .v (.bool false), .v (.bool false), .v (.bool false), .v (.bool false), .v (.bool false), .v (.bool false), .v (.bool false), .v (.bool false), .v (.bool false), .v (.bool false), .v (.bool false), .v (.bool false), .v (.bool false), .v (.bool false), .v (.bool false), .v (.bool false), .v (.bool false), .v (.bool false), .v (.bool false), .v (.bool false), .v (.bool false), .v (.bool false), .v (.bool false), .v (.bool false), .v (.bool false), .v (.bool false), .v (.bool false), .v (.bool false), .v (.bool false), .v (.bool false), .v (.bool false), .v (.bool false), .v (.bool false), .v (.bool false), .v (.bool false), .v (.bool false), .v (.bool false), .v (.bool false), .v (.bool false), .v (.bool false), .v (.bool false), .v (.bool false), .v (.bool false), .v (.bool false), .v (.bool false), .v (.bool false), .v (.bool false), .v (.bool false), .v (.bool false), .v (.bool false), .v (.bool false), .v (.bool false), .v (.bool false), .v (.bool false), .v (.bool false), .v (.bool false), .v (.bool false), .v (.bool false), .v (.bool false), .v (.bool false), .v (.bool false), .v (.bool false), .v (.bool false), .v (.bool false), .v (.bool false), .v (.bool false), .v (.bool false), .v (.bool false), .v (.bool false), .v (.bool false), .v (.bool false), .v (.bool false), .v (.bool false), .v (.bool false), .v (.bool false), .v (.bool false), .v (.bool false), .v (.bool false), .v (.bool false), .v (.bool false), .v (.bool false), .v (.bool false), .v (.bool false), .v (.bool false), .v (.bool false), .v (.bool false), .v (.bool false), .v (.bool false), .v (.bool false), .v (.bool false), .v (.bool false), .v (.bool false), .v (.bool false), .v (.bool false), .v (.bool false), .v (.bool false), .v (.bool false), .v (.bool false), .v (.bool false), .v (.bool false), .v (.bool false), .v (.bool false), .v (.bool false), .v (.bool false), .v (.bool false), .v (.bool false), .v (.bool false), .v (.bool false), .v (.bool false), .v (.bool false), .v (.bool false), .v (.bool false), .v (.bool false), .v (.bool false), .v (.bool false), .v (.bool false), .v (.bool false), .v (.bool false), .v (.bool false), .v (.bool false), .v (.bool false), .v (.bool false), .v (.bool false), .v (.bool false), .v (.bool false), .v (.bool false), .v (.bool false), .v (.bool false), .v (.bool false), .v (.bool false), .v (.bool false), .v (.bool false), .v (.bool false), .v (.bool false), .v (.bool false), .v (.bool false), .v (.bool false), .v (.bool false), .v (.bool false), .v (.bool false), .v (.bool false), .v (.bool false), .v (.bool false), .v (.bool false), .v (.bool false), .v (.bool false), .v (.bool false), .v (.bool false), .v (.bool false), .v (.bool false), .v (.bool false), .v (.bool false), .v (.bool false), .v (.bool false), .v (.bool false), .v (.bool false), .v (.bool false), .v (.bool false), .v (.bool false), .v (.bool false), .v (.bool false), .v (.bool false), .v (.bool false), .v (.bool false), .v (.bool false), .v (.bool false), .v (.bool false), .v (.bool false), .v (.bool false), .v (.bool false), .v (.bool false), .v (.bool false), .v (.bool false), .v (.bool false), .v (.bool false), .v (.bool false), .v (.bool false), .v (.bool false), .v (.bool false), .v (.bool false), .v (.bool false), .v (.bool false), .v (.bool false), .v (.bool false), .v (.bool false), .v (.bool false), .v (.bool false), .v (.bool false), .v (.bool false), .v (.bool false), .v (.bool false), .v (.bool false), .v (.bool false), .v (.bool false), .v (.bool false), .v (.bool false), .v (.bool false), .v (.bool false), .v (.bool false), .v (.bool false), .v (.bool false), .v (.bool false), .v (.bool false), .v (.bool false), .v (.bool false), .v (.bool false), .v (.bool false), .v (.bool false), .v (.bool false), .v (.bool false), .v (.bool false), .v (.bool false), .v (.bool false), .v (.bool false), .v (.bool false), .v (.bool false), .v (.bool false), .v (.bool false), .v (.bool false), .v (.bool false), .v (.bool false), .v (.bool false), .v (.bool false), .v (.bool false), .v (.bool false), .v (.bool false), .v (.bool false), .v (.bool false), .v (.bool false)], none, []⟩,
  ⟨none, .store 90 (some 256) (.t 5) (.t 29), none, [29]⟩,
  ⟨some 6, .assign (.t 30), none, [30]⟩] none [0, 1, 5, 6])
 (.seq (.reg 6 [⟨some 31, .move (.t 6), none, [6]⟩] none [0, 1, 5, 31])
 (.cond [0, 1, 5] (.t 31) (.seq (.reg 7 [⟨some 32, .move (.t 0), none, [0]⟩,
  ⟨some 33, .call n_strings_trimLeftASCII [(.t 32), (.t 5)] [9, 94], none, [5, 32]⟩,
  ⟨some 4, .assign (.t 33), none, [33]⟩] none [4])
 .ret) .skip)))
 k0_strings_TrimLeft)
def k1_strings_TrimLeft : IR := .tail [0, 1] j1_strings_TrimLeft
def j2_strings_TrimLeft : IR :=
 (.seq (.seq (.reg 3 [⟨some 14, .move (.t 1), none, []⟩,
  ⟨some 15, .len 9 true (.t 14), none, [14]⟩,
  ⟨some 16, .bin .eql 3 (.t 15) (.c (Value.int IntKind.i64 1)) 3, none, [15]⟩,
  ⟨some 17, .move (.t 16), none, [16]⟩,
  ⟨some 18, .move (.t 1), some (3, true), []⟩,
  ⟨some 19, .index 9 .str none (.t 18) (.c (Value.int IntKind.i64 0)), some (3, true), [18]⟩,
  ⟨some 20, .bin .lss 5 (.t 19) (.c (Value.int IntKind.u8 128)) 5, some (3, true), [19]⟩,
  ⟨some 21, .pick (.t 17) (.t 20) (.c (Value.bool false)), none, [17, 20]⟩] none [0, 1, 21])
 (.cond [0, 1] (.t 21) (.seq (.reg 4 [⟨some 22, .move (.t 0), none, [0]⟩,
  ⟨some 23, .move (.t 1), none, [1]⟩,
  ⟨some 24, .index 9 .str none (.t 23) (.c (Value.int IntKind.i64 0)), none, [23]⟩,
  ⟨some 25, .call n_strings_trimLeftByte [(.t 22), (.t 24)] [9, 5], none, [22, 24]⟩,
  ⟨some 4, .assign (.t 25), none, [25]⟩] none [4])
 .ret) .skip))
 k1_strings_TrimLeft)
def k2_strings_TrimLeft : IR := .tail [0, 1] j2_strings_TrimLeft
def b_strings_TrimLeft : IR :=
 (.seq (.reg 0 [⟨some 4, .assign (.c (Value.string { data := #[] })), none, [4]⟩] none [0, 1])
 (.seq (.seq (.reg 1 [⟨some 7, .move (.t 0), none, []⟩,
  ⟨some 8, .bin .eql 9 (.t 7) (.c (Value.string { data := #[] })) 9, none, [7]⟩,
  ⟨some 9, .move (.t 8), none, [8]⟩,
  ⟨some 10, .move (.t 1), some (2, false), []⟩,
  ⟨some 11, .bin .eql 9 (.t 10) (.c (Value.string { data := #[] })) 9, some (2, false), [10]⟩,
  ⟨some 12, .pick (.t 9) (.c (Value.bool true)) (.t 11), none, [9, 11]⟩] none [0, 1, 12])
 (.cond [0, 1] (.t 12) (.seq (.reg 2 [⟨some 13, .move (.t 0), none, [0]⟩,
  ⟨some 4, .assign (.t 13), none, [13]⟩] none [4])
 .ret) .skip))
 k2_strings_TrimLeft))
def a_strings_TrimLeft : AFunc := ⟨37, [.tmp 4], b_strings_TrimLeft⟩

def j0_limbs_Print : IR :=
 (.reg 9 [⟨some 22, .move (.t 5), none, []⟩,
  ⟨some 23, .bin .sub 3 (.t 22) (.c (Value.int IntKind.i64 1)) 3, none, [22]⟩,
  ⟨some 5, .assign (.t 23), none, [23]⟩] none [0, 3, 4, 5, 10, 41, 57])
def k0_limbs_Print : IR := .tail [0, 3, 4, 5, 10, 41, 57] j0_limbs_Print
def j1_limbs_Print : IR :=
 (.seq (.block 3 (.seq (.reg 10 [⟨some 24, .move (.t 4), none, []⟩,
  ⟨some 25, .bin .shl 33 (.t 24) (.c (Value.int IntKind.u64 32)) 68, none, [24]⟩,
  ⟨some 26, .move (.t 0), none, []⟩,
  ⟨some 27, .move (.t 5), none, []⟩,
  ⟨some 28, .iaddr 22 (.sl 1) (.t 26) (.t 27), none, []⟩,
  ⟨some 29, .load 49 none (.t 28), none, [26, 27, 28]⟩,
  ⟨some 30, .conv 49 33 (.int .u64) (.t 29), none, [29]⟩,
  ⟨some 31, .bin .or 33 (.t 25) (.t 30) 33, none, [25, 30]⟩,
  ⟨some 4, .assign (.t 31), none, [31]⟩] none [0, 3, 4, 5, 10, 41, 57])
 (.seq (.reg 11 [⟨some 32, .move (.t 0), none, []⟩,
  ⟨some 33, .move (.t 5), none, []⟩,
  ⟨some 34, .move (.t 4), none, []⟩,
  ⟨some 35, .bin .quo 33 (.t 34) (.c (Value.int IntKind.u64 1000000000)) 33, none, [34]⟩,
  ⟨some 36, .conv 33 49 (.int .u32) (.t 35), none, [35]⟩,
  ⟨some 37, .iaddr 22 (.sl 1) (.t 32) (.t 33), none, []⟩,
  ⟨none, .store 49 none (.t 37) (.t 36), none, [32, 33, 36, 37]⟩] none [0, 3, 4, 5, 10, 41, 57])
 (.reg 12 [⟨some 38, .move (.t 4), none, []⟩,
  ⟨some 39, .bin .rem 33 (.t 38) (.c (Value.int IntKind.u64 1000000000)) 33, none, [38]⟩,
  ⟨some 4, .assign (.t 39), none, [39]⟩] none [0, 3, 4, 5, 10, 41, 57]))))
 k0_limbs_Print)
def k1_limbs_Print : IR := .tail [0, 3, 4, 5, 10, 41, 57] j1_limbs_Print
def w1_limbs_Print : IR :=
 (.seq (.seq (.reg 8 [⟨some 20, .move (.t 5), none, []⟩,
  ⟨some 21, .bin .geq 3 (.t 20) (.c (Value.int IntKind.i64 0)) 3, none, [20]⟩] none [0, 3, 4, 5, 10, 21, 41, 57])
 (.cond [0, 3, 4, 5, 10, 41, 57] (.t 21) .skip (.exit 2)))
 k1_limbs_Print)
def l1_limbs_Print : IR := .loop [0, 3, 4, 5, 10, 41, 57] w1_limbs_Print
def j2_limbs_Print : IR :=
 (.reg 19 [⟨some 53, .bin .add 3 (.t 42) (.c (Value.int IntKind.i64 1)) 3, none, []⟩,
  ⟨some 42, .move (.t 53), none, [53]⟩] none [0, 3, 4, 6, 10, 41, 42, 57])
def k2_limbs_Print : IR := .tail [0, 3, 4, 6, 10, 41, 42, 57] j2_limbs_Print
def j3_limbs_Print : IR :=
 (.seq (.block 5 (.seq (.reg 17 [⟨some 44, .move (.t 4), none, []⟩,
  ⟨some 45, .bin .rem 33 (.t 44) (.c (Value.int IntKind.u64 10)) 33, none, [44]⟩,
  ⟨some 46, .bin .add 33 (.c (Value.int IntKind.u64 48)) (.t 45) 33, none, [45]⟩,
  ⟨some 47, .conv 33 21 (.int .i32) (.t 46), none, [46]⟩,
  ⟨some 48, .conv 21 9 .rune (.t 47), none, [47]⟩,
  ⟨some 49, .move (.t 6), none, []⟩,
  ⟨some 50, .bin .add 9 (.t 48) (.t 49) 9, none, [48, 49]⟩,
  ⟨some 6, .assign (.t 50), none, [50]⟩] none [0, 3, 4, 6, 10, 41, 42, 57])
 (.reg 18 [⟨some 51, .move (.t 4), none, []⟩,
  ⟨some 52, .bin .quo 33 (.t 51) (.c (Value.int IntKind.u64 10)) 33, none, [51]⟩,
  ⟨some 4, .assign (.t 52), none, [52]⟩] none [0, 3, 4, 6, 10, 41, 42, 57])))
 k2_limbs_Print)
def k3_limbs_Print : IR := .tail [0, 3, 4, 6, 10, 41, 42, 57] j3_limbs_Print
def w2_limbs_Print : IR :=
 (.seq (.reg 16 [⟨some 43, .bin .lss 3 (.t 42) (.c (Value.int IntKind.i64 9)) 3, none, []⟩] none [0, 3, 4, 6, 10, 41, 42, 43, 57])
 (.seq (.cond [0, 3, 4, 6, 10, 41, 42, 57] (.t 43) .skip (.exit 4))
 k3_limbs_Print))
def l2_limbs_Print : IR := .loop [0, 3, 4, 6, 10, 41, 42, 57] w2_limbs_Print
def j4_limbs_Print : IR :=
 (.reg 20 [⟨some 54, .move (.t 3), none, []⟩,
  ⟨some 55, .move (.t 6), none, [6]⟩,
  ⟨some 56, .lit 67 1 [(.t 55)], none, [55]⟩,
  ⟨some 57, .append 67 67 false 1 16 (.t 54) (.t 56), none, [54, 56]⟩,
  ⟨some 3, .assign (.t 57), none, []⟩] none [0, 3, 10, 41, 57])
def k4_limbs_Print : IR := .tail [0, 3, 6, 10, 41, 57] j4_limbs_Print
def j5_limbs_Print : IR :=
 (.seq (.reg 13 [⟨some 40, .move (.t 0), none, []⟩,
  ⟨some 41, .call n_limbs_trim [(.t 40)] [22], none, [40]⟩,
  ⟨some 0, .assign (.t 41), none, []⟩] none [0, 3, 4, 10, 41, 57])
 (.seq (.reg 14 [⟨some 6, .assign (.c (Value.string { data := #[] })), none, []⟩] none [0, 3, 4, 6, 10, 41, 57])
 (.seq (.seq (.reg 15 [⟨some 42, .move (.c (Value.int IntKind.i64 0)), none, []⟩] none [0, 3, 4, 6, 10, 41, 42, 57])
 (.block 4 l2_limbs_Print))
 k4_limbs_Print)))
def k5_limbs_Print : IR := .tail [0, 3, 4, 10, 41, 57] j5_limbs_Print
def j6_limbs_Print : IR :=
 (.block 1 (.seq (.reg 6 [⟨some 4, .assign (.c (Value.int IntKind.u64 0)), none, []⟩] none [0, 3, 4, 10, 41, 57])
 (.seq (.seq (.reg 7 [⟨some 17, .move (.t 0), none, []⟩,
  ⟨some 18, .len 22 false (.t 17), none, [17]⟩,
  ⟨some 19, .bin .sub 3 (.t 18) (.c (Value.int IntKind.i64 1)) 3, none, [18]⟩,
  ⟨some 5, .assign (.t 19), none, [19]⟩] none [0, 3, 4, 5, 10, 41, 57])
 (.block 2 l1_limbs_Print))
 k5_limbs_Print)))
def k6_limbs_Print : IR := .tail [0, 3, 10, 41, 57] j6_limbs_Print
def w0_limbs_Print : IR :=
 (.seq (.seq (.reg 5 [⟨some 14, .move (.t 0), none, []⟩,
  ⟨some 15, .len 22 false (.t 14), none, [14]⟩,
  ⟨some 16, .bin .gtr 3 (.t 15) (.c (Value.int IntKind.i64 0)) 3, none, [15]⟩] none [0, 3, 10, 16, 41, 57])
 (.cond [0, 3, 10, 41, 57] (.t 16) .skip (.exit 0)))
 k6_limbs_Print)
def l0_limbs_Print : IR := .loop [0, 3, 10, 41, 57] w0_limbs_Print
def j7_limbs_Print : IR :=
 (.reg 24 [⟨some 63, .move (.t 8), none, []⟩,
  ⟨some 64, .bin .sub 3 (.t 63) (.c (Value.int IntKind.i64 1)) 3, none, [63]⟩,
  ⟨some 8, .assign (.t 64), none, [64]⟩] none [3, 7, 8, 57])
def k7_limbs_Print : IR := .tail [3, 7, 8, 57] j7_limbs_Print
def j8_limbs_Print : IR :=
 (.seq (.block 7 (.reg 25 [⟨some 65, .move (.t 3), none, []⟩,
  ⟨some 66, .move (.t 8), none, []⟩,
  ⟨some 67, .iaddr 67 (.sl 1) (.t 65) (.t 66), none, []⟩,
  ⟨some 68, .load 9 none (.t 67), none, [65, 66, 67]⟩,
  ⟨some 69, .call n_strings_Builder_WriteString [(.t 7), (.t 68)] [72, 9], none, [68, 69]⟩] none [3, 7, 8, 57]))
 k7_limbs_Print)
def k8_limbs_Print : IR := .tail [3, 7, 8, 57] j8_limbs_Print
def w3_limbs_Print : IR :=
 (.seq (.seq (.reg 23 [⟨some 61, .move (.t 8), none, []⟩,
  ⟨some 62, .bin .geq 3 (.t 61) (.c (Value.int IntKind.i64 0)) 3, none, [61]⟩] none [3, 7, 8, 57, 62])
 (.cond [3, 7, 8, 57] (.t 62) .skip (.exit 6)))
 k8_limbs_Print)
def l3_limbs_Print : IR := .loop [3, 7, 8, 57] w3_limbs_Print
def j9_limbs_Print : IR :=
 (.seq (.reg 26 [⟨some 70, .call n_strings_Builder_String [(.t 7)] [72], none, [7]⟩,
  ⟨some 71, .call n_strings_TrimLeft [(.t 70), (.c (Value.string { data := #[48] }))] [9, 9], none, [70]⟩,
  ⟨some 2, .assign (.t 71), none, [71]⟩] none [2])
 .ret)
def k9_limbs_Print : IR := .tail [7] j9_limbs_Print
def j10_limbs_Print : IR :=
 (.seq (.reg 21 [⟨some 7, .allocB 72 5, none, []⟩] none [3, 7, 57])
 (.seq (.seq (.reg 22 [⟨some 58, .move (.t 3), none, []⟩,
  ⟨some 59, .len 67 false (.t 58), none, [58]⟩,
  ⟨some 60, .bin .sub 3 (.t 59) (.c (Value.int IntKind.i64 1)) 3, none, [59]⟩,
  ⟨some 8, .assign (.t 60), none, [60]⟩] none [3, 7, 8, 57])
 (.block 6 l3_limbs_Print))
 k9_limbs_Print))
def k10_limbs_Print : IR := .tail [3, 57] j10_limbs_Print
def j11_limbs_Print : IR :=
 (.seq (.reg 4 [⟨some 3, .assign (.nilS 1), none, []⟩] none [0, 3, 10, 41, 57])
 (.seq (.block 0 l0_limbs_Print)
 k10_limbs_Print))
def k11_limbs_Print : IR := .tail [0, 10, 41] j11_limbs_Print
def b_limbs_Print : IR :=
 (.seq (.reg 0 [⟨some 2, .assign (.c (Value.string { data := #[] })), none, [2]⟩] none [0, 10, 41])
 (.seq (.reg 1 [⟨some 9, .move (.t 0), none, []⟩,
  ⟨some 10, .call n_limbs_Norm [(.t 9)] [22], none, [9]⟩,
  ⟨some 0, .assign (.t 10), none, []⟩] none [0, 10, 41])
 (.seq (.seq (.reg 2 [⟨some 11, .move (.t 0), none, []⟩,
  ⟨some 12, .len 22 false (.t 11), none, [11]⟩,
  ⟨some 13, .bin .eql 3 (.t 12) (.c (Value.int IntKind.i64 0)) 3, none, [12]⟩] none [0, 10, 13, 41])
 (.cond [0, 10, 41] (.t 13) (.seq (.reg 3 [⟨some 2, .assign (.c (Value.string { data := #[48] })), none, []⟩] none [2])
 .ret) .skip))
 k11_limbs_Print)))
def a_limbs_Print : AFunc := ⟨72, [.tmp 2], b_limbs_Print⟩

def b_limbs_From : IR :=
 (.seq (.reg 0 [⟨some 2, .assign (.nilS 1), none, [2]⟩] none [0])
 (.seq (.reg 1 [⟨some 3, .move (.t 0), none, []⟩,
  ⟨some 4, .call n_limbs_low [(.t 3)] [33], none, [3]⟩,
  ⟨some 5, .move (.t 0), none, [0]⟩,
  ⟨some 6, .call n_limbs_high [(.t 5)] [33], none, [5]⟩,
  ⟨some 7, .conv 33 49 (.int .u32) (.t 6), none, [6]⟩,
  ⟨some 8, .lit 22 1 [(.t 4), (.t 7)], none, [4, 7]⟩,
  ⟨some 9, .call n_limbs_trim [(.t 8)] [22], none, [8]⟩,
  ⟨some 2, .assign (.t 9), none, []⟩] none [2, 9])
 .ret))
def a_limbs_From : AFunc := ⟨10, [.tmp 2], b_limbs_From⟩

def j0_limbs_Cmp : IR :=
 (.seq (.reg 5 [⟨some 4, .assign (.c (Value.int IntKind.i64 1)), none, []⟩] none [4])
 .ret)
def k0_limbs_Cmp : IR := .tail [] j0_limbs_Cmp
def j1_limbs_Cmp : IR :=
 (.reg 8 [⟨some 25, .move (.t 5), none, []⟩,
  ⟨some 26, .bin .sub 3 (.t 25) (.c (Value.int IntKind.i64 1)) 3, none, [25]⟩,
  ⟨some 5, .assign (.t 26), none, [26]⟩] none [0, 1, 5, 7, 9])
def k1_limbs_Cmp : IR := .tail [0, 1, 5, 7, 9] j1_limbs_Cmp
def j2_limbs_Cmp : IR :=
 (.seq (.block 1 (.block 2 (.seq (.reg 9 [⟨some 28, .move (.t 0), none, []⟩,
  ⟨some 29, .move (.t 5), none, []⟩,
  ⟨some 30, .iaddr 22 (.sl 1) (.t 28) (.t 29), none, []⟩,
  ⟨some 31, .load 49 none (.t 30), none, [28, 29, 30]⟩,
  ⟨some 32, .move (.t 1), none, []⟩,
  ⟨some 33, .move (.t 5), none, []⟩,
  ⟨some 34, .iaddr 22 (.sl 1) (.t 32) (.t 33), none, []⟩,
  ⟨some 35, .load 49 none (.t 34), none, [32, 33, 34]⟩,
  ⟨some 36, .bin .lss 49 (.t 31) (.t 35) 49, none, [31, 35]⟩,
  ⟨some 27, .assign (.t 36), none, [36]⟩] (some [⟨0, []⟩, ⟨1, []⟩, ⟨2, []⟩, ⟨4, []⟩, ⟨5, []⟩, ⟨6, []⟩, ⟨3, []⟩, ⟨7, []⟩, ⟨8, []⟩, ⟨9, []⟩]) [0, 1, 5, 7, 9, 27])
 (.cond [0, 1, 5, 7, 9] (.t 27) (.seq (.reg 10 [⟨some 4, .assign (.c (Value.int IntKind.i64 (-1))), none, []⟩] none [4])
 .ret) (.seq (.reg 11 [⟨some 38, .move (.t 0), none, []⟩,
  ⟨some 39, .move (.t 5), none, []⟩,
  ⟨some 40, .iaddr 22 (.sl 1) (.t 38) (.t 39), none, []⟩,
  ⟨some 41, .load 49 none (.t 40), none, [38, 39, 40]⟩,
  ⟨some 42, .move (.t 1), none, []⟩,
  ⟨some 43, .move (.t 5), none, []⟩,
  ⟨some 44, .iaddr 22 (.sl 1) (.t 42) (.t 43), none, []⟩,
  ⟨some 45, .load 49 none (.t 44), none, [42, 43, 44]⟩,
  ⟨some 46, .bin .gtr 49 (.t 41) (.t 45) 49, none, [41, 45]⟩,
  ⟨some 37, .assign (.t 46), none, [46]⟩] (some [⟨0, []⟩, ⟨1, []⟩, ⟨2, []⟩, ⟨4, []⟩, ⟨5, []⟩, ⟨6, []⟩, ⟨3, []⟩, ⟨7, []⟩, ⟨8, []⟩, ⟨9, []⟩]) [0, 1, 5, 7, 9, 37])
 (.cond [0, 1, 5, 7, 9] (.t 37) (.seq (.reg 12 [⟨some 4, .assign (.c (Value.int IntKind.i64 1)), none, []⟩] none [4])
 .ret) .skip))))))
 k1_limbs_Cmp)
def k2_limbs_Cmp : IR := .tail [0, 1, 5, 7, 9] j2_limbs_Cmp
def w0_limbs_Cmp : IR :=
 (.seq (.seq (.reg 7 [⟨some 23, .move (.t 5), none, []⟩,
  ⟨some 24, .bin .geq 3 (.t 23) (.c (Value.int IntKind.i64 0)) 3, none, [23]⟩] none [0, 1, 5, 7, 9, 24])
 (.cond [0, 1, 5, 7, 9] (.t 24) .skip (.exit 0)))
 k2_limbs_Cmp)
def l0_limbs_Cmp : IR := .loop [0, 1, 5, 7, 9] w0_limbs_Cmp
def j3_limbs_Cmp : IR :=
 (.seq (.reg 13 [⟨some 4, .assign (.c (Value.int IntKind.i64 0)), none, []⟩] none [4])
 .ret)
def k3_limbs_Cmp : IR := .tail [] j3_limbs_Cmp
def j4_limbs_Cmp : IR :=
 (.seq (.seq (.reg 6 [⟨some 20, .move (.t 0), none, []⟩,
  ⟨some 21, .len 22 false (.t 20), none, [20]⟩,
  ⟨some 22, .bin .sub 3 (.t 21) (.c (Value.int IntKind.i64 1)) 3, none, [21]⟩,
  ⟨some 5, .assign (.t 22), none, [22]⟩] none [0, 1, 5, 7, 9])
 (.block 0 l0_limbs_Cmp))
 k3_limbs_Cmp)
def k4_limbs_Cmp : IR := .tail [0, 1, 7, 9] j4_limbs_Cmp
def b_limbs_Cmp : IR :=
 (.seq (.reg 0 [⟨some 4, .assign (.c (Value.int IntKind.i64 0)), none, [4]⟩] none [0, 1, 7, 9])
 (.seq (.reg 1 [⟨some 6, .move (.t 0), none, []⟩,
  ⟨some 7, .call n_limbs_trim [(.t 6)] [22], none, [6]⟩,
  ⟨some 8, .move (.t 1), none, []⟩,
  ⟨some 9, .call n_limbs_trim [(.t 8)] [22], none, [8]⟩,
  ⟨some 0, .assign (.t 7), none, []⟩,
  ⟨some 1, .assign (.t 9), none, []⟩] none [0, 1, 7, 9])
 (.seq (.seq (.reg 2 [⟨some 10, .move (.t 0), none, []⟩,
  ⟨some 11, .len 22 false (.t 10), none, [10]⟩,
  ⟨some 12, .move (.t 1), none, []⟩,
  ⟨some 13, .len 22 false (.t 12), none, [12]⟩,
  ⟨some 14, .bin .neq 3 (.t 11) (.t 13) 3, none, [11, 13]⟩] none [0, 1, 7, 9, 14])
 (.cond [0, 1, 7, 9] (.t 14) (.seq (.seq (.reg 3 [⟨some 15, .move (.t 0), none, []⟩,
  ⟨some 16, .len 22 false (.t 15), none, [0, 7, 15]⟩,
  ⟨some 17, .move (.t 1), none, []⟩,
  ⟨some 18, .len 22 false (.t 17), none, [1, 9, 17]⟩,
  ⟨some 19, .bin .lss 3 (.t 16) (.t 18) 3, none, [16, 18]⟩] none [19])
 (.cond [] (.t 19) (.seq (.reg 4 [⟨some 4, .assign (.c (Value.int IntKind.i64 (-1))), none, []⟩] none [4])
 .ret) .skip))
 k0_limbs_Cmp) .skip))
 k4_limbs_Cmp)))
def a_limbs_Cmp : AFunc := ⟨47, [.tmp 4], b_limbs_Cmp⟩

def j0_bits_Len32 : IR :=
 (.seq (.reg 7 [⟨some 13, .move (.t 2), none, []⟩,
  ⟨some 14, .move (.t 0), none, [0]⟩,
  ⟨some 15, .conv 49 5 (.int .u8) (.t 14), none, [14]⟩,
  ⟨some 16, .index 9 .str none (.c (Value.string { data := #[0, 1, 2, 2, 3, 3, 3, 3, 4, 4, 4, 4, 4, 4, 4, 4, 5, 5, 5, 5, 5, 5, 5, 5, 5, 5, 5, 5, 5, 5, 5, 5, 6, 6, 6, 6, 6, 6, 6, 6, 6, 6, 6, 6, 6, 6, 6, 6, 6, 6, 6, 6, 6, 6, 6, 6, 6, 6, 6, 6, 6, 6, 6, 6, 7, 7, 7, 7, 7, 7, 7, 7, 7, 7, 7, 7, 7, 7, 7, 7, 7, 7, 7, 7, 7, 7, 7, 7, 7, 7, 7, 7, 7, 7, 7, 7, 7, 7, 7, 7, 7, 7, 7, 7, 7, 7, 7, 7, 7, 7, 7, 7, 7, 7, 7, 7, 7, 7, 7, 7, 7, 7, 7, 7, 7, 7, 7, 7, 8, 8, 8, 8, 8, 8, 8, 8, 8, 8, 8, 8, 8, 8, 8, 8, 8, 8, 8, 8, 8, 8, 8, 8, 8, 8, 8, 8, 8, 8, 8, 8, 8, 8, 8, 8, 8, 8, 8, 8, 8, 8, 8, 8, 8, 8, 8, 8, 8, 8, 8, 8, 8, 8, 8, 8, 8, 8, 8, 8, 8, 8, 8, 8, 8, 8, 8, 8, 8, 8, 8, 8, 8, 8, 8, 8, 8, 8, 8, 8, 8, 8, 8, 8, 8, 8, 8, 8, 8, 8, 8, 8, 8, 8, 8, 8, 8, 8, 8, 8, 8, 8, 8, 8, 8, 8, 8, 8, 8, 8, 8, 8, 8, 8, 8, 8, 8, 8, 8, 8, 8, 8, 8, 8, 8, 8, 8, 8] })) (.t 15), none, [15]⟩,
  ⟨some 17, .conv 5 3 (.int .i64) (.t 16), none, [16]⟩,
  ⟨some 18, .bin .add 3 (.t 13) (.t 17) 3, none, [13, 17]⟩,
  ⟨some 2, .assign (.t 18), none, [18]⟩] none [2])
 .ret)
def k0_bits_Len32 : IR := .tail [0, 2] j0_bits_Len32
def j1_bits_Len32 : IR :=
 (.seq (.seq (.reg 4 [⟨some 7, .move (.t 0), none, []⟩,
  ⟨some 8, .bin .geq 49 (.t 7) (.c (Value.int IntKind.u32 256)) 49, none, [7]⟩] none [0, 2, 8])
 (.cond [0, 2] (.t 8) (.seq (.reg 5 [⟨some 9, .move (.t 0), none, []⟩,
  ⟨some 10, .bin .shr 49 (.t 9) (.c (Value.int IntKind.u64 8)) 68, none, [9]⟩,
  ⟨some 0, .assign (.t 10), none, [10]⟩] none [0, 2])
 (.reg 6 [⟨some 11, .move (.t 2), none, []⟩,
  ⟨some 12, .bin .add 3 (.t 11) (.c (Value.int IntKind.i64 8)) 3, none, [11]⟩,
  ⟨some 2, .assign (.t 12), none, [12]⟩] none [0, 2])) .skip))
 k0_bits_Len32)
def k1_bits_Len32 : IR := .tail [0, 2] j1_bits_Len32
def b_bits_Len32 : IR :=
 (.seq (.reg 0 [⟨some 2, .assign (.c (Value.int IntKind.i64 0)), none, []⟩] none [0, 2])
 (.seq (.seq (.reg 1 [⟨some 3, .move (.t 0), none, []⟩,
  ⟨some 4, .bin .geq 49 (.t 3) (.c (Value.int IntKind.u32 65536)) 49, none, [3]⟩] none [0, 2, 4])
 (.cond [0, 2] (.t 4) (.seq (.reg 2 [⟨some 5, .move (.t 0), none, []⟩,
  ⟨some 6, .bin .shr 49 (.t 5) (.c (Value.int IntKind.u64 16)) 68, none, [5]⟩,
  ⟨some 0, .assign (.t 6), none, [6]⟩] none [0])
 (.reg 3 [⟨some 2, .assign (.c (Value.int IntKind.i64 16)), none, []⟩] none [0, 2])) .skip))
 k1_bits_Len32))
def a_bits_Len32 : AFunc := ⟨19, [.tmp 2], b_bits_Len32⟩

def b_bits_LeadingZeros32 : IR :=
 (.seq (.reg 0 [⟨some 2, .assign (.c (Value.int IntKind.i64 0)), none, [2]⟩] none [0])
 (.seq (.reg 1 [⟨some 3, .move (.t 0), none, [0]⟩,
  ⟨some 4, .call n_bits_Len32 [(.t 3)] [49], none, [3]⟩,
  ⟨some 5, .bin .sub 3 (.c (Value.int IntKind.i64 32)) (.t 4) 3, none, [4]⟩,
  ⟨some 2, .assign (.t 5), none, [5]⟩] none [2])
 .ret))
def a_bits_LeadingZeros32 : AFunc := ⟨6, [.tmp 2], b_bits_LeadingZeros32⟩

def j0_limbs_up : IR :=
 (.reg 12 [⟨some 43, .bin .add 3 (.t 25) (.c (Value.int IntKind.i64 1)) 3, none, []⟩,
  ⟨some 25, .move (.t 43), none, [43]⟩] none [0, 1, 5, 6, 10, 22, 23, 24, 25, 40])
def k0_limbs_up : IR := .tail [0, 1, 5, 6, 10, 22, 23, 24, 25, 40] j0_limbs_up
def j1_limbs_up : IR :=
 (.seq (.block 1 (.seq (.reg 8 [⟨some 27, .iaddr 22 (.sl 1) (.t 23) (.t 25), none, []⟩,
  ⟨some 28, .load 49 none (.t 27), none, [27]⟩,
  ⟨some 8, .assign (.t 28), none, [28]⟩] none [0, 1, 5, 6, 8, 10, 22, 23, 24, 25, 40])
 (.seq (.reg 9 [⟨some 29, .move (.t 6), none, []⟩,
  ⟨some 30, .move (.t 8), none, [8]⟩,
  ⟨some 31, .conv 49 33 (.int .u64) (.t 30), none, [30]⟩,
  ⟨some 32, .move (.t 1), none, []⟩,
  ⟨some 33, .bin .rem 3 (.t 32) (.c (Value.int IntKind.i64 32)) 3, none, [32]⟩,
  ⟨some 34, .bin .shl 33 (.t 31) (.t 33) 3, none, [31, 33]⟩,
  ⟨some 35, .bin .or 33 (.t 29) (.t 34) 33, none, [29, 34]⟩,
  ⟨some 6, .assign (.t 35), none, [35]⟩] none [0, 1, 5, 6, 10, 22, 23, 24, 25, 40])
 (.seq (.reg 10 [⟨some 36, .move (.t 5), none, []⟩,
  ⟨some 37, .move (.t 6), none, []⟩,
  ⟨some 38, .call n_limbs_low [(.t 37)] [33], none, [37]⟩,
  ⟨some 39, .lit 22 1 [(.t 38)], none, [38]⟩,
  ⟨some 40, .append 22 22 false 1 4 (.t 36) (.t 39), none, [36, 39]⟩,
  ⟨some 5, .assign (.t 40), none, []⟩] none [0, 1, 5, 6, 10, 22, 23, 24, 25, 40])
 (.reg 11 [⟨some 41, .move (.t 6), none, []⟩,
  ⟨some 42, .call n_limbs_high [(.t 41)] [33], none, [41]⟩,
  ⟨some 6, .assign (.t 42), none, [42]⟩] none [0, 1, 5, 6, 10, 22, 23, 24, 25, 40])))))
 k0_limbs_up)
def k1_limbs_up : IR := .tail [0, 1, 5, 6, 10, 22, 23, 24, 25, 40] j1_limbs_up
def w0_limbs_up : IR :=
 (.seq (.reg 7 [⟨some 26, .bin .lss 3 (.t 25) (.t 24) 3, none, []⟩] none [0, 1, 5, 6, 10, 22, 23, 24, 25, 26, 40])
 (.seq (.cond [0, 1, 5, 6, 10, 22, 23, 24, 25, 40] (.t 26) .skip (.exit 0))
 k1_limbs_up))
def l0_limbs_up : IR := .loop [0, 1, 5, 6, 10, 22, 23, 24, 25, 40] w0_limbs_up
def j2_limbs_up : IR :=
 (.seq (.reg 13 [⟨some 44, .move (.t 5), none, []⟩,
  ⟨some 45, .move (.t 6), none, [6]⟩,
  ⟨some 46, .conv 33 49 (.int .u32) (.t 45), none, [45]⟩,
  ⟨some 47, .lit 22 1 [(.t 46)], none, [46]⟩,
  ⟨some 48, .append 22 22 false 1 4 (.t 44) (.t 47), none, [5, 22, 40, 44, 47]⟩,
  ⟨some 49, .call n_limbs_trim [(.t 48)] [22], none, [48]⟩,
  ⟨some 4, .assign (.t 49), none, []⟩] none [4, 49])
 .ret)
def k2_limbs_up : IR := .tail [5, 6, 22, 40] j2_limbs_up
def j3_limbs_up : IR :=
 (.seq (.reg 4 [⟨some 14, .move (.t 1), none, []⟩,
  ⟨some 15, .bin .quo 3 (.t 14) (.c (Value.int IntKind.i64 32)) 3, none, [14]⟩,
  ⟨some 16, .move (.t 1), none, []⟩,
  ⟨some 17, .bin .quo 3 (.t 16) (.c (Value.int IntKind.i64 32)) 3, none, [16]⟩,
  ⟨some 18, .move (.t 0), none, []⟩,
  ⟨some 19, .len 22 false (.t 18), none, [18]⟩,
  ⟨some 20, .bin .add 3 (.t 17) (.t 19) 3, none, [17, 19]⟩,
  ⟨some 21, .bin .add 3 (.t 20) (.c (Value.int IntKind.i64 1)) 3, none, [20]⟩,
  ⟨some 22, .mk 22 1 4 (.v (.int .u32 0)) (.t 15) (.t 21), none, [15, 21]⟩,
  ⟨some 5, .assign (.t 22), none, []⟩] none [0, 1, 5, 10, 22, 40])
 (.seq (.reg 5 [⟨some 6, .assign (.c (Value.int IntKind.u64 0)), none, []⟩] none [0, 1, 5, 6, 10, 22, 40])
 (.seq (.seq (.reg 6 [⟨some 23, .move (.t 0), none, []⟩,
  ⟨some 24, .len 22 false (.t 23), none, []⟩,
  ⟨some 25, .move (.c (Value.int IntKind.i64 0)), none, []⟩] none [0, 1, 5, 6, 10, 22, 23, 24, 25, 40])
 (.block 0 l0_limbs_up))
 k2_limbs_up)))
def k3_limbs_up : IR := .tail [0, 1, 10] j3_limbs_up
def b_limbs_up : IR :=
 (.seq (.reg 0 [⟨some 4, .assign (.nilS 1), none, [4]⟩] none [0, 1, 10])
 (.seq (.reg 1 [⟨some 9, .move (.t 0), none, []⟩,
  ⟨some 10, .call n_limbs_trim [(.t 9)] [22], none, [9]⟩,
  ⟨some 0, .assign (.t 10), none, []⟩] none [0, 1, 10])
 (.seq (.seq (.reg 2 [⟨some 11, .move (.t 0), none, []⟩,
  ⟨some 12, .len 22 false (.t 11), none, [11]⟩,
  ⟨some 13, .bin .eql 3 (.t 12) (.c (Value.int IntKind.i64 0)) 3, none, [12]⟩] none [0, 1, 10, 13])
 (.cond [0, 1, 10] (.t 13) (.seq (.reg 3 [⟨some 4, .assign (.nilS 1), none, []⟩] none [4, 49])
 .ret) .skip))
 k3_limbs_up)))
def a_limbs_up : AFunc := ⟨50, [.tmp 4], b_limbs_up⟩

def b_bits_Sub32 : IR :=
 (.seq (.reg 0 [⟨some 6, .assign (.c (Value.int IntKind.u32 0)), none, [6]⟩,
  ⟨some 7, .assign (.c (Value.int IntKind.u32 0)), none, [7]⟩] none [0, 1, 2])
 (.seq (.reg 1 [⟨some 8, .move (.t 0), none, []⟩,
  ⟨some 9, .move (.t 1), none, []⟩,
  ⟨some 10, .bin .sub 49 (.t 8) (.t 9) 49, none, [8, 9]⟩,
  ⟨some 11, .move (.t 2), none, [2]⟩,
  ⟨some 12, .bin .sub 49 (.t 10) (.t 11) 49, none, [10, 11]⟩,
  ⟨some 6, .assign (.t 12), none, [12]⟩] none [0, 1, 6])
 (.seq (.reg 2 [⟨some 13, .move (.t 0), none, []⟩,
  ⟨some 14, .un .xor 49 (.t 13), none, [13]⟩,
  ⟨some 15, .move (.t 1), none, []⟩,
  ⟨some 16, .bin .and 49 (.t 14) (.t 15) 49, none, [14, 15]⟩,
  ⟨some 17, .move (.t 0), none, [0]⟩,
  ⟨some 18, .move (.t 1), none, [1]⟩,
  ⟨some 19, .bin .xor 49 (.t 17) (.t 18) 49, none, [17, 18]⟩,
  ⟨some 20, .un .xor 49 (.t 19), none, [19]⟩,
  ⟨some 21, .move (.t 6), none, []⟩,
  ⟨some 22, .bin .and 49 (.t 20) (.t 21) 49, none, [20, 21]⟩,
  ⟨some 23, .bin .or 49 (.t 16) (.t 22) 49, none, [16, 22]⟩,
  ⟨some 24, .bin .shr 49 (.t 23) (.c (Value.int IntKind.u64 31)) 68, none, [23]⟩,
  ⟨some 7, .assign (.t 24), none, [24]⟩] none [6, 7])
 .ret)))
def a_bits_Sub32 : AFunc := ⟨25, [.tmp 6, .tmp 7], b_bits_Sub32⟩

def b_bits_Add32 : IR :=
 (.seq (.reg 0 [⟨some 6, .assign (.c (Value.int IntKind.u32 0)), none, [6]⟩,
  ⟨some 7, .assign (.c (Value.int IntKind.u32 0)), none, [7]⟩] none [0, 1, 2])
 (.seq (.reg 1 [⟨some 9, .move (.t 0), none, [0]⟩,
  ⟨some 10, .conv 49 33 (.int .u64) (.t 9), none, [9]⟩,
  ⟨some 11, .move (.t 1), none, [1]⟩,
  ⟨some 12, .conv 49 33 (.int .u64) (.t 11), none, [11]⟩,
  ⟨some 13, .bin .add 33 (.t 10) (.t 12) 33, none, [10, 12]⟩,
  ⟨some 14, .move (.t 2), none, [2]⟩,
  ⟨some 15, .conv 49 33 (.int .u64) (.t 14), none, [14]⟩,
  ⟨some 16, .bin .add 33 (.t 13) (.t 15) 33, none, [13, 15]⟩,
  ⟨some 8, .assign (.t 16), none, [16]⟩] none [8])
 (.seq (.reg 2 [⟨some 17, .move (.t 8), none, []⟩,
  ⟨some 18, .conv 33 49 (.int .u32) (.t 17), none, [17]⟩,
  ⟨some 6, .assign (.t 18), none, [18]⟩] none [6, 8])
 (.seq (.reg 3 [⟨some 19, .move (.t 8), none, [8]⟩,
  ⟨some 20, .bin .shr 33 (.t 19) (.c (Value.int IntKind.u64 32)) 68, none, [19]⟩,
  ⟨some 21, .conv 33 49 (.int .u32) (.t 20), none, [20]⟩,
  ⟨some 7, .assign (.t 21), none, [21]⟩] none [6, 7])
 .ret))))
def a_bits_Add32 : AFunc := ⟨22, [.tmp 6, .tmp 7], b_bits_Add32⟩

def j0_limbs_long : IR :=
 (.cond [0, 1, 5, 6, 7, 8, 9, 11, 12, 24, 100000] (.t 71) (.seq (.reg 12 [⟨some 89, .move (.t 11), none, []⟩,
  ⟨some 90, .bin .sub 33 (.t 89) (.c (Value.int IntKind.u64 1)) 33, none, [89]⟩,
  ⟨some 11, .assign (.t 90), none, [90]⟩] none [0, 1, 5, 6, 7, 8, 9, 11, 12, 24, 100000])
 (.reg 13 [⟨some 91, .move (.t 12), none, []⟩,
  ⟨some 92, .move (.t 7), none, []⟩,
  ⟨some 93, .bin .add 33 (.t 91) (.t 92) 33, none, [91, 92]⟩,
  ⟨some 12, .assign (.t 93), none, [93]⟩] none [0, 1, 5, 6, 7, 8, 9, 11, 12, 24, 100000])) (.exit 2))
def k0_limbs_long : IR := .tail [0, 1, 5, 6, 7, 8, 9, 11, 12, 24, 71, 100000] j0_limbs_long
def j1_limbs_long : IR :=
 (.block 3 (.block 4 (.seq (.seq (.reg 10 [⟨some 72, .move (.t 11), none, []⟩,
  ⟨some 73, .bin .geq 33 (.t 72) (.c (Value.int IntKind.u64 4294967296)) 33, none, [72]⟩,
  ⟨some 71, .assign (.t 73), none, [73]⟩] none [0, 1, 5, 6, 7, 8, 9, 11, 12, 24, 71, 100000])
 (.cond [0, 1, 5, 6, 7, 8, 9, 11, 12, 24, 71, 100000] (.t 71) .skip (.reg 11 [⟨some 74, .move (.t 11), none, []⟩,
  ⟨some 75, .move (.t 8), none, []⟩,
  ⟨some 76, .bin .mul 33 (.t 74) (.t 75) 33, none, [74, 75]⟩,
  ⟨some 77, .move (.t 12), none, []⟩,
  ⟨some 78, .bin .shl 33 (.t 77) (.c (Value.int IntKind.u64 32)) 68, none, [77]⟩,
  ⟨some 79, .move (.t 0), none, []⟩,
  ⟨some 80, .move (.t 9), none, []⟩,
  ⟨some 81, .move (.t 5), none, []⟩,
  ⟨some 82, .bin .add 3 (.t 80) (.t 81) 3, none, [80, 81]⟩,
  ⟨some 83, .bin .sub 3 (.t 82) (.c (Value.int IntKind.i64 2)) 3, none, [82]⟩,
  ⟨some 84, .iaddr 22 (.sl 1) (.t 79) (.t 83), none, []⟩,
  ⟨some 85, .load 49 none (.t 84), none, [79, 83, 84]⟩,
  ⟨some 86, .conv 49 33 (.int .u64) (.t 85), none, [85]⟩,
  ⟨some 87, .bin .or 33 (.t 78) (.t 86) 33, none, [78, 86]⟩,
  ⟨some 88, .bin .gtr 33 (.t 76) (.t 87) 33, none, [76, 87]⟩,
  ⟨some 71, .assign (.t 88), none, [88]⟩] none [0, 1, 5, 6, 7, 8, 9, 11, 12, 24, 71, 100000])))
 k0_limbs_long)))
def k1_limbs_long : IR := .tail [0, 1, 5, 6, 7, 8, 9, 11, 12, 24, 100000] j1_limbs_long
def w1_limbs_long : IR :=
 (.seq (.seq (.reg 9 [⟨some 69, .move (.t 12), none, []⟩,
  ⟨some 70, .bin .lss 33 (.t 69) (.c (Value.int IntKind.u64 4294967296)) 33, none, [69]⟩] none [0, 1, 5, 6, 7, 8, 9, 11, 12, 24, 70, 100000])
 (.cond [0, 1, 5, 6, 7, 8, 9, 11, 12, 24, 100000] (.t 70) .skip (.exit 2)))
 k1_limbs_long)
def l1_limbs_long : IR := .loop [0, 1, 5, 6, 7, 8, 9, 11, 12, 24, 100000] w1_limbs_long
def j2_limbs_long : IR :=
 (.reg 22 [⟨some 127, .bin .add 3 (.t 95) (.c (Value.int IntKind.i64 1)) 3, none, []⟩,
  ⟨some 95, .move (.t 127), none, [127]⟩] none [0, 1, 5, 6, 7, 8, 9, 11, 13, 14, 24, 94, 95, 100000])
def k2_limbs_long : IR := .tail [0, 1, 5, 6, 7, 8, 9, 11, 13, 14, 24, 94, 95, 100000] j2_limbs_long
def j3_limbs_long : IR :=
 (.seq (.block 6 (.seq (.reg 18 [⟨some 97, .move (.t 95), none, []⟩,
  ⟨some 15, .assign (.t 97), none, [97]⟩] none [0, 1, 5, 6, 7, 8, 9, 11, 13, 14, 15, 24, 94, 95, 100000])
 (.seq (.reg 19 [⟨some 98, .move (.t 13), none, []⟩,
  ⟨some 99, .move (.t 11), none, []⟩,
  ⟨some 100, .move (.t 1), none, []⟩,
  ⟨some 101, .move (.t 15), none, []⟩,
  ⟨some 102, .iaddr 22 (.sl 1) (.t 100) (.t 101), none, []⟩,
  ⟨some 103, .load 49 none (.t 102), none, [100, 101, 102]⟩,
  ⟨some 104, .conv 49 33 (.int .u64) (.t 103), none, [103]⟩,
  ⟨some 105, .bin .mul 33 (.t 99) (.t 104) 33, none, [99, 104]⟩,
  ⟨some 106, .bin .add 33 (.t 98) (.t 105) 33, none, [98, 105]⟩,
  ⟨some 13, .assign (.t 106), none, [106]⟩] none [0, 1, 5, 6, 7, 8, 9, 11, 13, 14, 15, 24, 94, 95, 100000])
 (.seq (.reg 20 [⟨some 108, .move (.t 0), none, []⟩,
  ⟨some 109, .move (.t 15), none, []⟩,
  ⟨some 110, .move (.t 9), none, []⟩,
  ⟨some 111, .bin .add 3 (.t 109) (.t 110) 3, none, [109, 110]⟩,
  ⟨some 112, .move (.t 0), none, []⟩,
  ⟨some 113, .move (.t 15), none, [15]⟩,
  ⟨some 114, .move (.t 9), none, []⟩,
  ⟨some 115, .bin .add 3 (.t 113) (.t 114) 3, none, [113, 114]⟩,
  ⟨some 116, .iaddr 22 (.sl 1) (.t 112) (.t 115), none, []⟩,
  ⟨some 117, .load 49 none (.t 116), none, []⟩,
  ⟨some 118, .move (.t 13), none, []⟩,
  ⟨some 119, .call n_limbs_low [(.t 118)] [33], none, [112, 115, 116, 118]⟩,
  ⟨some 120, .move (.t 14), none, []⟩,
  ⟨some 121, .call n_bits_Sub32 [(.t 117), (.t 119), (.t 120)] [49, 49, 49], none, [117, 119, 120]⟩,
  ⟨some 107, .move (.t 121), none, [121]⟩,
  ⟨some 122, .extr (.t 107) 0, none, []⟩,
  ⟨some 123, .extr (.t 107) 1, none, [107]⟩,
  ⟨some 124, .iaddr 22 (.sl 1) (.t 108) (.t 111), none, []⟩,
  ⟨none, .store 49 none (.t 124) (.t 122), none, [108, 111, 122, 124]⟩,
  ⟨some 14, .assign (.t 123), none, [123]⟩] (some [⟨0, []⟩, ⟨1, []⟩, ⟨2, []⟩, ⟨3, []⟩, ⟨4, []⟩, ⟨5, []⟩, ⟨6, []⟩, ⟨7, []⟩, ⟨8, []⟩, ⟨10, []⟩, ⟨12, []⟩, ⟨9, []⟩, ⟨11, [9]⟩, ⟨13, []⟩, ⟨14, []⟩, ⟨15, []⟩, ⟨16, []⟩, ⟨17, []⟩, ⟨18, []⟩, ⟨19, []⟩]) [0, 1, 5, 6, 7, 8, 9, 11, 13, 14, 24, 94, 95, 100000])
 (.reg 21 [⟨some 125, .move (.t 13), none, []⟩,
  ⟨some 126, .call n_limbs_high [(.t 125)] [33], none, [125]⟩,
  ⟨some 13, .assign (.t 126), none, [126]⟩] none [0, 1, 5, 6, 7, 8, 9, 11, 13, 14, 24, 94, 95, 100000])))))
 k2_limbs_long)
def k3_limbs_long : IR := .tail [0, 1, 5, 6, 7, 8, 9, 11, 13, 14, 24, 94, 95, 100000] j3_limbs_long
def w2_limbs_long : IR :=
 (.seq (.reg 17 [⟨some 96, .bin .lss 3 (.t 95) (.t 94) 3, none, []⟩] none [0, 1, 5, 6, 7, 8, 9, 11, 13, 14, 24, 94, 95, 96, 100000])
 (.seq (.cond [0, 1, 5, 6, 7, 8, 9, 11, 13, 14, 24, 94, 95, 100000] (.t 96) .skip (.exit 5))
 k3_limbs_long))
def l2_limbs_long : IR := .loop [0, 1, 5, 6, 7, 8, 9, 11, 13, 14, 24, 94, 95, 100000] w2_limbs_long
def j4_limbs_long : IR :=
 (.reg 32 [⟨some 183, .bin .add 3 (.t 160) (.c (Value.int IntKind.i64 1)) 3, none, []⟩,
  ⟨some 160, .move (.t 183), none, [183]⟩] none [0, 1, 5, 6, 7, 8, 9, 16, 24, 159, 160, 100000])
def k4_limbs_long : IR := .tail [0, 1, 5, 6, 7, 8, 9, 16, 24, 159, 160, 100000] j4_limbs_long
def j5_limbs_long : IR :=
 (.seq (.block 8 (.seq (.reg 30 [⟨some 162, .move (.t 160), none, []⟩,
  ⟨some 17, .assign (.t 162), none, [162]⟩] none [0, 1, 5, 6, 7, 8, 9, 16, 17, 24, 159, 160, 100000])
 (.reg 31 [⟨some 164, .move (.t 0), none, []⟩,
  ⟨some 165, .move (.t 17), none, []⟩,
  ⟨some 166, .move (.t 9), none, []⟩,
  ⟨some 167, .bin .add 3 (.t 165) (.t 166) 3, none, [165, 166]⟩,
  ⟨some 168, .move (.t 0), none, []⟩,
  ⟨some 169, .move (.t 17), none, []⟩,
  ⟨some 170, .move (.t 9), none, []⟩,
  ⟨some 171, .bin .add 3 (.t 169) (.t 170) 3, none, [169, 170]⟩,
  ⟨some 172, .iaddr 22 (.sl 1) (.t 168) (.t 171), none, []⟩,
  ⟨some 173, .load 49 none (.t 172), none, [168, 171, 172]⟩,
  ⟨some 174, .move (.t 1), none, []⟩,
  ⟨some 175, .move (.t 17), none, [17]⟩,
  ⟨some 176, .iaddr 22 (.sl 1) (.t 174) (.t 175), none, []⟩,
  ⟨some 177, .load 49 none (.t 176), none, [174, 175, 176]⟩,
  ⟨some 178, .move (.t 16), none, []⟩,
  ⟨some 179, .call n_bits_Add32 [(.t 173), (.t 177), (.t 178)] [49, 49, 49], none, [173, 177, 178]⟩,
  ⟨some 163, .move (.t 179), none, [179]⟩,
  ⟨some 180, .extr (.t 163) 0, none, []⟩,
  ⟨some 181, .extr (.t 163) 1, none, [163]⟩,
  ⟨some 182, .iaddr 22 (.sl 1) (.t 164) (.t 167), none, []⟩,
  ⟨none, .store 49 none (.t 182) (.t 180), none, [164, 167, 180, 182]⟩,
  ⟨some 16, .assign (.t 181), none, [181]⟩] (some [⟨0, []⟩, ⟨1, []⟩, ⟨2, []⟩, ⟨3, []⟩, ⟨4, []⟩, ⟨5, []⟩, ⟨6, []⟩, ⟨7, []⟩, ⟨8, []⟩, ⟨10, []⟩, ⟨11, []⟩, ⟨12, []⟩, ⟨14, []⟩, ⟨9, []⟩, ⟨13, []⟩, ⟨15, []⟩, ⟨16, []⟩, ⟨17, []⟩, ⟨18, []⟩, ⟨19, []⟩, ⟨20, []⟩, ⟨21, []⟩]) [0, 1, 5, 6, 7, 8, 9, 16, 24, 159, 160, 100000])))
 k4_limbs_long)
def k5_limbs_long : IR := .tail [0, 1, 5, 6, 7, 8, 9, 16, 24, 159, 160, 100000] j5_limbs_long
def w3_limbs_long : IR :=
 (.seq (.reg 29 [⟨some 161, .bin .lss 3 (.t 160) (.t 159) 3, none, []⟩] none [0, 1, 5, 6, 7, 8, 9, 16, 24, 159, 160, 161, 100000])
 (.seq (.cond [0, 1, 5, 6, 7, 8, 9, 16, 24, 159, 160, 100000] (.t 161) .skip (.exit 7))
 k5_limbs_long))
def l3_limbs_long : IR := .loop [0, 1, 5, 6, 7, 8, 9, 16, 24, 159, 160, 100000] w3_limbs_long
def j6_limbs_long : IR :=
 (.reg 33 [⟨some 184, .move (.t 0), none, []⟩,
  ⟨some 185, .move (.t 9), none, []⟩,
  ⟨some 186, .move (.t 5), none, []⟩,
  ⟨some 187, .bin .add 3 (.t 185) (.t 186) 3, none, [185, 186]⟩,
  ⟨some 188, .iaddr 22 (.sl 1) (.t 184) (.t 187), none, []⟩,
  ⟨some 189, .load 49 none (.t 188), none, [188]⟩,
  ⟨some 190, .move (.t 16), none, [16]⟩,
  ⟨some 191, .bin .add 49 (.t 189) (.t 190) 49, none, [189, 190]⟩,
  ⟨some 192, .iaddr 22 (.sl 1) (.t 184) (.t 187), none, []⟩,
  ⟨none, .store 49 none (.t 192) (.t 191), none, [184, 187, 191, 192]⟩] none [0, 1, 5, 6, 7, 8, 9, 24, 100000])
def k6_limbs_long : IR := .tail [0, 1, 5, 6, 7, 8, 9, 16, 24, 100000] j6_limbs_long
def j7_limbs_long : IR :=
 (.seq (.reg 26 [⟨some 153, .move (.t 6), none, []⟩,
  ⟨some 154, .move (.t 9), none, []⟩,
  ⟨some 155, .iaddr 22 (.sl 1) (.t 153) (.t 154), none, []⟩,
  ⟨some 156, .load 49 none (.t 155), none, [155]⟩,
  ⟨some 157, .bin .sub 49 (.t 156) (.c (Value.int IntKind.u32 1)) 49, none, [156]⟩,
  ⟨some 158, .iaddr 22 (.sl 1) (.t 153) (.t 154), none, []⟩,
  ⟨none, .store 49 none (.t 158) (.t 157), none, [153, 154, 157, 158]⟩] none [0, 1, 5, 6, 7, 8, 9, 24, 100000])
 (.seq (.reg 27 [⟨some 16, .assign (.c (Value.int IntKind.u32 0)), none, []⟩] none [0, 1, 5, 6, 7, 8, 9, 16, 24, 100000])
 (.seq (.seq (.reg 28 [⟨some 159, .move (.t 5), none, []⟩,
  ⟨some 160, .move (.c (Value.int IntKind.i64 0)), none, []⟩] none [0, 1, 5, 6, 7, 8, 9, 16, 24, 159, 160, 100000])
 (.block 7 l3_limbs_long))
 k6_limbs_long)))
def k7_limbs_long : IR := .tail [0, 1, 5, 6, 7, 8, 9, 24, 100000] j7_limbs_long
def j8_limbs_long : IR :=
 (.seq (.reg 23 [⟨some 129, .move (.t 0), none, []⟩,
  ⟨some 130, .move (.t 9), none, []⟩,
  ⟨some 131, .move (.t 5), none, []⟩,
  ⟨some 132, .bin .add 3 (.t 130) (.t 131) 3, none, [130, 131]⟩,
  ⟨some 133, .move (.t 0), none, []⟩,
  ⟨some 134, .move (.t 9), none, []⟩,
  ⟨some 135, .move (.t 5), none, []⟩,
  ⟨some 136, .bin .add 3 (.t 134) (.t 135) 3, none, [134, 135]⟩,
  ⟨some 137, .iaddr 22 (.sl 1) (.t 133) (.t 136), none, []⟩,
  ⟨some 138, .load 49 none (.t 137), none, [133, 136, 137]⟩,
  ⟨some 139, .move (.t 13), none, [13]⟩,
  ⟨some 140, .conv 33 49 (.int .u32) (.t 139), none, [139]⟩,
  ⟨some 141, .move (.t 14), none, []⟩,
  ⟨some 142, .call n_bits_Sub32 [(.t 138), (.t 140), (.t 141)] [49, 49, 49], none, [138, 140, 141]⟩,
  ⟨some 128, .move (.t 142), none, [142]⟩,
  ⟨some 143, .extr (.t 128) 0, none, []⟩,
  ⟨some 144, .extr (.t 128) 1, none, [128]⟩,
  ⟨some 145, .iaddr 22 (.sl 1) (.t 129) (.t 132), none, []⟩,
  ⟨none, .store 49 none (.t 145) (.t 143), none, [129, 132, 143, 145]⟩,
  ⟨some 14, .assign (.t 144), none, [144]⟩] none [0, 1, 5, 6, 7, 8, 9, 11, 14, 24, 100000])
 (.seq (.reg 24 [⟨some 146, .move (.t 6), none, []⟩,
  ⟨some 147, .move (.t 9), none, []⟩,
  ⟨some 148, .move (.t 11), none, [11]⟩,
  ⟨some 149, .conv 33 49 (.int .u32) (.t 148), none, [148]⟩,
  ⟨some 150, .iaddr 22 (.sl 1) (.t 146) (.t 147), none, []⟩,
  ⟨none, .store 49 none (.t 150) (.t 149), none, [146, 147, 149, 150]⟩] none [0, 1, 5, 6, 7, 8, 9, 14, 24, 100000])
 (.seq (.seq (.reg 25 [⟨some 151, .move (.t 14), none, [14]⟩,
  ⟨some 152, .bin .eql 49 (.t 151) (.c (Value.int IntKind.u32 0)) 49, none, [151]⟩] none [0, 1, 5, 6, 7, 8, 9, 24, 152, 100000])
 (.cond [0, 1, 5, 6, 7, 8, 9, 24, 100000] (.t 152) (.exit 1) .skip))
 k7_limbs_long)))
def k8_limbs_long : IR := .tail [0, 1, 5, 6, 7, 8, 9, 11, 13, 14, 24, 100000] j8_limbs_long
def j9_limbs_long : IR :=
 (.seq (.reg 14 [⟨some 13, .assign (.c (Value.int IntKind.u64 0)), none, []⟩] none [0, 1, 5, 6, 7, 8, 9, 11, 13, 24, 100000])
 (.seq (.reg 15 [⟨some 14, .assign (.c (Value.int IntKind.u32 0)), none, []⟩] none [0, 1, 5, 6, 7, 8, 9, 11, 13, 14, 24, 100000])
 (.seq (.seq (.reg 16 [⟨some 94, .move (.t 5), none, []⟩,
  ⟨some 95, .move (.c (Value.int IntKind.i64 0)), none, []⟩] none [0, 1, 5, 6, 7, 8, 9, 11, 13, 14, 24, 94, 95, 100000])
 (.block 5 l2_limbs_long))
 k8_limbs_long)))
def k9_limbs_long : IR := .tail [0, 1, 5, 6, 7, 8, 9, 11, 24, 100000] j9_limbs_long
def j10_limbs_long : IR :=
 (.reg 6 [⟨some 44, .move (.t 9), none, []⟩,
  ⟨some 45, .bin .sub 3 (.t 44) (.c (Value.int IntKind.i64 1)) 3, none, [44]⟩,
  ⟨some 9, .assign (.t 45), none, [45]⟩] none [0, 1, 5, 6, 7, 8, 9, 24, 100000])
def k10_limbs_long : IR := .tail [0, 1, 5, 6, 7, 8, 9, 24, 100000] j10_limbs_long
def j11_limbs_long : IR :=
 (.seq (.block 1 (.scope (.seq (.reg 7 [⟨some 46, .move (.t 0), none, []⟩,
  ⟨some 47, .move (.t 9), none, []⟩,
  ⟨some 48, .move (.t 5), none, []⟩,
  ⟨some 49, .bin .add 3 (.t 47) (.t 48) 3, none, [47, 48]⟩,
  ⟨some 50, .iaddr 22 (.sl 1) (.t 46) (.t 49), none, []⟩,
  ⟨some 51, .load 49 none (.t 50), none, [46, 49, 50]⟩,
  ⟨some 52, .conv 49 33 (.int .u64) (.t 51), none, [51]⟩,
  ⟨some 53, .bin .shl 33 (.t 52) (.c (Value.int IntKind.u64 32)) 68, none, [52]⟩,
  ⟨some 54, .move (.t 0), none, []⟩,
  ⟨some 55, .move (.t 9), none, []⟩,
  ⟨some 56, .move (.t 5), none, []⟩,
  ⟨some 57, .bin .add 3 (.t 55) (.t 56) 3, none, [55, 56]⟩,
  ⟨some 58, .bin .sub 3 (.t 57) (.c (Value.int IntKind.i64 1)) 3, none, [57]⟩,
  ⟨some 59, .iaddr 22 (.sl 1) (.t 54) (.t 58), none, []⟩,
  ⟨some 60, .load 49 none (.t 59), none, [54, 58, 59]⟩,
  ⟨some 61, .conv 49 33 (.int .u64) (.t 60), none, [60]⟩,
  ⟨some 62, .bin .or 33 (.t 53) (.t 61) 33, none, [53, 61]⟩,
  ⟨some 10, .assign (.t 62), none, [62]⟩] (some [⟨0, []⟩, ⟨1, []⟩, ⟨2, []⟩, ⟨3, []⟩, ⟨4, []⟩, ⟨8, []⟩, ⟨9, []⟩, ⟨10, []⟩, ⟨11, []⟩, ⟨12, []⟩, ⟨13, []⟩, ⟨5, []⟩, ⟨6, []⟩, ⟨7, []⟩, ⟨14, []⟩, ⟨15, []⟩, ⟨16, []⟩, ⟨17, []⟩]) [0, 1, 5, 6, 7, 8, 9, 10, 24, 100000])
 (.seq (.reg 8 [⟨some 63, .move (.t 10), none, []⟩,
  ⟨some 64, .move (.t 7), none, []⟩,
  ⟨some 65, .bin .quo 33 (.t 63) (.t 64) 33, none, [63, 64]⟩,
  ⟨some 66, .move (.t 10), none, [10]⟩,
  ⟨some 67, .move (.t 7), none, []⟩,
  ⟨some 68, .bin .rem 33 (.t 66) (.t 67) 33, none, [66, 67]⟩,
  ⟨some 11, .assign (.t 65), none, [65]⟩,
  ⟨some 12, .assign (.t 68), none, [68]⟩] (some [⟨0, []⟩, ⟨1, []⟩, ⟨2, []⟩, ⟨3, []⟩, ⟨4, []⟩, ⟨5, []⟩, ⟨6, []⟩, ⟨7, []⟩]) [0, 1, 5, 6, 7, 8, 9, 11, 12, 24, 100000])
 (.seq (.label 0)
 (.seq (.block 2 l1_limbs_long)
 k9_limbs_long))))))
 k10_limbs_long)
def k11_limbs_long : IR := .tail [0, 1, 5, 6, 7, 8, 9, 24, 100000] j11_limbs_long
def w0_limbs_long : IR :=
 (.seq (.seq (.reg 5 [⟨some 42, .move (.t 9), none, []⟩,
  ⟨some 43, .bin .geq 3 (.t 42) (.c (Value.int IntKind.i64 0)) 3, none, [42]⟩] none [0, 1, 5, 6, 7, 8, 9, 24, 43, 100000])
 (.cond [0, 1, 5, 6, 7, 8, 9, 24, 100000] (.t 43) .skip (.exit 0)))
 k11_limbs_long)
def l0_limbs_long : IR := .loop [0, 1, 5, 6, 7, 8, 9, 24, 100000] w0_limbs_long
def j12_limbs_long : IR :=
 (.seq (.reg 34 [⟨some 193, .move (.t 6), none, []⟩,
  ⟨some 4, .assign (.t 193), none, []⟩] none [4, 6, 24, 193, 100000])
 .ret)
def k12_limbs_long : IR := .tail [6, 24, 100000] j12_limbs_long
def b_limbs_long : IR :=
 (.seq (.reg 0 [⟨some 4, .assign (.nilS 1), none, [4]⟩] none [0, 1, 100000])
 (.seq (.reg 1 [⟨some 18, .move (.t 1), none, []⟩,
  ⟨some 19, .len 22 false (.t 18), none, [18]⟩,
  ⟨some 5, .assign (.t 19), none, [19]⟩] none [0, 1, 5, 100000])
 (.seq (.reg 2 [⟨some 20, .move (.t 0), none, []⟩,
  ⟨some 21, .len 22 false (.t 20), none, [20]⟩,
  ⟨some 22, .move (.t 5), none, []⟩,
  ⟨some 23, .bin .sub 3 (.t 21) (.t 22) 3, none, [21, 22]⟩,
  ⟨some 24, .mk 22 1 4 (.v (.int .u32 0)) (.t 23) (.t 23), none, [23]⟩,
  ⟨some 6, .assign (.t 24), none, []⟩] none [0, 1, 5, 6, 24, 100000])
 (.seq (.reg 3 [⟨some 25, .move (.t 1), none, []⟩,
  ⟨some 26, .move (.t 5), none, []⟩,
  ⟨some 27, .bin .sub 3 (.t 26) (.c (Value.int IntKind.i64 1)) 3, none, [26]⟩,
  ⟨some 28, .iaddr 22 (.sl 1) (.t 25) (.t 27), none, []⟩,
  ⟨some 29, .load 49 none (.t 28), none, [25, 27, 28]⟩,
  ⟨some 30, .conv 49 33 (.int .u64) (.t 29), none, [29]⟩,
  ⟨some 31, .move (.t 1), none, []⟩,
  ⟨some 32, .move (.t 5), none, []⟩,
  ⟨some 33, .bin .sub 3 (.t 32) (.c (Value.int IntKind.i64 2)) 3, none, [32]⟩,
  ⟨some 34, .iaddr 22 (.sl 1) (.t 31) (.t 33), none, []⟩,
  ⟨some 35, .load 49 none (.t 34), none, []⟩,
  ⟨some 36, .conv 49 33 (.int .u64) (.t 35), none, [35]⟩,
  ⟨some 7, .assign (.t 30), none, [30, 31, 33, 34]⟩,
  ⟨some 8, .assign (.t 36), none, [36]⟩] (some [⟨0, []⟩, ⟨1, []⟩, ⟨2, []⟩, ⟨3, []⟩, ⟨6, []⟩, ⟨7, []⟩, ⟨8, []⟩, ⟨9, []⟩, ⟨4, []⟩, ⟨5, []⟩, ⟨10, []⟩, ⟨11, []⟩, ⟨12, [10]⟩, ⟨13, []⟩]) [0, 1, 5, 6, 7, 8, 24, 100000])
 (.seq (.seq (.reg 4 [⟨some 37, .move (.t 0), none, []⟩,
  ⟨some 38, .len 22 false (.t 37), none, [37]⟩,
  ⟨some 39, .move (.t 5), none, []⟩,
  ⟨some 40, .bin .sub 3 (.t 38) (.t 39) 3, none, [38, 39]⟩,
  ⟨some 41, .bin .sub 3 (.t 40) (.c (Value.int IntKind.i64 1)) 3, none, [40]⟩,
  ⟨some 9, .assign (.t 41), none, [41]⟩] none [0, 1, 5, 6, 7, 8, 9, 24, 100000])
 (.block 0 l0_limbs_long))
 k12_limbs_long)))))
def a_limbs_long : AFunc := ⟨194, [.tmp 4], b_limbs_long⟩

def j0_limbs_down : IR :=
 (.reg 12 [⟨some 46, .move (.t 5), none, []⟩,
  ⟨some 47, .move (.t 6), none, [6]⟩,
  ⟨some 48, .move (.t 7), none, [7]⟩,
  ⟨some 49, .move (.t 1), none, []⟩,
  ⟨some 50, .bin .rem 3 (.t 49) (.c (Value.int IntKind.i64 32)) 3, none, [49]⟩,
  ⟨some 51, .bin .shr 33 (.t 48) (.t 50) 3, none, [48, 50]⟩,
  ⟨some 52, .call n_limbs_low [(.t 51)] [33], none, [51]⟩,
  ⟨some 53, .iaddr 22 (.sl 1) (.t 46) (.t 47), none, []⟩,
  ⟨none, .store 49 none (.t 53) (.t 52), none, [46, 47, 52, 53]⟩] none [0, 1, 5, 9, 15, 17, 18, 21, 23, 24])
def k0_limbs_down : IR := .tail [0, 1, 5, 6, 7, 9, 15, 17, 18, 21, 23, 24] j0_limbs_down
def j1_limbs_down : IR :=
 (.reg 13 [⟨some 54, .bin .add 3 (.t 24) (.c (Value.int IntKind.i64 1)) 3, none, []⟩,
  ⟨some 24, .move (.t 54), none, [54]⟩] none [0, 1, 5, 9, 15, 17, 18, 21, 23, 24])
def k1_limbs_down : IR := .tail [0, 1, 5, 9, 15, 17, 18, 21, 23, 24] j1_limbs_down
def j2_limbs_down : IR :=
 (.seq (.block 1 (.seq (.reg 8 [⟨some 26, .move (.t 24), none, []⟩,
  ⟨some 6, .assign (.t 26), none, [26]⟩] none [0, 1, 5, 6, 9, 15, 17, 18, 21, 23, 24])
 (.seq (.reg 9 [⟨some 27, .move (.t 0), none, []⟩,
  ⟨some 28, .move (.t 6), none, []⟩,
  ⟨some 29, .iaddr 22 (.sl 1) (.t 27) (.t 28), none, []⟩,
  ⟨some 30, .load 49 none (.t 29), none, [27, 28, 29]⟩,
  ⟨some 31, .conv 49 33 (.int .u64) (.t 30), none, [30]⟩,
  ⟨some 7, .assign (.t 31), none, [31]⟩] none [0, 1, 5, 6, 7, 9, 15, 17, 18, 21, 23, 24])
 (.seq (.seq (.reg 10 [⟨some 32, .move (.t 6), none, []⟩,
  ⟨some 33, .bin .add 3 (.t 32) (.c (Value.int IntKind.i64 1)) 3, none, [32]⟩,
  ⟨some 34, .move (.t 0), none, []⟩,
  ⟨some 35, .len 22 false (.t 34), none, [34]⟩,
  ⟨some 36, .bin .lss 3 (.t 33) (.t 35) 3, none, [33, 35]⟩] none [0, 1, 5, 6, 7, 9, 15, 17, 18, 21, 23, 24, 36])
 (.cond [0, 1, 5, 6, 7, 9, 15, 17, 18, 21, 23, 24] (.t 36) (.reg 11 [⟨some 37, .move (.t 7), none, []⟩,
  ⟨some 38, .move (.t 0), none, []⟩,
  ⟨some 39, .move (.t 6), none, []⟩,
  ⟨some 40, .bin .add 3 (.t 39) (.c (Value.int IntKind.i64 1)) 3, none, [39]⟩,
  ⟨some 41, .iaddr 22 (.sl 1) (.t 38) (.t 40), none, []⟩,
  ⟨some 42, .load 49 none (.t 41), none, [38, 40, 41]⟩,
  ⟨some 43, .conv 49 33 (.int .u64) (.t 42), none, [42]⟩,
  ⟨some 44, .bin .shl 33 (.t 43) (.c (Value.int IntKind.u64 32)) 68, none, [43]⟩,
  ⟨some 45, .bin .or 33 (.t 37) (.t 44) 33, none, [37, 44]⟩,
  ⟨some 7, .assign (.t 45), none, [45]⟩] none [0, 1, 5, 6, 7, 9, 15, 17, 18, 21, 23, 24]) .skip))
 k0_limbs_down))))
 k1_limbs_down)
def k2_limbs_down : IR := .tail [0, 1, 5, 9, 15, 17, 18, 21, 23, 24] j2_limbs_down
def w0_limbs_down : IR :=
 (.seq (.reg 7 [⟨some 25, .bin .lss 3 (.t 24) (.t 23) 3, none, []⟩] none [0, 1, 5, 9, 15, 17, 18, 21, 23, 24, 25])
 (.seq (.cond [0, 1, 5, 9, 15, 17, 18, 21, 23, 24] (.t 25) .skip (.exit 0))
 k2_limbs_down))
def l0_limbs_down : IR := .loop [0, 1, 5, 9, 15, 17, 18, 21, 23, 24] w0_limbs_down
def j3_limbs_down : IR :=
 (.seq (.reg 14 [⟨some 55, .move (.t 5), none, []⟩,
  ⟨some 56, .call n_limbs_trim [(.t 55)] [22], none, [5, 21, 55]⟩,
  ⟨some 4, .assign (.t 56), none, []⟩] none [4, 56])
 .ret)
def k3_limbs_down : IR := .tail [5, 21] j3_limbs_down
def j4_limbs_down : IR :=
 (.seq (.reg 4 [⟨some 15, .move (.t 0), none, []⟩,
  ⟨some 16, .move (.t 1), none, []⟩,
  ⟨some 17, .bin .quo 3 (.t 16) (.c (Value.int IntKind.i64 32)) 3, none, [16]⟩,
  ⟨some 18, .slice 22 (.sl 1) (.t 15) (some (.t 17)) none none, none, []⟩,
  ⟨some 0, .assign (.t 18), none, []⟩] none [0, 1, 9, 15, 17, 18])
 (.seq (.reg 5 [⟨some 19, .move (.t 0), none, []⟩,
  ⟨some 20, .len 22 false (.t 19), none, [19]⟩,
  ⟨some 21, .mk 22 1 4 (.v (.int .u32 0)) (.t 20) (.t 20), none, [20]⟩,
  ⟨some 5, .assign (.t 21), none, []⟩] none [0, 1, 5, 9, 15, 17, 18, 21])
 (.seq (.seq (.reg 6 [⟨some 22, .move (.t 0), none, []⟩,
  ⟨some 23, .len 22 false (.t 22), none, [22]⟩,
  ⟨some 24, .move (.c (Value.int IntKind.i64 0)), none, []⟩] none [0, 1, 5, 9, 15, 17, 18, 21, 23, 24])
 (.block 0 l0_limbs_down))
 k3_limbs_down)))
def k4_limbs_down : IR := .tail [0, 1, 9, 15, 17, 18] j4_limbs_down
def b_limbs_down : IR :=
 (.seq (.reg 0 [⟨some 4, .assign (.nilS 1), none, [4]⟩] none [0, 1, 9, 15, 17, 18])
 (.seq (.reg 1 [⟨some 8, .move (.t 0), none, []⟩,
  ⟨some 9, .call n_limbs_trim [(.t 8)] [22], none, [8]⟩,
  ⟨some 0, .assign (.t 9), none, []⟩] none [0, 1, 9, 15, 17, 18])
 (.seq (.seq (.reg 2 [⟨some 10, .move (.t 1), none, []⟩,
  ⟨some 11, .bin .quo 3 (.t 10) (.c (Value.int IntKind.i64 32)) 3, none, [10]⟩,
  ⟨some 12, .move (.t 0), none, []⟩,
  ⟨some 13, .len 22 false (.t 12), none, [12]⟩,
  ⟨some 14, .bin .geq 3 (.t 11) (.t 13) 3, none, [11, 13]⟩] none [0, 1, 9, 14, 15, 17, 18])
 (.cond [0, 1, 9, 15, 17, 18] (.t 14) (.seq (.reg 3 [⟨some 4, .assign (.nilS 1), none, []⟩] none [4, 56])
 .ret) .skip))
 k4_limbs_down)))
def a_limbs_down : AFunc := ⟨57, [.tmp 4], b_limbs_down⟩

def j0_limbs_DivMod : IR :=
 (.reg 11 [⟨some 38, .move (.t 9), none, []⟩,
  ⟨some 39, .bin .sub 3 (.t 38) (.c (Value.int IntKind.i64 1)) 3, none, [38]⟩,
  ⟨some 9, .assign (.t 39), none, [39]⟩] none [0, 1, 7, 8, 9, 15, 17, 32])
def k0_limbs_DivMod : IR := .tail [0, 1, 7, 8, 9, 15, 17, 32] j0_limbs_DivMod
def j1_limbs_DivMod : IR :=
 (.seq (.block 1 (.seq (.reg 12 [⟨some 40, .move (.t 8), none, []⟩,
  ⟨some 41, .bin .shl 33 (.t 40) (.c (Value.int IntKind.u64 32)) 68, none, [40]⟩,
  ⟨some 42, .move (.t 0), none, []⟩,
  ⟨some 43, .move (.t 9), none, []⟩,
  ⟨some 44, .iaddr 22 (.sl 1) (.t 42) (.t 43), none, []⟩,
  ⟨some 45, .load 49 none (.t 44), none, [42, 43, 44]⟩,
  ⟨some 46, .conv 49 33 (.int .u64) (.t 45), none, [45]⟩,
  ⟨some 47, .bin .or 33 (.t 41) (.t 46) 33, none, [41, 46]⟩,
  ⟨some 8, .assign (.t 47), none, [47]⟩] none [0, 1, 7, 8, 9, 15, 17, 32])
 (.seq (.reg 13 [⟨some 48, .move (.t 7), none, []⟩,
  ⟨some 49, .move (.t 9), none, []⟩,
  ⟨some 50, .move (.t 8), none, []⟩,
  ⟨some 51, .move (.t 1), none, []⟩,
  ⟨some 52, .iaddr 22 (.sl 1) (.t 51) (.c (Value.int IntKind.i64 0)), none, []⟩,
  ⟨some 53, .load 49 none (.t 52), none, [51, 52]⟩,
  ⟨some 54, .conv 49 33 (.int .u64) (.t 53), none, [53]⟩,
  ⟨some 55, .bin .quo 33 (.t 50) (.t 54) 33, none, [50, 54]⟩,
  ⟨some 56, .conv 33 49 (.int .u32) (.t 55), none, [55]⟩,
  ⟨some 57, .iaddr 22 (.sl 1) (.t 48) (.t 49), none, []⟩,
  ⟨none, .store 49 none (.t 57) (.t 56), none, [48, 49, 56, 57]⟩] none [0, 1, 7, 8, 9, 15, 17, 32])
 (.reg 14 [⟨some 58, .move (.t 8), none, []⟩,
  ⟨some 59, .move (.t 1), none, []⟩,
  ⟨some 60, .iaddr 22 (.sl 1) (.t 59) (.c (Value.int IntKind.i64 0)), none, []⟩,
  ⟨some 61, .load 49 none (.t 60), none, [59, 60]⟩,
  ⟨some 62, .conv 49 33 (.int .u64) (.t 61), none, [61]⟩,
  ⟨some 63, .bin .rem 33 (.t 58) (.t 62) 33, none, [58, 62]⟩,
  ⟨some 8, .assign (.t 63), none, [63]⟩] none [0, 1, 7, 8, 9, 15, 17, 32]))))
 k0_limbs_DivMod)
def k1_limbs_DivMod : IR := .tail [0, 1, 7, 8, 9, 15, 17, 32] j1_limbs_DivMod
def w0_limbs_DivMod : IR :=
 (.seq (.seq (.reg 10 [⟨some 36, .move (.t 9), none, []⟩,
  ⟨some 37, .bin .geq 3 (.t 36) (.c (Value.int IntKind.i64 0)) 3, none, [36]⟩] none [0, 1, 7, 8, 9, 15, 17, 32, 37])
 (.cond [0, 1, 7, 8, 9, 15, 17, 32] (.t 37) .skip (.exit 0)))
 k1_limbs_DivMod)
def l0_limbs_DivMod : IR := .loop [0, 1, 7, 8, 9, 15, 17, 32] w0_limbs_DivMod
def j2_limbs_DivMod : IR :=
 (.seq (.reg 15 [⟨some 64, .move (.t 7), none, []⟩,
  ⟨some 65, .call n_limbs_trim [(.t 64)] [22], none, [7, 32, 64]⟩,
  ⟨some 66, .move (.t 8), none, [8]⟩,
  ⟨some 67, .call n_limbs_From [(.t 66)] [33], none, [66]⟩,
  ⟨some 4, .assign (.t 65), none, []⟩,
  ⟨some 5, .assign (.t 67), none, []⟩,
  ⟨some 6, .assign (.c (Value.int IntKind.i64 0)), none, []⟩] none [4, 5, 6, 26, 65, 67, 93, 100])
 .ret)
def k2_limbs_DivMod : IR := .tail [7, 8, 32] j2_limbs_DivMod
def j3_limbs_DivMod : IR :=
 (.block 3 (.reg 19 [⟨some 86, .move (.t 11), none, []⟩,
  ⟨some 87, .lit 22 1 [(.c (Value.int IntKind.u32 0))], none, []⟩,
  ⟨some 88, .append 22 22 false 1 4 (.t 86) (.t 87), none, [86, 87]⟩,
  ⟨some 11, .assign (.t 88), none, []⟩] none [0, 10, 11, 12, 15, 77, 80, 88]))
def k3_limbs_DivMod : IR := .tail [0, 10, 11, 12, 15, 77, 80, 88] j3_limbs_DivMod
def w1_limbs_DivMod : IR :=
 (.seq (.seq (.reg 18 [⟨some 81, .move (.t 11), none, []⟩,
  ⟨some 82, .len 22 false (.t 81), none, [81]⟩,
  ⟨some 83, .move (.t 0), none, []⟩,
  ⟨some 84, .len 22 false (.t 83), none, [83]⟩,
  ⟨some 85, .bin .leq 3 (.t 82) (.t 84) 3, none, [82, 84]⟩] none [0, 10, 11, 12, 15, 77, 80, 85, 88])
 (.cond [0, 10, 11, 12, 15, 77, 80, 88] (.t 85) .skip (.exit 2)))
 k3_limbs_DivMod)
def l1_limbs_DivMod : IR := .loop [0, 10, 11, 12, 15, 77, 80, 88] w1_limbs_DivMod
def j4_limbs_DivMod : IR :=
 (.seq (.reg 20 [⟨some 89, .move (.t 11), none, []⟩,
  ⟨some 90, .move (.t 12), none, []⟩,
  ⟨some 91, .call n_limbs_long [(.t 89), (.t 90)] [22, 22], none, [89, 90]⟩,
  ⟨some 13, .assign (.t 91), none, []⟩] none [10, 11, 12, 13, 77, 80, 88, 91])
 (.seq (.reg 21 [⟨some 92, .move (.t 13), none, []⟩,
  ⟨some 93, .call n_limbs_trim [(.t 92)] [22], none, [13, 91, 92]⟩,
  ⟨some 94, .move (.t 11), none, []⟩,
  ⟨some 95, .move (.t 12), none, []⟩,
  ⟨some 96, .len 22 false (.t 95), none, [12, 80, 95]⟩,
  ⟨some 97, .slice 22 (.sl 1) (.t 94) none (some (.t 96)) none, none, []⟩,
  ⟨some 98, .call n_limbs_trim [(.t 97)] [22], none, [11, 77, 88, 94, 96, 97]⟩,
  ⟨some 99, .move (.t 10), none, [10]⟩,
  ⟨some 100, .call n_limbs_down [(.t 98), (.t 99)] [22, 3], none, [98, 99]⟩,
  ⟨some 4, .assign (.t 93), none, []⟩,
  ⟨some 5, .assign (.t 100), none, []⟩,
  ⟨some 6, .assign (.c (Value.int IntKind.i64 0)), none, []⟩] (some [⟨0, []⟩, ⟨2, []⟩, ⟨3, []⟩, ⟨4, []⟩, ⟨5, []⟩, ⟨7, []⟩, ⟨1, []⟩, ⟨6, []⟩, ⟨8, []⟩, ⟨9, []⟩, ⟨10, []⟩, ⟨11, []⟩]) [4, 5, 6, 26, 65, 67, 93, 100])
 .ret))
def k4_limbs_DivMod : IR := .tail [10, 11, 12, 77, 80, 88] j4_limbs_DivMod
def j5_limbs_DivMod : IR :=
 (.seq (.reg 16 [⟨some 68, .move (.t 1), none, []⟩,
  ⟨some 69, .move (.t 1), none, []⟩,
  ⟨some 70, .len 22 false (.t 69), none, [69]⟩,
  ⟨some 71, .bin .sub 3 (.t 70) (.c (Value.int IntKind.i64 1)) 3, none, [70]⟩,
  ⟨some 72, .iaddr 22 (.sl 1) (.t 68) (.t 71), none, []⟩,
  ⟨some 73, .load 49 none (.t 72), none, [68, 71, 72]⟩,
  ⟨some 74, .call n_bits_LeadingZeros32 [(.t 73)] [49], none, [73]⟩,
  ⟨some 10, .assign (.t 74), none, [74]⟩] none [0, 1, 10, 15, 17])
 (.seq (.reg 17 [⟨some 75, .move (.t 0), none, []⟩,
  ⟨some 76, .move (.t 10), none, []⟩,
  ⟨some 77, .call n_limbs_up [(.t 75), (.t 76)] [22, 3], none, [75, 76]⟩,
  ⟨some 78, .move (.t 1), none, []⟩,
  ⟨some 79, .move (.t 10), none, []⟩,
  ⟨some 80, .call n_limbs_up [(.t 78), (.t 79)] [22, 3], none, [1, 17, 78, 79]⟩,
  ⟨some 11, .assign (.t 77), none, []⟩,
  ⟨some 12, .assign (.t 80), none, []⟩] none [0, 10, 11, 12, 15, 77, 80, 88])
 (.seq (.block 2 l1_limbs_DivMod)
 k4_limbs_DivMod)))
def k5_limbs_DivMod : IR := .tail [0, 1, 15, 17] j5_limbs_DivMod
def j6_limbs_DivMod : IR :=
 (.seq (.seq (.reg 6 [⟨some 27, .move (.t 1), none, []⟩,
  ⟨some 28, .len 22 false (.t 27), none, [27]⟩,
  ⟨some 29, .bin .eql 3 (.t 28) (.c (Value.int IntKind.i64 1)) 3, none, [28]⟩] none [0, 1, 15, 17, 29])
 (.cond [0, 1, 15, 17] (.t 29) (.seq (.reg 7 [⟨some 30, .move (.t 0), none, []⟩,
  ⟨some 31, .len 22 false (.t 30), none, [30]⟩,
  ⟨some 32, .mk 22 1 4 (.v (.int .u32 0)) (.t 31) (.t 31), none, [31]⟩,
  ⟨some 7, .assign (.t 32), none, []⟩] none [0, 1, 7, 15, 17, 32])
 (.seq (.reg 8 [⟨some 8, .assign (.c (Value.int IntKind.u64 0)), none, []⟩] none [0, 1, 7, 8, 15, 17, 32])
 (.seq (.seq (.reg 9 [⟨some 33, .move (.t 0), none, []⟩,
  ⟨some 34, .len 22 false (.t 33), none, [33]⟩,
  ⟨some 35, .bin .sub 3 (.t 34) (.c (Value.int IntKind.i64 1)) 3, none, [34]⟩,
  ⟨some 9, .assign (.t 35), none, [35]⟩] none [0, 1, 7, 8, 9, 15, 17, 32])
 (.block 0 l0_limbs_DivMod))
 k2_limbs_DivMod))) .skip))
 k5_limbs_DivMod)
def k6_limbs_DivMod : IR := .tail [0, 1, 15, 17] j6_limbs_DivMod
def j7_limbs_DivMod : IR :=
 (.seq (.seq (.reg 4 [⟨some 21, .move (.t 0), none, []⟩,
  ⟨some 22, .move (.t 1), none, []⟩,
  ⟨some 23, .call n_limbs_Cmp [(.t 21), (.t 22)] [22, 22], none, [21, 22]⟩,
  ⟨some 24, .bin .lss 3 (.t 23) (.c (Value.int IntKind.i64 0)) 3, none, [23]⟩] none [0, 1, 15, 17, 24])
 (.cond [0, 1, 15, 17] (.t 24) (.seq (.reg 5 [⟨some 25, .move (.t 0), none, []⟩,
  ⟨some 26, .call n_limbs_Norm [(.t 25)] [22], none, [0, 15, 25]⟩,
  ⟨some 4, .assign (.nilS 1), none, []⟩,
  ⟨some 5, .assign (.t 26), none, []⟩,
  ⟨some 6, .assign (.c (Value.int IntKind.i64 0)), none, []⟩] none [4, 5, 6, 26, 65, 67, 93, 100])
 .ret) .skip))
 k6_limbs_DivMod)
def k7_limbs_DivMod : IR := .tail [0, 1, 15, 17] j7_limbs_DivMod
def b_limbs_DivMod : IR :=
 (.seq (.reg 0 [⟨some 4, .assign (.nilS 1), none, [4]⟩,
  ⟨some 5, .assign (.nilS 1), none, [5]⟩,
  ⟨some 6, .assign (.c (Value.int IntKind.i64 0)), none, [6]⟩] none [0, 1, 15, 17])
 (.seq (.reg 1 [⟨some 14, .move (.t 0), none, []⟩,
  ⟨some 15, .call n_limbs_trim [(.t 14)] [22], none, [14]⟩,
  ⟨some 16, .move (.t 1), none, []⟩,
  ⟨some 17, .call n_limbs_trim [(.t 16)] [22], none, [16]⟩,
  ⟨some 0, .assign (.t 15), none, []⟩,
  ⟨some 1, .assign (.t 17), none, []⟩] none [0, 1, 15, 17])
 (.seq (.seq (.reg 2 [⟨some 18, .move (.t 1), none, []⟩,
  ⟨some 19, .len 22 false (.t 18), none, [18]⟩,
  ⟨some 20, .bin .eql 3 (.t 19) (.c (Value.int IntKind.i64 0)) 3, none, [19]⟩] none [0, 1, 15, 17, 20])
 (.cond [0, 1, 15, 17] (.t 20) (.seq (.reg 3 [⟨some 4, .assign (.nilS 1), none, []⟩,
  ⟨some 5, .assign (.nilS 1), none, []⟩,
  ⟨some 6, .assign (.c (Value.int IntKind.i64 11)), none, []⟩] none [4, 5, 6, 26, 65, 67, 93, 100])
 .ret) .skip))
 k7_limbs_DivMod)))
def a_limbs_DivMod : AFunc := ⟨101, [.tmp 4, .tmp 5, .tmp 6], b_limbs_DivMod⟩

def j0_limbs_Add : IR :=
 (.seq (.reg 11 [⟨some 42, .move (.t 5), none, []⟩,
  ⟨some 43, .move (.t 6), none, []⟩,
  ⟨some 44, .call n_limbs_low [(.t 43)] [33], none, [43]⟩,
  ⟨some 45, .lit 22 1 [(.t 44)], none, [44]⟩,
  ⟨some 46, .append 22 22 false 1 4 (.t 42) (.t 45), none, [42, 45]⟩,
  ⟨some 5, .assign (.t 46), none, []⟩] none [0, 1, 5, 6, 13, 14, 18, 20, 21, 46])
 (.reg 12 [⟨some 47, .move (.t 6), none, []⟩,
  ⟨some 48, .call n_limbs_high [(.t 47)] [33], none, [47]⟩,
  ⟨some 6, .assign (.t 48), none, [48]⟩] none [0, 1, 5, 6, 13, 14, 18, 20, 21, 46]))
def k0_limbs_Add : IR := .tail [0, 1, 5, 6, 13, 14, 18, 20, 21, 46] j0_limbs_Add
def j1_limbs_Add : IR :=
 (.reg 13 [⟨some 49, .bin .add 3 (.t 21) (.c (Value.int IntKind.i64 1)) 3, none, []⟩,
  ⟨some 21, .move (.t 49), none, [49]⟩] none [0, 1, 5, 6, 13, 14, 18, 20, 21, 46])
def k1_limbs_Add : IR := .tail [0, 1, 5, 6, 13, 14, 18, 20, 21, 46] j1_limbs_Add
def j2_limbs_Add : IR :=
 (.seq (.block 1 (.seq (.reg 7 [⟨some 23, .move (.t 21), none, []⟩,
  ⟨some 7, .assign (.t 23), none, [23]⟩] none [0, 1, 5, 6, 7, 13, 14, 18, 20, 21, 46])
 (.seq (.reg 8 [⟨some 24, .move (.t 6), none, []⟩,
  ⟨some 25, .move (.t 0), none, []⟩,
  ⟨some 26, .move (.t 7), none, []⟩,
  ⟨some 27, .iaddr 22 (.sl 1) (.t 25) (.t 26), none, []⟩,
  ⟨some 28, .load 49 none (.t 27), none, [25, 26, 27]⟩,
  ⟨some 29, .conv 49 33 (.int .u64) (.t 28), none, [28]⟩,
  ⟨some 30, .bin .add 33 (.t 24) (.t 29) 33, none, [24, 29]⟩,
  ⟨some 6, .assign (.t 30), none, [30]⟩] none [0, 1, 5, 6, 7, 13, 14, 18, 20, 21, 46])
 (.seq (.seq (.reg 9 [⟨some 31, .move (.t 7), none, []⟩,
  ⟨some 32, .move (.t 1), none, []⟩,
  ⟨some 33, .len 22 false (.t 32), none, [32]⟩,
  ⟨some 34, .bin .lss 3 (.t 31) (.t 33) 3, none, [31, 33]⟩] none [0, 1, 5, 6, 7, 13, 14, 18, 20, 21, 34, 46])
 (.cond [0, 1, 5, 6, 7, 13, 14, 18, 20, 21, 46] (.t 34) (.reg 10 [⟨some 35, .move (.t 6), none, []⟩,
  ⟨some 36, .move (.t 1), none, []⟩,
  ⟨some 37, .move (.t 7), none, [7]⟩,
  ⟨some 38, .iaddr 22 (.sl 1) (.t 36) (.t 37), none, []⟩,
  ⟨some 39, .load 49 none (.t 38), none, [36, 37, 38]⟩,
  ⟨some 40, .conv 49 33 (.int .u64) (.t 39), none, [39]⟩,
  ⟨some 41, .bin .add 33 (.t 35) (.t 40) 33, none, [35, 40]⟩,
  ⟨some 6, .assign (.t 41), none, [41]⟩] none [0, 1, 5, 6, 13, 14, 18, 20, 21, 46]) .skip))
 k0_limbs_Add))))
 k1_limbs_Add)
def k2_limbs_Add : IR := .tail [0, 1, 5, 6, 13, 14, 18, 20, 21, 46] j2_limbs_Add
def w0_limbs_Add : IR :=
 (.seq (.reg 6 [⟨some 22, .bin .lss 3 (.t 21) (.t 20) 3, none, []⟩] none [0, 1, 5, 6, 13, 14, 18, 20, 21, 22, 46])
 (.seq (.cond [0, 1, 5, 6, 13, 14, 18, 20, 21, 46] (.t 22) .skip (.exit 0))
 k2_limbs_Add))
def l0_limbs_Add : IR := .loop [0, 1, 5, 6, 13, 14, 18, 20, 21, 46] w0_limbs_Add
def j3_limbs_Add : IR :=
 (.seq (.reg 14 [⟨some 50, .move (.t 5), none, []⟩,
  ⟨some 51, .move (.t 6), none, [6]⟩,
  ⟨some 52, .conv 33 49 (.int .u32) (.t 51), none, [51]⟩,
  ⟨some 53, .lit 22 1 [(.t 52)], none, [52]⟩,
  ⟨some 54, .append 22 22 false 1 4 (.t 50) (.t 53), none, [5, 18, 46, 50, 53]⟩,
  ⟨some 55, .call n_limbs_trim [(.t 54)] [22], none, [54]⟩,
  ⟨some 4, .assign (.t 55), none, []⟩] none [4, 55])
 .ret)
def k3_limbs_Add : IR := .tail [5, 6, 18, 46] j3_limbs_Add
def j4_limbs_Add : IR :=
 (.seq (.reg 3 [⟨some 15, .move (.t 0), none, []⟩,
  ⟨some 16, .len 22 false (.t 15), none, [15]⟩,
  ⟨some 17, .bin .add 3 (.t 16) (.c (Value.int IntKind.i64 1)) 3, none, [16]⟩,
  ⟨some 18, .mk 22 1 4 (.v (.int .u32 0)) (.c (Value.int IntKind.i64 0)) (.t 17), none, [17]⟩,
  ⟨some 5, .assign (.t 18), none, []⟩] none [0, 1, 5, 13, 14, 18, 46])
 (.seq (.reg 4 [⟨some 6, .assign (.c (Value.int IntKind.u64 0)), none, []⟩] none [0, 1, 5, 6, 13, 14, 18, 46])
 (.seq (.seq (.reg 5 [⟨some 19, .move (.t 0), none, []⟩,
  ⟨some 20, .len 22 false (.t 19), none, [19]⟩,
  ⟨some 21, .move (.c (Value.int IntKind.i64 0)), none, []⟩] none [0, 1, 5, 6, 13, 14, 18, 20, 21, 46])
 (.block 0 l0_limbs_Add))
 k3_limbs_Add)))
def k4_limbs_Add : IR := .tail [0, 1, 13, 14] j4_limbs_Add
def b_limbs_Add : IR :=
 (.seq (.reg 0 [⟨some 4, .assign (.nilS 1), none, [4]⟩] none [0, 1, 13, 14])
 (.seq (.seq (.reg 1 [⟨some 8, .move (.t 0), none, []⟩,
  ⟨some 9, .len 22 false (.t 8), none, [8]⟩,
  ⟨some 10, .move (.t 1), none, []⟩,
  ⟨some 11, .len 22 false (.t 10), none, [10]⟩,
  ⟨some 12, .bin .lss 3 (.t 9) (.t 11) 3, none, [9, 11]⟩] none [0, 1, 12, 13, 14])
 (.cond [0, 1, 13, 14] (.t 12) (.reg 2 [⟨some 13, .move (.t 1), none, []⟩,
  ⟨some 14, .move (.t 0), none, []⟩,
  ⟨some 0, .assign (.t 13), none, []⟩,
  ⟨some 1, .assign (.t 14), none, []⟩] none [0, 1, 13, 14]) .skip))
 k4_limbs_Add))
def a_limbs_Add : AFunc := ⟨56, [.tmp 4], b_limbs_Add⟩

def j0_limbs_Gcd : IR :=
 (.block 1 (.seq (.reg 3 [⟨some 16, .move (.t 0), none, []⟩,
  ⟨some 17, .move (.t 1), none, []⟩,
  ⟨some 18, .call n_limbs_DivMod [(.t 16), (.t 17)] [22, 22], none, [0, 9, 16, 17, 22]⟩,
  ⟨some 15, .move (.t 18), none, []⟩,
  ⟨some 19, .extr (.t 15) 0, none, []⟩,
  ⟨some 20, .extr (.t 15) 1, none, []⟩,
  ⟨some 21, .extr (.t 15) 2, none, []⟩,
  ⟨some 5, .assign (.t 19), none, [5, 19]⟩,
  ⟨some 6, .assign (.t 20), none, []⟩,
  ⟨some 7, .assign (.t 21), none, [7, 21]⟩] none [1, 6, 11, 15, 18, 20, 23])
 (.reg 4 [⟨some 22, .move (.t 1), none, []⟩,
  ⟨some 23, .move (.t 6), none, []⟩,
  ⟨some 0, .assign (.t 22), none, []⟩,
  ⟨some 1, .assign (.t 23), none, []⟩] none [0, 1, 6, 9, 11, 15, 18, 20, 22, 23])))
def k0_limbs_Gcd : IR := .tail [0, 1, 6, 9, 11, 15, 18, 20, 22, 23] j0_limbs_Gcd
def w0_limbs_Gcd : IR :=
 (.seq (.seq (.reg 2 [⟨some 12, .move (.t 1), none, []⟩,
  ⟨some 13, .len 22 false (.t 12), none, [12]⟩,
  ⟨some 14, .bin .gtr 3 (.t 13) (.c (Value.int IntKind.i64 0)) 3, none, [13]⟩] none [0, 1, 6, 9, 11, 14, 15, 18, 20, 22, 23])
 (.cond [0, 1, 6, 9, 11, 15, 18, 20, 22, 23] (.t 14) .skip (.exit 0)))
 k0_limbs_Gcd)
def l0_limbs_Gcd : IR := .loop [0, 1, 6, 9, 11, 15, 18, 20, 22, 23] w0_limbs_Gcd
def j1_limbs_Gcd : IR :=
 (.seq (.reg 5 [⟨some 24, .move (.t 0), none, []⟩,
  ⟨some 4, .assign (.t 24), none, []⟩] none [0, 1, 4, 6, 9, 11, 15, 18, 20, 22, 23, 24])
 .ret)
def k1_limbs_Gcd : IR := .tail [0, 1, 6, 9, 11, 15, 18, 20, 22, 23] j1_limbs_Gcd
def b_limbs_Gcd : IR :=
 (.seq (.reg 0 [⟨some 4, .assign (.nilS 1), none, [4]⟩] none [0, 1, 6, 9, 11, 15, 18, 20, 22, 23])
 (.seq (.reg 1 [⟨some 8, .move (.t 0), none, []⟩,
  ⟨some 9, .call n_limbs_Norm [(.t 8)] [22], none, [8]⟩,
  ⟨some 10, .move (.t 1), none, []⟩,
  ⟨some 11, .call n_limbs_Norm [(.t 10)] [22], none, [10]⟩,
  ⟨some 0, .assign (.t 9), none, []⟩,
  ⟨some 1, .assign (.t 11), none, []⟩] none [0, 1, 6, 9, 11, 15, 18, 20, 22, 23])
 (.seq (.block 0 l0_limbs_Gcd)
 k1_limbs_Gcd)))
def a_limbs_Gcd : AFunc := ⟨25, [.tmp 4], b_limbs_Gcd⟩

def j0_limbs_right : IR :=
 (.seq (.reg 3 [⟨some 20, .move (.t 1), none, []⟩,
  ⟨some 21, .move (.t 2), none, []⟩,
  ⟨some 22, .call n_limbs_Gcd [(.t 20), (.t 21)] [22, 22], none, [20, 21]⟩,
  ⟨some 7, .assign (.t 22), none, []⟩] none [0, 1, 2, 6, 7, 22])
 (.seq (.reg 4 [⟨some 24, .move (.t 1), none, []⟩,
  ⟨some 25, .move (.t 7), none, []⟩,
  ⟨some 26, .call n_limbs_DivMod [(.t 24), (.t 25)] [22, 22], none, [1, 24, 25]⟩,
  ⟨some 23, .move (.t 26), none, []⟩,
  ⟨some 27, .extr (.t 23) 0, none, []⟩,
  ⟨some 28, .extr (.t 23) 1, none, []⟩,
  ⟨some 29, .extr (.t 23) 2, none, []⟩,
  ⟨some 8, .assign (.t 27), none, []⟩,
  ⟨some 9, .assign (.t 28), none, [9, 28]⟩,
  ⟨some 10, .assign (.t 29), none, [10, 29]⟩] none [0, 2, 6, 7, 8, 22, 23, 26, 27])
 (.seq (.reg 5 [⟨some 31, .move (.t 2), none, []⟩,
  ⟨some 32, .move (.t 7), none, []⟩,
  ⟨some 33, .call n_limbs_DivMod [(.t 31), (.t 32)] [22, 22], none, [2, 7, 22, 31, 32]⟩,
  ⟨some 30, .move (.t 33), none, []⟩,
  ⟨some 34, .extr (.t 30) 0, none, []⟩,
  ⟨some 35, .extr (.t 30) 1, none, []⟩,
  ⟨some 36, .extr (.t 30) 2, none, []⟩,
  ⟨some 11, .assign (.t 34), none, []⟩,
  ⟨some 12, .assign (.t 35), none, [12, 35]⟩,
  ⟨some 13, .assign (.t 36), none, [13, 36]⟩] none [0, 6, 8, 11, 23, 26, 27, 30, 33, 34])
 (.seq (.reg 6 [⟨some 37, .move (.t 0), none, [0]⟩,
  ⟨some 38, .move (.t 8), none, []⟩,
  ⟨some 39, .move (.t 11), none, []⟩,
  ⟨some 40, .build 48 [(0, 1), (1, 1), (2, 1)] [.v (.bool false), .nil 1, .nil 1] [(0, (.t 37)), (1, (.t 38)), (2, (.t 39))], none, []⟩,
  ⟨none, .store 48 (some 3) (.t 6) (.t 40), none, [8, 11, 23, 26, 27, 30, 33, 34, 37, 38, 39, 40]⟩] none [6])
 .ret))))
def k0_limbs_right : IR := .tail [0, 1, 2, 6] j0_limbs_right
def b_limbs_right : IR :=
 (.seq (.reg 0 [⟨some 6, .alloc 48 [.v (.bool false), .nil 1, .nil 1], none, []⟩] none [0, 1, 2, 6])
 (.seq (.seq (.reg 1 [⟨some 14, .move (.t 1), none, []⟩,
  ⟨some 15, .call n_limbs_trim [(.t 14)] [22], none, [14]⟩,
  ⟨some 16, .len 22 false (.t 15), none, [15]⟩,
  ⟨some 17, .bin .eql 3 (.t 16) (.c (Value.int IntKind.i64 0)) 3, none, [16]⟩] none [0, 1, 2, 6, 17])
 (.cond [0, 1, 2, 6] (.t 17) (.seq (.reg 2 [⟨some 18, .lit 22 1 [(.c (Value.int IntKind.u32 1))], none, []⟩,
  ⟨some 19, .build 48 [(0, 1), (1, 1), (2, 1)] [.v (.bool false), .nil 1, .nil 1] [(2, (.t 18))], none, []⟩,
  ⟨none, .store 48 (some 3) (.t 6) (.t 19), none, [18, 19]⟩] none [6])
 .ret) .skip))
 k0_limbs_right))
def a_limbs_right : AFunc := ⟨41, [.cell 6 48 (some 3)], b_limbs_right⟩

def j0_limbs_Over : IR :=
 (.seq (.reg 3 [⟨some 13, .move (.t 0), none, [0]⟩,
  ⟨some 14, .move (.t 1), none, []⟩,
  ⟨some 15, .move (.t 2), none, []⟩,
  ⟨some 16, .call n_limbs_right [(.t 13), (.t 14), (.t 15)] [4, 22, 22], none, [1, 2, 13, 14, 15]⟩,
  ⟨none, .store 48 (some 3) (.t 6) (.t 16), none, [16]⟩,
  ⟨some 7, .assign (.c (Value.int IntKind.i64 0)), none, []⟩] none [6, 7])
 .ret)
def k0_limbs_Over : IR := .tail [0, 1, 2, 6] j0_limbs_Over
def b_limbs_Over : IR :=
 (.seq (.reg 0 [⟨some 6, .alloc 48 [.v (.bool false), .nil 1, .nil 1], none, []⟩,
  ⟨some 7, .assign (.c (Value.int IntKind.i64 0)), none, [7]⟩] none [0, 1, 2, 6])
 (.seq (.seq (.reg 1 [⟨some 8, .move (.t 2), none, []⟩,
  ⟨some 9, .call n_limbs_trim [(.t 8)] [22], none, [8]⟩,
  ⟨some 10, .len 22 false (.t 9), none, [9]⟩,
  ⟨some 11, .bin .eql 3 (.t 10) (.c (Value.int IntKind.i64 0)) 3, none, [10]⟩] none [0, 1, 2, 6, 11])
 (.cond [0, 1, 2, 6] (.t 11) (.seq (.reg 2 [⟨some 12, .build 48 [(0, 1), (1, 1), (2, 1)] [.v (.bool false), .nil 1, .nil 1] [], none, []⟩,
  ⟨none, .store 48 (some 3) (.t 6) (.t 12), none, [12]⟩,
  ⟨some 7, .assign (.c (Value.int IntKind.i64 11)), none, []⟩] none [6, 7])
 .ret) .skip))
 k0_limbs_Over))
def a_limbs_Over : AFunc := ⟨17, [.cell 6 48 (some 3), .tmp 7], b_limbs_Over⟩

def j0_limbs_Write : IR :=
 (.seq (.reg 9 [⟨some 38, .move (.t 6), none, [6]⟩,
  ⟨some 2, .assign (.t 38), none, [38]⟩,
  ⟨some 3, .assign (.c (Value.int IntKind.i64 0)), none, []⟩] none [2, 3])
 .ret)
def k0_limbs_Write : IR := .tail [6] j0_limbs_Write
def j1_limbs_Write : IR :=
 (.seq (.seq (.reg 7 [⟨some 27, .faddr 48 (.t 4) 2 2, none, []⟩,
  ⟨some 28, .load 22 none (.t 27), none, []⟩,
  ⟨some 29, .lit 22 1 [(.c (Value.int IntKind.u32 1))], none, []⟩,
  ⟨some 30, .call n_limbs_Cmp [(.t 28), (.t 29)] [22, 22], none, [27, 28, 29]⟩,
  ⟨some 31, .bin .neq 3 (.t 30) (.c (Value.int IntKind.i64 0)) 3, none, [30]⟩] none [4, 6, 31])
 (.cond [4, 6] (.t 31) (.reg 8 [⟨some 32, .move (.t 6), none, []⟩,
  ⟨some 33, .faddr 48 (.t 4) 2 2, none, []⟩,
  ⟨some 34, .load 22 none (.t 33), none, []⟩,
  ⟨some 35, .call n_limbs_Print [(.t 34)] [22], none, [4, 33, 34]⟩,
  ⟨some 36, .bin .add 9 (.c (Value.string { data := #[47] })) (.t 35) 9, none, [35]⟩,
  ⟨some 37, .bin .add 9 (.t 32) (.t 36) 9, none, [32, 36]⟩,
  ⟨some 6, .assign (.t 37), none, [37]⟩] none [6]) .skip))
 k0_limbs_Write)
def k1_limbs_Write : IR := .tail [4, 6] j1_limbs_Write
def j2_limbs_Write : IR :=
 (.seq (.reg 4 [⟨some 20, .faddr 48 (.t 4) 1 1, none, []⟩,
  ⟨some 21, .load 22 none (.t 20), none, []⟩,
  ⟨some 22, .call n_limbs_Print [(.t 21)] [22], none, [20, 21]⟩,
  ⟨some 6, .assign (.t 22), none, [22]⟩] none [4, 6])
 (.seq (.seq (.reg 5 [⟨some 23, .faddr 48 (.t 4) 0 0, none, []⟩,
  ⟨some 24, .load 4 none (.t 23), none, [23]⟩] none [4, 6, 24])
 (.cond [4, 6] (.t 24) (.reg 6 [⟨some 25, .move (.t 6), none, []⟩,
  ⟨some 26, .bin .add 9 (.c (Value.string { data := #[45] })) (.t 25) 9, none, [25]⟩,
  ⟨some 6, .assign (.t 26), none, [26]⟩] none [4, 6]) .skip))
 k1_limbs_Write))
def k2_limbs_Write : IR := .tail [4] j2_limbs_Write
def b_limbs_Write : IR :=
 (.seq (.reg 0 [⟨some 1, .box 48 (.t 0), none, [0]⟩,
  ⟨some 2, .assign (.c (Value.string { data := #[] })), none, [2]⟩,
  ⟨some 3, .assign (.c (Value.int IntKind.i64 0)), none, [3]⟩] none [1])
 (.seq (.reg 1 [⟨some 8, .faddr 48 (.t 1) 0 0, none, []⟩,
  ⟨some 9, .load 4 none (.t 8), none, [8]⟩,
  ⟨some 10, .faddr 48 (.t 1) 1 1, none, []⟩,
  ⟨some 11, .load 22 none (.t 10), none, []⟩,
  ⟨some 12, .faddr 48 (.t 1) 2 2, none, []⟩,
  ⟨some 13, .load 22 none (.t 12), none, []⟩,
  ⟨some 14, .call n_limbs_Over [(.t 9), (.t 11), (.t 13)] [4, 22, 22], none, [1, 9, 10, 11, 12, 13]⟩,
  ⟨some 7, .move (.t 14), none, []⟩,
  ⟨some 15, .extr (.t 7) 0, none, []⟩,
  ⟨some 16, .extr (.t 7) 1, none, []⟩,
  ⟨some 4, .alloc 48 [.v (.bool false), .nil 1, .nil 1], none, []⟩,
  ⟨none, .store 48 (some 3) (.t 4) (.t 15), none, [7, 14, 15]⟩,
  ⟨some 5, .assign (.t 16), none, [16]⟩] none [4, 5])
 (.seq (.seq (.reg 2 [⟨some 17, .move (.t 5), none, []⟩,
  ⟨some 18, .bin .neq 23 (.t 17) (.c (Value.int IntKind.i64 0)) 23, none, [17]⟩] none [4, 5, 18])
 (.cond [4, 5] (.t 18) (.seq (.reg 3 [⟨some 19, .move (.t 5), none, [5]⟩,
  ⟨some 2, .assign (.c (Value.string { data := #[] })), none, []⟩,
  ⟨some 3, .assign (.t 19), none, [19]⟩] none [2, 3])
 .ret) .skip))
 k2_limbs_Write)))
def a_limbs_Write : AFunc := ⟨39, [.tmp 2, .tmp 3], b_limbs_Write⟩

def b_thicketlaw01_lives : IR :=
 (.seq (.reg 0 [⟨some 0, .assign (.c (Value.bool false)), none, [0]⟩] none [])
 (.seq (.reg 1 [⟨some 12, .lit 22 1 [(.c (Value.int IntKind.u32 7))], none, []⟩,
  ⟨some 13, .lit 22 1 [(.c (Value.int IntKind.u32 2))], none, []⟩,
  ⟨some 14, .call n_limbs_DivMod [(.t 12), (.t 13)] [22, 22], none, [12, 13]⟩,
  ⟨some 11, .move (.t 14), none, []⟩,
  ⟨some 15, .extr (.t 11) 0, none, []⟩,
  ⟨some 16, .extr (.t 11) 1, none, []⟩,
  ⟨some 17, .extr (.t 11) 2, none, []⟩,
  ⟨some 1, .assign (.t 15), none, []⟩,
  ⟨some 2, .assign (.t 16), none, []⟩,
  ⟨some 3, .assign (.t 17), none, [17]⟩] none [1, 2, 3, 11, 14, 15, 16])
 (.seq (.reg 2 [⟨some 19, .lit 22 1 [(.c (Value.int IntKind.u32 6))], none, []⟩,
  ⟨some 20, .lit 22 1 [(.c (Value.int IntKind.u32 4))], none, []⟩,
  ⟨some 21, .call n_limbs_Over [(.c (Value.bool true)), (.t 19), (.t 20)] [4, 22, 22], none, [19, 20]⟩,
  ⟨some 18, .move (.t 21), none, []⟩,
  ⟨some 22, .extr (.t 18) 0, none, []⟩,
  ⟨some 23, .extr (.t 18) 1, none, []⟩,
  ⟨some 4, .alloc 48 [.v (.bool false), .nil 1, .nil 1], none, []⟩,
  ⟨none, .store 48 (some 3) (.t 4) (.t 22), none, [18, 21, 22]⟩,
  ⟨some 5, .assign (.t 23), none, [23]⟩] none [1, 2, 3, 4, 5, 11, 14, 15, 16])
 (.seq (.reg 3 [⟨some 25, .load 48 (some 3) (.t 4), none, []⟩,
  ⟨some 26, .call n_limbs_Write [(.t 25)] [48], none, [4, 25]⟩,
  ⟨some 24, .move (.t 26), none, [26]⟩,
  ⟨some 27, .extr (.t 24) 0, none, []⟩,
  ⟨some 28, .extr (.t 24) 1, none, [24]⟩,
  ⟨some 6, .assign (.t 27), none, [27]⟩,
  ⟨some 7, .assign (.t 28), none, [28]⟩] none [1, 2, 3, 5, 6, 7, 11, 14, 15, 16])
 (.seq (.reg 4 [⟨some 30, .call n_limbs_Read [(.c (Value.string { data := #[52, 50, 57, 52, 57, 54, 55, 50, 57, 54] }))] [9], none, []⟩,
  ⟨some 29, .move (.t 30), none, []⟩,
  ⟨some 31, .extr (.t 29) 0, none, []⟩,
  ⟨some 32, .extr (.t 29) 1, none, []⟩,
  ⟨some 33, .extr (.t 29) 2, none, []⟩,
  ⟨some 8, .assign (.t 31), none, []⟩,
  ⟨some 9, .assign (.t 32), none, [32]⟩,
  ⟨some 10, .assign (.t 33), none, [10, 33]⟩] none [1, 2, 3, 5, 6, 7, 8, 9, 11, 14, 15, 16, 29, 30, 31])
 (.seq (.reg 5 [⟨some 34, .move (.t 3), none, [3]⟩,
  ⟨some 35, .bin .eql 23 (.t 34) (.c (Value.int IntKind.i64 0)) 23, none, [34]⟩,
  ⟨some 36, .move (.t 35), none, [35]⟩,
  ⟨some 37, .move (.t 5), some (2, true), [5]⟩,
  ⟨some 38, .bin .eql 23 (.t 37) (.c (Value.int IntKind.i64 0)) 23, some (2, true), [37]⟩,
  ⟨some 39, .pick (.t 36) (.t 38) (.c (Value.bool false)), none, [36, 38]⟩,
  ⟨some 40, .move (.t 39), none, [39]⟩,
  ⟨some 41, .move (.t 7), some (6, true), [7]⟩,
  ⟨some 42, .bin .eql 23 (.t 41) (.c (Value.int IntKind.i64 0)) 23, some (6, true), [41]⟩,
  ⟨some 43, .pick (.t 40) (.t 42) (.c (Value.bool false)), none, [40, 42]⟩,
  ⟨some 44, .move (.t 43), none, [43]⟩,
  ⟨some 45, .move (.t 9), some (10, true), [9]⟩,
  ⟨some 46, .bin .eql 23 (.t 45) (.c (Value.int IntKind.i64 0)) 23, some (10, true), [45]⟩,
  ⟨some 47, .pick (.t 44) (.t 46) (.c (Value.bool false)), none, [44, 46]⟩,
  ⟨some 48, .move (.t 47), none, [47]⟩,
  ⟨some 49, .move (.t 6), some (14, true), [6]⟩,
  ⟨some 50, .bin .eql 9 (.t 49) (.c (Value.string { data := #[45, 51, 47, 50] })) 9, some (14, true), [49]⟩,
  ⟨some 51, .pick (.t 48) (.t 50) (.c (Value.bool false)), none, [48, 50]⟩,
  ⟨some 52, .move (.t 51), none, [51]⟩,
  ⟨some 53, .move (.t 1), some (18, true), []⟩,
  ⟨some 54, .len 22 false (.t 53), some (18, true), [53]⟩,
  ⟨some 55, .bin .eql 3 (.t 54) (.c (Value.int IntKind.i64 1)) 3, some (18, true), [54]⟩,
  ⟨some 56, .pick (.t 52) (.t 55) (.c (Value.bool false)), none, [52, 55]⟩,
  ⟨some 57, .move (.t 56), none, [56]⟩,
  ⟨some 58, .move (.t 1), some (23, true), []⟩,
  ⟨some 59, .iaddr 22 (.sl 1) (.t 58) (.c (Value.int IntKind.i64 0)), some (23, true), []⟩,
  ⟨some 60, .load 49 none (.t 59), some (23, true), [1, 15, 58, 59]⟩,
  ⟨some 61, .bin .eql 49 (.t 60) (.c (Value.int IntKind.u32 3)) 49, some (23, true), [60]⟩,
  ⟨some 62, .pick (.t 57) (.t 61) (.c (Value.bool false)), none, [57, 61]⟩,
  ⟨some 63, .move (.t 62), none, [62]⟩,
  ⟨some 64, .move (.t 2), some (29, true), []⟩,
  ⟨some 65, .len 22 false (.t 64), some (29, true), [64]⟩,
  ⟨some 66, .bin .eql 3 (.t 65) (.c (Value.int IntKind.i64 1)) 3, some (29, true), [65]⟩,
  ⟨some 67, .pick (.t 63) (.t 66) (.c (Value.bool false)), none, [63, 66]⟩,
  ⟨some 68, .move (.t 67), none, [67]⟩,
  ⟨some 69, .move (.t 2), some (34, true), []⟩,
  ⟨some 70, .iaddr 22 (.sl 1) (.t 69) (.c (Value.int IntKind.i64 0)), some (34, true), []⟩,
  ⟨some 71, .load 49 none (.t 70), some (34, true), [2, 11, 14, 16, 69, 70]⟩,
  ⟨some 72, .bin .eql 49 (.t 71) (.c (Value.int IntKind.u32 1)) 49, some (34, true), [71]⟩,
  ⟨some 73, .pick (.t 68) (.t 72) (.c (Value.bool false)), none, [68, 72]⟩,
  ⟨some 74, .move (.t 73), none, [73]⟩,
  ⟨some 75, .move (.t 8), some (40, true), []⟩,
  ⟨some 76, .len 22 false (.t 75), some (40, true), [75]⟩,
  ⟨some 77, .bin .eql 3 (.t 76) (.c (Value.int IntKind.i64 2)) 3, some (40, true), [76]⟩,
  ⟨some 78, .pick (.t 74) (.t 77) (.c (Value.bool false)), none, [74, 77]⟩,
  ⟨some 79, .move (.t 78), none, [78]⟩,
  ⟨some 80, .move (.t 8), some (45, true), []⟩,
  ⟨some 81, .iaddr 22 (.sl 1) (.t 80) (.c (Value.int IntKind.i64 0)), some (45, true), []⟩,
  ⟨some 82, .load 49 none (.t 81), some (45, true), [80, 81]⟩,
  ⟨some 83, .bin .eql 49 (.t 82) (.c (Value.int IntKind.u32 0)) 49, some (45, true), [82]⟩,
  ⟨some 84, .pick (.t 79) (.t 83) (.c (Value.bool false)), none, [79, 83]⟩,
  ⟨some 85, .move (.t 84), none, [84]⟩,
  ⟨some 86, .move (.t 8), some (51, true), []⟩,
  ⟨some 87, .iaddr 22 (.sl 1) (.t 86) (.c (Value.int IntKind.i64 1)), some (51, true), []⟩,
  ⟨some 88, .load 49 none (.t 87), some (51, true), [86, 87]⟩,
  ⟨some 89, .bin .eql 49 (.t 88) (.c (Value.int IntKind.u32 1)) 49, some (51, true), [88]⟩,
  ⟨some 90, .pick (.t 85) (.t 89) (.c (Value.bool false)), none, [85, 89]⟩,
  ⟨some 91, .move (.t 90), none, [90]⟩,
  ⟨some 92, .move (.t 8), some (57, true), []⟩,
  ⟨some 93, .move (.t 8), some (57, true), []⟩,
  ⟨some 94, .call n_limbs_Add [(.t 92), (.t 93)] [22, 22], some (57, true), [8, 29, 30, 31, 92, 93]⟩,
  ⟨some 95, .call n_limbs_Print [(.t 94)] [22], some (57, true), [94]⟩,
  ⟨some 96, .bin .eql 9 (.t 95) (.c (Value.string { data := #[56, 53, 56, 57, 57, 51, 52, 53, 57, 50] })) 9, some (57, true), [95]⟩,
  ⟨some 97, .pick (.t 91) (.t 96) (.c (Value.bool false)), none, [91, 96]⟩,
  ⟨some 0, .assign (.t 97), none, [97]⟩] none [0])
 .ret))))))
def a_thicketlaw01_lives : AFunc := ⟨98, [.tmp 0], b_thicketlaw01_lives⟩

def j0_thicketref01_Norm : IR :=
 (.block 1 (.reg 3 [⟨some 18, .move (.t 3), none, []⟩,
  ⟨some 19, .bin .sub 3 (.t 18) (.c (Value.int IntKind.i64 1)) 3, none, [18]⟩,
  ⟨some 3, .assign (.t 19), none, [19]⟩] none [0, 3]))
def k0_thicketref01_Norm : IR := .tail [0, 3] j0_thicketref01_Norm
def w0_thicketref01_Norm : IR :=
 (.seq (.seq (.reg 2 [⟨some 8, .move (.t 3), none, []⟩,
  ⟨some 9, .bin .gtr 3 (.t 8) (.c (Value.int IntKind.i64 0)) 3, none, [8]⟩,
  ⟨some 10, .move (.t 9), none, [9]⟩,
  ⟨some 11, .move (.t 0), some (2, true), []⟩,
  ⟨some 12, .move (.t 3), some (2, true), []⟩,
  ⟨some 13, .bin .sub 3 (.t 12) (.c (Value.int IntKind.i64 1)) 3, some (2, true), [12]⟩,
  ⟨some 14, .iaddr 22 (.sl 1) (.t 11) (.t 13), some (2, true), []⟩,
  ⟨some 15, .load 49 none (.t 14), some (2, true), [11, 13, 14]⟩,
  ⟨some 16, .bin .eql 49 (.t 15) (.c (Value.int IntKind.u32 0)) 49, some (2, true), [15]⟩,
  ⟨some 17, .pick (.t 10) (.t 16) (.c (Value.bool false)), none, [10, 16]⟩] none [0, 3, 17])
 (.cond [0, 3] (.t 17) .skip (.exit 0)))
 k0_thicketref01_Norm)
def l0_thicketref01_Norm : IR := .loop [0, 3] w0_thicketref01_Norm
def j1_thicketref01_Norm : IR :=
 (.reg 7 [⟨some 23, .move (.t 5), none, []⟩,
  ⟨some 24, .bin .add 3 (.t 23) (.c (Value.int IntKind.i64 1)) 3, none, [23]⟩,
  ⟨some 5, .assign (.t 24), none, [24]⟩] none [0, 3, 4, 5, 31])
def k1_thicketref01_Norm : IR := .tail [0, 3, 4, 5, 31] j1_thicketref01_Norm
def j2_thicketref01_Norm : IR :=
 (.seq (.block 3 (.reg 8 [⟨some 25, .move (.t 4), none, []⟩,
  ⟨some 26, .move (.t 0), none, []⟩,
  ⟨some 27, .move (.t 5), none, []⟩,
  ⟨some 28, .iaddr 22 (.sl 1) (.t 26) (.t 27), none, []⟩,
  ⟨some 29, .load 49 none (.t 28), none, [26, 27, 28]⟩,
  ⟨some 30, .lit 22 1 [(.t 29)], none, [29]⟩,
  ⟨some 31, .append 22 22 false 1 4 (.t 25) (.t 30), none, [25, 30]⟩,
  ⟨some 4, .assign (.t 31), none, []⟩] none [0, 3, 4, 5, 31]))
 k1_thicketref01_Norm)
def k2_thicketref01_Norm : IR := .tail [0, 3, 4, 5, 31] j2_thicketref01_Norm
def w1_thicketref01_Norm : IR :=
 (.seq (.seq (.reg 6 [⟨some 20, .move (.t 5), none, []⟩,
  ⟨some 21, .move (.t 3), none, []⟩,
  ⟨some 22, .bin .lss 3 (.t 20) (.t 21) 3, none, [20, 21]⟩] none [0, 3, 4, 5, 22, 31])
 (.cond [0, 3, 4, 5, 31] (.t 22) .skip (.exit 2)))
 k2_thicketref01_Norm)
def l1_thicketref01_Norm : IR := .loop [0, 3, 4, 5, 31] w1_thicketref01_Norm
def j3_thicketref01_Norm : IR :=
 (.seq (.reg 9 [⟨some 32, .move (.t 4), none, []⟩,
  ⟨some 2, .assign (.t 32), none, []⟩] none [2, 4, 31, 32])
 .ret)
def k3_thicketref01_Norm : IR := .tail [4, 31] j3_thicketref01_Norm
def j4_thicketref01_Norm : IR :=
 (.seq (.reg 4 [⟨some 4, .assign (.nilS 1), none, []⟩] none [0, 3, 4, 31])
 (.seq (.seq (.reg 5 [⟨some 5, .assign (.c (Value.int IntKind.i64 0)), none, []⟩] none [0, 3, 4, 5, 31])
 (.block 2 l1_thicketref01_Norm))
 k3_thicketref01_Norm))
def k4_thicketref01_Norm : IR := .tail [0, 3] j4_thicketref01_Norm
def b_thicketref01_Norm : IR :=
 (.seq (.reg 0 [⟨some 2, .assign (.nilS 1), none, [2]⟩] none [0])
 (.seq (.reg 1 [⟨some 6, .move (.t 0), none, []⟩,
  ⟨some 7, .len 22 false (.t 6), none, [6]⟩,
  ⟨some 3, .assign (.t 7), none, [7]⟩] none [0, 3])
 (.seq (.block 0 l0_thicketref01_Norm)
 k4_thicketref01_Norm)))
def a_thicketref01_Norm : AFunc := ⟨33, [.tmp 2], b_thicketref01_Norm⟩

def b_thicketref01_From : IR :=
 (.seq (.reg 0 [⟨some 2, .assign (.nilS 1), none, [2]⟩] none [0])
 (.seq (.reg 1 [⟨some 3, .move (.t 0), none, []⟩,
  ⟨some 4, .bin .and 33 (.t 3) (.c (Value.int IntKind.u64 4294967295)) 33, none, [3]⟩,
  ⟨some 5, .conv 33 49 (.int .u32) (.t 4), none, [4]⟩,
  ⟨some 6, .move (.t 0), none, [0]⟩,
  ⟨some 7, .bin .shr 33 (.t 6) (.c (Value.int IntKind.u64 32)) 68, none, [6]⟩,
  ⟨some 8, .conv 33 49 (.int .u32) (.t 7), none, [7]⟩,
  ⟨some 9, .lit 22 1 [(.t 5), (.t 8)], none, [5, 8]⟩,
  ⟨some 10, .call n_thicketref01_Norm [(.t 9)] [22], none, [9]⟩,
  ⟨some 2, .assign (.t 10), none, []⟩] none [2, 10])
 .ret))
def a_thicketref01_From : AFunc := ⟨11, [.tmp 2], b_thicketref01_From⟩

def j0_thicketref01_Cmp : IR :=
 (.seq (.reg 5 [⟨some 4, .assign (.c (Value.int IntKind.i64 1)), none, []⟩] none [4])
 .ret)
def k0_thicketref01_Cmp : IR := .tail [] j0_thicketref01_Cmp
def j1_thicketref01_Cmp : IR :=
 (.seq (.reg 11 [⟨some 38, .move (.t 5), none, []⟩,
  ⟨some 39, .move (.t 7), none, []⟩,
  ⟨some 40, .iaddr 22 (.sl 1) (.t 38) (.t 39), none, []⟩,
  ⟨some 41, .load 49 none (.t 40), none, [38, 39, 40]⟩,
  ⟨some 42, .move (.t 6), none, []⟩,
  ⟨some 43, .move (.t 7), none, []⟩,
  ⟨some 44, .iaddr 22 (.sl 1) (.t 42) (.t 43), none, []⟩,
  ⟨some 45, .load 49 none (.t 44), none, [42, 43, 44]⟩,
  ⟨some 46, .bin .gtr 49 (.t 41) (.t 45) 49, none, [41, 45]⟩] (some [⟨0, []⟩, ⟨1, []⟩, ⟨2, []⟩, ⟨4, []⟩, ⟨5, []⟩, ⟨6, []⟩, ⟨3, []⟩, ⟨7, []⟩, ⟨8, []⟩]) [5, 6, 7, 9, 11, 46])
 (.cond [5, 6, 7, 9, 11] (.t 46) (.seq (.reg 12 [⟨some 4, .assign (.c (Value.int IntKind.i64 1)), none, []⟩] none [4])
 .ret) .skip))
def k1_thicketref01_Cmp : IR := .tail [5, 6, 7, 9, 11] j1_thicketref01_Cmp
def j2_thicketref01_Cmp : IR :=
 (.reg 8 [⟨some 27, .move (.t 7), none, []⟩,
  ⟨some 28, .bin .sub 3 (.t 27) (.c (Value.int IntKind.i64 1)) 3, none, [27]⟩,
  ⟨some 7, .assign (.t 28), none, [28]⟩] none [5, 6, 7, 9, 11])
def k2_thicketref01_Cmp : IR := .tail [5, 6, 7, 9, 11] j2_thicketref01_Cmp
def j3_thicketref01_Cmp : IR :=
 (.seq (.block 1 (.seq (.seq (.reg 9 [⟨some 29, .move (.t 5), none, []⟩,
  ⟨some 30, .move (.t 7), none, []⟩,
  ⟨some 31, .iaddr 22 (.sl 1) (.t 29) (.t 30), none, []⟩,
  ⟨some 32, .load 49 none (.t 31), none, [29, 30, 31]⟩,
  ⟨some 33, .move (.t 6), none, []⟩,
  ⟨some 34, .move (.t 7), none, []⟩,
  ⟨some 35, .iaddr 22 (.sl 1) (.t 33) (.t 34), none, []⟩,
  ⟨some 36, .load 49 none (.t 35), none, [33, 34, 35]⟩,
  ⟨some 37, .bin .lss 49 (.t 32) (.t 36) 49, none, [32, 36]⟩] (some [⟨0, []⟩, ⟨1, []⟩, ⟨2, []⟩, ⟨4, []⟩, ⟨5, []⟩, ⟨6, []⟩, ⟨3, []⟩, ⟨7, []⟩, ⟨8, []⟩]) [5, 6, 7, 9, 11, 37])
 (.cond [5, 6, 7, 9, 11] (.t 37) (.seq (.reg 10 [⟨some 4, .assign (.c (Value.int IntKind.i64 (-1))), none, []⟩] none [4])
 .ret) .skip))
 k1_thicketref01_Cmp))
 k2_thicketref01_Cmp)
def k3_thicketref01_Cmp : IR := .tail [5, 6, 7, 9, 11] j3_thicketref01_Cmp
def w0_thicketref01_Cmp : IR :=
 (.seq (.seq (.reg 7 [⟨some 25, .move (.t 7), none, []⟩,
  ⟨some 26, .bin .geq 3 (.t 25) (.c (Value.int IntKind.i64 0)) 3, none, [25]⟩] none [5, 6, 7, 9, 11, 26])
 (.cond [5, 6, 7, 9, 11] (.t 26) .skip (.exit 0)))
 k3_thicketref01_Cmp)
def l0_thicketref01_Cmp : IR := .loop [5, 6, 7, 9, 11] w0_thicketref01_Cmp
def j4_thicketref01_Cmp : IR :=
 (.seq (.reg 13 [⟨some 4, .assign (.c (Value.int IntKind.i64 0)), none, []⟩] none [4])
 .ret)
def k4_thicketref01_Cmp : IR := .tail [] j4_thicketref01_Cmp
def j5_thicketref01_Cmp : IR :=
 (.seq (.seq (.reg 6 [⟨some 22, .move (.t 5), none, []⟩,
  ⟨some 23, .len 22 false (.t 22), none, [22]⟩,
  ⟨some 24, .bin .sub 3 (.t 23) (.c (Value.int IntKind.i64 1)) 3, none, [23]⟩,
  ⟨some 7, .assign (.t 24), none, [24]⟩] none [5, 6, 7, 9, 11])
 (.block 0 l0_thicketref01_Cmp))
 k4_thicketref01_Cmp)
def k5_thicketref01_Cmp : IR := .tail [5, 6, 9, 11] j5_thicketref01_Cmp
def b_thicketref01_Cmp : IR :=
 (.seq (.reg 0 [⟨some 4, .assign (.c (Value.int IntKind.i64 0)), none, [4]⟩] none [0, 1])
 (.seq (.reg 1 [⟨some 8, .move (.t 0), none, []⟩,
  ⟨some 9, .call n_thicketref01_Norm [(.t 8)] [22], none, [0, 8]⟩,
  ⟨some 10, .move (.t 1), none, []⟩,
  ⟨some 11, .call n_thicketref01_Norm [(.t 10)] [22], none, [1, 10]⟩,
  ⟨some 5, .assign (.t 9), none, []⟩,
  ⟨some 6, .assign (.t 11), none, []⟩] none [5, 6, 9, 11])
 (.seq (.seq (.reg 2 [⟨some 12, .move (.t 5), none, []⟩,
  ⟨some 13, .len 22 false (.t 12), none, [12]⟩,
  ⟨some 14, .move (.t 6), none, []⟩,
  ⟨some 15, .len 22 false (.t 14), none, [14]⟩,
  ⟨some 16, .bin .neq 3 (.t 13) (.t 15) 3, none, [13, 15]⟩] none [5, 6, 9, 11, 16])
 (.cond [5, 6, 9, 11] (.t 16) (.seq (.seq (.reg 3 [⟨some 17, .move (.t 5), none, []⟩,
  ⟨some 18, .len 22 false (.t 17), none, [5, 9, 17]⟩,
  ⟨some 19, .move (.t 6), none, []⟩,
  ⟨some 20, .len 22 false (.t 19), none, [6, 11, 19]⟩,
  ⟨some 21, .bin .lss 3 (.t 18) (.t 20) 3, none, [18, 20]⟩] none [21])
 (.cond [] (.t 21) (.seq (.reg 4 [⟨some 4, .assign (.c (Value.int IntKind.i64 (-1))), none, []⟩] none [4])
 .ret) .skip))
 k0_thicketref01_Cmp) .skip))
 k5_thicketref01_Cmp)))
def a_thicketref01_Cmp : AFunc := ⟨47, [.tmp 4], b_thicketref01_Cmp⟩

def b_thicketref01_Bit : IR :=
 (.seq (.reg 0 [⟨some 4, .assign (.c (Value.bool false)), none, [4]⟩] none [0, 1])
 (.seq (.reg 1 [⟨some 5, .move (.t 1), none, []⟩,
  ⟨some 6, .bin .geq 3 (.t 5) (.c (Value.int IntKind.i64 0)) 3, none, [5]⟩,
  ⟨some 7, .move (.t 6), none, [6]⟩,
  ⟨some 8, .move (.t 1), some (2, true), []⟩,
  ⟨some 9, .bin .quo 3 (.t 8) (.c (Value.int IntKind.i64 32)) 3, some (2, true), [8]⟩,
  ⟨some 10, .move (.t 0), some (2, true), []⟩,
  ⟨some 11, .len 22 false (.t 10), some (2, true), [10]⟩,
  ⟨some 12, .bin .lss 3 (.t 9) (.t 11) 3, some (2, true), [9, 11]⟩,
  ⟨some 13, .pick (.t 7) (.t 12) (.c (Value.bool false)), none, [7, 12]⟩,
  ⟨some 14, .move (.t 13), none, [13]⟩,
  ⟨some 15, .move (.t 0), some (9, true), []⟩,
  ⟨some 16, .move (.t 1), some (9, true), []⟩,
  ⟨some 17, .bin .quo 3 (.t 16) (.c (Value.int IntKind.i64 32)) 3, some (9, true), [16]⟩,
  ⟨some 18, .iaddr 22 (.sl 1) (.t 15) (.t 17), some (9, true), []⟩,
  ⟨some 19, .load 49 none (.t 18), some (9, true), [0, 15, 17, 18]⟩,
  ⟨some 20, .move (.t 1), some (9, true), [1]⟩,
  ⟨some 21, .bin .rem 3 (.t 20) (.c (Value.int IntKind.i64 32)) 3, some (9, true), [20]⟩,
  ⟨some 22, .conv 3 68 (.int .u64) (.t 21), some (9, true), [21]⟩,
  ⟨some 23, .bin .shr 49 (.t 19) (.t 22) 68, some (9, true), [19, 22]⟩,
  ⟨some 24, .bin .and 49 (.t 23) (.c (Value.int IntKind.u32 1)) 49, some (9, true), [23]⟩,
  ⟨some 25, .bin .eql 49 (.t 24) (.c (Value.int IntKind.u32 1)) 49, some (9, true), [24]⟩,
  ⟨some 26, .pick (.t 14) (.t 25) (.c (Value.bool false)), none, [14, 25]⟩,
  ⟨some 4, .assign (.t 26), none, [26]⟩] none [4])
 .ret))
def a_thicketref01_Bit : AFunc := ⟨27, [.tmp 4], b_thicketref01_Bit⟩

def j0_thicketref01_Sub : IR :=
 (.reg 16 [⟨some 47, .move (.t 8), none, []⟩,
  ⟨some 48, .move (.t 11), none, [11]⟩,
  ⟨some 49, .conv 2 49 (.int .u32) (.t 48), none, [48]⟩,
  ⟨some 50, .lit 22 1 [(.t 49)], none, [49]⟩,
  ⟨some 51, .append 22 22 false 1 4 (.t 47) (.t 50), none, [47, 50]⟩,
  ⟨some 8, .assign (.t 51), none, []⟩] none [6, 7, 8, 9, 17, 19, 21, 22, 51])
def k0_thicketref01_Sub : IR := .tail [6, 7, 8, 9, 11, 17, 19, 21, 22, 51] j0_thicketref01_Sub
def j1_thicketref01_Sub : IR :=
 (.seq (.reg 12 [⟨some 9, .assign (.c (Value.int IntKind.i64 0)), none, []⟩] none [6, 7, 8, 9, 11, 17, 19, 21, 22, 51])
 (.seq (.seq (.reg 13 [⟨some 43, .move (.t 11), none, []⟩,
  ⟨some 44, .bin .lss 2 (.t 43) (.c (Value.int IntKind.i64 0)) 2, none, [43]⟩] none [6, 7, 8, 9, 11, 17, 19, 21, 22, 44, 51])
 (.cond [6, 7, 8, 9, 11, 17, 19, 21, 22, 51] (.t 44) (.seq (.reg 14 [⟨some 45, .move (.t 11), none, []⟩,
  ⟨some 46, .bin .add 2 (.t 45) (.c (Value.int IntKind.i64 4294967296)) 2, none, [45]⟩,
  ⟨some 11, .assign (.t 46), none, [46]⟩] none [6, 7, 8, 11, 17, 19, 21, 22, 51])
 (.reg 15 [⟨some 9, .assign (.c (Value.int IntKind.i64 1)), none, []⟩] none [6, 7, 8, 9, 11, 17, 19, 21, 22, 51])) .skip))
 k0_thicketref01_Sub))
def k1_thicketref01_Sub : IR := .tail [6, 7, 8, 11, 17, 19, 21, 22, 51] j1_thicketref01_Sub
def j2_thicketref01_Sub : IR :=
 (.reg 17 [⟨some 52, .bin .add 3 (.t 22) (.c (Value.int IntKind.i64 1)) 3, none, []⟩,
  ⟨some 22, .move (.t 52), none, [52]⟩] none [6, 7, 8, 9, 17, 19, 21, 22, 51])
def k2_thicketref01_Sub : IR := .tail [6, 7, 8, 9, 17, 19, 21, 22, 51] j2_thicketref01_Sub
def j3_thicketref01_Sub : IR :=
 (.seq (.block 1 (.seq (.reg 8 [⟨some 24, .move (.t 22), none, []⟩,
  ⟨some 10, .assign (.t 24), none, [24]⟩] none [6, 7, 8, 9, 10, 17, 19, 21, 22, 51])
 (.seq (.reg 9 [⟨some 25, .move (.t 6), none, []⟩,
  ⟨some 26, .move (.t 10), none, []⟩,
  ⟨some 27, .iaddr 22 (.sl 1) (.t 25) (.t 26), none, []⟩,
  ⟨some 28, .load 49 none (.t 27), none, [25, 26, 27]⟩,
  ⟨some 29, .conv 49 2 (.int .i64) (.t 28), none, [28]⟩,
  ⟨some 30, .move (.t 9), none, [9]⟩,
  ⟨some 31, .bin .sub 2 (.t 29) (.t 30) 2, none, [29, 30]⟩,
  ⟨some 11, .assign (.t 31), none, [31]⟩] none [6, 7, 8, 10, 11, 17, 19, 21, 22, 51])
 (.seq (.seq (.reg 10 [⟨some 32, .move (.t 10), none, []⟩,
  ⟨some 33, .move (.t 7), none, []⟩,
  ⟨some 34, .len 22 false (.t 33), none, [33]⟩,
  ⟨some 35, .bin .lss 3 (.t 32) (.t 34) 3, none, [32, 34]⟩] none [6, 7, 8, 10, 11, 17, 19, 21, 22, 35, 51])
 (.cond [6, 7, 8, 10, 11, 17, 19, 21, 22, 51] (.t 35) (.reg 11 [⟨some 36, .move (.t 11), none, []⟩,
  ⟨some 37, .move (.t 7), none, []⟩,
  ⟨some 38, .move (.t 10), none, [10]⟩,
  ⟨some 39, .iaddr 22 (.sl 1) (.t 37) (.t 38), none, []⟩,
  ⟨some 40, .load 49 none (.t 39), none, [37, 38, 39]⟩,
  ⟨some 41, .conv 49 2 (.int .i64) (.t 40), none, [40]⟩,
  ⟨some 42, .bin .sub 2 (.t 36) (.t 41) 2, none, [36, 41]⟩,
  ⟨some 11, .assign (.t 42), none, [42]⟩] none [6, 7, 8, 11, 17, 19, 21, 22, 51]) .skip))
 k1_thicketref01_Sub))))
 k2_thicketref01_Sub)
def k3_thicketref01_Sub : IR := .tail [6, 7, 8, 9, 17, 19, 21, 22, 51] j3_thicketref01_Sub
def w0_thicketref01_Sub : IR :=
 (.seq (.reg 7 [⟨some 23, .bin .lss 3 (.t 22) (.t 21) 3, none, []⟩] none [6, 7, 8, 9, 17, 19, 21, 22, 23, 51])
 (.seq (.cond [6, 7, 8, 9, 17, 19, 21, 22, 51] (.t 23) .skip (.exit 0))
 k3_thicketref01_Sub))
def l0_thicketref01_Sub : IR := .loop [6, 7, 8, 9, 17, 19, 21, 22, 51] w0_thicketref01_Sub
def j4_thicketref01_Sub : IR :=
 (.seq (.reg 18 [⟨some 53, .move (.t 8), none, []⟩,
  ⟨some 54, .call n_thicketref01_Norm [(.t 53)] [22], none, [8, 51, 53]⟩,
  ⟨some 4, .assign (.t 54), none, []⟩,
  ⟨some 5, .assign (.c (Value.int IntKind.i64 0)), none, []⟩] none [4, 5, 54])
 .ret)
def k4_thicketref01_Sub : IR := .tail [8, 51] j4_thicketref01_Sub
def j5_thicketref01_Sub : IR :=
 (.seq (.reg 3 [⟨some 16, .move (.t 0), none, []⟩,
  ⟨some 17, .call n_thicketref01_Norm [(.t 16)] [22], none, [0, 16]⟩,
  ⟨some 18, .move (.t 1), none, []⟩,
  ⟨some 19, .call n_thicketref01_Norm [(.t 18)] [22], none, [1, 18]⟩,
  ⟨some 6, .assign (.t 17), none, []⟩,
  ⟨some 7, .assign (.t 19), none, []⟩] none [6, 7, 17, 19])
 (.seq (.reg 4 [⟨some 8, .assign (.nilS 1), none, []⟩] none [6, 7, 8, 17, 19, 51])
 (.seq (.reg 5 [⟨some 9, .assign (.c (Value.int IntKind.i64 0)), none, []⟩] none [6, 7, 8, 9, 17, 19, 51])
 (.seq (.seq (.reg 6 [⟨some 20, .move (.t 6), none, []⟩,
  ⟨some 21, .len 22 false (.t 20), none, [20]⟩,
  ⟨some 22, .move (.c (Value.int IntKind.i64 0)), none, []⟩] none [6, 7, 8, 9, 17, 19, 21, 22, 51])
 (.block 0 l0_thicketref01_Sub))
 k4_thicketref01_Sub))))
def k5_thicketref01_Sub : IR := .tail [0, 1] j5_thicketref01_Sub
def b_thicketref01_Sub : IR :=
 (.seq (.reg 0 [⟨some 4, .assign (.nilS 1), none, [4]⟩,
  ⟨some 5, .assign (.c (Value.int IntKind.i64 0)), none, [5]⟩] none [0, 1])
 (.seq (.seq (.reg 1 [⟨some 12, .move (.t 0), none, []⟩,
  ⟨some 13, .move (.t 1), none, []⟩,
  ⟨some 14, .call n_thicketref01_Cmp [(.t 12), (.t 13)] [22, 22], none, [12, 13]⟩,
  ⟨some 15, .bin .lss 3 (.t 14) (.c (Value.int IntKind.i64 0)) 3, none, [14]⟩] none [0, 1, 15])
 (.cond [0, 1] (.t 15) (.seq (.reg 2 [⟨some 4, .assign (.nilS 1), none, []⟩,
  ⟨some 5, .assign (.c (Value.int IntKind.i64 12)), none, []⟩] none [4, 5, 54])
 .ret) .skip))
 k5_thicketref01_Sub))
def a_thicketref01_Sub : AFunc := ⟨55, [.tmp 4, .tmp 5], b_thicketref01_Sub⟩

def j0_thicketref01_double : IR :=
 (.reg 10 [⟨some 25, .bin .add 3 (.t 12) (.c (Value.int IntKind.i64 1)) 3, none, []⟩,
  ⟨some 12, .move (.t 25), none, [25]⟩] none [0, 5, 6, 10, 11, 12, 22])
def k0_thicketref01_double : IR := .tail [0, 5, 6, 10, 11, 12, 22] j0_thicketref01_double
def j1_thicketref01_double : IR :=
 (.seq (.block 1 (.seq (.reg 7 [⟨some 14, .iaddr 22 (.sl 1) (.t 10) (.t 12), none, []⟩,
  ⟨some 15, .load 49 none (.t 14), none, [14]⟩,
  ⟨some 8, .assign (.t 15), none, [15]⟩] none [0, 5, 6, 8, 10, 11, 12, 22])
 (.seq (.reg 8 [⟨some 16, .move (.t 5), none, []⟩,
  ⟨some 17, .move (.t 8), none, []⟩,
  ⟨some 18, .bin .shl 49 (.t 17) (.c (Value.int IntKind.u64 1)) 68, none, [17]⟩,
  ⟨some 19, .move (.t 6), none, [6]⟩,
  ⟨some 20, .bin .or 49 (.t 18) (.t 19) 49, none, [18, 19]⟩,
  ⟨some 21, .lit 22 1 [(.t 20)], none, [20]⟩,
  ⟨some 22, .append 22 22 false 1 4 (.t 16) (.t 21), none, [16, 21]⟩,
  ⟨some 5, .assign (.t 22), none, []⟩] none [0, 5, 8, 10, 11, 12, 22])
 (.reg 9 [⟨some 23, .move (.t 8), none, [8]⟩,
  ⟨some 24, .bin .shr 49 (.t 23) (.c (Value.int IntKind.u64 31)) 68, none, [23]⟩,
  ⟨some 6, .assign (.t 24), none, [24]⟩] none [0, 5, 6, 10, 11, 12, 22]))))
 k0_thicketref01_double)
def k1_thicketref01_double : IR := .tail [0, 5, 6, 10, 11, 12, 22] j1_thicketref01_double
def w0_thicketref01_double : IR :=
 (.seq (.reg 6 [⟨some 13, .bin .lss 3 (.t 12) (.t 11) 3, none, []⟩] none [0, 5, 6, 10, 11, 12, 13, 22])
 (.seq (.cond [0, 5, 6, 10, 11, 12, 22] (.t 13) .skip (.exit 0))
 k1_thicketref01_double))
def l0_thicketref01_double : IR := .loop [0, 5, 6, 10, 11, 12, 22] w0_thicketref01_double
def j2_thicketref01_double : IR :=
 (.seq (.reg 11 [⟨some 26, .move (.t 5), none, []⟩,
  ⟨some 27, .move (.t 6), none, [6]⟩,
  ⟨some 28, .lit 22 1 [(.t 27)], none, [27]⟩,
  ⟨some 29, .append 22 22 false 1 4 (.t 26) (.t 28), none, [5, 22, 26, 28]⟩,
  ⟨some 30, .call n_thicketref01_Norm [(.t 29)] [22], none, [29]⟩,
  ⟨some 4, .assign (.t 30), none, []⟩] none [4, 30])
 .ret)
def k2_thicketref01_double : IR := .tail [5, 6, 22] j2_thicketref01_double
def j3_thicketref01_double : IR :=
 (.seq (.seq (.reg 5 [⟨some 10, .move (.t 0), none, []⟩,
  ⟨some 11, .len 22 false (.t 10), none, []⟩,
  ⟨some 12, .move (.c (Value.int IntKind.i64 0)), none, []⟩] none [0, 5, 6, 10, 11, 12, 22])
 (.block 0 l0_thicketref01_double))
 k2_thicketref01_double)
def k3_thicketref01_double : IR := .tail [0, 5, 6, 22] j3_thicketref01_double
def b_thicketref01_double : IR :=
 (.seq (.reg 0 [⟨some 4, .assign (.nilS 1), none, [4]⟩] none [0, 1])
 (.seq (.reg 1 [⟨some 5, .assign (.nilS 1), none, []⟩] none [0, 1, 5, 22])
 (.seq (.reg 2 [⟨some 6, .assign (.c (Value.int IntKind.u32 0)), none, []⟩] none [0, 1, 5, 6, 22])
 (.seq (.seq (.reg 3 [⟨some 9, .move (.t 1), none, [1]⟩] none [0, 5, 6, 9, 22])
 (.cond [0, 5, 6, 22] (.t 9) (.reg 4 [⟨some 6, .assign (.c (Value.int IntKind.u32 1)), none, []⟩] none [0, 5, 6, 22]) .skip))
 k3_thicketref01_double))))
def a_thicketref01_double : AFunc := ⟨31, [.tmp 4], b_thicketref01_double⟩

def j0_thicketref01_DivMod : IR :=
 (.reg 9 [⟨some 32, .move (.t 11), none, []⟩,
  ⟨some 33, .bin .sub 3 (.t 32) (.c (Value.int IntKind.i64 1)) 3, none, [32]⟩,
  ⟨some 11, .assign (.t 33), none, [33]⟩] none [7, 8, 9, 10, 11, 15, 17, 23])
def k0_thicketref01_DivMod : IR := .tail [7, 8, 9, 10, 11, 15, 17, 23] j0_thicketref01_DivMod
def j1_thicketref01_DivMod : IR :=
 (.seq (.block 1 (.seq (.reg 10 [⟨some 34, .move (.t 10), none, []⟩,
  ⟨some 35, .bin .shl 33 (.t 34) (.c (Value.int IntKind.u64 32)) 68, none, [34]⟩,
  ⟨some 36, .move (.t 7), none, []⟩,
  ⟨some 37, .move (.t 11), none, []⟩,
  ⟨some 38, .iaddr 22 (.sl 1) (.t 36) (.t 37), none, []⟩,
  ⟨some 39, .load 49 none (.t 38), none, [36, 37, 38]⟩,
  ⟨some 40, .conv 49 33 (.int .u64) (.t 39), none, [39]⟩,
  ⟨some 41, .bin .or 33 (.t 35) (.t 40) 33, none, [35, 40]⟩,
  ⟨some 10, .assign (.t 41), none, [41]⟩] none [7, 8, 9, 10, 11, 15, 17, 23])
 (.seq (.reg 11 [⟨some 42, .move (.t 9), none, []⟩,
  ⟨some 43, .move (.t 11), none, []⟩,
  ⟨some 44, .move (.t 10), none, []⟩,
  ⟨some 45, .move (.t 8), none, []⟩,
  ⟨some 46, .iaddr 22 (.sl 1) (.t 45) (.c (Value.int IntKind.i64 0)), none, []⟩,
  ⟨some 47, .load 49 none (.t 46), none, [45, 46]⟩,
  ⟨some 48, .conv 49 33 (.int .u64) (.t 47), none, [47]⟩,
  ⟨some 49, .bin .quo 33 (.t 44) (.t 48) 33, none, [44, 48]⟩,
  ⟨some 50, .conv 33 49 (.int .u32) (.t 49), none, [49]⟩,
  ⟨some 51, .iaddr 22 (.sl 1) (.t 42) (.t 43), none, []⟩,
  ⟨none, .store 49 none (.t 51) (.t 50), none, [42, 43, 50, 51]⟩] none [7, 8, 9, 10, 11, 15, 17, 23])
 (.reg 12 [⟨some 52, .move (.t 10), none, []⟩,
  ⟨some 53, .move (.t 8), none, []⟩,
  ⟨some 54, .iaddr 22 (.sl 1) (.t 53) (.c (Value.int IntKind.i64 0)), none, []⟩,
  ⟨some 55, .load 49 none (.t 54), none, [53, 54]⟩,
  ⟨some 56, .conv 49 33 (.int .u64) (.t 55), none, [55]⟩,
  ⟨some 57, .bin .rem 33 (.t 52) (.t 56) 33, none, [52, 56]⟩,
  ⟨some 10, .assign (.t 57), none, [57]⟩] none [7, 8, 9, 10, 11, 15, 17, 23]))))
 k0_thicketref01_DivMod)
def k1_thicketref01_DivMod : IR := .tail [7, 8, 9, 10, 11, 15, 17, 23] j1_thicketref01_DivMod
def w0_thicketref01_DivMod : IR :=
 (.seq (.seq (.reg 8 [⟨some 30, .move (.t 11), none, []⟩,
  ⟨some 31, .bin .geq 3 (.t 30) (.c (Value.int IntKind.i64 0)) 3, none, [30]⟩] none [7, 8, 9, 10, 11, 15, 17, 23, 31])
 (.cond [7, 8, 9, 10, 11, 15, 17, 23] (.t 31) .skip (.exit 0)))
 k1_thicketref01_DivMod)
def l0_thicketref01_DivMod : IR := .loop [7, 8, 9, 10, 11, 15, 17, 23] w0_thicketref01_DivMod
def j2_thicketref01_DivMod : IR :=
 (.seq (.reg 13 [⟨some 58, .move (.t 9), none, []⟩,
  ⟨some 59, .call n_thicketref01_Norm [(.t 58)] [22], none, [9, 23, 58]⟩,
  ⟨some 60, .move (.t 10), none, [10]⟩,
  ⟨some 61, .call n_thicketref01_From [(.t 60)] [33], none, [60]⟩,
  ⟨some 4, .assign (.t 59), none, []⟩,
  ⟨some 5, .assign (.t 61), none, []⟩,
  ⟨some 6, .assign (.c (Value.int IntKind.i64 0)), none, []⟩] none [4, 5, 6, 12, 59, 61, 74, 79, 82, 83, 100, 101])
 .ret)
def k2_thicketref01_DivMod : IR := .tail [9, 10, 23] j2_thicketref01_DivMod
def j3_thicketref01_DivMod : IR :=
 (.reg 17 [⟨some 68, .move (.t 13), none, []⟩,
  ⟨some 69, .bin .sub 3 (.t 68) (.c (Value.int IntKind.i64 1)) 3, none, [68]⟩,
  ⟨some 13, .assign (.t 69), none, [69]⟩] none [7, 8, 9, 12, 13, 15, 17, 23, 74, 79, 82, 83])
def k3_thicketref01_DivMod : IR := .tail [7, 8, 9, 12, 13, 15, 17, 23, 74, 79, 82, 83] j3_thicketref01_DivMod
def j4_thicketref01_DivMod : IR :=
 (.seq (.block 3 (.seq (.reg 18 [⟨some 70, .move (.t 12), none, []⟩,
  ⟨some 71, .move (.t 7), none, []⟩,
  ⟨some 72, .move (.t 13), none, []⟩,
  ⟨some 73, .call n_thicketref01_Bit [(.t 71), (.t 72)] [22, 3], none, [71, 72]⟩,
  ⟨some 74, .call n_thicketref01_double [(.t 70), (.t 73)] [22, 4], none, [70, 73]⟩,
  ⟨some 12, .assign (.t 74), none, []⟩] none [7, 8, 9, 12, 13, 15, 17, 23, 74, 79, 82, 83])
 (.seq (.reg 19 [⟨some 75, .move (.t 12), none, []⟩,
  ⟨some 76, .move (.t 8), none, []⟩,
  ⟨some 77, .call n_thicketref01_Cmp [(.t 75), (.t 76)] [22, 22], none, [75, 76]⟩,
  ⟨some 78, .bin .geq 3 (.t 77) (.c (Value.int IntKind.i64 0)) 3, none, [77]⟩] none [7, 8, 9, 12, 13, 15, 17, 23, 74, 78, 79, 82, 83])
 (.cond [7, 8, 9, 12, 13, 15, 17, 23, 74, 79, 82, 83] (.t 78) (.seq (.reg 20 [⟨some 80, .move (.t 12), none, []⟩,
  ⟨some 81, .move (.t 8), none, []⟩,
  ⟨some 82, .call n_thicketref01_Sub [(.t 80), (.t 81)] [22, 22], none, [80, 81]⟩,
  ⟨some 79, .move (.t 82), none, []⟩,
  ⟨some 83, .extr (.t 79) 0, none, []⟩,
  ⟨some 84, .extr (.t 79) 1, none, [84]⟩,
  ⟨some 12, .assign (.t 83), none, []⟩] none [7, 8, 9, 12, 13, 15, 17, 23, 74, 79, 82, 83])
 (.reg 21 [⟨some 85, .move (.t 9), none, []⟩,
  ⟨some 86, .move (.t 13), none, []⟩,
  ⟨some 87, .bin .quo 3 (.t 86) (.c (Value.int IntKind.i64 32)) 3, none, [86]⟩,
  ⟨some 88, .move (.t 9), none, []⟩,
  ⟨some 89, .move (.t 13), none, []⟩,
  ⟨some 90, .bin .quo 3 (.t 89) (.c (Value.int IntKind.i64 32)) 3, none, [89]⟩,
  ⟨some 91, .iaddr 22 (.sl 1) (.t 88) (.t 90), none, []⟩,
  ⟨some 92, .load 49 none (.t 91), none, [88, 90, 91]⟩,
  ⟨some 93, .move (.t 13), none, []⟩,
  ⟨some 94, .bin .rem 3 (.t 93) (.c (Value.int IntKind.i64 32)) 3, none, [93]⟩,
  ⟨some 95, .conv 3 68 (.int .u64) (.t 94), none, [94]⟩,
  ⟨some 96, .bin .shl 49 (.c (Value.int IntKind.u32 1)) (.t 95) 68, none, [95]⟩,
  ⟨some 97, .bin .or 49 (.t 92) (.t 96) 49, none, [92, 96]⟩,
  ⟨some 98, .iaddr 22 (.sl 1) (.t 85) (.t 87), none, []⟩,
  ⟨none, .store 49 none (.t 98) (.t 97), none, [85, 87, 97, 98]⟩] none [7, 8, 9, 12, 13, 15, 17, 23, 74, 79, 82, 83])) .skip))))
 k3_thicketref01_DivMod)
def k4_thicketref01_DivMod : IR := .tail [7, 8, 9, 12, 13, 15, 17, 23, 74, 79, 82, 83] j4_thicketref01_DivMod
def w1_thicketref01_DivMod : IR :=
 (.seq (.seq (.reg 16 [⟨some 66, .move (.t 13), none, []⟩,
  ⟨some 67, .bin .geq 3 (.t 66) (.c (Value.int IntKind.i64 0)) 3, none, [66]⟩] none [7, 8, 9, 12, 13, 15, 17, 23, 67, 74, 79, 82, 83])
 (.cond [7, 8, 9, 12, 13, 15, 17, 23, 74, 79, 82, 83] (.t 67) .skip (.exit 2)))
 k4_thicketref01_DivMod)
def l1_thicketref01_DivMod : IR := .loop [7, 8, 9, 12, 13, 15, 17, 23, 74, 79, 82, 83] w1_thicketref01_DivMod
def j5_thicketref01_DivMod : IR :=
 (.seq (.reg 22 [⟨some 99, .move (.t 9), none, []⟩,
  ⟨some 100, .call n_thicketref01_Norm [(.t 99)] [22], none, [9, 23, 99]⟩,
  ⟨some 101, .move (.t 12), none, []⟩,
  ⟨some 4, .assign (.t 100), none, []⟩,
  ⟨some 5, .assign (.t 101), none, []⟩,
  ⟨some 6, .assign (.c (Value.int IntKind.i64 0)), none, []⟩] none [4, 5, 6, 12, 59, 61, 74, 79, 82, 83, 100, 101])
 .ret)
def k5_thicketref01_DivMod : IR := .tail [9, 12, 23, 74, 79, 82, 83] j5_thicketref01_DivMod
def j6_thicketref01_DivMod : IR :=
 (.seq (.reg 14 [⟨some 12, .assign (.nilS 1), none, []⟩] none [7, 8, 9, 12, 15, 17, 23, 74, 79, 82, 83])
 (.seq (.seq (.reg 15 [⟨some 62, .move (.t 7), none, []⟩,
  ⟨some 63, .len 22 false (.t 62), none, [62]⟩,
  ⟨some 64, .bin .mul 3 (.c (Value.int IntKind.i64 32)) (.t 63) 3, none, [63]⟩,
  ⟨some 65, .bin .sub 3 (.t 64) (.c (Value.int IntKind.i64 1)) 3, none, [64]⟩,
  ⟨some 13, .assign (.t 65), none, [65]⟩] none [7, 8, 9, 12, 13, 15, 17, 23, 74, 79, 82, 83])
 (.block 2 l1_thicketref01_DivMod))
 k5_thicketref01_DivMod))
def k6_thicketref01_DivMod : IR := .tail [7, 8, 9, 15, 17, 23] j6_thicketref01_DivMod
def j7_thicketref01_DivMod : IR :=
 (.seq (.reg 4 [⟨some 21, .move (.t 7), none, []⟩,
  ⟨some 22, .len 22 false (.t 21), none, [21]⟩,
  ⟨some 23, .mk 22 1 4 (.v (.int .u32 0)) (.t 22) (.t 22), none, [22]⟩,
  ⟨some 9, .assign (.t 23), none, []⟩] none [7, 8, 9, 15, 17, 23])
 (.seq (.seq (.reg 5 [⟨some 24, .move (.t 8), none, []⟩,
  ⟨some 25, .len 22 false (.t 24), none, [24]⟩,
  ⟨some 26, .bin .eql 3 (.t 25) (.c (Value.int IntKind.i64 1)) 3, none, [25]⟩] none [7, 8, 9, 15, 17, 23, 26])
 (.cond [7, 8, 9, 15, 17, 23] (.t 26) (.seq (.reg 6 [⟨some 10, .assign (.c (Value.int IntKind.u64 0)), none, []⟩] none [7, 8, 9, 10, 15, 17, 23])
 (.seq (.seq (.reg 7 [⟨some 27, .move (.t 7), none, []⟩,
  ⟨some 28, .len 22 false (.t 27), none, [27]⟩,
  ⟨some 29, .bin .sub 3 (.t 28) (.c (Value.int IntKind.i64 1)) 3, none, [28]⟩,
  ⟨some 11, .assign (.t 29), none, [29]⟩] none [7, 8, 9, 10, 11, 15, 17, 23])
 (.block 0 l0_thicketref01_DivMod))
 k2_thicketref01_DivMod)) .skip))
 k6_thicketref01_DivMod))
def k7_thicketref01_DivMod : IR := .tail [7, 8, 15, 17] j7_thicketref01_DivMod
def b_thicketref01_DivMod : IR :=
 (.seq (.reg 0 [⟨some 4, .assign (.nilS 1), none, [4]⟩,
  ⟨some 5, .assign (.nilS 1), none, [5]⟩,
  ⟨some 6, .assign (.c (Value.int IntKind.i64 0)), none, [6]⟩] none [0, 1])
 (.seq (.reg 1 [⟨some 14, .move (.t 0), none, []⟩,
  ⟨some 15, .call n_thicketref01_Norm [(.t 14)] [22], none, [0, 14]⟩,
  ⟨some 16, .move (.t 1), none, []⟩,
  ⟨some 17, .call n_thicketref01_Norm [(.t 16)] [22], none, [1, 16]⟩,
  ⟨some 7, .assign (.t 15), none, []⟩,
  ⟨some 8, .assign (.t 17), none, []⟩] none [7, 8, 15, 17])
 (.seq (.seq (.reg 2 [⟨some 18, .move (.t 8), none, []⟩,
  ⟨some 19, .len 22 false (.t 18), none, [18]⟩,
  ⟨some 20, .bin .eql 3 (.t 19) (.c (Value.int IntKind.i64 0)) 3, none, [19]⟩] none [7, 8, 15, 17, 20])
 (.cond [7, 8, 15, 17] (.t 20) (.seq (.reg 3 [⟨some 4, .assign (.nilS 1), none, []⟩,
  ⟨some 5, .assign (.nilS 1), none, []⟩,
  ⟨some 6, .assign (.c (Value.int IntKind.i64 11)), none, []⟩] none [4, 5, 6, 12, 59, 61, 74, 79, 82, 83, 100, 101])
 .ret) .skip))
 k7_thicketref01_DivMod)))
def a_thicketref01_DivMod : AFunc := ⟨102, [.tmp 4, .tmp 5, .tmp 6], b_thicketref01_DivMod⟩

def j0_thicketref01_Small : IR :=
 (.reg 7 [⟨some 17, .move (.t 6), none, []⟩,
  ⟨some 18, .bin .sub 3 (.t 17) (.c (Value.int IntKind.i64 1)) 3, none, [17]⟩,
  ⟨some 6, .assign (.t 18), none, [18]⟩] none [4, 5, 6, 8])
def k0_thicketref01_Small : IR := .tail [4, 5, 6, 8] j0_thicketref01_Small
def j1_thicketref01_Small : IR :=
 (.seq (.block 1 (.reg 8 [⟨some 19, .move (.t 5), none, []⟩,
  ⟨some 20, .bin .shl 33 (.t 19) (.c (Value.int IntKind.u64 32)) 68, none, [19]⟩,
  ⟨some 21, .move (.t 4), none, []⟩,
  ⟨some 22, .move (.t 6), none, []⟩,
  ⟨some 23, .iaddr 22 (.sl 1) (.t 21) (.t 22), none, []⟩,
  ⟨some 24, .load 49 none (.t 23), none, [21, 22, 23]⟩,
  ⟨some 25, .conv 49 33 (.int .u64) (.t 24), none, [24]⟩,
  ⟨some 26, .bin .or 33 (.t 20) (.t 25) 33, none, [20, 25]⟩,
  ⟨some 5, .assign (.t 26), none, [26]⟩] none [4, 5, 6, 8]))
 k0_thicketref01_Small)
def k1_thicketref01_Small : IR := .tail [4, 5, 6, 8] j1_thicketref01_Small
def w0_thicketref01_Small : IR :=
 (.seq (.seq (.reg 6 [⟨some 15, .move (.t 6), none, []⟩,
  ⟨some 16, .bin .geq 3 (.t 15) (.c (Value.int IntKind.i64 0)) 3, none, [15]⟩] none [4, 5, 6, 8, 16])
 (.cond [4, 5, 6, 8] (.t 16) .skip (.exit 0)))
 k1_thicketref01_Small)
def l0_thicketref01_Small : IR := .loop [4, 5, 6, 8] w0_thicketref01_Small
def j2_thicketref01_Small : IR :=
 (.seq (.reg 9 [⟨some 27, .move (.t 5), none, [5]⟩,
  ⟨some 2, .assign (.t 27), none, [27]⟩,
  ⟨some 3, .assign (.c (Value.bool true)), none, []⟩] none [2, 3])
 .ret)
def k2_thicketref01_Small : IR := .tail [5] j2_thicketref01_Small
def j3_thicketref01_Small : IR :=
 (.seq (.reg 4 [⟨some 5, .assign (.c (Value.int IntKind.u64 0)), none, []⟩] none [4, 5, 8])
 (.seq (.seq (.reg 5 [⟨some 12, .move (.t 4), none, []⟩,
  ⟨some 13, .len 22 false (.t 12), none, [12]⟩,
  ⟨some 14, .bin .sub 3 (.t 13) (.c (Value.int IntKind.i64 1)) 3, none, [13]⟩,
  ⟨some 6, .assign (.t 14), none, [14]⟩] none [4, 5, 6, 8])
 (.block 0 l0_thicketref01_Small))
 k2_thicketref01_Small))
def k3_thicketref01_Small : IR := .tail [4, 8] j3_thicketref01_Small
def b_thicketref01_Small : IR :=
 (.seq (.reg 0 [⟨some 2, .assign (.c (Value.int IntKind.u64 0)), none, [2]⟩,
  ⟨some 3, .assign (.c (Value.bool false)), none, [3]⟩] none [0])
 (.seq (.reg 1 [⟨some 7, .move (.t 0), none, []⟩,
  ⟨some 8, .call n_thicketref01_Norm [(.t 7)] [22], none, [0, 7]⟩,
  ⟨some 4, .assign (.t 8), none, []⟩] none [4, 8])
 (.seq (.seq (.reg 2 [⟨some 9, .move (.t 4), none, []⟩,
  ⟨some 10, .len 22 false (.t 9), none, [9]⟩,
  ⟨some 11, .bin .gtr 3 (.t 10) (.c (Value.int IntKind.i64 2)) 3, none, [10]⟩] none [4, 8, 11])
 (.cond [4, 8] (.t 11) (.seq (.reg 3 [⟨some 2, .assign (.c (Value.int IntKind.u64 0)), none, []⟩,
  ⟨some 3, .assign (.c (Value.bool false)), none, []⟩] none [2, 3])
 .ret) .skip))
 k3_thicketref01_Small)))
def a_thicketref01_Small : AFunc := ⟨28, [.tmp 2, .tmp 3], b_thicketref01_Small⟩

def j0_thicketref01_Print : IR :=
 (.reg 11 [⟨some 45, .move (.t 10), none, []⟩,
  ⟨some 46, .bin .add 3 (.t 45) (.c (Value.int IntKind.i64 1)) 3, none, [45]⟩,
  ⟨some 10, .assign (.t 46), none, [46]⟩] none [3, 4, 5, 8, 10, 14, 21, 24, 25, 33, 53])
def k0_thicketref01_Print : IR := .tail [3, 4, 5, 8, 10, 14, 21, 24, 25, 33, 53] j0_thicketref01_Print
def j1_thicketref01_Print : IR :=
 (.seq (.block 3 (.seq (.reg 12 [⟨some 47, .move (.t 4), none, []⟩,
  ⟨some 48, .move (.t 8), none, []⟩,
  ⟨some 49, .bin .rem 33 (.t 48) (.c (Value.int IntKind.u64 10)) 33, none, [48]⟩,
  ⟨some 50, .bin .add 33 (.c (Value.int IntKind.u64 48)) (.t 49) 33, none, [49]⟩,
  ⟨some 51, .conv 33 5 (.int .u8) (.t 50), none, [50]⟩,
  ⟨some 52, .lit 70 1 [(.t 51)], none, [51]⟩,
  ⟨some 53, .append 70 70 false 1 1 (.t 47) (.t 52), none, [47, 52]⟩,
  ⟨some 4, .assign (.t 53), none, []⟩] none [3, 4, 5, 8, 10, 14, 21, 24, 25, 33, 53])
 (.reg 13 [⟨some 54, .move (.t 8), none, []⟩,
  ⟨some 55, .bin .quo 33 (.t 54) (.c (Value.int IntKind.u64 10)) 33, none, [54]⟩,
  ⟨some 8, .assign (.t 55), none, [55]⟩] none [3, 4, 5, 8, 10, 14, 21, 24, 25, 33, 53])))
 k0_thicketref01_Print)
def k1_thicketref01_Print : IR := .tail [3, 4, 5, 8, 10, 14, 21, 24, 25, 33, 53] j1_thicketref01_Print
def w1_thicketref01_Print : IR :=
 (.seq (.seq (.reg 10 [⟨some 34, .move (.t 10), none, []⟩,
  ⟨some 35, .bin .lss 3 (.t 34) (.c (Value.int IntKind.i64 9)) 3, none, [34]⟩,
  ⟨some 36, .move (.t 35), none, [35]⟩,
  ⟨some 37, .move (.t 8), some (2, true), []⟩,
  ⟨some 38, .bin .gtr 33 (.t 37) (.c (Value.int IntKind.u64 0)) 33, some (2, true), [37]⟩,
  ⟨some 39, .move (.t 38), some (2, true), [38]⟩,
  ⟨some 40, .move (.t 3), some (5, false), []⟩,
  ⟨some 41, .len 22 false (.t 40), some (5, false), [40]⟩,
  ⟨some 42, .bin .gtr 3 (.t 41) (.c (Value.int IntKind.i64 0)) 3, some (5, false), [41]⟩,
  ⟨some 43, .pick (.t 39) (.c (Value.bool true)) (.t 42), some (2, true), [39, 42]⟩,
  ⟨some 44, .pick (.t 36) (.t 43) (.c (Value.bool false)), none, [36, 43]⟩] none [3, 4, 5, 8, 10, 14, 21, 24, 25, 33, 44, 53])
 (.cond [3, 4, 5, 8, 10, 14, 21, 24, 25, 33, 53] (.t 44) .skip (.exit 2)))
 k1_thicketref01_Print)
def l1_thicketref01_Print : IR := .loop [3, 4, 5, 8, 10, 14, 21, 24, 25, 33, 53] w1_thicketref01_Print
def j2_thicketref01_Print : IR :=
 (.block 1 (.seq (.reg 6 [⟨some 22, .move (.t 3), none, []⟩,
  ⟨some 23, .lit 22 1 [(.c (Value.int IntKind.u32 1000000000))], none, []⟩,
  ⟨some 24, .call n_thicketref01_DivMod [(.t 22), (.t 23)] [22, 22], none, [3, 14, 22, 23, 33]⟩,
  ⟨some 21, .move (.t 24), none, []⟩,
  ⟨some 25, .extr (.t 21) 0, none, []⟩,
  ⟨some 26, .extr (.t 21) 1, none, []⟩,
  ⟨some 27, .extr (.t 21) 2, none, []⟩,
  ⟨some 5, .assign (.t 25), none, []⟩,
  ⟨some 6, .assign (.t 26), none, []⟩,
  ⟨some 7, .assign (.t 27), none, [7, 27]⟩] none [4, 5, 6, 21, 24, 25, 26, 53])
 (.seq (.reg 7 [⟨some 29, .move (.t 6), none, []⟩,
  ⟨some 30, .call n_thicketref01_Small [(.t 29)] [22], none, [6, 26, 29]⟩,
  ⟨some 28, .move (.t 30), none, [30]⟩,
  ⟨some 31, .extr (.t 28) 0, none, []⟩,
  ⟨some 32, .extr (.t 28) 1, none, [28]⟩,
  ⟨some 8, .assign (.t 31), none, [31]⟩,
  ⟨some 9, .assign (.t 32), none, [9, 32]⟩] none [4, 5, 8, 21, 24, 25, 53])
 (.seq (.reg 8 [⟨some 33, .move (.t 5), none, []⟩,
  ⟨some 3, .assign (.t 33), none, []⟩] none [3, 4, 5, 8, 14, 21, 24, 25, 33, 53])
 (.seq (.reg 9 [⟨some 10, .assign (.c (Value.int IntKind.i64 0)), none, []⟩] none [3, 4, 5, 8, 10, 14, 21, 24, 25, 33, 53])
 (.block 2 l1_thicketref01_Print))))))
def k2_thicketref01_Print : IR := .tail [3, 4, 5, 14, 21, 24, 25, 33, 53] j2_thicketref01_Print
def w0_thicketref01_Print : IR :=
 (.seq (.seq (.reg 5 [⟨some 18, .move (.t 3), none, []⟩,
  ⟨some 19, .len 22 false (.t 18), none, [18]⟩,
  ⟨some 20, .bin .gtr 3 (.t 19) (.c (Value.int IntKind.i64 0)) 3, none, [19]⟩] none [3, 4, 5, 14, 20, 21, 24, 25, 33, 53])
 (.cond [3, 4, 5, 14, 21, 24, 25, 33, 53] (.t 20) .skip (.exit 0)))
 k2_thicketref01_Print)
def l0_thicketref01_Print : IR := .loop [3, 4, 5, 14, 21, 24, 25, 33, 53] w0_thicketref01_Print
def j3_thicketref01_Print : IR :=
 (.reg 17 [⟨some 61, .move (.t 12), none, []⟩,
  ⟨some 62, .bin .sub 3 (.t 61) (.c (Value.int IntKind.i64 1)) 3, none, [61]⟩,
  ⟨some 12, .assign (.t 62), none, [62]⟩] none [4, 11, 12, 53, 69])
def k3_thicketref01_Print : IR := .tail [4, 11, 12, 53, 69] j3_thicketref01_Print
def j4_thicketref01_Print : IR :=
 (.seq (.block 5 (.reg 18 [⟨some 63, .move (.t 11), none, []⟩,
  ⟨some 64, .move (.t 4), none, []⟩,
  ⟨some 65, .move (.t 12), none, []⟩,
  ⟨some 66, .iaddr 70 (.sl 1) (.t 64) (.t 65), none, []⟩,
  ⟨some 67, .load 5 none (.t 66), none, [64, 65, 66]⟩,
  ⟨some 68, .lit 70 1 [(.t 67)], none, [67]⟩,
  ⟨some 69, .append 70 70 false 1 1 (.t 63) (.t 68), none, [63, 68]⟩,
  ⟨some 11, .assign (.t 69), none, []⟩] none [4, 11, 12, 53, 69]))
 k3_thicketref01_Print)
def k4_thicketref01_Print : IR := .tail [4, 11, 12, 53, 69] j4_thicketref01_Print
def w2_thicketref01_Print : IR :=
 (.seq (.seq (.reg 16 [⟨some 59, .move (.t 12), none, []⟩,
  ⟨some 60, .bin .geq 3 (.t 59) (.c (Value.int IntKind.i64 0)) 3, none, [59]⟩] none [4, 11, 12, 53, 60, 69])
 (.cond [4, 11, 12, 53, 69] (.t 60) .skip (.exit 4)))
 k4_thicketref01_Print)
def l2_thicketref01_Print : IR := .loop [4, 11, 12, 53, 69] w2_thicketref01_Print
def j5_thicketref01_Print : IR :=
 (.seq (.reg 19 [⟨some 70, .move (.t 11), none, []⟩,
  ⟨some 71, .conv 70 9 .bytes (.t 70), none, [11, 69, 70]⟩,
  ⟨some 2, .assign (.t 71), none, [71]⟩] none [2])
 .ret)
def k5_thicketref01_Print : IR := .tail [11, 69] j5_thicketref01_Print
def j6_thicketref01_Print : IR :=
 (.seq (.reg 14 [⟨some 11, .assign (.nilS 1), none, []⟩] none [4, 11, 53, 69])
 (.seq (.seq (.reg 15 [⟨some 56, .move (.t 4), none, []⟩,
  ⟨some 57, .len 70 false (.t 56), none, [56]⟩,
  ⟨some 58, .bin .sub 3 (.t 57) (.c (Value.int IntKind.i64 1)) 3, none, [57]⟩,
  ⟨some 12, .assign (.t 58), none, [58]⟩] none [4, 11, 12, 53, 69])
 (.block 4 l2_thicketref01_Print))
 k5_thicketref01_Print))
def k6_thicketref01_Print : IR := .tail [4, 53] j6_thicketref01_Print
def j7_thicketref01_Print : IR :=
 (.seq (.reg 4 [⟨some 4, .assign (.nilS 1), none, []⟩] none [3, 4, 5, 14, 21, 24, 25, 33, 53])
 (.seq (.block 0 l0_thicketref01_Print)
 k6_thicketref01_Print))
def k7_thicketref01_Print : IR := .tail [3, 5, 14, 21, 24, 25, 33] j7_thicketref01_Print
def b_thicketref01_Print : IR :=
 (.seq (.reg 0 [⟨some 2, .assign (.c (Value.string { data := #[] })), none, [2]⟩] none [0])
 (.seq (.reg 1 [⟨some 13, .move (.t 0), none, []⟩,
  ⟨some 14, .call n_thicketref01_Norm [(.t 13)] [22], none, [0, 13]⟩,
  ⟨some 3, .assign (.t 14), none, []⟩] none [3, 5, 14, 21, 24, 25, 33])
 (.seq (.seq (.reg 2 [⟨some 15, .move (.t 3), none, []⟩,
  ⟨some 16, .len 22 false (.t 15), none, [15]⟩,
  ⟨some 17, .bin .eql 3 (.t 16) (.c (Value.int IntKind.i64 0)) 3, none, [16]⟩] none [3, 5, 14, 17, 21, 24, 25, 33])
 (.cond [3, 5, 14, 21, 24, 25, 33] (.t 17) (.seq (.reg 3 [⟨some 2, .assign (.c (Value.string { data := #[48] })), none, []⟩] none [2])
 .ret) .skip))
 k7_thicketref01_Print)))
def a_thicketref01_Print : AFunc := ⟨72, [.tmp 2], b_thicketref01_Print⟩

def j0_thicketref01_Gcd : IR :=
 (.block 1 (.seq (.reg 3 [⟨some 18, .move (.t 5), none, []⟩,
  ⟨some 19, .move (.t 6), none, []⟩,
  ⟨some 20, .call n_thicketref01_DivMod [(.t 18), (.t 19)] [22, 22], none, [5, 11, 18, 19, 24]⟩,
  ⟨some 17, .move (.t 20), none, []⟩,
  ⟨some 21, .extr (.t 17) 0, none, []⟩,
  ⟨some 22, .extr (.t 17) 1, none, []⟩,
  ⟨some 23, .extr (.t 17) 2, none, []⟩,
  ⟨some 7, .assign (.t 21), none, [7, 21]⟩,
  ⟨some 8, .assign (.t 22), none, []⟩,
  ⟨some 9, .assign (.t 23), none, [9, 23]⟩] none [6, 8, 13, 17, 20, 22, 25])
 (.reg 4 [⟨some 24, .move (.t 6), none, []⟩,
  ⟨some 25, .move (.t 8), none, []⟩,
  ⟨some 5, .assign (.t 24), none, []⟩,
  ⟨some 6, .assign (.t 25), none, []⟩] none [5, 6, 8, 11, 13, 17, 20, 22, 24, 25])))
def k0_thicketref01_Gcd : IR := .tail [5, 6, 8, 11, 13, 17, 20, 22, 24, 25] j0_thicketref01_Gcd
def w0_thicketref01_Gcd : IR :=
 (.seq (.seq (.reg 2 [⟨some 14, .move (.t 6), none, []⟩,
  ⟨some 15, .len 22 false (.t 14), none, [14]⟩,
  ⟨some 16, .bin .gtr 3 (.t 15) (.c (Value.int IntKind.i64 0)) 3, none, [15]⟩] none [5, 6, 8, 11, 13, 16, 17, 20, 22, 24, 25])
 (.cond [5, 6, 8, 11, 13, 17, 20, 22, 24, 25] (.t 16) .skip (.exit 0)))
 k0_thicketref01_Gcd)
def l0_thicketref01_Gcd : IR := .loop [5, 6, 8, 11, 13, 17, 20, 22, 24, 25] w0_thicketref01_Gcd
def j1_thicketref01_Gcd : IR :=
 (.seq (.reg 5 [⟨some 26, .move (.t 5), none, []⟩,
  ⟨some 4, .assign (.t 26), none, []⟩] none [4, 5, 6, 8, 11, 13, 17, 20, 22, 24, 25, 26])
 .ret)
def k1_thicketref01_Gcd : IR := .tail [5, 6, 8, 11, 13, 17, 20, 22, 24, 25] j1_thicketref01_Gcd
def b_thicketref01_Gcd : IR :=
 (.seq (.reg 0 [⟨some 4, .assign (.nilS 1), none, [4]⟩] none [0, 1])
 (.seq (.reg 1 [⟨some 10, .move (.t 0), none, []⟩,
  ⟨some 11, .call n_thicketref01_Norm [(.t 10)] [22], none, [0, 10]⟩,
  ⟨some 12, .move (.t 1), none, []⟩,
  ⟨some 13, .call n_thicketref01_Norm [(.t 12)] [22], none, [1, 12]⟩,
  ⟨some 5, .assign (.t 11), none, []⟩,
  ⟨some 6, .assign (.t 13), none, []⟩] none [5, 6, 8, 11, 13, 17, 20, 22, 24, 25])
 (.seq (.block 0 l0_thicketref01_Gcd)
 k1_thicketref01_Gcd)))
def a_thicketref01_Gcd : AFunc := ⟨27, [.tmp 4], b_thicketref01_Gcd⟩

def j0_thicketref01_Len : IR :=
 (.reg 7 [⟨some 23, .move (.t 5), none, []⟩,
  ⟨some 24, .bin .shr 49 (.t 23) (.c (Value.int IntKind.u64 1)) 68, none, [23]⟩,
  ⟨some 5, .assign (.t 24), none, [24]⟩] none [4, 5])
def k0_thicketref01_Len : IR := .tail [4, 5] j0_thicketref01_Len
def j1_thicketref01_Len : IR :=
 (.seq (.block 1 (.reg 8 [⟨some 25, .move (.t 4), none, []⟩,
  ⟨some 26, .bin .add 3 (.t 25) (.c (Value.int IntKind.i64 1)) 3, none, [25]⟩,
  ⟨some 4, .assign (.t 26), none, [26]⟩] none [4, 5]))
 k0_thicketref01_Len)
def k1_thicketref01_Len : IR := .tail [4, 5] j1_thicketref01_Len
def w0_thicketref01_Len : IR :=
 (.seq (.seq (.reg 6 [⟨some 21, .move (.t 5), none, []⟩,
  ⟨some 22, .bin .gtr 49 (.t 21) (.c (Value.int IntKind.u32 0)) 49, none, [21]⟩] none [4, 5, 22])
 (.cond [4, 5] (.t 22) .skip (.exit 0)))
 k1_thicketref01_Len)
def l0_thicketref01_Len : IR := .loop [4, 5] w0_thicketref01_Len
def j2_thicketref01_Len : IR :=
 (.seq (.reg 9 [⟨some 27, .move (.t 4), none, [4]⟩,
  ⟨some 2, .assign (.t 27), none, [27]⟩] none [2])
 .ret)
def k2_thicketref01_Len : IR := .tail [4] j2_thicketref01_Len
def j3_thicketref01_Len : IR :=
 (.seq (.reg 4 [⟨some 11, .move (.t 3), none, []⟩,
  ⟨some 12, .len 22 false (.t 11), none, [11]⟩,
  ⟨some 13, .bin .sub 3 (.t 12) (.c (Value.int IntKind.i64 1)) 3, none, [12]⟩,
  ⟨some 14, .bin .mul 3 (.c (Value.int IntKind.i64 32)) (.t 13) 3, none, [13]⟩,
  ⟨some 4, .assign (.t 14), none, [14]⟩] none [3, 4, 7])
 (.seq (.seq (.reg 5 [⟨some 15, .move (.t 3), none, []⟩,
  ⟨some 16, .move (.t 3), none, []⟩,
  ⟨some 17, .len 22 false (.t 16), none, [16]⟩,
  ⟨some 18, .bin .sub 3 (.t 17) (.c (Value.int IntKind.i64 1)) 3, none, [17]⟩,
  ⟨some 19, .iaddr 22 (.sl 1) (.t 15) (.t 18), none, []⟩,
  ⟨some 20, .load 49 none (.t 19), none, [3, 7, 15, 18, 19]⟩,
  ⟨some 5, .assign (.t 20), none, [20]⟩] none [4, 5])
 (.block 0 l0_thicketref01_Len))
 k2_thicketref01_Len))
def k3_thicketref01_Len : IR := .tail [3, 7] j3_thicketref01_Len
def b_thicketref01_Len : IR :=
 (.seq (.reg 0 [⟨some 2, .assign (.c (Value.int IntKind.i64 0)), none, [2]⟩] none [0])
 (.seq (.reg 1 [⟨some 6, .move (.t 0), none, []⟩,
  ⟨some 7, .call n_thicketref01_Norm [(.t 6)] [22], none, [0, 6]⟩,
  ⟨some 3, .assign (.t 7), none, []⟩] none [3, 7])
 (.seq (.seq (.reg 2 [⟨some 8, .move (.t 3), none, []⟩,
  ⟨some 9, .len 22 false (.t 8), none, [8]⟩,
  ⟨some 10, .bin .eql 3 (.t 9) (.c (Value.int IntKind.i64 0)) 3, none, [9]⟩] none [3, 7, 10])
 (.cond [3, 7] (.t 10) (.seq (.reg 3 [⟨some 2, .assign (.c (Value.int IntKind.i64 0)), none, []⟩] none [2])
 .ret) .skip))
 k3_thicketref01_Len)))
def a_thicketref01_Len : AFunc := ⟨28, [.tmp 2], b_thicketref01_Len⟩

def j0_thicketref01_Over : IR :=
 (.seq (.reg 5 [⟨some 24, .move (.t 1), none, []⟩,
  ⟨some 25, .move (.t 2), none, []⟩,
  ⟨some 26, .call n_thicketref01_Gcd [(.t 24), (.t 25)] [22, 22], none, [24, 25]⟩,
  ⟨some 8, .assign (.t 26), none, []⟩] none [0, 1, 2, 6, 8, 26])
 (.seq (.reg 6 [⟨some 28, .move (.t 1), none, []⟩,
  ⟨some 29, .move (.t 8), none, []⟩,
  ⟨some 30, .call n_thicketref01_DivMod [(.t 28), (.t 29)] [22, 22], none, [1, 28, 29]⟩,
  ⟨some 27, .move (.t 30), none, []⟩,
  ⟨some 31, .extr (.t 27) 0, none, []⟩,
  ⟨some 32, .extr (.t 27) 1, none, []⟩,
  ⟨some 33, .extr (.t 27) 2, none, []⟩,
  ⟨some 9, .assign (.t 31), none, []⟩,
  ⟨some 10, .assign (.t 32), none, [10, 32]⟩,
  ⟨some 11, .assign (.t 33), none, [11, 33]⟩] none [0, 2, 6, 8, 9, 26, 27, 30, 31])
 (.seq (.reg 7 [⟨some 35, .move (.t 2), none, []⟩,
  ⟨some 36, .move (.t 8), none, []⟩,
  ⟨some 37, .call n_thicketref01_DivMod [(.t 35), (.t 36)] [22, 22], none, [2, 8, 26, 35, 36]⟩,
  ⟨some 34, .move (.t 37), none, []⟩,
  ⟨some 38, .extr (.t 34) 0, none, []⟩,
  ⟨some 39, .extr (.t 34) 1, none, []⟩,
  ⟨some 40, .extr (.t 34) 2, none, []⟩,
  ⟨some 12, .assign (.t 38), none, []⟩,
  ⟨some 13, .assign (.t 39), none, [13, 39]⟩,
  ⟨some 14, .assign (.t 40), none, [14, 40]⟩] none [0, 6, 9, 12, 27, 30, 31, 34, 37, 38])
 (.seq (.reg 8 [⟨some 41, .move (.t 0), none, [0]⟩,
  ⟨some 42, .move (.t 9), none, []⟩,
  ⟨some 43, .move (.t 12), none, []⟩,
  ⟨some 44, .build 48 [(0, 1), (1, 1), (2, 1)] [.v (.bool false), .nil 1, .nil 1] [(0, (.t 41)), (1, (.t 42)), (2, (.t 43))], none, []⟩,
  ⟨none, .store 48 (some 3) (.t 6) (.t 44), none, [9, 12, 27, 30, 31, 34, 37, 38, 41, 42, 43, 44]⟩,
  ⟨some 7, .assign (.c (Value.int IntKind.i64 0)), none, []⟩] none [6, 7])
 .ret))))
def k0_thicketref01_Over : IR := .tail [0, 1, 2, 6] j0_thicketref01_Over
def j1_thicketref01_Over : IR :=
 (.seq (.seq (.reg 3 [⟨some 19, .move (.t 1), none, []⟩,
  ⟨some 20, .call n_thicketref01_Len [(.t 19)] [22], none, [19]⟩,
  ⟨some 21, .bin .eql 3 (.t 20) (.c (Value.int IntKind.i64 0)) 3, none, [20]⟩] none [0, 1, 2, 6, 21])
 (.cond [0, 1, 2, 6] (.t 21) (.seq (.reg 4 [⟨some 22, .call n_thicketref01_From [(.c (Value.int IntKind.u64 1))] [33], none, []⟩,
  ⟨some 23, .build 48 [(0, 1), (1, 1), (2, 1)] [.v (.bool false), .nil 1, .nil 1] [(2, (.t 22))], none, []⟩,
  ⟨none, .store 48 (some 3) (.t 6) (.t 23), none, [22, 23]⟩,
  ⟨some 7, .assign (.c (Value.int IntKind.i64 0)), none, []⟩] none [6, 7])
 .ret) .skip))
 k0_thicketref01_Over)
def k1_thicketref01_Over : IR := .tail [0, 1, 2, 6] j1_thicketref01_Over
def b_thicketref01_Over : IR :=
 (.seq (.reg 0 [⟨some 6, .alloc 48 [.v (.bool false), .nil 1, .nil 1], none, []⟩,
  ⟨some 7, .assign (.c (Value.int IntKind.i64 0)), none, [7]⟩] none [0, 1, 2, 6])
 (.seq (.seq (.reg 1 [⟨some 15, .move (.t 2), none, []⟩,
  ⟨some 16, .call n_thicketref01_Len [(.t 15)] [22], none, [15]⟩,
  ⟨some 17, .bin .eql 3 (.t 16) (.c (Value.int IntKind.i64 0)) 3, none, [16]⟩] none [0, 1, 2, 6, 17])
 (.cond [0, 1, 2, 6] (.t 17) (.seq (.reg 2 [⟨some 18, .build 48 [(0, 1), (1, 1), (2, 1)] [.v (.bool false), .nil 1, .nil 1] [], none, []⟩,
  ⟨none, .store 48 (some 3) (.t 6) (.t 18), none, [18]⟩,
  ⟨some 7, .assign (.c (Value.int IntKind.i64 11)), none, []⟩] none [6, 7])
 .ret) .skip))
 k1_thicketref01_Over))
def a_thicketref01_Over : AFunc := ⟨45, [.cell 6 48 (some 3), .tmp 7], b_thicketref01_Over⟩

def j0_thicketref01_Write : IR :=
 (.seq (.reg 9 [⟨some 38, .move (.t 6), none, [6]⟩,
  ⟨some 2, .assign (.t 38), none, [38]⟩,
  ⟨some 3, .assign (.c (Value.int IntKind.i64 0)), none, []⟩] none [2, 3])
 .ret)
def k0_thicketref01_Write : IR := .tail [6] j0_thicketref01_Write
def j1_thicketref01_Write : IR :=
 (.seq (.seq (.reg 7 [⟨some 27, .faddr 48 (.t 4) 2 2, none, []⟩,
  ⟨some 28, .load 22 none (.t 27), none, []⟩,
  ⟨some 29, .call n_thicketref01_From [(.c (Value.int IntKind.u64 1))] [33], none, []⟩,
  ⟨some 30, .call n_thicketref01_Cmp [(.t 28), (.t 29)] [22, 22], none, [27, 28, 29]⟩,
  ⟨some 31, .bin .neq 3 (.t 30) (.c (Value.int IntKind.i64 0)) 3, none, [30]⟩] (some [⟨0, []⟩, ⟨1, []⟩, ⟨2, [1]⟩, ⟨3, []⟩, ⟨4, []⟩]) [4, 6, 31])
 (.cond [4, 6] (.t 31) (.reg 8 [⟨some 32, .move (.t 6), none, []⟩,
  ⟨some 33, .bin .add 9 (.t 32) (.c (Value.string { data := #[47] })) 9, none, [32]⟩,
  ⟨some 34, .faddr 48 (.t 4) 2 2, none, []⟩,
  ⟨some 35, .load 22 none (.t 34), none, []⟩,
  ⟨some 36, .call n_thicketref01_Print [(.t 35)] [22], none, [4, 34, 35]⟩,
  ⟨some 37, .bin .add 9 (.t 33) (.t 36) 9, none, [33, 36]⟩,
  ⟨some 6, .assign (.t 37), none, [37]⟩] none [6]) .skip))
 k0_thicketref01_Write)
def k1_thicketref01_Write : IR := .tail [4, 6] j1_thicketref01_Write
def j2_thicketref01_Write : IR :=
 (.seq (.reg 4 [⟨some 20, .faddr 48 (.t 4) 1 1, none, []⟩,
  ⟨some 21, .load 22 none (.t 20), none, []⟩,
  ⟨some 22, .call n_thicketref01_Print [(.t 21)] [22], none, [20, 21]⟩,
  ⟨some 6, .assign (.t 22), none, [22]⟩] none [4, 6])
 (.seq (.seq (.reg 5 [⟨some 23, .faddr 48 (.t 4) 0 0, none, []⟩,
  ⟨some 24, .load 4 none (.t 23), none, [23]⟩] none [4, 6, 24])
 (.cond [4, 6] (.t 24) (.reg 6 [⟨some 25, .move (.t 6), none, []⟩,
  ⟨some 26, .bin .add 9 (.c (Value.string { data := #[45] })) (.t 25) 9, none, [25]⟩,
  ⟨some 6, .assign (.t 26), none, [26]⟩] none [4, 6]) .skip))
 k1_thicketref01_Write))
def k2_thicketref01_Write : IR := .tail [4] j2_thicketref01_Write
def b_thicketref01_Write : IR :=
 (.seq (.reg 0 [⟨some 1, .box 48 (.t 0), none, [0]⟩,
  ⟨some 2, .assign (.c (Value.string { data := #[] })), none, [2]⟩,
  ⟨some 3, .assign (.c (Value.int IntKind.i64 0)), none, [3]⟩] none [1])
 (.seq (.reg 1 [⟨some 8, .faddr 48 (.t 1) 0 0, none, []⟩,
  ⟨some 9, .load 4 none (.t 8), none, [8]⟩,
  ⟨some 10, .faddr 48 (.t 1) 1 1, none, []⟩,
  ⟨some 11, .load 22 none (.t 10), none, []⟩,
  ⟨some 12, .faddr 48 (.t 1) 2 2, none, []⟩,
  ⟨some 13, .load 22 none (.t 12), none, []⟩,
  ⟨some 14, .call n_thicketref01_Over [(.t 9), (.t 11), (.t 13)] [4, 22, 22], none, [1, 9, 10, 11, 12, 13]⟩,
  ⟨some 7, .move (.t 14), none, []⟩,
  ⟨some 15, .extr (.t 7) 0, none, []⟩,
  ⟨some 16, .extr (.t 7) 1, none, []⟩,
  ⟨some 4, .alloc 48 [.v (.bool false), .nil 1, .nil 1], none, []⟩,
  ⟨none, .store 48 (some 3) (.t 4) (.t 15), none, [7, 14, 15]⟩,
  ⟨some 5, .assign (.t 16), none, [16]⟩] none [4, 5])
 (.seq (.seq (.reg 2 [⟨some 17, .move (.t 5), none, []⟩,
  ⟨some 18, .bin .neq 23 (.t 17) (.c (Value.int IntKind.i64 0)) 23, none, [17]⟩] none [4, 5, 18])
 (.cond [4, 5] (.t 18) (.seq (.reg 3 [⟨some 19, .move (.t 5), none, [5]⟩,
  ⟨some 2, .assign (.c (Value.string { data := #[] })), none, []⟩,
  ⟨some 3, .assign (.t 19), none, [19]⟩] none [2, 3])
 .ret) .skip))
 k2_thicketref01_Write)))
def a_thicketref01_Write : AFunc := ⟨39, [.tmp 2, .tmp 3], b_thicketref01_Write⟩

def b_limbs_Bit : IR :=
 (.seq (.reg 0 [⟨some 4, .assign (.c (Value.bool false)), none, [4]⟩] none [0, 1])
 (.seq (.reg 1 [⟨some 5, .move (.t 1), none, []⟩,
  ⟨some 6, .bin .geq 3 (.t 5) (.c (Value.int IntKind.i64 0)) 3, none, [5]⟩,
  ⟨some 7, .move (.t 6), none, [6]⟩,
  ⟨some 8, .move (.t 1), some (2, true), []⟩,
  ⟨some 9, .bin .quo 3 (.t 8) (.c (Value.int IntKind.i64 32)) 3, some (2, true), [8]⟩,
  ⟨some 10, .move (.t 0), some (2, true), []⟩,
  ⟨some 11, .len 22 false (.t 10), some (2, true), [10]⟩,
  ⟨some 12, .bin .lss 3 (.t 9) (.t 11) 3, some (2, true), [9, 11]⟩,
  ⟨some 13, .pick (.t 7) (.t 12) (.c (Value.bool false)), none, [7, 12]⟩,
  ⟨some 14, .move (.t 13), none, [13]⟩,
  ⟨some 15, .move (.t 0), some (9, true), []⟩,
  ⟨some 16, .move (.t 1), some (9, true), []⟩,
  ⟨some 17, .bin .quo 3 (.t 16) (.c (Value.int IntKind.i64 32)) 3, some (9, true), [16]⟩,
  ⟨some 18, .iaddr 22 (.sl 1) (.t 15) (.t 17), some (9, true), []⟩,
  ⟨some 19, .load 49 none (.t 18), some (9, true), [0, 15, 17, 18]⟩,
  ⟨some 20, .move (.t 1), some (9, true), [1]⟩,
  ⟨some 21, .bin .rem 3 (.t 20) (.c (Value.int IntKind.i64 32)) 3, some (9, true), [20]⟩,
  ⟨some 22, .bin .shr 49 (.t 19) (.t 21) 3, some (9, true), [19, 21]⟩,
  ⟨some 23, .bin .and 49 (.t 22) (.c (Value.int IntKind.u32 1)) 49, some (9, true), [22]⟩,
  ⟨some 24, .bin .eql 49 (.t 23) (.c (Value.int IntKind.u32 1)) 49, some (9, true), [23]⟩,
  ⟨some 25, .pick (.t 14) (.t 24) (.c (Value.bool false)), none, [14, 24]⟩,
  ⟨some 4, .assign (.t 25), none, [25]⟩] none [4])
 .ret))
def a_limbs_Bit : AFunc := ⟨26, [.tmp 4], b_limbs_Bit⟩

def j0_limbs_Mul : IR :=
 (.reg 13 [⟨some 59, .bin .add 3 (.t 26) (.c (Value.int IntKind.i64 1)) 3, none, []⟩,
  ⟨some 26, .move (.t 59), none, [59]⟩] none [0, 1, 5, 6, 7, 10, 12, 18, 20, 21, 25, 26])
def k0_limbs_Mul : IR := .tail [0, 1, 5, 6, 7, 10, 12, 18, 20, 21, 25, 26] j0_limbs_Mul
def j1_limbs_Mul : IR :=
 (.seq (.block 3 (.seq (.reg 9 [⟨some 28, .move (.t 26), none, []⟩,
  ⟨some 8, .assign (.t 28), none, [28]⟩] none [0, 1, 5, 6, 7, 8, 10, 12, 18, 20, 21, 25, 26])
 (.seq (.reg 10 [⟨some 29, .move (.t 7), none, []⟩,
  ⟨some 30, .move (.t 0), none, []⟩,
  ⟨some 31, .move (.t 6), none, []⟩,
  ⟨some 32, .iaddr 22 (.sl 1) (.t 30) (.t 31), none, []⟩,
  ⟨some 33, .load 49 none (.t 32), none, [30, 31, 32]⟩,
  ⟨some 34, .conv 49 33 (.int .u64) (.t 33), none, [33]⟩,
  ⟨some 35, .move (.t 1), none, []⟩,
  ⟨some 36, .move (.t 8), none, []⟩,
  ⟨some 37, .iaddr 22 (.sl 1) (.t 35) (.t 36), none, []⟩,
  ⟨some 38, .load 49 none (.t 37), none, [35, 36, 37]⟩,
  ⟨some 39, .conv 49 33 (.int .u64) (.t 38), none, [38]⟩,
  ⟨some 40, .bin .mul 33 (.t 34) (.t 39) 33, none, [34, 39]⟩,
  ⟨some 41, .move (.t 5), none, []⟩,
  ⟨some 42, .move (.t 6), none, []⟩,
  ⟨some 43, .move (.t 8), none, []⟩,
  ⟨some 44, .bin .add 3 (.t 42) (.t 43) 3, none, [42, 43]⟩,
  ⟨some 45, .iaddr 22 (.sl 1) (.t 41) (.t 44), none, []⟩,
  ⟨some 46, .load 49 none (.t 45), none, [41, 44, 45]⟩,
  ⟨some 47, .conv 49 33 (.int .u64) (.t 46), none, [46]⟩,
  ⟨some 48, .bin .add 33 (.t 40) (.t 47) 33, none, [40, 47]⟩,
  ⟨some 49, .bin .add 33 (.t 29) (.t 48) 33, none, [29, 48]⟩,
  ⟨some 7, .assign (.t 49), none, [49]⟩] (some [⟨0, []⟩, ⟨1, []⟩, ⟨2, []⟩, ⟨3, []⟩, ⟨6, []⟩, ⟨7, []⟩, ⟨8, []⟩, ⟨12, []⟩, ⟨13, []⟩, ⟨14, []⟩, ⟨15, []⟩, ⟨16, []⟩, ⟨4, []⟩, ⟨5, []⟩, ⟨9, []⟩, ⟨10, []⟩, ⟨11, []⟩, ⟨17, []⟩, ⟨18, []⟩, ⟨19, []⟩, ⟨20, []⟩, ⟨21, []⟩]) [0, 1, 5, 6, 7, 8, 10, 12, 18, 20, 21, 25, 26])
 (.seq (.reg 11 [⟨some 50, .move (.t 5), none, []⟩,
  ⟨some 51, .move (.t 6), none, []⟩,
  ⟨some 52, .move (.t 8), none, [8]⟩,
  ⟨some 53, .bin .add 3 (.t 51) (.t 52) 3, none, [51, 52]⟩,
  ⟨some 54, .move (.t 7), none, []⟩,
  ⟨some 55, .call n_limbs_low [(.t 54)] [33], none, [54]⟩,
  ⟨some 56, .iaddr 22 (.sl 1) (.t 50) (.t 53), none, []⟩,
  ⟨none, .store 49 none (.t 56) (.t 55), none, [50, 53, 55, 56]⟩] none [0, 1, 5, 6, 7, 10, 12, 18, 20, 21, 25, 26])
 (.reg 12 [⟨some 57, .move (.t 7), none, []⟩,
  ⟨some 58, .call n_limbs_high [(.t 57)] [33], none, [57]⟩,
  ⟨some 7, .assign (.t 58), none, [58]⟩] none [0, 1, 5, 6, 7, 10, 12, 18, 20, 21, 25, 26])))))
 k0_limbs_Mul)
def k1_limbs_Mul : IR := .tail [0, 1, 5, 6, 7, 10, 12, 18, 20, 21, 25, 26] j1_limbs_Mul
def w1_limbs_Mul : IR :=
 (.seq (.reg 8 [⟨some 27, .bin .lss 3 (.t 26) (.t 25) 3, none, []⟩] none [0, 1, 5, 6, 7, 10, 12, 18, 20, 21, 25, 26, 27])
 (.seq (.cond [0, 1, 5, 6, 7, 10, 12, 18, 20, 21, 25, 26] (.t 27) .skip (.exit 2))
 k1_limbs_Mul))
def l1_limbs_Mul : IR := .loop [0, 1, 5, 6, 7, 10, 12, 18, 20, 21, 25, 26] w1_limbs_Mul
def j2_limbs_Mul : IR :=
 (.reg 14 [⟨some 60, .move (.t 5), none, []⟩,
  ⟨some 61, .move (.t 6), none, [6]⟩,
  ⟨some 62, .move (.t 1), none, []⟩,
  ⟨some 63, .len 22 false (.t 62), none, [62]⟩,
  ⟨some 64, .bin .add 3 (.t 61) (.t 63) 3, none, [61, 63]⟩,
  ⟨some 65, .move (.t 7), none, [7]⟩,
  ⟨some 66, .conv 33 49 (.int .u32) (.t 65), none, [65]⟩,
  ⟨some 67, .iaddr 22 (.sl 1) (.t 60) (.t 64), none, []⟩,
  ⟨none, .store 49 none (.t 67) (.t 66), none, [60, 64, 66, 67]⟩] none [0, 1, 5, 10, 12, 18, 20, 21])
def k2_limbs_Mul : IR := .tail [0, 1, 5, 6, 7, 10, 12, 18, 20, 21] j2_limbs_Mul
def j3_limbs_Mul : IR :=
 (.reg 15 [⟨some 68, .bin .add 3 (.t 21) (.c (Value.int IntKind.i64 1)) 3, none, []⟩,
  ⟨some 21, .move (.t 68), none, [68]⟩] none [0, 1, 5, 10, 12, 18, 20, 21])
def k3_limbs_Mul : IR := .tail [0, 1, 5, 10, 12, 18, 20, 21] j3_limbs_Mul
def j4_limbs_Mul : IR :=
 (.seq (.block 1 (.seq (.reg 5 [⟨some 23, .move (.t 21), none, []⟩,
  ⟨some 6, .assign (.t 23), none, [23]⟩] none [0, 1, 5, 6, 10, 12, 18, 20, 21])
 (.seq (.reg 6 [⟨some 7, .assign (.c (Value.int IntKind.u64 0)), none, []⟩] none [0, 1, 5, 6, 7, 10, 12, 18, 20, 21])
 (.seq (.seq (.reg 7 [⟨some 24, .move (.t 1), none, []⟩,
  ⟨some 25, .len 22 false (.t 24), none, [24]⟩,
  ⟨some 26, .move (.c (Value.int IntKind.i64 0)), none, []⟩] none [0, 1, 5, 6, 7, 10, 12, 18, 20, 21, 25, 26])
 (.block 2 l1_limbs_Mul))
 k2_limbs_Mul))))
 k3_limbs_Mul)
def k4_limbs_Mul : IR := .tail [0, 1, 5, 10, 12, 18, 20, 21] j4_limbs_Mul
def w0_limbs_Mul : IR :=
 (.seq (.reg 4 [⟨some 22, .bin .lss 3 (.t 21) (.t 20) 3, none, []⟩] none [0, 1, 5, 10, 12, 18, 20, 21, 22])
 (.seq (.cond [0, 1, 5, 10, 12, 18, 20, 21] (.t 22) .skip (.exit 0))
 k4_limbs_Mul))
def l0_limbs_Mul : IR := .loop [0, 1, 5, 10, 12, 18, 20, 21] w0_limbs_Mul
def j5_limbs_Mul : IR :=
 (.seq (.reg 16 [⟨some 69, .move (.t 5), none, []⟩,
  ⟨some 70, .call n_limbs_trim [(.t 69)] [22], none, [5, 18, 69]⟩,
  ⟨some 4, .assign (.t 70), none, []⟩] none [4, 70])
 .ret)
def k5_limbs_Mul : IR := .tail [5, 18] j5_limbs_Mul
def b_limbs_Mul : IR :=
 (.seq (.reg 0 [⟨some 4, .assign (.nilS 1), none, [4]⟩] none [0, 1, 10, 12])
 (.seq (.reg 1 [⟨some 9, .move (.t 0), none, []⟩,
  ⟨some 10, .call n_limbs_trim [(.t 9)] [22], none, [9]⟩,
  ⟨some 11, .move (.t 1), none, []⟩,
  ⟨some 12, .call n_limbs_trim [(.t 11)] [22], none, [11]⟩,
  ⟨some 0, .assign (.t 10), none, []⟩,
  ⟨some 1, .assign (.t 12), none, []⟩] none [0, 1, 10, 12])
 (.seq (.reg 2 [⟨some 13, .move (.t 0), none, []⟩,
  ⟨some 14, .len 22 false (.t 13), none, [13]⟩,
  ⟨some 15, .move (.t 1), none, []⟩,
  ⟨some 16, .len 22 false (.t 15), none, [15]⟩,
  ⟨some 17, .bin .add 3 (.t 14) (.t 16) 3, none, [14, 16]⟩,
  ⟨some 18, .mk 22 1 4 (.v (.int .u32 0)) (.t 17) (.t 17), none, [17]⟩,
  ⟨some 5, .assign (.t 18), none, []⟩] none [0, 1, 5, 10, 12, 18])
 (.seq (.seq (.reg 3 [⟨some 19, .move (.t 0), none, []⟩,
  ⟨some 20, .len 22 false (.t 19), none, [19]⟩,
  ⟨some 21, .move (.c (Value.int IntKind.i64 0)), none, []⟩] none [0, 1, 5, 10, 12, 18, 20, 21])
 (.block 0 l0_limbs_Mul))
 k5_limbs_Mul))))
def a_limbs_Mul : AFunc := ⟨71, [.tmp 4], b_limbs_Mul⟩

def j0_limbs_Decimal : IR :=
 (.reg 10 [⟨some 39, .bin .add 3 (.t 35) (.c (Value.int IntKind.i64 1)) 3, none, []⟩,
  ⟨some 35, .move (.t 39), none, [39]⟩] none [1, 6, 8, 33, 34, 35, 38])
def k0_limbs_Decimal : IR := .tail [1, 6, 8, 33, 34, 35, 38] j0_limbs_Decimal
def j1_limbs_Decimal : IR :=
 (.seq (.block 1 (.reg 9 [⟨some 37, .move (.t 8), none, []⟩,
  ⟨some 38, .call n_limbs_grow [(.t 37), (.c (Value.int IntKind.u32 10)), (.c (Value.int IntKind.u32 0))] [22, 49, 49], none, [37]⟩,
  ⟨some 8, .assign (.t 38), none, []⟩] none [1, 6, 8, 33, 34, 35, 38]))
 k0_limbs_Decimal)
def k1_limbs_Decimal : IR := .tail [1, 6, 8, 33, 34, 35, 38] j1_limbs_Decimal
def w0_limbs_Decimal : IR :=
 (.seq (.reg 8 [⟨some 36, .bin .lss 3 (.t 35) (.t 34) 3, none, []⟩] none [1, 6, 8, 33, 34, 35, 36, 38])
 (.seq (.cond [1, 6, 8, 33, 34, 35, 38] (.t 36) .skip (.exit 0))
 k1_limbs_Decimal))
def l0_limbs_Decimal : IR := .loop [1, 6, 8, 33, 34, 35, 38] w0_limbs_Decimal
def j2_limbs_Decimal : IR :=
 (.seq (.reg 22 [⟨some 108, .move (.t 13), none, [13]⟩,
  ⟨some 4, .assign (.t 108), none, [108]⟩,
  ⟨some 5, .assign (.c (Value.int IntKind.i64 0)), none, []⟩] none [4, 5])
 .ret)
def k2_limbs_Decimal : IR := .tail [13] j2_limbs_Decimal
def j3_limbs_Decimal : IR :=
 (.seq (.seq (.reg 20 [⟨some 99, .faddr 48 (.t 6) 0 0, none, []⟩,
  ⟨some 100, .load 4 none (.t 99), none, [6, 99]⟩,
  ⟨some 101, .move (.t 100), none, [100]⟩,
  ⟨some 102, .move (.t 9), some (2, true), []⟩,
  ⟨some 103, .len 22 false (.t 102), some (2, true), [9, 40, 47, 48, 68, 102]⟩,
  ⟨some 104, .bin .gtr 3 (.t 103) (.c (Value.int IntKind.i64 0)) 3, some (2, true), [103]⟩,
  ⟨some 105, .pick (.t 101) (.t 104) (.c (Value.bool false)), none, [101, 104]⟩] none [13, 105])
 (.cond [13] (.t 105) (.reg 21 [⟨some 106, .move (.t 13), none, []⟩,
  ⟨some 107, .bin .add 9 (.c (Value.string { data := #[45] })) (.t 106) 9, none, [106]⟩,
  ⟨some 13, .assign (.t 107), none, [107]⟩] none [13]) .skip))
 k2_limbs_Decimal)
def k3_limbs_Decimal : IR := .tail [6, 9, 13, 40, 47, 48, 68] j3_limbs_Decimal
def j4_limbs_Decimal : IR :=
 (.seq (.seq (.reg 18 [⟨some 83, .move (.t 1), none, []⟩,
  ⟨some 84, .bin .gtr 3 (.t 83) (.c (Value.int IntKind.i64 0)) 3, none, [83]⟩] none [1, 6, 9, 13, 40, 47, 48, 68, 84])
 (.cond [1, 6, 9, 13, 40, 47, 48, 68] (.t 84) (.reg 19 [⟨some 85, .move (.t 13), none, []⟩,
  ⟨some 86, .move (.t 13), none, []⟩,
  ⟨some 87, .len 9 true (.t 86), none, [86]⟩,
  ⟨some 88, .move (.t 1), none, []⟩,
  ⟨some 89, .bin .sub 3 (.t 87) (.t 88) 3, none, [87, 88]⟩,
  ⟨some 90, .slice 9 .str (.t 85) none (some (.t 89)) none, none, [85, 89]⟩,
  ⟨some 91, .bin .add 9 (.t 90) (.c (Value.string { data := #[46] })) 9, none, [90]⟩,
  ⟨some 92, .move (.t 13), none, []⟩,
  ⟨some 93, .move (.t 13), none, []⟩,
  ⟨some 94, .len 9 true (.t 93), none, [93]⟩,
  ⟨some 95, .move (.t 1), none, [1]⟩,
  ⟨some 96, .bin .sub 3 (.t 94) (.t 95) 3, none, [94, 95]⟩,
  ⟨some 97, .slice 9 .str (.t 92) (some (.t 96)) none none, none, [92, 96]⟩,
  ⟨some 98, .bin .add 9 (.t 91) (.t 97) 9, none, [91, 97]⟩,
  ⟨some 13, .assign (.t 98), none, [98]⟩] (some [⟨0, []⟩, ⟨1, []⟩, ⟨2, []⟩, ⟨3, []⟩, ⟨4, []⟩, ⟨5, []⟩, ⟨6, []⟩, ⟨7, []⟩, ⟨8, []⟩, ⟨9, []⟩, ⟨10, []⟩, ⟨11, []⟩, ⟨12, []⟩, ⟨13, []⟩, ⟨14, []⟩]) [6, 9, 13, 40, 47, 48, 68]) .skip))
 k3_limbs_Decimal)
def k4_limbs_Decimal : IR := .tail [1, 6, 9, 13, 40, 47, 48, 68] j4_limbs_Decimal
def j5_limbs_Decimal : IR :=
 (.seq (.reg 15 [⟨some 69, .move (.t 9), none, []⟩,
  ⟨some 70, .call n_limbs_Print [(.t 69)] [22], none, [69]⟩,
  ⟨some 13, .assign (.t 70), none, [70]⟩] none [1, 6, 9, 13, 40, 47, 48, 68])
 (.seq (.seq (.reg 16 [⟨some 71, .move (.t 13), none, []⟩,
  ⟨some 72, .len 9 true (.t 71), none, [71]⟩,
  ⟨some 73, .move (.t 1), none, []⟩,
  ⟨some 74, .bin .leq 3 (.t 72) (.t 73) 3, none, [72, 73]⟩] none [1, 6, 9, 13, 40, 47, 48, 68, 74])
 (.cond [1, 6, 9, 13, 40, 47, 48, 68] (.t 74) (.reg 17 [⟨some 75, .move (.t 1), none, []⟩,
  ⟨some 76, .bin .add 3 (.t 75) (.c (Value.int IntKind.i64 1)) 3, none, [75]⟩,
  ⟨some 77, .move (.t 13), none, []⟩,
  ⟨some 78, .len 9 true (.t 77), none, [77]⟩,
  ⟨some 79, .bin .sub 3 (.t 76) (.t 78) 3, none, [76, 78]⟩,
  ⟨some 80, .call n_strings_Repeat [(.c (Value.string { data := #[48] })), (.t 79)] [9, 3], none, [79]⟩,
  ⟨some 81, .move (.t 13), none, []⟩,
  ⟨some 82, .bin .add 9 (.t 80) (.t 81) 9, none, [80, 81]⟩,
  ⟨some 13, .assign (.t 82), none, [82]⟩] none [1, 6, 9, 13, 40, 47, 48, 68]) .skip))
 k4_limbs_Decimal))
def k5_limbs_Decimal : IR := .tail [1, 6, 9, 40, 47, 48, 68] j5_limbs_Decimal
def j6_limbs_Decimal : IR :=
 (.seq (.reg 11 [⟨some 41, .faddr 48 (.t 6) 1 1, none, []⟩,
  ⟨some 42, .load 22 none (.t 41), none, []⟩,
  ⟨some 43, .move (.t 8), none, []⟩,
  ⟨some 44, .call n_limbs_Mul [(.t 42), (.t 43)] [22, 22], none, [8, 33, 38, 41, 42, 43]⟩,
  ⟨some 45, .faddr 48 (.t 6) 2 2, none, []⟩,
  ⟨some 46, .load 22 none (.t 45), none, []⟩,
  ⟨some 47, .call n_limbs_DivMod [(.t 44), (.t 46)] [22, 22], none, [44, 45, 46]⟩,
  ⟨some 40, .move (.t 47), none, []⟩,
  ⟨some 48, .extr (.t 40) 0, none, []⟩,
  ⟨some 49, .extr (.t 40) 1, none, []⟩,
  ⟨some 50, .extr (.t 40) 2, none, []⟩,
  ⟨some 9, .assign (.t 48), none, []⟩,
  ⟨some 10, .assign (.t 49), none, []⟩,
  ⟨some 11, .assign (.t 50), none, [11, 50]⟩] (some [⟨0, []⟩, ⟨2, []⟩, ⟨4, []⟩, ⟨1, []⟩, ⟨5, []⟩, ⟨3, [5]⟩, ⟨6, []⟩, ⟨7, []⟩, ⟨8, []⟩, ⟨9, []⟩, ⟨10, []⟩, ⟨11, []⟩, ⟨12, []⟩, ⟨13, []⟩]) [1, 6, 9, 10, 40, 47, 48, 49, 68])
 (.seq (.seq (.reg 12 [⟨some 51, .move (.t 10), none, []⟩,
  ⟨some 52, .call n_limbs_up [(.t 51), (.c (Value.int IntKind.i64 1))] [22, 3], none, [10, 49, 51]⟩,
  ⟨some 53, .faddr 48 (.t 6) 2 2, none, []⟩,
  ⟨some 54, .load 22 none (.t 53), none, []⟩,
  ⟨some 55, .call n_limbs_Cmp [(.t 52), (.t 54)] [22, 22], none, [52, 53, 54]⟩,
  ⟨some 12, .assign (.t 55), none, [55]⟩] (some [⟨0, []⟩, ⟨2, []⟩, ⟨3, []⟩, ⟨1, [3]⟩, ⟨4, []⟩, ⟨5, []⟩]) [1, 6, 9, 12, 40, 47, 48, 68])
 (.seq (.reg 13 [⟨some 56, .move (.t 12), none, []⟩,
  ⟨some 57, .bin .gtr 3 (.t 56) (.c (Value.int IntKind.i64 0)) 3, none, [56]⟩,
  ⟨some 58, .move (.t 57), none, [57]⟩,
  ⟨some 59, .move (.t 12), some (2, false), [12]⟩,
  ⟨some 60, .bin .eql 3 (.t 59) (.c (Value.int IntKind.i64 0)) 3, some (2, false), [59]⟩,
  ⟨some 61, .move (.t 60), some (2, false), [60]⟩,
  ⟨some 62, .move (.t 9), some (5, true), []⟩,
  ⟨some 63, .call n_limbs_Bit [(.t 62), (.c (Value.int IntKind.i64 0))] [22, 3], some (5, true), [62]⟩,
  ⟨some 64, .pick (.t 61) (.t 63) (.c (Value.bool false)), some (2, false), [61, 63]⟩,
  ⟨some 65, .pick (.t 58) (.c (Value.bool true)) (.t 64), none, [58, 64]⟩] none [1, 6, 9, 40, 47, 48, 65, 68])
 (.cond [1, 6, 9, 40, 47, 48, 68] (.t 65) (.reg 14 [⟨some 66, .move (.t 9), none, []⟩,
  ⟨some 67, .lit 22 1 [(.c (Value.int IntKind.u32 1))], none, []⟩,
  ⟨some 68, .call n_limbs_Add [(.t 66), (.t 67)] [22, 22], none, [66, 67]⟩,
  ⟨some 9, .assign (.t 68), none, []⟩] none [1, 6, 9, 40, 47, 48, 68]) .skip)))
 k5_limbs_Decimal))
def k6_limbs_Decimal : IR := .tail [1, 6, 8, 33, 38] j6_limbs_Decimal
def j7_limbs_Decimal : IR :=
 (.seq (.reg 6 [⟨some 33, .lit 22 1 [(.c (Value.int IntKind.u32 1))], none, []⟩,
  ⟨some 8, .assign (.t 33), none, []⟩] none [1, 6, 8, 33, 38])
 (.seq (.seq (.reg 7 [⟨some 34, .move (.t 1), none, []⟩,
  ⟨some 35, .move (.c (Value.int IntKind.i64 0)), none, []⟩] none [1, 6, 8, 33, 34, 35, 38])
 (.block 0 l0_limbs_Decimal))
 k6_limbs_Decimal))
def k7_limbs_Decimal : IR := .tail [1, 6] j7_limbs_Decimal
def j8_limbs_Decimal : IR :=
 (.seq (.seq (.reg 4 [⟨some 27, .move (.t 1), none, []⟩,
  ⟨some 28, .bin .lss 3 (.t 27) (.c (Value.int IntKind.i64 0)) 3, none, [27]⟩,
  ⟨some 29, .move (.t 28), none, [28]⟩,
  ⟨some 30, .move (.t 1), some (2, false), []⟩,
  ⟨some 31, .bin .gtr 3 (.t 30) (.c (Value.int IntKind.i64 1000)) 3, some (2, false), [30]⟩,
  ⟨some 32, .pick (.t 29) (.c (Value.bool true)) (.t 31), none, [29, 31]⟩] none [1, 6, 32])
 (.cond [1, 6] (.t 32) (.seq (.reg 5 [⟨some 4, .assign (.c (Value.string { data := #[] })), none, []⟩,
  ⟨some 5, .assign (.c (Value.int IntKind.i64 2)), none, []⟩] none [4, 5])
 .ret) .skip))
 k7_limbs_Decimal)
def k8_limbs_Decimal : IR := .tail [1, 6] j8_limbs_Decimal
def b_limbs_Decimal : IR :=
 (.seq (.reg 0 [⟨some 2, .box 48 (.t 0), none, [0]⟩,
  ⟨some 4, .assign (.c (Value.string { data := #[] })), none, [4]⟩,
  ⟨some 5, .assign (.c (Value.int IntKind.i64 0)), none, [5]⟩] none [1, 2])
 (.seq (.reg 1 [⟨some 15, .faddr 48 (.t 2) 0 0, none, []⟩,
  ⟨some 16, .load 4 none (.t 15), none, [15]⟩,
  ⟨some 17, .faddr 48 (.t 2) 1 1, none, []⟩,
  ⟨some 18, .load 22 none (.t 17), none, []⟩,
  ⟨some 19, .faddr 48 (.t 2) 2 2, none, []⟩,
  ⟨some 20, .load 22 none (.t 19), none, []⟩,
  ⟨some 21, .call n_limbs_Over [(.t 16), (.t 18), (.t 20)] [4, 22, 22], none, [2, 16, 17, 18, 19, 20]⟩,
  ⟨some 14, .move (.t 21), none, []⟩,
  ⟨some 22, .extr (.t 14) 0, none, []⟩,
  ⟨some 23, .extr (.t 14) 1, none, []⟩,
  ⟨some 6, .alloc 48 [.v (.bool false), .nil 1, .nil 1], none, []⟩,
  ⟨none, .store 48 (some 3) (.t 6) (.t 22), none, [14, 21, 22]⟩,
  ⟨some 7, .assign (.t 23), none, [23]⟩] none [1, 6, 7])
 (.seq (.seq (.reg 2 [⟨some 24, .move (.t 7), none, []⟩,
  ⟨some 25, .bin .neq 23 (.t 24) (.c (Value.int IntKind.i64 0)) 23, none, [24]⟩] none [1, 6, 7, 25])
 (.cond [1, 6, 7] (.t 25) (.seq (.reg 3 [⟨some 26, .move (.t 7), none, [7]⟩,
  ⟨some 4, .assign (.c (Value.string { data := #[] })), none, []⟩,
  ⟨some 5, .assign (.t 26), none, [26]⟩] none [4, 5])
 .ret) .skip))
 k8_limbs_Decimal)))
def a_limbs_Decimal : AFunc := ⟨109, [.tmp 4, .tmp 5], b_limbs_Decimal⟩

def j0_thicketref01_Add : IR :=
 (.seq (.reg 10 [⟨some 46, .move (.t 5), none, []⟩,
  ⟨some 47, .move (.t 6), none, []⟩,
  ⟨some 48, .bin .and 33 (.t 47) (.c (Value.int IntKind.u64 4294967295)) 33, none, [47]⟩,
  ⟨some 49, .conv 33 49 (.int .u32) (.t 48), none, [48]⟩,
  ⟨some 50, .lit 22 1 [(.t 49)], none, [49]⟩,
  ⟨some 51, .append 22 22 false 1 4 (.t 46) (.t 50), none, [46, 50]⟩,
  ⟨some 5, .assign (.t 51), none, []⟩] none [0, 1, 5, 6, 7, 51])
 (.reg 11 [⟨some 52, .move (.t 6), none, []⟩,
  ⟨some 53, .bin .shr 33 (.t 52) (.c (Value.int IntKind.u64 32)) 68, none, [52]⟩,
  ⟨some 6, .assign (.t 53), none, [53]⟩] none [0, 1, 5, 6, 7, 51]))
def k0_thicketref01_Add : IR := .tail [0, 1, 5, 6, 7, 51] j0_thicketref01_Add
def j1_thicketref01_Add : IR :=
 (.seq (.seq (.reg 8 [⟨some 35, .move (.t 7), none, []⟩,
  ⟨some 36, .move (.t 1), none, []⟩,
  ⟨some 37, .len 22 false (.t 36), none, [36]⟩,
  ⟨some 38, .bin .lss 3 (.t 35) (.t 37) 3, none, [35, 37]⟩] none [0, 1, 5, 6, 7, 38, 51])
 (.cond [0, 1, 5, 6, 7, 51] (.t 38) (.reg 9 [⟨some 39, .move (.t 6), none, []⟩,
  ⟨some 40, .move (.t 1), none, []⟩,
  ⟨some 41, .move (.t 7), none, []⟩,
  ⟨some 42, .iaddr 22 (.sl 1) (.t 40) (.t 41), none, []⟩,
  ⟨some 43, .load 49 none (.t 42), none, [40, 41, 42]⟩,
  ⟨some 44, .conv 49 33 (.int .u64) (.t 43), none, [43]⟩,
  ⟨some 45, .bin .add 33 (.t 39) (.t 44) 33, none, [39, 44]⟩,
  ⟨some 6, .assign (.t 45), none, [45]⟩] none [0, 1, 5, 6, 7, 51]) .skip))
 k0_thicketref01_Add)
def k1_thicketref01_Add : IR := .tail [0, 1, 5, 6, 7, 51] j1_thicketref01_Add
def j2_thicketref01_Add : IR :=
 (.reg 5 [⟨some 22, .move (.t 7), none, []⟩,
  ⟨some 23, .bin .add 3 (.t 22) (.c (Value.int IntKind.i64 1)) 3, none, [22]⟩,
  ⟨some 7, .assign (.t 23), none, [23]⟩] none [0, 1, 5, 6, 7, 51])
def k2_thicketref01_Add : IR := .tail [0, 1, 5, 6, 7, 51] j2_thicketref01_Add
def j3_thicketref01_Add : IR :=
 (.seq (.block 1 (.seq (.seq (.reg 6 [⟨some 24, .move (.t 7), none, []⟩,
  ⟨some 25, .move (.t 0), none, []⟩,
  ⟨some 26, .len 22 false (.t 25), none, [25]⟩,
  ⟨some 27, .bin .lss 3 (.t 24) (.t 26) 3, none, [24, 26]⟩] none [0, 1, 5, 6, 7, 27, 51])
 (.cond [0, 1, 5, 6, 7, 51] (.t 27) (.reg 7 [⟨some 28, .move (.t 6), none, []⟩,
  ⟨some 29, .move (.t 0), none, []⟩,
  ⟨some 30, .move (.t 7), none, []⟩,
  ⟨some 31, .iaddr 22 (.sl 1) (.t 29) (.t 30), none, []⟩,
  ⟨some 32, .load 49 none (.t 31), none, [29, 30, 31]⟩,
  ⟨some 33, .conv 49 33 (.int .u64) (.t 32), none, [32]⟩,
  ⟨some 34, .bin .add 33 (.t 28) (.t 33) 33, none, [28, 33]⟩,
  ⟨some 6, .assign (.t 34), none, [34]⟩] none [0, 1, 5, 6, 7, 51]) .skip))
 k1_thicketref01_Add))
 k2_thicketref01_Add)
def k3_thicketref01_Add : IR := .tail [0, 1, 5, 6, 7, 51] j3_thicketref01_Add
def w0_thicketref01_Add : IR :=
 (.seq (.seq (.reg 4 [⟨some 8, .move (.t 7), none, []⟩,
  ⟨some 9, .move (.t 0), none, []⟩,
  ⟨some 10, .len 22 false (.t 9), none, [9]⟩,
  ⟨some 11, .bin .lss 3 (.t 8) (.t 10) 3, none, [8, 10]⟩,
  ⟨some 12, .move (.t 11), none, [11]⟩,
  ⟨some 13, .move (.t 7), some (4, false), []⟩,
  ⟨some 14, .move (.t 1), some (4, false), []⟩,
  ⟨some 15, .len 22 false (.t 14), some (4, false), [14]⟩,
  ⟨some 16, .bin .lss 3 (.t 13) (.t 15) 3, some (4, false), [13, 15]⟩,
  ⟨some 17, .pick (.t 12) (.c (Value.bool true)) (.t 16), none, [12, 16]⟩,
  ⟨some 18, .move (.t 17), none, [17]⟩,
  ⟨some 19, .move (.t 6), some (10, false), []⟩,
  ⟨some 20, .bin .gtr 33 (.t 19) (.c (Value.int IntKind.u64 0)) 33, some (10, false), [19]⟩,
  ⟨some 21, .pick (.t 18) (.c (Value.bool true)) (.t 20), none, [18, 20]⟩] none [0, 1, 5, 6, 7, 21, 51])
 (.cond [0, 1, 5, 6, 7, 51] (.t 21) .skip (.exit 0)))
 k3_thicketref01_Add)
def l0_thicketref01_Add : IR := .loop [0, 1, 5, 6, 7, 51] w0_thicketref01_Add
def j4_thicketref01_Add : IR :=
 (.seq (.reg 12 [⟨some 54, .move (.t 5), none, []⟩,
  ⟨some 55, .call n_thicketref01_Norm [(.t 54)] [22], none, [5, 51, 54]⟩,
  ⟨some 4, .assign (.t 55), none, []⟩] none [4, 55])
 .ret)
def k4_thicketref01_Add : IR := .tail [5, 51] j4_thicketref01_Add
def b_thicketref01_Add : IR :=
 (.seq (.reg 0 [⟨some 4, .assign (.nilS 1), none, [4]⟩] none [0, 1])
 (.seq (.reg 1 [⟨some 5, .assign (.nilS 1), none, []⟩] none [0, 1, 5, 51])
 (.seq (.reg 2 [⟨some 6, .assign (.c (Value.int IntKind.u64 0)), none, []⟩] none [0, 1, 5, 6, 51])
 (.seq (.seq (.reg 3 [⟨some 7, .assign (.c (Value.int IntKind.i64 0)), none, []⟩] none [0, 1, 5, 6, 7, 51])
 (.block 0 l0_thicketref01_Add))
 k4_thicketref01_Add))))
def a_thicketref01_Add : AFunc := ⟨56, [.tmp 4], b_thicketref01_Add⟩

def j0_thicketref01_Mul : IR :=
 (.seq (.reg 12 [⟨some 58, .move (.t 5), none, []⟩,
  ⟨some 59, .move (.t 6), none, []⟩,
  ⟨some 60, .move (.t 9), none, []⟩,
  ⟨some 61, .bin .add 3 (.t 59) (.t 60) 3, none, [59, 60]⟩,
  ⟨some 62, .move (.t 10), none, []⟩,
  ⟨some 63, .bin .and 33 (.t 62) (.c (Value.int IntKind.u64 4294967295)) 33, none, [62]⟩,
  ⟨some 64, .conv 33 49 (.int .u32) (.t 63), none, [63]⟩,
  ⟨some 65, .iaddr 22 (.sl 1) (.t 58) (.t 61), none, []⟩,
  ⟨none, .store 49 none (.t 65) (.t 64), none, [58, 61, 64, 65]⟩] none [0, 1, 5, 6, 7, 9, 10, 17, 18, 19, 20])
 (.reg 13 [⟨some 66, .move (.t 10), none, [10]⟩,
  ⟨some 67, .bin .shr 33 (.t 66) (.c (Value.int IntKind.u64 32)) 68, none, [66]⟩,
  ⟨some 8, .assign (.t 67), none, [67]⟩] none [0, 1, 5, 6, 7, 8, 9, 17, 18, 19, 20]))
def k0_thicketref01_Mul : IR := .tail [0, 1, 5, 6, 7, 9, 10, 17, 18, 19, 20] j0_thicketref01_Mul
def j1_thicketref01_Mul : IR :=
 (.reg 8 [⟨some 33, .move (.t 9), none, []⟩,
  ⟨some 34, .bin .add 3 (.t 33) (.c (Value.int IntKind.i64 1)) 3, none, [33]⟩,
  ⟨some 9, .assign (.t 34), none, [34]⟩] none [0, 1, 5, 6, 7, 8, 9, 17, 18, 19, 20])
def k1_thicketref01_Mul : IR := .tail [0, 1, 5, 6, 7, 8, 9, 17, 18, 19, 20] j1_thicketref01_Mul
def j2_thicketref01_Mul : IR :=
 (.seq (.block 3 (.seq (.reg 9 [⟨some 35, .move (.t 8), none, [8]⟩,
  ⟨some 36, .move (.t 5), none, []⟩,
  ⟨some 37, .move (.t 6), none, []⟩,
  ⟨some 38, .move (.t 9), none, []⟩,
  ⟨some 39, .bin .add 3 (.t 37) (.t 38) 3, none, [37, 38]⟩,
  ⟨some 40, .iaddr 22 (.sl 1) (.t 36) (.t 39), none, []⟩,
  ⟨some 41, .load 49 none (.t 40), none, [36, 39, 40]⟩,
  ⟨some 42, .conv 49 33 (.int .u64) (.t 41), none, [41]⟩,
  ⟨some 43, .bin .add 33 (.t 35) (.t 42) 33, none, [35, 42]⟩,
  ⟨some 10, .assign (.t 43), none, [43]⟩] none [0, 1, 5, 6, 7, 9, 10, 17, 18, 19, 20])
 (.seq (.seq (.reg 10 [⟨some 44, .move (.t 9), none, []⟩,
  ⟨some 45, .move (.t 1), none, []⟩,
  ⟨some 46, .len 22 false (.t 45), none, [45]⟩,
  ⟨some 47, .bin .lss 3 (.t 44) (.t 46) 3, none, [44, 46]⟩] none [0, 1, 5, 6, 7, 9, 10, 17, 18, 19, 20, 47])
 (.cond [0, 1, 5, 6, 7, 9, 10, 17, 18, 19, 20] (.t 47) (.reg 11 [⟨some 48, .move (.t 10), none, []⟩,
  ⟨some 49, .move (.t 7), none, []⟩,
  ⟨some 50, .conv 49 33 (.int .u64) (.t 49), none, [49]⟩,
  ⟨some 51, .move (.t 1), none, []⟩,
  ⟨some 52, .move (.t 9), none, []⟩,
  ⟨some 53, .iaddr 22 (.sl 1) (.t 51) (.t 52), none, []⟩,
  ⟨some 54, .load 49 none (.t 53), none, [51, 52, 53]⟩,
  ⟨some 55, .conv 49 33 (.int .u64) (.t 54), none, [54]⟩,
  ⟨some 56, .bin .mul 33 (.t 50) (.t 55) 33, none, [50, 55]⟩,
  ⟨some 57, .bin .add 33 (.t 48) (.t 56) 33, none, [48, 56]⟩,
  ⟨some 10, .assign (.t 57), none, [57]⟩] none [0, 1, 5, 6, 7, 9, 10, 17, 18, 19, 20]) .skip))
 k0_thicketref01_Mul)))
 k1_thicketref01_Mul)
def k2_thicketref01_Mul : IR := .tail [0, 1, 5, 6, 7, 8, 9, 17, 18, 19, 20] j2_thicketref01_Mul
def w1_thicketref01_Mul : IR :=
 (.seq (.seq (.reg 7 [⟨some 25, .move (.t 9), none, []⟩,
  ⟨some 26, .move (.t 1), none, []⟩,
  ⟨some 27, .len 22 false (.t 26), none, [26]⟩,
  ⟨some 28, .bin .lss 3 (.t 25) (.t 27) 3, none, [25, 27]⟩,
  ⟨some 29, .move (.t 28), none, [28]⟩,
  ⟨some 30, .move (.t 8), some (4, false), []⟩,
  ⟨some 31, .bin .gtr 33 (.t 30) (.c (Value.int IntKind.u64 0)) 33, some (4, false), [30]⟩,
  ⟨some 32, .pick (.t 29) (.c (Value.bool true)) (.t 31), none, [29, 31]⟩] none [0, 1, 5, 6, 7, 8, 9, 17, 18, 19, 20, 32])
 (.cond [0, 1, 5, 6, 7, 8, 9, 17, 18, 19, 20] (.t 32) .skip (.exit 2)))
 k2_thicketref01_Mul)
def l1_thicketref01_Mul : IR := .loop [0, 1, 5, 6, 7, 8, 9, 17, 18, 19, 20] w1_thicketref01_Mul
def j3_thicketref01_Mul : IR :=
 (.reg 14 [⟨some 68, .bin .add 3 (.t 20) (.c (Value.int IntKind.i64 1)) 3, none, []⟩,
  ⟨some 20, .move (.t 68), none, [68]⟩] none [0, 1, 5, 17, 18, 19, 20])
def k3_thicketref01_Mul : IR := .tail [0, 1, 5, 17, 18, 19, 20] j3_thicketref01_Mul
def j4_thicketref01_Mul : IR :=
 (.seq (.block 1 (.seq (.reg 4 [⟨some 22, .move (.t 20), none, []⟩,
  ⟨some 23, .iaddr 22 (.sl 1) (.t 18) (.t 20), none, []⟩,
  ⟨some 24, .load 49 none (.t 23), none, [23]⟩,
  ⟨some 6, .assign (.t 22), none, [22]⟩,
  ⟨some 7, .assign (.t 24), none, [24]⟩] none [0, 1, 5, 6, 7, 17, 18, 19, 20])
 (.seq (.reg 5 [⟨some 8, .assign (.c (Value.int IntKind.u64 0)), none, []⟩] none [0, 1, 5, 6, 7, 8, 17, 18, 19, 20])
 (.seq (.reg 6 [⟨some 9, .assign (.c (Value.int IntKind.i64 0)), none, []⟩] none [0, 1, 5, 6, 7, 8, 9, 17, 18, 19, 20])
 (.block 2 l1_thicketref01_Mul)))))
 k3_thicketref01_Mul)
def k4_thicketref01_Mul : IR := .tail [0, 1, 5, 17, 18, 19, 20] j4_thicketref01_Mul
def w0_thicketref01_Mul : IR :=
 (.seq (.reg 3 [⟨some 21, .bin .lss 3 (.t 20) (.t 19) 3, none, []⟩] none [0, 1, 5, 17, 18, 19, 20, 21])
 (.seq (.cond [0, 1, 5, 17, 18, 19, 20] (.t 21) .skip (.exit 0))
 k4_thicketref01_Mul))
def l0_thicketref01_Mul : IR := .loop [0, 1, 5, 17, 18, 19, 20] w0_thicketref01_Mul
def j5_thicketref01_Mul : IR :=
 (.seq (.reg 15 [⟨some 69, .move (.t 5), none, []⟩,
  ⟨some 70, .call n_thicketref01_Norm [(.t 69)] [22], none, [5, 17, 69]⟩,
  ⟨some 4, .assign (.t 70), none, []⟩] none [4, 70])
 .ret)
def k5_thicketref01_Mul : IR := .tail [5, 17] j5_thicketref01_Mul
def b_thicketref01_Mul : IR :=
 (.seq (.reg 0 [⟨some 4, .assign (.nilS 1), none, [4]⟩] none [0, 1])
 (.seq (.reg 1 [⟨some 11, .move (.t 0), none, []⟩,
  ⟨some 12, .len 22 false (.t 11), none, [11]⟩,
  ⟨some 13, .move (.t 1), none, []⟩,
  ⟨some 14, .len 22 false (.t 13), none, [13]⟩,
  ⟨some 15, .bin .add 3 (.t 12) (.t 14) 3, none, [12, 14]⟩,
  ⟨some 16, .bin .add 3 (.t 15) (.c (Value.int IntKind.i64 1)) 3, none, [15]⟩,
  ⟨some 17, .mk 22 1 4 (.v (.int .u32 0)) (.t 16) (.t 16), none, [16]⟩,
  ⟨some 5, .assign (.t 17), none, []⟩] none [0, 1, 5, 17])
 (.seq (.seq (.reg 2 [⟨some 18, .move (.t 0), none, []⟩,
  ⟨some 19, .len 22 false (.t 18), none, []⟩,
  ⟨some 20, .move (.c (Value.int IntKind.i64 0)), none, []⟩] none [0, 1, 5, 17, 18, 19, 20])
 (.block 0 l0_thicketref01_Mul))
 k5_thicketref01_Mul)))
def a_thicketref01_Mul : AFunc := ⟨71, [.tmp 4], b_thicketref01_Mul⟩

def j0_thicketref01_Decimal : IR :=
 (.reg 8 [⟨some 27, .move (.t 7), none, []⟩,
  ⟨some 28, .bin .add 3 (.t 27) (.c (Value.int IntKind.i64 1)) 3, none, [27]⟩,
  ⟨some 7, .assign (.t 28), none, [28]⟩] none [1, 2, 6, 7, 23, 31])
def k0_thicketref01_Decimal : IR := .tail [1, 2, 6, 7, 23, 31] j0_thicketref01_Decimal
def j1_thicketref01_Decimal : IR :=
 (.seq (.block 1 (.reg 9 [⟨some 29, .move (.t 6), none, []⟩,
  ⟨some 30, .call n_thicketref01_From [(.c (Value.int IntKind.u64 10))] [33], none, []⟩,
  ⟨some 31, .call n_thicketref01_Mul [(.t 29), (.t 30)] [22, 22], none, [29, 30]⟩,
  ⟨some 6, .assign (.t 31), none, []⟩] none [1, 2, 6, 7, 23, 31]))
 k0_thicketref01_Decimal)
def k1_thicketref01_Decimal : IR := .tail [1, 2, 6, 7, 23, 31] j1_thicketref01_Decimal
def w0_thicketref01_Decimal : IR :=
 (.seq (.seq (.reg 7 [⟨some 24, .move (.t 7), none, []⟩,
  ⟨some 25, .move (.t 1), none, []⟩,
  ⟨some 26, .bin .lss 3 (.t 24) (.t 25) 3, none, [24, 25]⟩] none [1, 2, 6, 7, 23, 26, 31])
 (.cond [1, 2, 6, 7, 23, 31] (.t 26) .skip (.exit 0)))
 k1_thicketref01_Decimal)
def l0_thicketref01_Decimal : IR := .loop [1, 2, 6, 7, 23, 31] w0_thicketref01_Decimal
def j2_thicketref01_Decimal : IR :=
 (.block 3 (.reg 16 [⟨some 68, .move (.t 12), none, []⟩,
  ⟨some 69, .bin .add 9 (.c (Value.string { data := #[48] })) (.t 68) 9, none, [68]⟩,
  ⟨some 12, .assign (.t 69), none, [69]⟩] none [1, 2, 8, 12, 32, 39, 40, 61]))
def k2_thicketref01_Decimal : IR := .tail [1, 2, 8, 12, 32, 39, 40, 61] j2_thicketref01_Decimal
def w1_thicketref01_Decimal : IR :=
 (.seq (.seq (.reg 15 [⟨some 64, .move (.t 12), none, []⟩,
  ⟨some 65, .len 9 true (.t 64), none, [64]⟩,
  ⟨some 66, .move (.t 1), none, []⟩,
  ⟨some 67, .bin .leq 3 (.t 65) (.t 66) 3, none, [65, 66]⟩] none [1, 2, 8, 12, 32, 39, 40, 61, 67])
 (.cond [1, 2, 8, 12, 32, 39, 40, 61] (.t 67) .skip (.exit 2)))
 k2_thicketref01_Decimal)
def l1_thicketref01_Decimal : IR := .loop [1, 2, 8, 12, 32, 39, 40, 61] w1_thicketref01_Decimal
def j3_thicketref01_Decimal : IR :=
 (.seq (.reg 21 [⟨some 95, .move (.t 12), none, [12]⟩,
  ⟨some 4, .assign (.t 95), none, [95]⟩,
  ⟨some 5, .assign (.c (Value.int IntKind.i64 0)), none, []⟩] none [4, 5])
 .ret)
def k3_thicketref01_Decimal : IR := .tail [12] j3_thicketref01_Decimal
def j4_thicketref01_Decimal : IR :=
 (.seq (.seq (.reg 19 [⟨some 86, .faddr 48 (.t 2) 0 0, none, []⟩,
  ⟨some 87, .load 4 none (.t 86), none, [2, 86]⟩,
  ⟨some 88, .move (.t 87), none, [87]⟩,
  ⟨some 89, .move (.t 8), some (2, true), []⟩,
  ⟨some 90, .len 22 false (.t 89), some (2, true), [8, 32, 39, 40, 61, 89]⟩,
  ⟨some 91, .bin .gtr 3 (.t 90) (.c (Value.int IntKind.i64 0)) 3, some (2, true), [90]⟩,
  ⟨some 92, .pick (.t 88) (.t 91) (.c (Value.bool false)), none, [88, 91]⟩] none [12, 92])
 (.cond [12] (.t 92) (.reg 20 [⟨some 93, .move (.t 12), none, []⟩,
  ⟨some 94, .bin .add 9 (.c (Value.string { data := #[45] })) (.t 93) 9, none, [93]⟩,
  ⟨some 12, .assign (.t 94), none, [94]⟩] none [12]) .skip))
 k3_thicketref01_Decimal)
def k4_thicketref01_Decimal : IR := .tail [2, 8, 12, 32, 39, 40, 61] j4_thicketref01_Decimal
def j5_thicketref01_Decimal : IR :=
 (.seq (.seq (.reg 17 [⟨some 70, .move (.t 1), none, []⟩,
  ⟨some 71, .bin .gtr 3 (.t 70) (.c (Value.int IntKind.i64 0)) 3, none, [70]⟩] none [1, 2, 8, 12, 32, 39, 40, 61, 71])
 (.cond [1, 2, 8, 12, 32, 39, 40, 61] (.t 71) (.reg 18 [⟨some 72, .move (.t 12), none, []⟩,
  ⟨some 73, .move (.t 12), none, []⟩,
  ⟨some 74, .len 9 true (.t 73), none, [73]⟩,
  ⟨some 75, .move (.t 1), none, []⟩,
  ⟨some 76, .bin .sub 3 (.t 74) (.t 75) 3, none, [74, 75]⟩,
  ⟨some 77, .slice 9 .str (.t 72) none (some (.t 76)) none, none, [72, 76]⟩,
  ⟨some 78, .bin .add 9 (.t 77) (.c (Value.string { data := #[46] })) 9, none, [77]⟩,
  ⟨some 79, .move (.t 12), none, []⟩,
  ⟨some 80, .move (.t 12), none, []⟩,
  ⟨some 81, .len 9 true (.t 80), none, [80]⟩,
  ⟨some 82, .move (.t 1), none, [1]⟩,
  ⟨some 83, .bin .sub 3 (.t 81) (.t 82) 3, none, [81, 82]⟩,
  ⟨some 84, .slice 9 .str (.t 79) (some (.t 83)) none none, none, [79, 83]⟩,
  ⟨some 85, .bin .add 9 (.t 78) (.t 84) 9, none, [78, 84]⟩,
  ⟨some 12, .assign (.t 85), none, [85]⟩] (some [⟨0, []⟩, ⟨1, []⟩, ⟨2, []⟩, ⟨3, []⟩, ⟨4, []⟩, ⟨5, []⟩, ⟨6, []⟩, ⟨7, []⟩, ⟨8, []⟩, ⟨9, []⟩, ⟨10, []⟩, ⟨11, []⟩, ⟨12, []⟩, ⟨13, []⟩, ⟨14, []⟩]) [2, 8, 12, 32, 39, 40, 61]) .skip))
 k4_thicketref01_Decimal)
def k5_thicketref01_Decimal : IR := .tail [1, 2, 8, 12, 32, 39, 40, 61] j5_thicketref01_Decimal
def j6_thicketref01_Decimal : IR :=
 (.seq (.reg 14 [⟨some 62, .move (.t 8), none, []⟩,
  ⟨some 63, .call n_thicketref01_Print [(.t 62)] [22], none, [62]⟩,
  ⟨some 12, .assign (.t 63), none, [63]⟩] none [1, 2, 8, 12, 32, 39, 40, 61])
 (.seq (.block 2 l1_thicketref01_Decimal)
 k5_thicketref01_Decimal))
def k6_thicketref01_Decimal : IR := .tail [1, 2, 8, 32, 39, 40, 61] j6_thicketref01_Decimal
def j7_thicketref01_Decimal : IR :=
 (.seq (.reg 10 [⟨some 33, .faddr 48 (.t 2) 1 1, none, []⟩,
  ⟨some 34, .load 22 none (.t 33), none, []⟩,
  ⟨some 35, .move (.t 6), none, []⟩,
  ⟨some 36, .call n_thicketref01_Mul [(.t 34), (.t 35)] [22, 22], none, [6, 23, 31, 33, 34, 35]⟩,
  ⟨some 37, .faddr 48 (.t 2) 2 2, none, []⟩,
  ⟨some 38, .load 22 none (.t 37), none, []⟩,
  ⟨some 39, .call n_thicketref01_DivMod [(.t 36), (.t 38)] [22, 22], none, [36, 37, 38]⟩,
  ⟨some 32, .move (.t 39), none, []⟩,
  ⟨some 40, .extr (.t 32) 0, none, []⟩,
  ⟨some 41, .extr (.t 32) 1, none, []⟩,
  ⟨some 42, .extr (.t 32) 2, none, []⟩,
  ⟨some 8, .assign (.t 40), none, []⟩,
  ⟨some 9, .assign (.t 41), none, []⟩,
  ⟨some 10, .assign (.t 42), none, [10, 42]⟩] (some [⟨0, []⟩, ⟨2, []⟩, ⟨4, []⟩, ⟨1, []⟩, ⟨5, []⟩, ⟨3, [5]⟩, ⟨6, []⟩, ⟨7, []⟩, ⟨8, []⟩, ⟨9, []⟩, ⟨10, []⟩, ⟨11, []⟩, ⟨12, []⟩, ⟨13, []⟩]) [1, 2, 8, 9, 32, 39, 40, 41, 61])
 (.seq (.reg 11 [⟨some 43, .move (.t 9), none, []⟩,
  ⟨some 44, .move (.t 9), none, []⟩,
  ⟨some 45, .call n_thicketref01_Add [(.t 43), (.t 44)] [22, 22], none, [9, 41, 43, 44]⟩,
  ⟨some 46, .faddr 48 (.t 2) 2 2, none, []⟩,
  ⟨some 47, .load 22 none (.t 46), none, []⟩,
  ⟨some 48, .call n_thicketref01_Cmp [(.t 45), (.t 47)] [22, 22], none, [45, 46, 47]⟩,
  ⟨some 11, .assign (.t 48), none, [48]⟩] (some [⟨0, []⟩, ⟨1, []⟩, ⟨3, []⟩, ⟨4, []⟩, ⟨2, [4]⟩, ⟨5, []⟩, ⟨6, []⟩]) [1, 2, 8, 11, 32, 39, 40, 61])
 (.seq (.seq (.reg 12 [⟨some 49, .move (.t 11), none, []⟩,
  ⟨some 50, .bin .gtr 3 (.t 49) (.c (Value.int IntKind.i64 0)) 3, none, [49]⟩,
  ⟨some 51, .move (.t 50), none, [50]⟩,
  ⟨some 52, .move (.t 11), some (2, false), [11]⟩,
  ⟨some 53, .bin .eql 3 (.t 52) (.c (Value.int IntKind.i64 0)) 3, some (2, false), [52]⟩,
  ⟨some 54, .move (.t 53), some (2, false), [53]⟩,
  ⟨some 55, .move (.t 8), some (5, true), []⟩,
  ⟨some 56, .call n_thicketref01_Bit [(.t 55), (.c (Value.int IntKind.i64 0))] [22, 3], some (5, true), [55]⟩,
  ⟨some 57, .pick (.t 54) (.t 56) (.c (Value.bool false)), some (2, false), [54, 56]⟩,
  ⟨some 58, .pick (.t 51) (.c (Value.bool true)) (.t 57), none, [51, 57]⟩] none [1, 2, 8, 32, 39, 40, 58, 61])
 (.cond [1, 2, 8, 32, 39, 40, 61] (.t 58) (.reg 13 [⟨some 59, .move (.t 8), none, []⟩,
  ⟨some 60, .call n_thicketref01_From [(.c (Value.int IntKind.u64 1))] [33], none, []⟩,
  ⟨some 61, .call n_thicketref01_Add [(.t 59), (.t 60)] [22, 22], none, [59, 60]⟩,
  ⟨some 8, .assign (.t 61), none, []⟩] none [1, 2, 8, 32, 39, 40, 61]) .skip))
 k6_thicketref01_Decimal)))
def k7_thicketref01_Decimal : IR := .tail [1, 2, 6, 23, 31] j7_thicketref01_Decimal
def j8_thicketref01_Decimal : IR :=
 (.seq (.reg 5 [⟨some 23, .call n_thicketref01_From [(.c (Value.int IntKind.u64 1))] [33], none, []⟩,
  ⟨some 6, .assign (.t 23), none, []⟩] none [1, 2, 6, 23, 31])
 (.seq (.seq (.reg 6 [⟨some 7, .assign (.c (Value.int IntKind.i64 0)), none, []⟩] none [1, 2, 6, 7, 23, 31])
 (.block 0 l0_thicketref01_Decimal))
 k7_thicketref01_Decimal))
def k8_thicketref01_Decimal : IR := .tail [1, 2] j8_thicketref01_Decimal
def j9_thicketref01_Decimal : IR :=
 (.seq (.seq (.reg 3 [⟨some 17, .move (.t 1), none, []⟩,
  ⟨some 18, .bin .lss 3 (.t 17) (.c (Value.int IntKind.i64 0)) 3, none, [17]⟩,
  ⟨some 19, .move (.t 18), none, [18]⟩,
  ⟨some 20, .move (.t 1), some (2, false), []⟩,
  ⟨some 21, .bin .gtr 3 (.t 20) (.c (Value.int IntKind.i64 1000)) 3, some (2, false), [20]⟩,
  ⟨some 22, .pick (.t 19) (.c (Value.bool true)) (.t 21), none, [19, 21]⟩] none [1, 2, 22])
 (.cond [1, 2] (.t 22) (.seq (.reg 4 [⟨some 4, .assign (.c (Value.string { data := #[] })), none, []⟩,
  ⟨some 5, .assign (.c (Value.int IntKind.i64 2)), none, []⟩] none [4, 5])
 .ret) .skip))
 k8_thicketref01_Decimal)
def k9_thicketref01_Decimal : IR := .tail [1, 2] j9_thicketref01_Decimal
def b_thicketref01_Decimal : IR :=
 (.seq (.reg 0 [⟨some 2, .box 48 (.t 0), none, [0]⟩,
  ⟨some 4, .assign (.c (Value.string { data := #[] })), none, [4]⟩,
  ⟨some 5, .assign (.c (Value.int IntKind.i64 0)), none, [5]⟩] none [1, 2])
 (.seq (.seq (.reg 1 [⟨some 13, .faddr 48 (.t 2) 2 2, none, []⟩,
  ⟨some 14, .load 22 none (.t 13), none, []⟩,
  ⟨some 15, .call n_thicketref01_Len [(.t 14)] [22], none, [13, 14]⟩,
  ⟨some 16, .bin .eql 3 (.t 15) (.c (Value.int IntKind.i64 0)) 3, none, [15]⟩] none [1, 2, 16])
 (.cond [1, 2] (.t 16) (.seq (.reg 2 [⟨some 4, .assign (.c (Value.string { data := #[] })), none, []⟩,
  ⟨some 5, .assign (.c (Value.int IntKind.i64 11)), none, []⟩] none [4, 5])
 .ret) .skip))
 k9_thicketref01_Decimal))
def a_thicketref01_Decimal : AFunc := ⟨96, [.tmp 4, .tmp 5], b_thicketref01_Decimal⟩

def b_thicketlaw01_LimbsWrites : IR :=
 (.seq (.reg 0 [⟨some 2, .box 48 (.t 0), none, [0]⟩,
  ⟨some 4, .assign (.c (Value.bool false)), none, [4]⟩] none [1, 2])
 (.seq (.reg 1 [⟨some 14, .load 48 (some 3) (.t 2), none, []⟩,
  ⟨some 15, .call n_limbs_Write [(.t 14)] [48], none, [14]⟩,
  ⟨some 13, .move (.t 15), none, [15]⟩,
  ⟨some 16, .extr (.t 13) 0, none, []⟩,
  ⟨some 17, .extr (.t 13) 1, none, [13]⟩,
  ⟨some 5, .assign (.t 16), none, [16]⟩,
  ⟨some 6, .assign (.t 17), none, [17]⟩] none [1, 2, 5, 6])
 (.seq (.reg 2 [⟨some 19, .load 48 (some 3) (.t 2), none, []⟩,
  ⟨some 20, .call n_thicketref01_Write [(.t 19)] [48], none, [19]⟩,
  ⟨some 18, .move (.t 20), none, [20]⟩,
  ⟨some 21, .extr (.t 18) 0, none, []⟩,
  ⟨some 22, .extr (.t 18) 1, none, [18]⟩,
  ⟨some 7, .assign (.t 21), none, [21]⟩,
  ⟨some 8, .assign (.t 22), none, [22]⟩] none [1, 2, 5, 6, 7, 8])
 (.seq (.reg 3 [⟨some 24, .load 48 (some 3) (.t 2), none, []⟩,
  ⟨some 25, .move (.t 1), none, []⟩,
  ⟨some 26, .call n_limbs_Decimal [(.t 24), (.t 25)] [48, 3], none, [24, 25]⟩,
  ⟨some 23, .move (.t 26), none, [26]⟩,
  ⟨some 27, .extr (.t 23) 0, none, []⟩,
  ⟨some 28, .extr (.t 23) 1, none, [23]⟩,
  ⟨some 9, .assign (.t 27), none, [27]⟩,
  ⟨some 10, .assign (.t 28), none, [28]⟩] none [1, 2, 5, 6, 7, 8, 9, 10])
 (.seq (.reg 4 [⟨some 30, .load 48 (some 3) (.t 2), none, []⟩,
  ⟨some 31, .move (.t 1), none, [1]⟩,
  ⟨some 32, .call n_thicketref01_Decimal [(.t 30), (.t 31)] [48, 3], none, [2, 30, 31]⟩,
  ⟨some 29, .move (.t 32), none, [32]⟩,
  ⟨some 33, .extr (.t 29) 0, none, []⟩,
  ⟨some 34, .extr (.t 29) 1, none, [29]⟩,
  ⟨some 11, .assign (.t 33), none, [33]⟩,
  ⟨some 12, .assign (.t 34), none, [34]⟩] none [5, 6, 7, 8, 9, 10, 11, 12])
 (.seq (.reg 5 [⟨some 35, .call n_thicketlaw01_lives [] [], none, []⟩,
  ⟨some 36, .move (.t 35), none, [35]⟩,
  ⟨some 37, .move (.t 5), some (1, true), [5]⟩,
  ⟨some 38, .move (.t 7), some (1, true), [7]⟩,
  ⟨some 39, .bin .eql 9 (.t 37) (.t 38) 9, some (1, true), [37, 38]⟩,
  ⟨some 40, .pick (.t 36) (.t 39) (.c (Value.bool false)), none, [36, 39]⟩,
  ⟨some 41, .move (.t 40), none, [40]⟩,
  ⟨some 42, .move (.t 6), some (6, true), [6]⟩,
  ⟨some 43, .move (.t 8), some (6, true), [8]⟩,
  ⟨some 44, .bin .eql 23 (.t 42) (.t 43) 23, some (6, true), [42, 43]⟩,
  ⟨some 45, .pick (.t 41) (.t 44) (.c (Value.bool false)), none, [41, 44]⟩,
  ⟨some 46, .move (.t 45), none, [45]⟩,
  ⟨some 47, .move (.t 9), some (11, true), [9]⟩,
  ⟨some 48, .move (.t 11), some (11, true), [11]⟩,
  ⟨some 49, .bin .eql 9 (.t 47) (.t 48) 9, some (11, true), [47, 48]⟩,
  ⟨some 50, .pick (.t 46) (.t 49) (.c (Value.bool false)), none, [46, 49]⟩,
  ⟨some 51, .move (.t 50), none, [50]⟩,
  ⟨some 52, .move (.t 10), some (16, true), [10]⟩,
  ⟨some 53, .move (.t 12), some (16, true), [12]⟩,
  ⟨some 54, .bin .eql 23 (.t 52) (.t 53) 23, some (16, true), [52, 53]⟩,
  ⟨some 55, .pick (.t 51) (.t 54) (.c (Value.bool false)), none, [51, 54]⟩,
  ⟨some 4, .assign (.t 55), none, [55]⟩] none [4])
 .ret))))))
def a_thicketlaw01_LimbsWrites : AFunc := ⟨56, [.tmp 4], b_thicketlaw01_LimbsWrites⟩

def fnTab : List (FuncId × AFunc) := [(n_limbs_low, a_limbs_low), (n_limbs_high, a_limbs_high), (n_limbs_grow, a_limbs_grow), (n_limbs_trim, a_limbs_trim), (n_limbs_Read, a_limbs_Read), (n_limbs_Norm, a_limbs_Norm), (n_strings_trimLeftByte, a_strings_trimLeftByte), (n_strings_TrimLeft, a_strings_TrimLeft), (n_limbs_Print, a_limbs_Print), (n_limbs_From, a_limbs_From), (n_limbs_Cmp, a_limbs_Cmp), (n_bits_Len32, a_bits_Len32), (n_bits_LeadingZeros32, a_bits_LeadingZeros32), (n_limbs_up, a_limbs_up), (n_bits_Sub32, a_bits_Sub32), (n_bits_Add32, a_bits_Add32), (n_limbs_long, a_limbs_long), (n_limbs_down, a_limbs_down), (n_limbs_DivMod, a_limbs_DivMod), (n_limbs_Add, a_limbs_Add), (n_limbs_Gcd, a_limbs_Gcd), (n_limbs_right, a_limbs_right), (n_limbs_Over, a_limbs_Over), (n_limbs_Write, a_limbs_Write), (n_thicketlaw01_lives, a_thicketlaw01_lives), (n_thicketref01_Norm, a_thicketref01_Norm), (n_thicketref01_From, a_thicketref01_From), (n_thicketref01_Cmp, a_thicketref01_Cmp), (n_thicketref01_Bit, a_thicketref01_Bit), (n_thicketref01_Sub, a_thicketref01_Sub), (n_thicketref01_double, a_thicketref01_double), (n_thicketref01_DivMod, a_thicketref01_DivMod), (n_thicketref01_Small, a_thicketref01_Small), (n_thicketref01_Print, a_thicketref01_Print), (n_thicketref01_Gcd, a_thicketref01_Gcd), (n_thicketref01_Len, a_thicketref01_Len), (n_thicketref01_Over, a_thicketref01_Over), (n_thicketref01_Write, a_thicketref01_Write), (n_limbs_Bit, a_limbs_Bit), (n_limbs_Mul, a_limbs_Mul), (n_limbs_Decimal, a_limbs_Decimal), (n_thicketref01_Add, a_thicketref01_Add), (n_thicketref01_Mul, a_thicketref01_Mul), (n_thicketref01_Decimal, a_thicketref01_Decimal), (n_thicketlaw01_LimbsWrites, a_thicketlaw01_LimbsWrites)]
def modeTab : List (FuncId × List Bool) := [(n_limbs_grow, [true, false, false]), (n_limbs_trim, [true]), (n_limbs_long, [true, false]), (n_strings_Builder_WriteString, [true, false]), (n_strings_Builder_String, [true]), (n_strings_Repeat, [false, false])]
def G (n : Nat) : List PV := match n with  | _ => []
def extT : Oracle := fun f xs => if f = n_strings_Builder_WriteString then xWriteString 72 5 xs else if f = n_strings_Builder_String then xString 72 5 xs else if f = n_strings_Repeat then xRepeat xs else none
def T : Tab := { fns := fun f => fnTab.lookup f, ext := extT, modes := fun f => (modeTab.lookup f).getD [], glob := G }
theorem fn_limbs_low : T.fns n_limbs_low = some a_limbs_low := rfl
theorem run_limbs_low (xs : List PV) : Cinf T n_limbs_low xs = Run T a_limbs_low xs := Cinf_eq rfl fn_limbs_low
@[simp] theorem md_limbs_low : T.modes n_limbs_low = [] := rfl
@[simp] theorem call_limbs_low (C : Oracle) (e : Env) (xs : List PV) : call T C e n_limbs_low xs = callK1 C n_limbs_low xs (moves e [] [] xs) := call_modes md_limbs_low
theorem fn_limbs_high : T.fns n_limbs_high = some a_limbs_high := rfl
theorem run_limbs_high (xs : List PV) : Cinf T n_limbs_high xs = Run T a_limbs_high xs := Cinf_eq rfl fn_limbs_high
@[simp] theorem md_limbs_high : T.modes n_limbs_high = [] := rfl
@[simp] theorem call_limbs_high (C : Oracle) (e : Env) (xs : List PV) : call T C e n_limbs_high xs = callK1 C n_limbs_high xs (moves e [] [] xs) := call_modes md_limbs_high
theorem fn_limbs_grow : T.fns n_limbs_grow = some a_limbs_grow := rfl
@[simp] theorem tl0_limbs_grow (e : Env) : Exec T k0_limbs_grow e = Exec T j0_limbs_grow (e.keep [0, 1, 7, 12, 13, 40, 100000]) := Exec_tail _ _ _
@[simp] theorem tl1_limbs_grow (e : Env) : Exec T k1_limbs_grow e = Exec T j1_limbs_grow (e.keep [0, 1, 7, 12, 13, 40, 100000]) := Exec_tail _ _ _
@[simp] theorem tl2_limbs_grow (e : Env) : Exec T k2_limbs_grow e = Exec T j2_limbs_grow (e.keep [0, 40, 100000]) := Exec_tail _ _ _
@[simp] theorem tl3_limbs_grow (e : Env) : Exec T k3_limbs_grow e = Exec T j3_limbs_grow (e.keep [0, 7, 40, 100000]) := Exec_tail _ _ _
theorem ex0_limbs_grow (e : Env) : Exec T l0_limbs_grow e = andThen (Exec T w0_limbs_grow (e.keep [0, 1, 7, 12, 13, 40, 100000])) (Exec T l0_limbs_grow) := Exec_loop _ _ _
theorem run_limbs_grow (xs : List PV) : Cinf T n_limbs_grow xs = Run T a_limbs_grow xs := Cinf_eq rfl fn_limbs_grow
@[simp] theorem md_limbs_grow : T.modes n_limbs_grow = [true, false, false] := rfl
@[simp] theorem call_limbs_grow (C : Oracle) (e : Env) (xs : List PV) : call T C e n_limbs_grow xs = callK1 C n_limbs_grow xs (moves e [] [true, false, false] xs) := call_modes md_limbs_grow
theorem fn_limbs_trim : T.fns n_limbs_trim = some a_limbs_trim := rfl
@[simp] theorem tl0_limbs_trim (e : Env) : Exec T k0_limbs_trim e = Exec T j0_limbs_trim (e.keep [0, 3, 100000]) := Exec_tail _ _ _
@[simp] theorem tl1_limbs_trim (e : Env) : Exec T k1_limbs_trim e = Exec T j1_limbs_trim (e.keep [0, 3, 100000]) := Exec_tail _ _ _
theorem ex0_limbs_trim (e : Env) : Exec T l0_limbs_trim e = andThen (Exec T w0_limbs_trim (e.keep [0, 3, 100000])) (Exec T l0_limbs_trim) := Exec_loop _ _ _
theorem run_limbs_trim (xs : List PV) : Cinf T n_limbs_trim xs = Run T a_limbs_trim xs := Cinf_eq rfl fn_limbs_trim
@[simp] theorem md_limbs_trim : T.modes n_limbs_trim = [true] := rfl
@[simp] theorem call_limbs_trim (C : Oracle) (e : Env) (xs : List PV) : call T C e n_limbs_trim xs = callK1 C n_limbs_trim xs (moves e [] [true] xs) := call_modes md_limbs_trim
theorem fn_limbs_Read : T.fns n_limbs_Read = some a_limbs_Read := rfl
@[simp] theorem tl0_limbs_Read (e : Env) : Exec T k0_limbs_Read e = Exec T j0_limbs_Read (e.keep [0, 12, 13]) := Exec_tail _ _ _
@[simp] theorem tl1_limbs_Read (e : Env) : Exec T k1_limbs_Read e = Exec T j1_limbs_Read (e.keep [0, 12, 13]) := Exec_tail _ _ _
@[simp] theorem tl2_limbs_Read (e : Env) : Exec T k2_limbs_Read e = Exec T j2_limbs_Read (e.keep [0, 6, 7, 8, 9, 36, 37, 54]) := Exec_tail _ _ _
@[simp] theorem tl3_limbs_Read (e : Env) : Exec T k3_limbs_Read e = Exec T j3_limbs_Read (e.keep [0, 6, 7, 8, 9, 36, 37, 54]) := Exec_tail _ _ _
@[simp] theorem tl4_limbs_Read (e : Env) : Exec T k4_limbs_Read e = Exec T j4_limbs_Read (e.keep [0, 6, 7, 8, 9, 54]) := Exec_tail _ _ _
@[simp] theorem tl5_limbs_Read (e : Env) : Exec T k5_limbs_Read e = Exec T j5_limbs_Read (e.keep [0, 6, 54]) := Exec_tail _ _ _
@[simp] theorem tl6_limbs_Read (e : Env) : Exec T k6_limbs_Read e = Exec T j6_limbs_Read (e.keep [6, 54]) := Exec_tail _ _ _
@[simp] theorem tl7_limbs_Read (e : Env) : Exec T k7_limbs_Read e = Exec T j7_limbs_Read (e.keep [0]) := Exec_tail _ _ _
@[simp] theorem tl8_limbs_Read (e : Env) : Exec T k8_limbs_Read e = Exec T j8_limbs_Read (e.keep [0]) := Exec_tail _ _ _
theorem ex0_limbs_Read (e : Env) : Exec T l0_limbs_Read e = andThen (Exec T w0_limbs_Read (e.keep [0, 12, 13])) (Exec T l0_limbs_Read) := Exec_loop _ _ _
theorem ex2_limbs_Read (e : Env) : Exec T l2_limbs_Read e = andThen (Exec T w2_limbs_Read (e.keep [0, 6, 7, 8, 9, 36, 37, 54])) (Exec T l2_limbs_Read) := Exec_loop _ _ _
theorem ex1_limbs_Read (e : Env) : Exec T l1_limbs_Read e = andThen (Exec T w1_limbs_Read (e.keep [0, 6, 54])) (Exec T l1_limbs_Read) := Exec_loop _ _ _
theorem run_limbs_Read (xs : List PV) : Cinf T n_limbs_Read xs = Run T a_limbs_Read xs := Cinf_eq rfl fn_limbs_Read
@[simp] theorem md_limbs_Read : T.modes n_limbs_Read = [] := rfl
@[simp] theorem call_limbs_Read (C : Oracle) (e : Env) (xs : List PV) : call T C e n_limbs_Read xs = callK1 C n_limbs_Read xs (moves e [] [] xs) := call_modes md_limbs_Read
theorem fn_limbs_Norm : T.fns n_limbs_Norm = some a_limbs_Norm := rfl
theorem run_limbs_Norm (xs : List PV) : Cinf T n_limbs_Norm xs = Run T a_limbs_Norm xs := Cinf_eq rfl fn_limbs_Norm
@[simp] theorem md_limbs_Norm : T.modes n_limbs_Norm = [] := rfl
@[simp] theorem call_limbs_Norm (C : Oracle) (e : Env) (xs : List PV) : call T C e n_limbs_Norm xs = callK1 C n_limbs_Norm xs (moves e [] [] xs) := call_modes md_limbs_Norm
theorem fn_strings_trimLeftByte : T.fns n_strings_trimLeftByte = some a_strings_trimLeftByte := rfl
@[simp] theorem tl0_strings_trimLeftByte (e : Env) : Exec T k0_strings_trimLeftByte e = Exec T j0_strings_trimLeftByte (e.keep [0, 1]) := Exec_tail _ _ _
@[simp] theorem tl1_strings_trimLeftByte (e : Env) : Exec T k1_strings_trimLeftByte e = Exec T j1_strings_trimLeftByte (e.keep [0]) := Exec_tail _ _ _
theorem ex0_strings_trimLeftByte (e : Env) : Exec T l0_strings_trimLeftByte e = andThen (Exec T w0_strings_trimLeftByte (e.keep [0, 1])) (Exec T l0_strings_trimLeftByte) := Exec_loop _ _ _
theorem run_strings_trimLeftByte (xs : List PV) : Cinf T n_strings_trimLeftByte xs = Run T a_strings_trimLeftByte xs := Cinf_eq rfl fn_strings_trimLeftByte
@[simp] theorem md_strings_trimLeftByte : T.modes n_strings_trimLeftByte = [] := rfl
@[simp] theorem call_strings_trimLeftByte (C : Oracle) (e : Env) (xs : List PV) : call T C e n_strings_trimLeftByte xs = callK1 C n_strings_trimLeftByte xs (moves e [] [] xs) := call_modes md_strings_trimLeftByte
theorem fn_strings_TrimLeft : T.fns n_strings_TrimLeft = some a_strings_TrimLeft := rfl
@[simp] theorem tl0_strings_TrimLeft (e : Env) : Exec T k0_strings_TrimLeft e = Exec T j0_strings_TrimLeft (e.keep [0, 1]) := Exec_tail _ _ _
@[simp] theorem tl1_strings_TrimLeft (e : Env) : Exec T k1_strings_TrimLeft e = Exec T j1_strings_TrimLeft (e.keep [0, 1]) := Exec_tail _ _ _
@[simp] theorem tl2_strings_TrimLeft (e : Env) : Exec T k2_strings_TrimLeft e = Exec T j2_strings_TrimLeft (e.keep [0, 1]) := Exec_tail _ _ _
theorem run_strings_TrimLeft (xs : List PV) : Cinf T n_strings_TrimLeft xs = Run T a_strings_TrimLeft xs := Cinf_eq rfl fn_strings_TrimLeft
@[simp] theorem md_strings_TrimLeft : T.modes n_strings_TrimLeft = [] := rfl
@[simp] theorem call_strings_TrimLeft (C : Oracle) (e : Env) (xs : List PV) : call T C e n_strings_TrimLeft xs = callK1 C n_strings_TrimLeft xs (moves e [] [] xs) := call_modes md_strings_TrimLeft
theorem fn_limbs_Print : T.fns n_limbs_Print = some a_limbs_Print := rfl
@[simp] theorem tl0_limbs_Print (e : Env) : Exec T k0_limbs_Print e = Exec T j0_limbs_Print (e.keep [0, 3, 4, 5, 10, 41, 57]) := Exec_tail _ _ _
@[simp] theorem tl1_limbs_Print (e : Env) : Exec T k1_limbs_Print e = Exec T j1_limbs_Print (e.keep [0, 3, 4, 5, 10, 41, 57]) := Exec_tail _ _ _
@[simp] theorem tl2_limbs_Print (e : Env) : Exec T k2_limbs_Print e = Exec T j2_limbs_Print (e.keep [0, 3, 4, 6, 10, 41, 42, 57]) := Exec_tail _ _ _
@[simp] theorem tl3_limbs_Print (e : Env) : Exec T k3_limbs_Print e = Exec T j3_limbs_Print (e.keep [0, 3, 4, 6, 10, 41, 42, 57]) := Exec_tail _ _ _
@[simp] theorem tl4_limbs_Print (e : Env) : Exec T k4_limbs_Print e = Exec T j4_limbs_Print (e.keep [0, 3, 6, 10, 41, 57]) := Exec_tail _ _ _
@[simp] theorem tl5_limbs_Print (e : Env) : Exec T k5_limbs_Print e = Exec T j5_limbs_Print (e.keep [0, 3, 4, 10, 41, 57]) := Exec_tail _ _ _
@[simp] theorem tl6_limbs_Print (e : Env) : Exec T k6_limbs_Print e = Exec T j6_limbs_Print (e.keep [0, 3, 10, 41, 57]) := Exec_tail _ _ _
@[simp] theorem tl7_limbs_Print (e : Env) : Exec T k7_limbs_Print e = Exec T j7_limbs_Print (e.keep [3, 7, 8, 57]) := Exec_tail _ _ _
@[simp] theorem tl8_limbs_Print (e : Env) : Exec T k8_limbs_Print e = Exec T j8_limbs_Print (e.keep [3, 7, 8, 57]) := Exec_tail _ _ _
@[simp] theorem tl9_limbs_Print (e : Env) : Exec T k9_limbs_Print e = Exec T j9_limbs_Print (e.keep [7]) := Exec_tail _ _ _
@[simp] theorem tl10_limbs_Print (e : Env) : Exec T k10_limbs_Print e = Exec T j10_limbs_Print (e.keep [3, 57]) := Exec_tail _ _ _
@[simp] theorem tl11_limbs_Print (e : Env) : Exec T k11_limbs_Print e = Exec T j11_limbs_Print (e.keep [0, 10, 41]) := Exec_tail _ _ _
theorem ex1_limbs_Print (e : Env) : Exec T l1_limbs_Print e = andThen (Exec T w1_limbs_Print (e.keep [0, 3, 4, 5, 10, 41, 57])) (Exec T l1_limbs_Print) := Exec_loop _ _ _
theorem ex2_limbs_Print (e : Env) : Exec T l2_limbs_Print e = andThen (Exec T w2_limbs_Print (e.keep [0, 3, 4, 6, 10, 41, 42, 57])) (Exec T l2_limbs_Print) := Exec_loop _ _ _
theorem ex0_limbs_Print (e : Env) : Exec T l0_limbs_Print e = andThen (Exec T w0_limbs_Print (e.keep [0, 3, 10, 41, 57])) (Exec T l0_limbs_Print) := Exec_loop _ _ _
theorem ex3_limbs_Print (e : Env) : Exec T l3_limbs_Print e = andThen (Exec T w3_limbs_Print (e.keep [3, 7, 8, 57])) (Exec T l3_limbs_Print) := Exec_loop _ _ _
theorem run_limbs_Print (xs : List PV) : Cinf T n_limbs_Print xs = Run T a_limbs_Print xs := Cinf_eq rfl fn_limbs_Print
@[simp] theorem md_limbs_Print : T.modes n_limbs_Print = [] := rfl
@[simp] theorem call_limbs_Print (C : Oracle) (e : Env) (xs : List PV) : call T C e n_limbs_Print xs = callK1 C n_limbs_Print xs (moves e [] [] xs) := call_modes md_limbs_Print
theorem fn_limbs_From : T.fns n_limbs_From = some a_limbs_From := rfl
theorem run_limbs_From (xs : List PV) : Cinf T n_limbs_From xs = Run T a_limbs_From xs := Cinf_eq rfl fn_limbs_From
@[simp] theorem md_limbs_From : T.modes n_limbs_From = [] := rfl
@[simp] theorem call_limbs_From (C : Oracle) (e : Env) (xs : List PV) : call T C e n_limbs_From xs = callK1 C n_limbs_From xs (moves e [] [] xs) := call_modes md_limbs_From
theorem fn_limbs_Cmp : T.fns n_limbs_Cmp = some a_limbs_Cmp := rfl
@[simp] theorem tl0_limbs_Cmp (e : Env) : Exec T k0_limbs_Cmp e = Exec T j0_limbs_Cmp (e.keep []) := Exec_tail _ _ _
@[simp] theorem tl1_limbs_Cmp (e : Env) : Exec T k1_limbs_Cmp e = Exec T j1_limbs_Cmp (e.keep [0, 1, 5, 7, 9]) := Exec_tail _ _ _
@[simp] theorem tl2_limbs_Cmp (e : Env) : Exec T k2_limbs_Cmp e = Exec T j2_limbs_Cmp (e.keep [0, 1, 5, 7, 9]) := Exec_tail _ _ _
@[simp] theorem tl3_limbs_Cmp (e : Env) : Exec T k3_limbs_Cmp e = Exec T j3_limbs_Cmp (e.keep []) := Exec_tail _ _ _
@[simp] theorem tl4_limbs_Cmp (e : Env) : Exec T k4_limbs_Cmp e = Exec T j4_limbs_Cmp (e.keep [0, 1, 7, 9]) := Exec_tail _ _ _
theorem ex0_limbs_Cmp (e : Env) : Exec T l0_limbs_Cmp e = andThen (Exec T w0_limbs_Cmp (e.keep [0, 1, 5, 7, 9])) (Exec T l0_limbs_Cmp) := Exec_loop _ _ _
theorem run_limbs_Cmp (xs : List PV) : Cinf T n_limbs_Cmp xs = Run T a_limbs_Cmp xs := Cinf_eq rfl fn_limbs_Cmp
@[simp] theorem md_limbs_Cmp : T.modes n_limbs_Cmp = [] := rfl
@[simp] theorem call_limbs_Cmp (C : Oracle) (e : Env) (xs : List PV) : call T C e n_limbs_Cmp xs = callK1 C n_limbs_Cmp xs (moves e [] [] xs) := call_modes md_limbs_Cmp
theorem fn_bits_Len32 : T.fns n_bits_Len32 = some a_bits_Len32 := rfl
@[simp] theorem tl0_bits_Len32 (e : Env) : Exec T k0_bits_Len32 e = Exec T j0_bits_Len32 (e.keep [0, 2]) := Exec_tail _ _ _
@[simp] theorem tl1_bits_Len32 (e : Env) : Exec T k1_bits_Len32 e = Exec T j1_bits_Len32 (e.keep [0, 2]) := Exec_tail _ _ _
theorem run_bits_Len32 (xs : List PV) : Cinf T n_bits_Len32 xs = Run T a_bits_Len32 xs := Cinf_eq rfl fn_bits_Len32
@[simp] theorem md_bits_Len32 : T.modes n_bits_Len32 = [] := rfl
@[simp] theorem call_bits_Len32 (C : Oracle) (e : Env) (xs : List PV) : call T C e n_bits_Len32 xs = callK1 C n_bits_Len32 xs (moves e [] [] xs) := call_modes md_bits_Len32
theorem fn_bits_LeadingZeros32 : T.fns n_bits_LeadingZeros32 = some a_bits_LeadingZeros32 := rfl
theorem run_bits_LeadingZeros32 (xs : List PV) : Cinf T n_bits_LeadingZeros32 xs = Run T a_bits_LeadingZeros32 xs := Cinf_eq rfl fn_bits_LeadingZeros32
@[simp] theorem md_bits_LeadingZeros32 : T.modes n_bits_LeadingZeros32 = [] := rfl
@[simp] theorem call_bits_LeadingZeros32 (C : Oracle) (e : Env) (xs : List PV) : call T C e n_bits_LeadingZeros32 xs = callK1 C n_bits_LeadingZeros32 xs (moves e [] [] xs) := call_modes md_bits_LeadingZeros32
theorem fn_limbs_up : T.fns n_limbs_up = some a_limbs_up := rfl
@[simp] theorem tl0_limbs_up (e : Env) : Exec T k0_limbs_up e = Exec T j0_limbs_up (e.keep [0, 1, 5, 6, 10, 22, 23, 24, 25, 40]) := Exec_tail _ _ _
@[simp] theorem tl1_limbs_up (e : Env) : Exec T k1_limbs_up e = Exec T j1_limbs_up (e.keep [0, 1, 5, 6, 10, 22, 23, 24, 25, 40]) := Exec_tail _ _ _
@[simp] theorem tl2_limbs_up (e : Env) : Exec T k2_limbs_up e = Exec T j2_limbs_up (e.keep [5, 6, 22, 40]) := Exec_tail _ _ _
@[simp] theorem tl3_limbs_up (e : Env) : Exec T k3_limbs_up e = Exec T j3_limbs_up (e.keep [0, 1, 10]) := Exec_tail _ _ _
theorem ex0_limbs_up (e : Env) : Exec T l0_limbs_up e = andThen (Exec T w0_limbs_up (e.keep [0, 1, 5, 6, 10, 22, 23, 24, 25, 40])) (Exec T l0_limbs_up) := Exec_loop _ _ _
theorem run_limbs_up (xs : List PV) : Cinf T n_limbs_up xs = Run T a_limbs_up xs := Cinf_eq rfl fn_limbs_up
@[simp] theorem md_limbs_up : T.modes n_limbs_up = [] := rfl
@[simp] theorem call_limbs_up (C : Oracle) (e : Env) (xs : List PV) : call T C e n_limbs_up xs = callK1 C n_limbs_up xs (moves e [] [] xs) := call_modes md_limbs_up
theorem fn_bits_Sub32 : T.fns n_bits_Sub32 = some a_bits_Sub32 := rfl
theorem run_bits_Sub32 (xs : List PV) : Cinf T n_bits_Sub32 xs = Run T a_bits_Sub32 xs := Cinf_eq rfl fn_bits_Sub32
@[simp] theorem md_bits_Sub32 : T.modes n_bits_Sub32 = [] := rfl
@[simp] theorem call_bits_Sub32 (C : Oracle) (e : Env) (xs : List PV) : call T C e n_bits_Sub32 xs = callK1 C n_bits_Sub32 xs (moves e [] [] xs) := call_modes md_bits_Sub32
theorem fn_bits_Add32 : T.fns n_bits_Add32 = some a_bits_Add32 := rfl
theorem run_bits_Add32 (xs : List PV) : Cinf T n_bits_Add32 xs = Run T a_bits_Add32 xs := Cinf_eq rfl fn_bits_Add32
@[simp] theorem md_bits_Add32 : T.modes n_bits_Add32 = [] := rfl
@[simp] theorem call_bits_Add32 (C : Oracle) (e : Env) (xs : List PV) : call T C e n_bits_Add32 xs = callK1 C n_bits_Add32 xs (moves e [] [] xs) := call_modes md_bits_Add32
theorem fn_limbs_long : T.fns n_limbs_long = some a_limbs_long := rfl
@[simp] theorem tl0_limbs_long (e : Env) : Exec T k0_limbs_long e = Exec T j0_limbs_long (e.keep [0, 1, 5, 6, 7, 8, 9, 11, 12, 24, 71, 100000]) := Exec_tail _ _ _
@[simp] theorem tl1_limbs_long (e : Env) : Exec T k1_limbs_long e = Exec T j1_limbs_long (e.keep [0, 1, 5, 6, 7, 8, 9, 11, 12, 24, 100000]) := Exec_tail _ _ _
@[simp] theorem tl2_limbs_long (e : Env) : Exec T k2_limbs_long e = Exec T j2_limbs_long (e.keep [0, 1, 5, 6, 7, 8, 9, 11, 13, 14, 24, 94, 95, 100000]) := Exec_tail _ _ _
@[simp] theorem tl3_limbs_long (e : Env) : Exec T k3_limbs_long e = Exec T j3_limbs_long (e.keep [0, 1, 5, 6, 7, 8, 9, 11, 13, 14, 24, 94, 95, 100000]) := Exec_tail _ _ _
@[simp] theorem tl4_limbs_long (e : Env) : Exec T k4_limbs_long e = Exec T j4_limbs_long (e.keep [0, 1, 5, 6, 7, 8, 9, 16, 24, 159, 160, 100000]) := Exec_tail _ _ _
@[simp] theorem tl5_limbs_long (e : Env) : Exec T k5_limbs_long e = Exec T j5_limbs_long (e.keep [0, 1, 5, 6, 7, 8, 9, 16, 24, 159, 160, 100000]) := Exec_tail _ _ _
@[simp] theorem tl6_limbs_long (e : Env) : Exec T k6_limbs_long e = Exec T j6_limbs_long (e.keep [0, 1, 5, 6, 7, 8, 9, 16, 24, 100000]) := Exec_tail _ _ _
@[simp] theorem tl7_limbs_long (e : Env) : Exec T k7_limbs_long e = Exec T j7_limbs_long (e.keep [0, 1, 5, 6, 7, 8, 9, 24, 100000]) := Exec_tail _ _ _
@[simp] theorem tl8_limbs_long (e : Env) : Exec T k8_limbs_long e = Exec T j8_limbs_long (e.keep [0, 1, 5, 6, 7, 8, 9, 11, 13, 14, 24, 100000]) := Exec_tail _ _ _
@[simp] theorem tl9_limbs_long (e : Env) : Exec T k9_limbs_long e = Exec T j9_limbs_long (e.keep [0, 1, 5, 6, 7, 8, 9, 11, 24, 100000]) := Exec_tail _ _ _
@[simp] theorem tl10_limbs_long (e : Env) : Exec T k10_limbs_long e = Exec T j10_limbs_long (e.keep [0, 1, 5, 6, 7, 8, 9, 24, 100000]) := Exec_tail _ _ _
@[simp] theorem tl11_limbs_long (e : Env) : Exec T k11_limbs_long e = Exec T j11_limbs_long (e.keep [0, 1, 5, 6, 7, 8, 9, 24, 100000]) := Exec_tail _ _ _
@[simp] theorem tl12_limbs_long (e : Env) : Exec T k12_limbs_long e = Exec T j12_limbs_long (e.keep [6, 24, 100000]) := Exec_tail _ _ _
theorem ex1_limbs_long (e : Env) : Exec T l1_limbs_long e = andThen (Exec T w1_limbs_long (e.keep [0, 1, 5, 6, 7, 8, 9, 11, 12, 24, 100000])) (Exec T l1_limbs_long) := Exec_loop _ _ _
theorem ex2_limbs_long (e : Env) : Exec T l2_limbs_long e = andThen (Exec T w2_limbs_long (e.keep [0, 1, 5, 6, 7, 8, 9, 11, 13, 14, 24, 94, 95, 100000])) (Exec T l2_limbs_long) := Exec_loop _ _ _
theorem ex3_limbs_long (e : Env) : Exec T l3_limbs_long e = andThen (Exec T w3_limbs_long (e.keep [0, 1, 5, 6, 7, 8, 9, 16, 24, 159, 160, 100000])) (Exec T l3_limbs_long) := Exec_loop _ _ _
theorem ex0_limbs_long (e : Env) : Exec T l0_limbs_long e = andThen (Exec T w0_limbs_long (e.keep [0, 1, 5, 6, 7, 8, 9, 24, 100000])) (Exec T l0_limbs_long) := Exec_loop _ _ _
theorem run_limbs_long (xs : List PV) : Cinf T n_limbs_long xs = Run T a_limbs_long xs := Cinf_eq rfl fn_limbs_long
@[simp] theorem md_limbs_long : T.modes n_limbs_long = [true, false] := rfl
@[simp] theorem call_limbs_long (C : Oracle) (e : Env) (xs : List PV) : call T C e n_limbs_long xs = callK1 C n_limbs_long xs (moves e [] [true, false] xs) := call_modes md_limbs_long
theorem fn_limbs_down : T.fns n_limbs_down = some a_limbs_down := rfl
@[simp] theorem tl0_limbs_down (e : Env) : Exec T k0_limbs_down e = Exec T j0_limbs_down (e.keep [0, 1, 5, 6, 7, 9, 15, 17, 18, 21, 23, 24]) := Exec_tail _ _ _
@[simp] theorem tl1_limbs_down (e : Env) : Exec T k1_limbs_down e = Exec T j1_limbs_down (e.keep [0, 1, 5, 9, 15, 17, 18, 21, 23, 24]) := Exec_tail _ _ _
@[simp] theorem tl2_limbs_down (e : Env) : Exec T k2_limbs_down e = Exec T j2_limbs_down (e.keep [0, 1, 5, 9, 15, 17, 18, 21, 23, 24]) := Exec_tail _ _ _
@[simp] theorem tl3_limbs_down (e : Env) : Exec T k3_limbs_down e = Exec T j3_limbs_down (e.keep [5, 21]) := Exec_tail _ _ _
@[simp] theorem tl4_limbs_down (e : Env) : Exec T k4_limbs_down e = Exec T j4_limbs_down (e.keep [0, 1, 9, 15, 17, 18]) := Exec_tail _ _ _
theorem ex0_limbs_down (e : Env) : Exec T l0_limbs_down e = andThen (Exec T w0_limbs_down (e.keep [0, 1, 5, 9, 15, 17, 18, 21, 23, 24])) (Exec T l0_limbs_down) := Exec_loop _ _ _
theorem run_limbs_down (xs : List PV) : Cinf T n_limbs_down xs = Run T a_limbs_down xs := Cinf_eq rfl fn_limbs_down
@[simp] theorem md_limbs_down : T.modes n_limbs_down = [] := rfl
@[simp] theorem call_limbs_down (C : Oracle) (e : Env) (xs : List PV) : call T C e n_limbs_down xs = callK1 C n_limbs_down xs (moves e [] [] xs) := call_modes md_limbs_down
theorem fn_limbs_DivMod : T.fns n_limbs_DivMod = some a_limbs_DivMod := rfl
@[simp] theorem tl0_limbs_DivMod (e : Env) : Exec T k0_limbs_DivMod e = Exec T j0_limbs_DivMod (e.keep [0, 1, 7, 8, 9, 15, 17, 32]) := Exec_tail _ _ _
@[simp] theorem tl1_limbs_DivMod (e : Env) : Exec T k1_limbs_DivMod e = Exec T j1_limbs_DivMod (e.keep [0, 1, 7, 8, 9, 15, 17, 32]) := Exec_tail _ _ _
@[simp] theorem tl2_limbs_DivMod (e : Env) : Exec T k2_limbs_DivMod e = Exec T j2_limbs_DivMod (e.keep [7, 8, 32]) := Exec_tail _ _ _
@[simp] theorem tl3_limbs_DivMod (e : Env) : Exec T k3_limbs_DivMod e = Exec T j3_limbs_DivMod (e.keep [0, 10, 11, 12, 15, 77, 80, 88]) := Exec_tail _ _ _
@[simp] theorem tl4_limbs_DivMod (e : Env) : Exec T k4_limbs_DivMod e = Exec T j4_limbs_DivMod (e.keep [10, 11, 12, 77, 80, 88]) := Exec_tail _ _ _
@[simp] theorem tl5_limbs_DivMod (e : Env) : Exec T k5_limbs_DivMod e = Exec T j5_limbs_DivMod (e.keep [0, 1, 15, 17]) := Exec_tail _ _ _
@[simp] theorem tl6_limbs_DivMod (e : Env) : Exec T k6_limbs_DivMod e = Exec T j6_limbs_DivMod (e.keep [0, 1, 15, 17]) := Exec_tail _ _ _
@[simp] theorem tl7_limbs_DivMod (e : Env) : Exec T k7_limbs_DivMod e = Exec T j7_limbs_DivMod (e.keep [0, 1, 15, 17]) := Exec_tail _ _ _
theorem ex0_limbs_DivMod (e : Env) : Exec T l0_limbs_DivMod e = andThen (Exec T w0_limbs_DivMod (e.keep [0, 1, 7, 8, 9, 15, 17, 32])) (Exec T l0_limbs_DivMod) := Exec_loop _ _ _
theorem ex1_limbs_DivMod (e : Env) : Exec T l1_limbs_DivMod e = andThen (Exec T w1_limbs_DivMod (e.keep [0, 10, 11, 12, 15, 77, 80, 88])) (Exec T l1_limbs_DivMod) := Exec_loop _ _ _
theorem run_limbs_DivMod (xs : List PV) : Cinf T n_limbs_DivMod xs = Run T a_limbs_DivMod xs := Cinf_eq rfl fn_limbs_DivMod
@[simp] theorem md_limbs_DivMod : T.modes n_limbs_DivMod = [] := rfl
@[simp] theorem call_limbs_DivMod (C : Oracle) (e : Env) (xs : List PV) : call T C e n_limbs_DivMod xs = callK1 C n_limbs_DivMod xs (moves e [] [] xs) := call_modes md_limbs_DivMod
theorem fn_limbs_Add : T.fns n_limbs_Add = some a_limbs_Add := rfl
@[simp] theorem tl0_limbs_Add (e : Env) : Exec T k0_limbs_Add e = Exec T j0_limbs_Add (e.keep [0, 1, 5, 6, 13, 14, 18, 20, 21, 46]) := Exec_tail _ _ _
@[simp] theorem tl1_limbs_Add (e : Env) : Exec T k1_limbs_Add e = Exec T j1_limbs_Add (e.keep [0, 1, 5, 6, 13, 14, 18, 20, 21, 46]) := Exec_tail _ _ _
@[simp] theorem tl2_limbs_Add (e : Env) : Exec T k2_limbs_Add e = Exec T j2_limbs_Add (e.keep [0, 1, 5, 6, 13, 14, 18, 20, 21, 46]) := Exec_tail _ _ _
@[simp] theorem tl3_limbs_Add (e : Env) : Exec T k3_limbs_Add e = Exec T j3_limbs_Add (e.keep [5, 6, 18, 46]) := Exec_tail _ _ _
@[simp] theorem tl4_limbs_Add (e : Env) : Exec T k4_limbs_Add e = Exec T j4_limbs_Add (e.keep [0, 1, 13, 14]) := Exec_tail _ _ _
theorem ex0_limbs_Add (e : Env) : Exec T l0_limbs_Add e = andThen (Exec T w0_limbs_Add (e.keep [0, 1, 5, 6, 13, 14, 18, 20, 21, 46])) (Exec T l0_limbs_Add) := Exec_loop _ _ _
theorem run_limbs_Add (xs : List PV) : Cinf T n_limbs_Add xs = Run T a_limbs_Add xs := Cinf_eq rfl fn_limbs_Add
@[simp] theorem md_limbs_Add : T.modes n_limbs_Add = [] := rfl
@[simp] theorem call_limbs_Add (C : Oracle) (e : Env) (xs : List PV) : call T C e n_limbs_Add xs = callK1 C n_limbs_Add xs (moves e [] [] xs) := call_modes md_limbs_Add
theorem fn_limbs_Gcd : T.fns n_limbs_Gcd = some a_limbs_Gcd := rfl
@[simp] theorem tl0_limbs_Gcd (e : Env) : Exec T k0_limbs_Gcd e = Exec T j0_limbs_Gcd (e.keep [0, 1, 6, 9, 11, 15, 18, 20, 22, 23]) := Exec_tail _ _ _
@[simp] theorem tl1_limbs_Gcd (e : Env) : Exec T k1_limbs_Gcd e = Exec T j1_limbs_Gcd (e.keep [0, 1, 6, 9, 11, 15, 18, 20, 22, 23]) := Exec_tail _ _ _
theorem ex0_limbs_Gcd (e : Env) : Exec T l0_limbs_Gcd e = andThen (Exec T w0_limbs_Gcd (e.keep [0, 1, 6, 9, 11, 15, 18, 20, 22, 23])) (Exec T l0_limbs_Gcd) := Exec_loop _ _ _
theorem run_limbs_Gcd (xs : List PV) : Cinf T n_limbs_Gcd xs = Run T a_limbs_Gcd xs := Cinf_eq rfl fn_limbs_Gcd
@[simp] theorem md_limbs_Gcd : T.modes n_limbs_Gcd = [] := rfl
@[simp] theorem call_limbs_Gcd (C : Oracle) (e : Env) (xs : List PV) : call T C e n_limbs_Gcd xs = callK1 C n_limbs_Gcd xs (moves e [] [] xs) := call_modes md_limbs_Gcd
theorem fn_limbs_right : T.fns n_limbs_right = some a_limbs_right := rfl
@[simp] theorem tl0_limbs_right (e : Env) : Exec T k0_limbs_right e = Exec T j0_limbs_right (e.keep [0, 1, 2, 6]) := Exec_tail _ _ _
theorem run_limbs_right (xs : List PV) : Cinf T n_limbs_right xs = Run T a_limbs_right xs := Cinf_eq rfl fn_limbs_right
@[simp] theorem md_limbs_right : T.modes n_limbs_right = [] := rfl
@[simp] theorem call_limbs_right (C : Oracle) (e : Env) (xs : List PV) : call T C e n_limbs_right xs = callK1 C n_limbs_right xs (moves e [] [] xs) := call_modes md_limbs_right
theorem fn_limbs_Over : T.fns n_limbs_Over = some a_limbs_Over := rfl
@[simp] theorem tl0_limbs_Over (e : Env) : Exec T k0_limbs_Over e = Exec T j0_limbs_Over (e.keep [0, 1, 2, 6]) := Exec_tail _ _ _
theorem run_limbs_Over (xs : List PV) : Cinf T n_limbs_Over xs = Run T a_limbs_Over xs := Cinf_eq rfl fn_limbs_Over
@[simp] theorem md_limbs_Over : T.modes n_limbs_Over = [] := rfl
@[simp] theorem call_limbs_Over (C : Oracle) (e : Env) (xs : List PV) : call T C e n_limbs_Over xs = callK1 C n_limbs_Over xs (moves e [] [] xs) := call_modes md_limbs_Over
theorem fn_limbs_Write : T.fns n_limbs_Write = some a_limbs_Write := rfl
@[simp] theorem tl0_limbs_Write (e : Env) : Exec T k0_limbs_Write e = Exec T j0_limbs_Write (e.keep [6]) := Exec_tail _ _ _
@[simp] theorem tl1_limbs_Write (e : Env) : Exec T k1_limbs_Write e = Exec T j1_limbs_Write (e.keep [4, 6]) := Exec_tail _ _ _
@[simp] theorem tl2_limbs_Write (e : Env) : Exec T k2_limbs_Write e = Exec T j2_limbs_Write (e.keep [4]) := Exec_tail _ _ _
theorem run_limbs_Write (xs : List PV) : Cinf T n_limbs_Write xs = Run T a_limbs_Write xs := Cinf_eq rfl fn_limbs_Write
@[simp] theorem md_limbs_Write : T.modes n_limbs_Write = [] := rfl
@[simp] theorem call_limbs_Write (C : Oracle) (e : Env) (xs : List PV) : call T C e n_limbs_Write xs = callK1 C n_limbs_Write xs (moves e [] [] xs) := call_modes md_limbs_Write
theorem fn_thicketlaw01_lives : T.fns n_thicketlaw01_lives = some a_thicketlaw01_lives := rfl
theorem run_thicketlaw01_lives (xs : List PV) : Cinf T n_thicketlaw01_lives xs = Run T a_thicketlaw01_lives xs := Cinf_eq rfl fn_thicketlaw01_lives
@[simp] theorem md_thicketlaw01_lives : T.modes n_thicketlaw01_lives = [] := rfl
@[simp] theorem call_thicketlaw01_lives (C : Oracle) (e : Env) (xs : List PV) : call T C e n_thicketlaw01_lives xs = callK1 C n_thicketlaw01_lives xs (moves e [] [] xs) := call_modes md_thicketlaw01_lives
theorem fn_thicketref01_Norm : T.fns n_thicketref01_Norm = some a_thicketref01_Norm := rfl
@[simp] theorem tl0_thicketref01_Norm (e : Env) : Exec T k0_thicketref01_Norm e = Exec T j0_thicketref01_Norm (e.keep [0, 3]) := Exec_tail _ _ _
@[simp] theorem tl1_thicketref01_Norm (e : Env) : Exec T k1_thicketref01_Norm e = Exec T j1_thicketref01_Norm (e.keep [0, 3, 4, 5, 31]) := Exec_tail _ _ _
@[simp] theorem tl2_thicketref01_Norm (e : Env) : Exec T k2_thicketref01_Norm e = Exec T j2_thicketref01_Norm (e.keep [0, 3, 4, 5, 31]) := Exec_tail _ _ _
@[simp] theorem tl3_thicketref01_Norm (e : Env) : Exec T k3_thicketref01_Norm e = Exec T j3_thicketref01_Norm (e.keep [4, 31]) := Exec_tail _ _ _
@[simp] theorem tl4_thicketref01_Norm (e : Env) : Exec T k4_thicketref01_Norm e = Exec T j4_thicketref01_Norm (e.keep [0, 3]) := Exec_tail _ _ _
theorem ex0_thicketref01_Norm (e : Env) : Exec T l0_thicketref01_Norm e = andThen (Exec T w0_thicketref01_Norm (e.keep [0, 3])) (Exec T l0_thicketref01_Norm) := Exec_loop _ _ _
theorem ex1_thicketref01_Norm (e : Env) : Exec T l1_thicketref01_Norm e = andThen (Exec T w1_thicketref01_Norm (e.keep [0, 3, 4, 5, 31])) (Exec T l1_thicketref01_Norm) := Exec_loop _ _ _
theorem run_thicketref01_Norm (xs : List PV) : Cinf T n_thicketref01_Norm xs = Run T a_thicketref01_Norm xs := Cinf_eq rfl fn_thicketref01_Norm
@[simp] theorem md_thicketref01_Norm : T.modes n_thicketref01_Norm = [] := rfl
@[simp] theorem call_thicketref01_Norm (C : Oracle) (e : Env) (xs : List PV) : call T C e n_thicketref01_Norm xs = callK1 C n_thicketref01_Norm xs (moves e [] [] xs) := call_modes md_thicketref01_Norm
theorem fn_thicketref01_From : T.fns n_thicketref01_From = some a_thicketref01_From := rfl
theorem run_thicketref01_From (xs : List PV) : Cinf T n_thicketref01_From xs = Run T a_thicketref01_From xs := Cinf_eq rfl fn_thicketref01_From
@[simp] theorem md_thicketref01_From : T.modes n_thicketref01_From = [] := rfl
@[simp] theorem call_thicketref01_From (C : Oracle) (e : Env) (xs : List PV) : call T C e n_thicketref01_From xs = callK1 C n_thicketref01_From xs (moves e [] [] xs) := call_modes md_thicketref01_From
theorem fn_thicketref01_Cmp : T.fns n_thicketref01_Cmp = some a_thicketref01_Cmp := rfl
@[simp] theorem tl0_thicketref01_Cmp (e : Env) : Exec T k0_thicketref01_Cmp e = Exec T j0_thicketref01_Cmp (e.keep []) := Exec_tail _ _ _
@[simp] theorem tl1_thicketref01_Cmp (e : Env) : Exec T k1_thicketref01_Cmp e = Exec T j1_thicketref01_Cmp (e.keep [5, 6, 7, 9, 11]) := Exec_tail _ _ _
@[simp] theorem tl2_thicketref01_Cmp (e : Env) : Exec T k2_thicketref01_Cmp e = Exec T j2_thicketref01_Cmp (e.keep [5, 6, 7, 9, 11]) := Exec_tail _ _ _
@[simp] theorem tl3_thicketref01_Cmp (e : Env) : Exec T k3_thicketref01_Cmp e = Exec T j3_thicketref01_Cmp (e.keep [5, 6, 7, 9, 11]) := Exec_tail _ _ _
@[simp] theorem tl4_thicketref01_Cmp (e : Env) : Exec T k4_thicketref01_Cmp e = Exec T j4_thicketref01_Cmp (e.keep []) := Exec_tail _ _ _
@[simp] theorem tl5_thicketref01_Cmp (e : Env) : Exec T k5_thicketref01_Cmp e = Exec T j5_thicketref01_Cmp (e.keep [5, 6, 9, 11]) := Exec_tail _ _ _
theorem ex0_thicketref01_Cmp (e : Env) : Exec T l0_thicketref01_Cmp e = andThen (Exec T w0_thicketref01_Cmp (e.keep [5, 6, 7, 9, 11])) (Exec T l0_thicketref01_Cmp) := Exec_loop _ _ _
theorem run_thicketref01_Cmp (xs : List PV) : Cinf T n_thicketref01_Cmp xs = Run T a_thicketref01_Cmp xs := Cinf_eq rfl fn_thicketref01_Cmp
@[simp] theorem md_thicketref01_Cmp : T.modes n_thicketref01_Cmp = [] := rfl
@[simp] theorem call_thicketref01_Cmp (C : Oracle) (e : Env) (xs : List PV) : call T C e n_thicketref01_Cmp xs = callK1 C n_thicketref01_Cmp xs (moves e [] [] xs) := call_modes md_thicketref01_Cmp
theorem fn_thicketref01_Bit : T.fns n_thicketref01_Bit = some a_thicketref01_Bit := rfl
theorem run_thicketref01_Bit (xs : List PV) : Cinf T n_thicketref01_Bit xs = Run T a_thicketref01_Bit xs := Cinf_eq rfl fn_thicketref01_Bit
@[simp] theorem md_thicketref01_Bit : T.modes n_thicketref01_Bit = [] := rfl
@[simp] theorem call_thicketref01_Bit (C : Oracle) (e : Env) (xs : List PV) : call T C e n_thicketref01_Bit xs = callK1 C n_thicketref01_Bit xs (moves e [] [] xs) := call_modes md_thicketref01_Bit
theorem fn_thicketref01_Sub : T.fns n_thicketref01_Sub = some a_thicketref01_Sub := rfl
@[simp] theorem tl0_thicketref01_Sub (e : Env) : Exec T k0_thicketref01_Sub e = Exec T j0_thicketref01_Sub (e.keep [6, 7, 8, 9, 11, 17, 19, 21, 22, 51]) := Exec_tail _ _ _
@[simp] theorem tl1_thicketref01_Sub (e : Env) : Exec T k1_thicketref01_Sub e = Exec T j1_thicketref01_Sub (e.keep [6, 7, 8, 11, 17, 19, 21, 22, 51]) := Exec_tail _ _ _
@[simp] theorem tl2_thicketref01_Sub (e : Env) : Exec T k2_thicketref01_Sub e = Exec T j2_thicketref01_Sub (e.keep [6, 7, 8, 9, 17, 19, 21, 22, 51]) := Exec_tail _ _ _
@[simp] theorem tl3_thicketref01_Sub (e : Env) : Exec T k3_thicketref01_Sub e = Exec T j3_thicketref01_Sub (e.keep [6, 7, 8, 9, 17, 19, 21, 22, 51]) := Exec_tail _ _ _
@[simp] theorem tl4_thicketref01_Sub (e : Env) : Exec T k4_thicketref01_Sub e = Exec T j4_thicketref01_Sub (e.keep [8, 51]) := Exec_tail _ _ _
@[simp] theorem tl5_thicketref01_Sub (e : Env) : Exec T k5_thicketref01_Sub e = Exec T j5_thicketref01_Sub (e.keep [0, 1]) := Exec_tail _ _ _
theorem ex0_thicketref01_Sub (e : Env) : Exec T l0_thicketref01_Sub e = andThen (Exec T w0_thicketref01_Sub (e.keep [6, 7, 8, 9, 17, 19, 21, 22, 51])) (Exec T l0_thicketref01_Sub) := Exec_loop _ _ _
theorem run_thicketref01_Sub (xs : List PV) : Cinf T n_thicketref01_Sub xs = Run T a_thicketref01_Sub xs := Cinf_eq rfl fn_thicketref01_Sub
@[simp] theorem md_thicketref01_Sub : T.modes n_thicketref01_Sub = [] := rfl
@[simp] theorem call_thicketref01_Sub (C : Oracle) (e : Env) (xs : List PV) : call T C e n_thicketref01_Sub xs = callK1 C n_thicketref01_Sub xs (moves e [] [] xs) := call_modes md_thicketref01_Sub
theorem fn_thicketref01_double : T.fns n_thicketref01_double = some a_thicketref01_double := rfl
@[simp] theorem tl0_thicketref01_double (e : Env) : Exec T k0_thicketref01_double e = Exec T j0_thicketref01_double (e.keep [0, 5, 6, 10, 11, 12, 22]) := Exec_tail _ _ _
@[simp] theorem tl1_thicketref01_double (e : Env) : Exec T k1_thicketref01_double e = Exec T j1_thicketref01_double (e.keep [0, 5, 6, 10, 11, 12, 22]) := Exec_tail _ _ _
@[simp] theorem tl2_thicketref01_double (e : Env) : Exec T k2_thicketref01_double e = Exec T j2_thicketref01_double (e.keep [5, 6, 22]) := Exec_tail _ _ _
@[simp] theorem tl3_thicketref01_double (e : Env) : Exec T k3_thicketref01_double e = Exec T j3_thicketref01_double (e.keep [0, 5, 6, 22]) := Exec_tail _ _ _
theorem ex0_thicketref01_double (e : Env) : Exec T l0_thicketref01_double e = andThen (Exec T w0_thicketref01_double (e.keep [0, 5, 6, 10, 11, 12, 22])) (Exec T l0_thicketref01_double) := Exec_loop _ _ _
theorem run_thicketref01_double (xs : List PV) : Cinf T n_thicketref01_double xs = Run T a_thicketref01_double xs := Cinf_eq rfl fn_thicketref01_double
@[simp] theorem md_thicketref01_double : T.modes n_thicketref01_double = [] := rfl
@[simp] theorem call_thicketref01_double (C : Oracle) (e : Env) (xs : List PV) : call T C e n_thicketref01_double xs = callK1 C n_thicketref01_double xs (moves e [] [] xs) := call_modes md_thicketref01_double
theorem fn_thicketref01_DivMod : T.fns n_thicketref01_DivMod = some a_thicketref01_DivMod := rfl
@[simp] theorem tl0_thicketref01_DivMod (e : Env) : Exec T k0_thicketref01_DivMod e = Exec T j0_thicketref01_DivMod (e.keep [7, 8, 9, 10, 11, 15, 17, 23]) := Exec_tail _ _ _
@[simp] theorem tl1_thicketref01_DivMod (e : Env) : Exec T k1_thicketref01_DivMod e = Exec T j1_thicketref01_DivMod (e.keep [7, 8, 9, 10, 11, 15, 17, 23]) := Exec_tail _ _ _
@[simp] theorem tl2_thicketref01_DivMod (e : Env) : Exec T k2_thicketref01_DivMod e = Exec T j2_thicketref01_DivMod (e.keep [9, 10, 23]) := Exec_tail _ _ _
@[simp] theorem tl3_thicketref01_DivMod (e : Env) : Exec T k3_thicketref01_DivMod e = Exec T j3_thicketref01_DivMod (e.keep [7, 8, 9, 12, 13, 15, 17, 23, 74, 79, 82, 83]) := Exec_tail _ _ _
@[simp] theorem tl4_thicketref01_DivMod (e : Env) : Exec T k4_thicketref01_DivMod e = Exec T j4_thicketref01_DivMod (e.keep [7, 8, 9, 12, 13, 15, 17, 23, 74, 79, 82, 83]) := Exec_tail _ _ _
@[simp] theorem tl5_thicketref01_DivMod (e : Env) : Exec T k5_thicketref01_DivMod e = Exec T j5_thicketref01_DivMod (e.keep [9, 12, 23, 74, 79, 82, 83]) := Exec_tail _ _ _
@[simp] theorem tl6_thicketref01_DivMod (e : Env) : Exec T k6_thicketref01_DivMod e = Exec T j6_thicketref01_DivMod (e.keep [7, 8, 9, 15, 17, 23]) := Exec_tail _ _ _
@[simp] theorem tl7_thicketref01_DivMod (e : Env) : Exec T k7_thicketref01_DivMod e = Exec T j7_thicketref01_DivMod (e.keep [7, 8, 15, 17]) := Exec_tail _ _ _
theorem ex0_thicketref01_DivMod (e : Env) : Exec T l0_thicketref01_DivMod e = andThen (Exec T w0_thicketref01_DivMod (e.keep [7, 8, 9, 10, 11, 15, 17, 23])) (Exec T l0_thicketref01_DivMod) := Exec_loop _ _ _
theorem ex1_thicketref01_DivMod (e : Env) : Exec T l1_thicketref01_DivMod e = andThen (Exec T w1_thicketref01_DivMod (e.keep [7, 8, 9, 12, 13, 15, 17, 23, 74, 79, 82, 83])) (Exec T l1_thicketref01_DivMod) := Exec_loop _ _ _
theorem run_thicketref01_DivMod (xs : List PV) : Cinf T n_thicketref01_DivMod xs = Run T a_thicketref01_DivMod xs := Cinf_eq rfl fn_thicketref01_DivMod
@[simp] theorem md_thicketref01_DivMod : T.modes n_thicketref01_DivMod = [] := rfl
@[simp] theorem call_thicketref01_DivMod (C : Oracle) (e : Env) (xs : List PV) : call T C e n_thicketref01_DivMod xs = callK1 C n_thicketref01_DivMod xs (moves e [] [] xs) := call_modes md_thicketref01_DivMod
theorem fn_thicketref01_Small : T.fns n_thicketref01_Small = some a_thicketref01_Small := rfl
@[simp] theorem tl0_thicketref01_Small (e : Env) : Exec T k0_thicketref01_Small e = Exec T j0_thicketref01_Small (e.keep [4, 5, 6, 8]) := Exec_tail _ _ _
@[simp] theorem tl1_thicketref01_Small (e : Env) : Exec T k1_thicketref01_Small e = Exec T j1_thicketref01_Small (e.keep [4, 5, 6, 8]) := Exec_tail _ _ _
@[simp] theorem tl2_thicketref01_Small (e : Env) : Exec T k2_thicketref01_Small e = Exec T j2_thicketref01_Small (e.keep [5]) := Exec_tail _ _ _
@[simp] theorem tl3_thicketref01_Small (e : Env) : Exec T k3_thicketref01_Small e = Exec T j3_thicketref01_Small (e.keep [4, 8]) := Exec_tail _ _ _
theorem ex0_thicketref01_Small (e : Env) : Exec T l0_thicketref01_Small e = andThen (Exec T w0_thicketref01_Small (e.keep [4, 5, 6, 8])) (Exec T l0_thicketref01_Small) := Exec_loop _ _ _
theorem run_thicketref01_Small (xs : List PV) : Cinf T n_thicketref01_Small xs = Run T a_thicketref01_Small xs := Cinf_eq rfl fn_thicketref01_Small
@[simp] theorem md_thicketref01_Small : T.modes n_thicketref01_Small = [] := rfl
@[simp] theorem call_thicketref01_Small (C : Oracle) (e : Env) (xs : List PV) : call T C e n_thicketref01_Small xs = callK1 C n_thicketref01_Small xs (moves e [] [] xs) := call_modes md_thicketref01_Small
theorem fn_thicketref01_Print : T.fns n_thicketref01_Print = some a_thicketref01_Print := rfl
@[simp] theorem tl0_thicketref01_Print (e : Env) : Exec T k0_thicketref01_Print e = Exec T j0_thicketref01_Print (e.keep [3, 4, 5, 8, 10, 14, 21, 24, 25, 33, 53]) := Exec_tail _ _ _
@[simp] theorem tl1_thicketref01_Print (e : Env) : Exec T k1_thicketref01_Print e = Exec T j1_thicketref01_Print (e.keep [3, 4, 5, 8, 10, 14, 21, 24, 25, 33, 53]) := Exec_tail _ _ _
@[simp] theorem tl2_thicketref01_Print (e : Env) : Exec T k2_thicketref01_Print e = Exec T j2_thicketref01_Print (e.keep [3, 4, 5, 14, 21, 24, 25, 33, 53]) := Exec_tail _ _ _
@[simp] theorem tl3_thicketref01_Print (e : Env) : Exec T k3_thicketref01_Print e = Exec T j3_thicketref01_Print (e.keep [4, 11, 12, 53, 69]) := Exec_tail _ _ _
@[simp] theorem tl4_thicketref01_Print (e : Env) : Exec T k4_thicketref01_Print e = Exec T j4_thicketref01_Print (e.keep [4, 11, 12, 53, 69]) := Exec_tail _ _ _
@[simp] theorem tl5_thicketref01_Print (e : Env) : Exec T k5_thicketref01_Print e = Exec T j5_thicketref01_Print (e.keep [11, 69]) := Exec_tail _ _ _
@[simp] theorem tl6_thicketref01_Print (e : Env) : Exec T k6_thicketref01_Print e = Exec T j6_thicketref01_Print (e.keep [4, 53]) := Exec_tail _ _ _
@[simp] theorem tl7_thicketref01_Print (e : Env) : Exec T k7_thicketref01_Print e = Exec T j7_thicketref01_Print (e.keep [3, 5, 14, 21, 24, 25, 33]) := Exec_tail _ _ _
theorem ex1_thicketref01_Print (e : Env) : Exec T l1_thicketref01_Print e = andThen (Exec T w1_thicketref01_Print (e.keep [3, 4, 5, 8, 10, 14, 21, 24, 25, 33, 53])) (Exec T l1_thicketref01_Print) := Exec_loop _ _ _
theorem ex0_thicketref01_Print (e : Env) : Exec T l0_thicketref01_Print e = andThen (Exec T w0_thicketref01_Print (e.keep [3, 4, 5, 14, 21, 24, 25, 33, 53])) (Exec T l0_thicketref01_Print) := Exec_loop _ _ _
theorem ex2_thicketref01_Print (e : Env) : Exec T l2_thicketref01_Print e = andThen (Exec T w2_thicketref01_Print (e.keep [4, 11, 12, 53, 69])) (Exec T l2_thicketref01_Print) := Exec_loop _ _ _
theorem run_thicketref01_Print (xs : List PV) : Cinf T n_thicketref01_Print xs = Run T a_thicketref01_Print xs := Cinf_eq rfl fn_thicketref01_Print
@[simp] theorem md_thicketref01_Print : T.modes n_thicketref01_Print = [] := rfl
@[simp] theorem call_thicketref01_Print (C : Oracle) (e : Env) (xs : List PV) : call T C e n_thicketref01_Print xs = callK1 C n_thicketref01_Print xs (moves e [] [] xs) := call_modes md_thicketref01_Print
theorem fn_thicketref01_Gcd : T.fns n_thicketref01_Gcd = some a_thicketref01_Gcd := rfl
@[simp] theorem tl0_thicketref01_Gcd (e : Env) : Exec T k0_thicketref01_Gcd e = Exec T j0_thicketref01_Gcd (e.keep [5, 6, 8, 11, 13, 17, 20, 22, 24, 25]) := Exec_tail _ _ _
@[simp] theorem tl1_thicketref01_Gcd (e : Env) : Exec T k1_thicketref01_Gcd e = Exec T j1_thicketref01_Gcd (e.keep [5, 6, 8, 11, 13, 17, 20, 22, 24, 25]) := Exec_tail _ _ _
theorem ex0_thicketref01_Gcd (e : Env) : Exec T l0_thicketref01_Gcd e = andThen (Exec T w0_thicketref01_Gcd (e.keep [5, 6, 8, 11, 13, 17, 20, 22, 24, 25])) (Exec T l0_thicketref01_Gcd) := Exec_loop _ _ _
theorem run_thicketref01_Gcd (xs : List PV) : Cinf T n_thicketref01_Gcd xs = Run T a_thicketref01_Gcd xs := Cinf_eq rfl fn_thicketref01_Gcd
@[simp] theorem md_thicketref01_Gcd : T.modes n_thicketref01_Gcd = [] := rfl
@[simp] theorem call_thicketref01_Gcd (C : Oracle) (e : Env) (xs : List PV) : call T C e n_thicketref01_Gcd xs = callK1 C n_thicketref01_Gcd xs (moves e [] [] xs) := call_modes md_thicketref01_Gcd
theorem fn_thicketref01_Len : T.fns n_thicketref01_Len = some a_thicketref01_Len := rfl
@[simp] theorem tl0_thicketref01_Len (e : Env) : Exec T k0_thicketref01_Len e = Exec T j0_thicketref01_Len (e.keep [4, 5]) := Exec_tail _ _ _
@[simp] theorem tl1_thicketref01_Len (e : Env) : Exec T k1_thicketref01_Len e = Exec T j1_thicketref01_Len (e.keep [4, 5]) := Exec_tail _ _ _
@[simp] theorem tl2_thicketref01_Len (e : Env) : Exec T k2_thicketref01_Len e = Exec T j2_thicketref01_Len (e.keep [4]) := Exec_tail _ _ _
@[simp] theorem tl3_thicketref01_Len (e : Env) : Exec T k3_thicketref01_Len e = Exec T j3_thicketref01_Len (e.keep [3, 7]) := Exec_tail _ _ _
theorem ex0_thicketref01_Len (e : Env) : Exec T l0_thicketref01_Len e = andThen (Exec T w0_thicketref01_Len (e.keep [4, 5])) (Exec T l0_thicketref01_Len) := Exec_loop _ _ _
theorem run_thicketref01_Len (xs : List PV) : Cinf T n_thicketref01_Len xs = Run T a_thicketref01_Len xs := Cinf_eq rfl fn_thicketref01_Len
@[simp] theorem md_thicketref01_Len : T.modes n_thicketref01_Len = [] := rfl
@[simp] theorem call_thicketref01_Len (C : Oracle) (e : Env) (xs : List PV) : call T C e n_thicketref01_Len xs = callK1 C n_thicketref01_Len xs (moves e [] [] xs) := call_modes md_thicketref01_Len
theorem fn_thicketref01_Over : T.fns n_thicketref01_Over = some a_thicketref01_Over := rfl
@[simp] theorem tl0_thicketref01_Over (e : Env) : Exec T k0_thicketref01_Over e = Exec T j0_thicketref01_Over (e.keep [0, 1, 2, 6]) := Exec_tail _ _ _
@[simp] theorem tl1_thicketref01_Over (e : Env) : Exec T k1_thicketref01_Over e = Exec T j1_thicketref01_Over (e.keep [0, 1, 2, 6]) := Exec_tail _ _ _
theorem run_thicketref01_Over (xs : List PV) : Cinf T n_thicketref01_Over xs = Run T a_thicketref01_Over xs := Cinf_eq rfl fn_thicketref01_Over
@[simp] theorem md_thicketref01_Over : T.modes n_thicketref01_Over = [] := rfl
@[simp] theorem call_thicketref01_Over (C : Oracle) (e : Env) (xs : List PV) : call T C e n_thicketref01_Over xs = callK1 C n_thicketref01_Over xs (moves e [] [] xs) := call_modes md_thicketref01_Over
theorem fn_thicketref01_Write : T.fns n_thicketref01_Write = some a_thicketref01_Write := rfl
@[simp] theorem tl0_thicketref01_Write (e : Env) : Exec T k0_thicketref01_Write e = Exec T j0_thicketref01_Write (e.keep [6]) := Exec_tail _ _ _
@[simp] theorem tl1_thicketref01_Write (e : Env) : Exec T k1_thicketref01_Write e = Exec T j1_thicketref01_Write (e.keep [4, 6]) := Exec_tail _ _ _
@[simp] theorem tl2_thicketref01_Write (e : Env) : Exec T k2_thicketref01_Write e = Exec T j2_thicketref01_Write (e.keep [4]) := Exec_tail _ _ _
theorem run_thicketref01_Write (xs : List PV) : Cinf T n_thicketref01_Write xs = Run T a_thicketref01_Write xs := Cinf_eq rfl fn_thicketref01_Write
@[simp] theorem md_thicketref01_Write : T.modes n_thicketref01_Write = [] := rfl
@[simp] theorem call_thicketref01_Write (C : Oracle) (e : Env) (xs : List PV) : call T C e n_thicketref01_Write xs = callK1 C n_thicketref01_Write xs (moves e [] [] xs) := call_modes md_thicketref01_Write
theorem fn_limbs_Bit : T.fns n_limbs_Bit = some a_limbs_Bit := rfl
theorem run_limbs_Bit (xs : List PV) : Cinf T n_limbs_Bit xs = Run T a_limbs_Bit xs := Cinf_eq rfl fn_limbs_Bit
@[simp] theorem md_limbs_Bit : T.modes n_limbs_Bit = [] := rfl
@[simp] theorem call_limbs_Bit (C : Oracle) (e : Env) (xs : List PV) : call T C e n_limbs_Bit xs = callK1 C n_limbs_Bit xs (moves e [] [] xs) := call_modes md_limbs_Bit
theorem fn_limbs_Mul : T.fns n_limbs_Mul = some a_limbs_Mul := rfl
@[simp] theorem tl0_limbs_Mul (e : Env) : Exec T k0_limbs_Mul e = Exec T j0_limbs_Mul (e.keep [0, 1, 5, 6, 7, 10, 12, 18, 20, 21, 25, 26]) := Exec_tail _ _ _
@[simp] theorem tl1_limbs_Mul (e : Env) : Exec T k1_limbs_Mul e = Exec T j1_limbs_Mul (e.keep [0, 1, 5, 6, 7, 10, 12, 18, 20, 21, 25, 26]) := Exec_tail _ _ _
@[simp] theorem tl2_limbs_Mul (e : Env) : Exec T k2_limbs_Mul e = Exec T j2_limbs_Mul (e.keep [0, 1, 5, 6, 7, 10, 12, 18, 20, 21]) := Exec_tail _ _ _
@[simp] theorem tl3_limbs_Mul (e : Env) : Exec T k3_limbs_Mul e = Exec T j3_limbs_Mul (e.keep [0, 1, 5, 10, 12, 18, 20, 21]) := Exec_tail _ _ _
@[simp] theorem tl4_limbs_Mul (e : Env) : Exec T k4_limbs_Mul e = Exec T j4_limbs_Mul (e.keep [0, 1, 5, 10, 12, 18, 20, 21]) := Exec_tail _ _ _
@[simp] theorem tl5_limbs_Mul (e : Env) : Exec T k5_limbs_Mul e = Exec T j5_limbs_Mul (e.keep [5, 18]) := Exec_tail _ _ _
theorem ex1_limbs_Mul (e : Env) : Exec T l1_limbs_Mul e = andThen (Exec T w1_limbs_Mul (e.keep [0, 1, 5, 6, 7, 10, 12, 18, 20, 21, 25, 26])) (Exec T l1_limbs_Mul) := Exec_loop _ _ _
theorem ex0_limbs_Mul (e : Env) : Exec T l0_limbs_Mul e = andThen (Exec T w0_limbs_Mul (e.keep [0, 1, 5, 10, 12, 18, 20, 21])) (Exec T l0_limbs_Mul) := Exec_loop _ _ _
theorem run_limbs_Mul (xs : List PV) : Cinf T n_limbs_Mul xs = Run T a_limbs_Mul xs := Cinf_eq rfl fn_limbs_Mul
@[simp] theorem md_limbs_Mul : T.modes n_limbs_Mul = [] := rfl
@[simp] theorem call_limbs_Mul (C : Oracle) (e : Env) (xs : List PV) : call T C e n_limbs_Mul xs = callK1 C n_limbs_Mul xs (moves e [] [] xs) := call_modes md_limbs_Mul
theorem fn_limbs_Decimal : T.fns n_limbs_Decimal = some a_limbs_Decimal := rfl
@[simp] theorem tl0_limbs_Decimal (e : Env) : Exec T k0_limbs_Decimal e = Exec T j0_limbs_Decimal (e.keep [1, 6, 8, 33, 34, 35, 38]) := Exec_tail _ _ _
@[simp] theorem tl1_limbs_Decimal (e : Env) : Exec T k1_limbs_Decimal e = Exec T j1_limbs_Decimal (e.keep [1, 6, 8, 33, 34, 35, 38]) := Exec_tail _ _ _
@[simp] theorem tl2_limbs_Decimal (e : Env) : Exec T k2_limbs_Decimal e = Exec T j2_limbs_Decimal (e.keep [13]) := Exec_tail _ _ _
@[simp] theorem tl3_limbs_Decimal (e : Env) : Exec T k3_limbs_Decimal e = Exec T j3_limbs_Decimal (e.keep [6, 9, 13, 40, 47, 48, 68]) := Exec_tail _ _ _
@[simp] theorem tl4_limbs_Decimal (e : Env) : Exec T k4_limbs_Decimal e = Exec T j4_limbs_Decimal (e.keep [1, 6, 9, 13, 40, 47, 48, 68]) := Exec_tail _ _ _
@[simp] theorem tl5_limbs_Decimal (e : Env) : Exec T k5_limbs_Decimal e = Exec T j5_limbs_Decimal (e.keep [1, 6, 9, 40, 47, 48, 68]) := Exec_tail _ _ _
@[simp] theorem tl6_limbs_Decimal (e : Env) : Exec T k6_limbs_Decimal e = Exec T j6_limbs_Decimal (e.keep [1, 6, 8, 33, 38]) := Exec_tail _ _ _
@[simp] theorem tl7_limbs_Decimal (e : Env) : Exec T k7_limbs_Decimal e = Exec T j7_limbs_Decimal (e.keep [1, 6]) := Exec_tail _ _ _
@[simp] theorem tl8_limbs_Decimal (e : Env) : Exec T k8_limbs_Decimal e = Exec T j8_limbs_Decimal (e.keep [1, 6]) := Exec_tail _ _ _
theorem ex0_limbs_Decimal (e : Env) : Exec T l0_limbs_Decimal e = andThen (Exec T w0_limbs_Decimal (e.keep [1, 6, 8, 33, 34, 35, 38])) (Exec T l0_limbs_Decimal) := Exec_loop _ _ _
theorem run_limbs_Decimal (xs : List PV) : Cinf T n_limbs_Decimal xs = Run T a_limbs_Decimal xs := Cinf_eq rfl fn_limbs_Decimal
@[simp] theorem md_limbs_Decimal : T.modes n_limbs_Decimal = [] := rfl
@[simp] theorem call_limbs_Decimal (C : Oracle) (e : Env) (xs : List PV) : call T C e n_limbs_Decimal xs = callK1 C n_limbs_Decimal xs (moves e [] [] xs) := call_modes md_limbs_Decimal
theorem fn_thicketref01_Add : T.fns n_thicketref01_Add = some a_thicketref01_Add := rfl
@[simp] theorem tl0_thicketref01_Add (e : Env) : Exec T k0_thicketref01_Add e = Exec T j0_thicketref01_Add (e.keep [0, 1, 5, 6, 7, 51]) := Exec_tail _ _ _
@[simp] theorem tl1_thicketref01_Add (e : Env) : Exec T k1_thicketref01_Add e = Exec T j1_thicketref01_Add (e.keep [0, 1, 5, 6, 7, 51]) := Exec_tail _ _ _
@[simp] theorem tl2_thicketref01_Add (e : Env) : Exec T k2_thicketref01_Add e = Exec T j2_thicketref01_Add (e.keep [0, 1, 5, 6, 7, 51]) := Exec_tail _ _ _
@[simp] theorem tl3_thicketref01_Add (e : Env) : Exec T k3_thicketref01_Add e = Exec T j3_thicketref01_Add (e.keep [0, 1, 5, 6, 7, 51]) := Exec_tail _ _ _
@[simp] theorem tl4_thicketref01_Add (e : Env) : Exec T k4_thicketref01_Add e = Exec T j4_thicketref01_Add (e.keep [5, 51]) := Exec_tail _ _ _
theorem ex0_thicketref01_Add (e : Env) : Exec T l0_thicketref01_Add e = andThen (Exec T w0_thicketref01_Add (e.keep [0, 1, 5, 6, 7, 51])) (Exec T l0_thicketref01_Add) := Exec_loop _ _ _
theorem run_thicketref01_Add (xs : List PV) : Cinf T n_thicketref01_Add xs = Run T a_thicketref01_Add xs := Cinf_eq rfl fn_thicketref01_Add
@[simp] theorem md_thicketref01_Add : T.modes n_thicketref01_Add = [] := rfl
@[simp] theorem call_thicketref01_Add (C : Oracle) (e : Env) (xs : List PV) : call T C e n_thicketref01_Add xs = callK1 C n_thicketref01_Add xs (moves e [] [] xs) := call_modes md_thicketref01_Add
theorem fn_thicketref01_Mul : T.fns n_thicketref01_Mul = some a_thicketref01_Mul := rfl
@[simp] theorem tl0_thicketref01_Mul (e : Env) : Exec T k0_thicketref01_Mul e = Exec T j0_thicketref01_Mul (e.keep [0, 1, 5, 6, 7, 9, 10, 17, 18, 19, 20]) := Exec_tail _ _ _
@[simp] theorem tl1_thicketref01_Mul (e : Env) : Exec T k1_thicketref01_Mul e = Exec T j1_thicketref01_Mul (e.keep [0, 1, 5, 6, 7, 8, 9, 17, 18, 19, 20]) := Exec_tail _ _ _
@[simp] theorem tl2_thicketref01_Mul (e : Env) : Exec T k2_thicketref01_Mul e = Exec T j2_thicketref01_Mul (e.keep [0, 1, 5, 6, 7, 8, 9, 17, 18, 19, 20]) := Exec_tail _ _ _
@[simp] theorem tl3_thicketref01_Mul (e : Env) : Exec T k3_thicketref01_Mul e = Exec T j3_thicketref01_Mul (e.keep [0, 1, 5, 17, 18, 19, 20]) := Exec_tail _ _ _
@[simp] theorem tl4_thicketref01_Mul (e : Env) : Exec T k4_thicketref01_Mul e = Exec T j4_thicketref01_Mul (e.keep [0, 1, 5, 17, 18, 19, 20]) := Exec_tail _ _ _
@[simp] theorem tl5_thicketref01_Mul (e : Env) : Exec T k5_thicketref01_Mul e = Exec T j5_thicketref01_Mul (e.keep [5, 17]) := Exec_tail _ _ _
theorem ex1_thicketref01_Mul (e : Env) : Exec T l1_thicketref01_Mul e = andThen (Exec T w1_thicketref01_Mul (e.keep [0, 1, 5, 6, 7, 8, 9, 17, 18, 19, 20])) (Exec T l1_thicketref01_Mul) := Exec_loop _ _ _
theorem ex0_thicketref01_Mul (e : Env) : Exec T l0_thicketref01_Mul e = andThen (Exec T w0_thicketref01_Mul (e.keep [0, 1, 5, 17, 18, 19, 20])) (Exec T l0_thicketref01_Mul) := Exec_loop _ _ _
theorem run_thicketref01_Mul (xs : List PV) : Cinf T n_thicketref01_Mul xs = Run T a_thicketref01_Mul xs := Cinf_eq rfl fn_thicketref01_Mul
@[simp] theorem md_thicketref01_Mul : T.modes n_thicketref01_Mul = [] := rfl
@[simp] theorem call_thicketref01_Mul (C : Oracle) (e : Env) (xs : List PV) : call T C e n_thicketref01_Mul xs = callK1 C n_thicketref01_Mul xs (moves e [] [] xs) := call_modes md_thicketref01_Mul
theorem fn_thicketref01_Decimal : T.fns n_thicketref01_Decimal = some a_thicketref01_Decimal := rfl
@[simp] theorem tl0_thicketref01_Decimal (e : Env) : Exec T k0_thicketref01_Decimal e = Exec T j0_thicketref01_Decimal (e.keep [1, 2, 6, 7, 23, 31]) := Exec_tail _ _ _
@[simp] theorem tl1_thicketref01_Decimal (e : Env) : Exec T k1_thicketref01_Decimal e = Exec T j1_thicketref01_Decimal (e.keep [1, 2, 6, 7, 23, 31]) := Exec_tail _ _ _
@[simp] theorem tl2_thicketref01_Decimal (e : Env) : Exec T k2_thicketref01_Decimal e = Exec T j2_thicketref01_Decimal (e.keep [1, 2, 8, 12, 32, 39, 40, 61]) := Exec_tail _ _ _
@[simp] theorem tl3_thicketref01_Decimal (e : Env) : Exec T k3_thicketref01_Decimal e = Exec T j3_thicketref01_Decimal (e.keep [12]) := Exec_tail _ _ _
@[simp] theorem tl4_thicketref01_Decimal (e : Env) : Exec T k4_thicketref01_Decimal e = Exec T j4_thicketref01_Decimal (e.keep [2, 8, 12, 32, 39, 40, 61]) := Exec_tail _ _ _
@[simp] theorem tl5_thicketref01_Decimal (e : Env) : Exec T k5_thicketref01_Decimal e = Exec T j5_thicketref01_Decimal (e.keep [1, 2, 8, 12, 32, 39, 40, 61]) := Exec_tail _ _ _
@[simp] theorem tl6_thicketref01_Decimal (e : Env) : Exec T k6_thicketref01_Decimal e = Exec T j6_thicketref01_Decimal (e.keep [1, 2, 8, 32, 39, 40, 61]) := Exec_tail _ _ _
@[simp] theorem tl7_thicketref01_Decimal (e : Env) : Exec T k7_thicketref01_Decimal e = Exec T j7_thicketref01_Decimal (e.keep [1, 2, 6, 23, 31]) := Exec_tail _ _ _
@[simp] theorem tl8_thicketref01_Decimal (e : Env) : Exec T k8_thicketref01_Decimal e = Exec T j8_thicketref01_Decimal (e.keep [1, 2]) := Exec_tail _ _ _
@[simp] theorem tl9_thicketref01_Decimal (e : Env) : Exec T k9_thicketref01_Decimal e = Exec T j9_thicketref01_Decimal (e.keep [1, 2]) := Exec_tail _ _ _
theorem ex0_thicketref01_Decimal (e : Env) : Exec T l0_thicketref01_Decimal e = andThen (Exec T w0_thicketref01_Decimal (e.keep [1, 2, 6, 7, 23, 31])) (Exec T l0_thicketref01_Decimal) := Exec_loop _ _ _
theorem ex1_thicketref01_Decimal (e : Env) : Exec T l1_thicketref01_Decimal e = andThen (Exec T w1_thicketref01_Decimal (e.keep [1, 2, 8, 12, 32, 39, 40, 61])) (Exec T l1_thicketref01_Decimal) := Exec_loop _ _ _
theorem run_thicketref01_Decimal (xs : List PV) : Cinf T n_thicketref01_Decimal xs = Run T a_thicketref01_Decimal xs := Cinf_eq rfl fn_thicketref01_Decimal
@[simp] theorem md_thicketref01_Decimal : T.modes n_thicketref01_Decimal = [] := rfl
@[simp] theorem call_thicketref01_Decimal (C : Oracle) (e : Env) (xs : List PV) : call T C e n_thicketref01_Decimal xs = callK1 C n_thicketref01_Decimal xs (moves e [] [] xs) := call_modes md_thicketref01_Decimal
theorem fn_thicketlaw01_LimbsWrites : T.fns n_thicketlaw01_LimbsWrites = some a_thicketlaw01_LimbsWrites := rfl
theorem run_thicketlaw01_LimbsWrites (xs : List PV) : Cinf T n_thicketlaw01_LimbsWrites xs = Run T a_thicketlaw01_LimbsWrites xs := Cinf_eq rfl fn_thicketlaw01_LimbsWrites
@[simp] theorem md_thicketlaw01_LimbsWrites : T.modes n_thicketlaw01_LimbsWrites = [] := rfl
@[simp] theorem call_thicketlaw01_LimbsWrites (C : Oracle) (e : Env) (xs : List PV) : call T C e n_thicketlaw01_LimbsWrites xs = callK1 C n_thicketlaw01_LimbsWrites xs (moves e [] [] xs) := call_modes md_thicketlaw01_LimbsWrites
theorem x_strings_Builder_WriteString (xs : List PV) {r : PV × List PV} (h : xWriteString 72 5 xs = some r) : Cinf T n_strings_Builder_WriteString xs = some r := Cinf_iff.2 ⟨1, by show (match xWriteString 72 5 xs with | some r => some r | none => _) = some r; rw [h]⟩
@[simp] theorem md_strings_Builder_WriteString : T.modes n_strings_Builder_WriteString = [true, false] := rfl
@[simp] theorem call_strings_Builder_WriteString (C : Oracle) (e : Env) (xs : List PV) : call T C e n_strings_Builder_WriteString xs = callK1 C n_strings_Builder_WriteString xs (moves e [] [true, false] xs) := call_modes md_strings_Builder_WriteString
theorem x_strings_Builder_String (xs : List PV) {r : PV × List PV} (h : xString 72 5 xs = some r) : Cinf T n_strings_Builder_String xs = some r := Cinf_iff.2 ⟨1, by show (match xString 72 5 xs with | some r => some r | none => _) = some r; rw [h]⟩
@[simp] theorem md_strings_Builder_String : T.modes n_strings_Builder_String = [true] := rfl
@[simp] theorem call_strings_Builder_String (C : Oracle) (e : Env) (xs : List PV) : call T C e n_strings_Builder_String xs = callK1 C n_strings_Builder_String xs (moves e [] [true] xs) := call_modes md_strings_Builder_String
theorem x_strings_Repeat (xs : List PV) {r : PV × List PV} (h : xRepeat xs = some r) : Cinf T n_strings_Repeat xs = some r := Cinf_iff.2 ⟨1, by show (match xRepeat xs with | some r => some r | none => _) = some r; rw [h]⟩
@[simp] theorem md_strings_Repeat : T.modes n_strings_Repeat = [false, false] := rfl
@[simp] theorem call_strings_Repeat (C : Oracle) (e : Env) (xs : List PV) : call T C e n_strings_Repeat xs = callK1 C n_strings_Repeat xs (moves e [] [false, false] xs) := call_modes md_strings_Repeat
end Go.AM.F
