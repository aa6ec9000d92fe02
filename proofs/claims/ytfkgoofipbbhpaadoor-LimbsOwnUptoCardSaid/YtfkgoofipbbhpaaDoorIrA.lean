/- The functions of the program in the abstract machine's form, printed by a program of the session's own (ir.py); Lean checks them against the program. No conditions. -/
import Derived.Test.YtfkgoofipbbhpaaDoorAmBld
namespace Go.AM.F
open Go Go.AM
set_option maxRecDepth 100000

abbrev n_thicketlaw01_LimbsReads : FuncId := 3
abbrev n_thicketlaw01_LimbsParts : FuncId := 4
abbrev n_thicketlaw01_LimbsForms : FuncId := 5
abbrev n_thicketlaw01_LimbsSums : FuncId := 6
abbrev n_thicketlaw01_LimbsLaws : FuncId := 7
abbrev n_thicketlaw01_LimbsPowers : FuncId := 8
abbrev n_thicketlaw01_LimbsOwn : FuncId := 9
abbrev n_thicketlaw01_LimbsRatios : FuncId := 10
abbrev n_thicketlaw01_LimbsField : FuncId := 11
abbrev n_thicketlaw01_LimbsWrites : FuncId := 12
abbrev n_limbs_Read : FuncId := 13
abbrev n_thicketref01_Read : FuncId := 14
abbrev n_thicketlaw01_lives : FuncId := 15
abbrev n_thicketref01_Same : FuncId := 16
abbrev n_limbs_Print : FuncId := 17
abbrev n_thicketref01_Print : FuncId := 18
abbrev n_limbs_DivMod : FuncId := 19
abbrev n_thicketref01_DivMod : FuncId := 20
abbrev n_limbs_Gcd : FuncId := 21
abbrev n_thicketref01_Gcd : FuncId := 22
abbrev n_limbs_Small : FuncId := 23
abbrev n_thicketref01_Small : FuncId := 24
abbrev n_limbs_Norm : FuncId := 25
abbrev n_thicketref01_Norm : FuncId := 26
abbrev n_limbs_From : FuncId := 27
abbrev n_thicketref01_From : FuncId := 28
abbrev n_limbs_Cmp : FuncId := 29
abbrev n_thicketref01_Cmp : FuncId := 30
abbrev n_limbs_Len : FuncId := 31
abbrev n_thicketref01_Len : FuncId := 32
abbrev n_limbs_Bit : FuncId := 33
abbrev n_thicketref01_Bit : FuncId := 34
abbrev n_limbs_Sub : FuncId := 35
abbrev n_thicketref01_Sub : FuncId := 36
abbrev n_limbs_Add : FuncId := 37
abbrev n_thicketref01_Add : FuncId := 38
abbrev n_limbs_Mul : FuncId := 39
abbrev n_thicketref01_Mul : FuncId := 40
abbrev n_limbs_Pow : FuncId := 41
abbrev n_thicketref01_Pow : FuncId := 42
abbrev n_limbs_Up : FuncId := 43
abbrev n_thicketref01_Up : FuncId := 44
abbrev n_limbs_Down : FuncId := 45
abbrev n_thicketref01_Down : FuncId := 46
abbrev n_thicketlaw01_copied : FuncId := 47
abbrev n_thicketlaw01_ratio : FuncId := 48
abbrev n_limbs_Over : FuncId := 49
abbrev n_thicketref01_Over : FuncId := 50
abbrev n_thicketref01_Alike : FuncId := 51
abbrev n_limbs_Whole : FuncId := 52
abbrev n_thicketref01_Whole : FuncId := 53
abbrev n_limbs_Plus : FuncId := 54
abbrev n_limbs_Minus : FuncId := 55
abbrev n_limbs_Times : FuncId := 56
abbrev n_limbs_By : FuncId := 57
abbrev n_thicketref01_Plus : FuncId := 58
abbrev n_thicketref01_Minus : FuncId := 59
abbrev n_thicketref01_Times : FuncId := 60
abbrev n_thicketref01_By : FuncId := 61
abbrev n_limbs_Order : FuncId := 62
abbrev n_thicketref01_Order : FuncId := 63
abbrev n_limbs_Write : FuncId := 64
abbrev n_thicketref01_Write : FuncId := 65
abbrev n_limbs_Decimal : FuncId := 66
abbrev n_thicketref01_Decimal : FuncId := 67
abbrev n_limbs_grow : FuncId := 68
abbrev n_limbs_trim : FuncId := 69
abbrev n_strings_Builder_WriteString : FuncId := 70
abbrev n_strings_TrimLeft : FuncId := 71
abbrev n_strings_Builder_String : FuncId := 72
abbrev n_bits_LeadingZeros32 : FuncId := 73
abbrev n_limbs_up : FuncId := 74
abbrev n_limbs_long : FuncId := 75
abbrev n_limbs_down : FuncId := 76
abbrev n_thicketref01_double : FuncId := 77
abbrev n_limbs_low : FuncId := 78
abbrev n_limbs_high : FuncId := 79
abbrev n_bits_Len32 : FuncId := 80
abbrev n_limbs_sub : FuncId := 81
abbrev n_limbs_right : FuncId := 82
abbrev n_limbs_both : FuncId := 83
abbrev n_strings_Repeat : FuncId := 84
abbrev n_strings_trimLeftByte : FuncId := 86
abbrev n_strings_makeASCIISet : FuncId := 87
abbrev n_strings_trimLeftASCII : FuncId := 88
abbrev n_strings_trimLeftUnicode : FuncId := 89
abbrev n_bits_Sub32 : FuncId := 90
abbrev n_bits_Add32 : FuncId := 91
def b_limbs_low : IR :=
 (.seq (.reg 0 [⟨some 2, .assign (.c (Value.int IntKind.u32 0)), none, [2]⟩] none [0])
 (.seq (.reg 1 [⟨some 3, .move (.t 0), none, [0]⟩,
  ⟨some 4, .bin .and 33 (.t 3) (.c (Value.int IntKind.u64 4294967295)) 33, none, [3]⟩,
  ⟨some 5, .conv 33 49 (.int .u32) (.t 4), none, [4]⟩,
  ⟨some 2, .assign (.t 5), none, [5]⟩] none [2])
 .ret))
def a_limbs_low : AFunc := ⟨6, [.tmp 2], b_limbs_low⟩

def b_limbs_high : IR :=
 (.seq (.reg 0 [⟨some 2, .assign (.c (Value.int IntKind.u64 0)), none, [2]⟩] none [0])
 (.seq (.reg 1 [⟨some 3, .move (.t 0), none, [0]⟩,
  ⟨some 4, .bin .shr 33 (.t 3) (.c (Value.int IntKind.u64 32)) 68, none, [3]⟩,
  ⟨some 2, .assign (.t 4), none, [4]⟩] none [2])
 .ret))
def a_limbs_high : AFunc := ⟨5, [.tmp 2], b_limbs_high⟩

def j0_limbs_grow : IR :=
 (.reg 8 [⟨some 33, .bin .add 3 (.t 13) (.c (Value.int IntKind.i64 1)) 3, none, []⟩,
  ⟨some 13, .move (.t 33), none, [33]⟩] none [0, 1, 7, 12, 13, 40, 100000])
def k0_limbs_grow : IR := .tail [0, 1, 7, 12, 13, 40, 100000] j0_limbs_grow
def j1_limbs_grow : IR :=
 (.seq (.block 1 (.seq (.reg 4 [⟨some 15, .move (.t 13), none, []⟩,
  ⟨some 8, .assign (.t 15), none, [15]⟩] none [0, 1, 7, 8, 12, 13, 40, 100000])
 (.seq (.reg 5 [⟨some 16, .move (.t 7), none, []⟩,
  ⟨some 17, .move (.t 0), none, []⟩,
  ⟨some 18, .move (.t 8), none, []⟩,
  ⟨some 19, .iaddr 22 (.sl 1) (.t 17) (.t 18), none, []⟩,
  ⟨some 20, .load 49 none (.t 19), none, [17, 18, 19]⟩,
  ⟨some 21, .conv 49 33 (.int .u64) (.t 20), none, [20]⟩,
  ⟨some 22, .move (.t 1), none, []⟩,
  ⟨some 23, .conv 49 33 (.int .u64) (.t 22), none, [22]⟩,
  ⟨some 24, .bin .mul 33 (.t 21) (.t 23) 33, none, [21, 23]⟩,
  ⟨some 25, .bin .add 33 (.t 16) (.t 24) 33, none, [16, 24]⟩,
  ⟨some 7, .assign (.t 25), none, [25]⟩] none [0, 1, 7, 8, 12, 13, 40, 100000])
 (.seq (.reg 6 [⟨some 26, .move (.t 0), none, []⟩,
  ⟨some 27, .move (.t 8), none, [8]⟩,
  ⟨some 28, .move (.t 7), none, []⟩,
  ⟨some 29, .call n_limbs_low [(.t 28)] [33], none, [28]⟩,
  ⟨some 30, .iaddr 22 (.sl 1) (.t 26) (.t 27), none, []⟩,
  ⟨none, .store 49 none (.t 30) (.t 29), none, [26, 27, 29, 30]⟩] none [0, 1, 7, 12, 13, 40, 100000])
 (.reg 7 [⟨some 31, .move (.t 7), none, []⟩,
  ⟨some 32, .call n_limbs_high [(.t 31)] [33], none, [31]⟩,
  ⟨some 7, .assign (.t 32), none, [32]⟩] none [0, 1, 7, 12, 13, 40, 100000])))))
 k0_limbs_grow)
def k1_limbs_grow : IR := .tail [0, 1, 7, 12, 13, 40, 100000] j1_limbs_grow
def w0_limbs_grow : IR :=
 (.seq (.reg 3 [⟨some 14, .bin .lss 3 (.t 13) (.t 12) 3, none, []⟩] none [0, 1, 7, 12, 13, 14, 40, 100000])
 (.seq (.cond [0, 1, 7, 12, 13, 40, 100000] (.t 14) .skip (.exit 0))
 k1_limbs_grow))
def l0_limbs_grow : IR := .loop [0, 1, 7, 12, 13, 40, 100000] w0_limbs_grow
def j2_limbs_grow : IR :=
 (.seq (.reg 11 [⟨some 41, .move (.t 0), none, []⟩,
  ⟨some 6, .assign (.t 41), none, []⟩] none [0, 6, 40, 41, 100000])
 .ret)
def k2_limbs_grow : IR := .tail [0, 40, 100000] j2_limbs_grow
def j3_limbs_grow : IR :=
 (.seq (.seq (.reg 9 [⟨some 34, .move (.t 7), none, []⟩,
  ⟨some 35, .bin .gtr 33 (.t 34) (.c (Value.int IntKind.u64 0)) 33, none, [34]⟩] none [0, 7, 35, 40, 100000])
 (.cond [0, 7, 40, 100000] (.t 35) (.reg 10 [⟨some 36, .move (.t 0), none, []⟩,
  ⟨some 37, .move (.t 7), none, [7]⟩,
  ⟨some 38, .conv 33 49 (.int .u32) (.t 37), none, [37]⟩,
  ⟨some 39, .lit 22 1 [(.t 38)], none, [38]⟩,
  ⟨some 40, .append 22 22 false 1 4 (.t 36) (.t 39), none, [36, 39]⟩,
  ⟨some 0, .assign (.t 40), none, []⟩] none [0, 40, 100000]) .skip))
 k2_limbs_grow)
def k3_limbs_grow : IR := .tail [0, 7, 40, 100000] j3_limbs_grow
def b_limbs_grow : IR :=
 (.seq (.reg 0 [⟨some 6, .assign (.nilS 1), none, [6]⟩] none [0, 1, 2, 40, 100000])
 (.seq (.reg 1 [⟨some 9, .move (.t 2), none, [2]⟩,
  ⟨some 10, .conv 49 33 (.int .u64) (.t 9), none, [9]⟩,
  ⟨some 7, .assign (.t 10), none, [10]⟩] none [0, 1, 7, 40, 100000])
 (.seq (.seq (.reg 2 [⟨some 11, .move (.t 0), none, []⟩,
  ⟨some 12, .len 22 false (.t 11), none, [11]⟩,
  ⟨some 13, .move (.c (Value.int IntKind.i64 0)), none, []⟩] none [0, 1, 7, 12, 13, 40, 100000])
 (.block 0 l0_limbs_grow))
 k3_limbs_grow)))
def a_limbs_grow : AFunc := ⟨42, [.tmp 6], b_limbs_grow⟩

def j0_limbs_trim : IR :=
 (.block 1 (.reg 3 [⟨some 16, .move (.t 3), none, []⟩,
  ⟨some 17, .bin .sub 3 (.t 16) (.c (Value.int IntKind.i64 1)) 3, none, [16]⟩,
  ⟨some 3, .assign (.t 17), none, [17]⟩] none [0, 3, 100000]))
def k0_limbs_trim : IR := .tail [0, 3, 100000] j0_limbs_trim
def w0_limbs_trim : IR :=
 (.seq (.seq (.reg 2 [⟨some 6, .move (.t 3), none, []⟩,
  ⟨some 7, .bin .gtr 3 (.t 6) (.c (Value.int IntKind.i64 0)) 3, none, [6]⟩,
  ⟨some 8, .move (.t 7), none, [7]⟩,
  ⟨some 9, .move (.t 0), some (2, true), []⟩,
  ⟨some 10, .move (.t 3), some (2, true), []⟩,
  ⟨some 11, .bin .sub 3 (.t 10) (.c (Value.int IntKind.i64 1)) 3, some (2, true), [10]⟩,
  ⟨some 12, .iaddr 22 (.sl 1) (.t 9) (.t 11), some (2, true), []⟩,
  ⟨some 13, .load 49 none (.t 12), some (2, true), [9, 11, 12]⟩,
  ⟨some 14, .bin .eql 49 (.t 13) (.c (Value.int IntKind.u32 0)) 49, some (2, true), [13]⟩,
  ⟨some 15, .pick (.t 8) (.t 14) (.c (Value.bool false)), none, [8, 14]⟩] none [0, 3, 15, 100000])
 (.cond [0, 3, 100000] (.t 15) .skip (.exit 0)))
 k0_limbs_trim)
def l0_limbs_trim : IR := .loop [0, 3, 100000] w0_limbs_trim
def j1_limbs_trim : IR :=
 (.seq (.reg 4 [⟨some 18, .move (.t 0), none, []⟩,
  ⟨some 19, .move (.t 3), none, []⟩,
  ⟨some 20, .move (.t 3), none, [3]⟩,
  ⟨some 21, .slice 22 (.sl 1) (.t 18) none (some (.t 19)) (some (.t 20)), none, []⟩,
  ⟨some 2, .assign (.t 21), none, []⟩] none [0, 2, 18, 19, 20, 21, 100000])
 .ret)
def k1_limbs_trim : IR := .tail [0, 3, 100000] j1_limbs_trim
def b_limbs_trim : IR :=
 (.seq (.reg 0 [⟨some 2, .assign (.nilS 1), none, [2]⟩] none [0, 100000])
 (.seq (.reg 1 [⟨some 4, .move (.t 0), none, []⟩,
  ⟨some 5, .len 22 false (.t 4), none, [4]⟩,
  ⟨some 3, .assign (.t 5), none, [5]⟩] none [0, 3, 100000])
 (.seq (.block 0 l0_limbs_trim)
 k1_limbs_trim)))
def a_limbs_trim : AFunc := ⟨22, [.tmp 2], b_limbs_trim⟩

def j0_limbs_Read : IR :=
 (.reg 6 [⟨some 27, .bin .add 3 (.t 13) (.c (Value.int IntKind.i64 1)) 3, none, []⟩,
  ⟨some 13, .move (.t 27), none, [27]⟩] none [0, 12, 13])
def k0_limbs_Read : IR := .tail [0, 12, 13] j0_limbs_Read
def j1_limbs_Read : IR :=
 (.seq (.block 1 (.seq (.reg 3 [⟨some 15, .move (.t 13), none, []⟩,
  ⟨some 5, .assign (.t 15), none, [15]⟩] none [0, 5, 12, 13])
 (.seq (.reg 4 [⟨some 16, .move (.t 0), none, []⟩,
  ⟨some 17, .move (.t 5), none, []⟩,
  ⟨some 18, .index 9 .str none (.t 16) (.t 17), none, [16, 17]⟩,
  ⟨some 19, .bin .lss 5 (.t 18) (.c (Value.int IntKind.u8 48)) 5, none, [18]⟩,
  ⟨some 20, .move (.t 19), none, [19]⟩,
  ⟨some 21, .move (.t 0), some (4, false), []⟩,
  ⟨some 22, .move (.t 5), some (4, false), []⟩,
  ⟨some 23, .index 9 .str none (.t 21) (.t 22), some (4, false), [21, 22]⟩,
  ⟨some 24, .bin .gtr 5 (.t 23) (.c (Value.int IntKind.u8 57)) 5, some (4, false), [23]⟩,
  ⟨some 25, .pick (.t 20) (.c (Value.bool true)) (.t 24), none, [20, 24]⟩] none [0, 5, 12, 13, 25])
 (.cond [0, 5, 12, 13] (.t 25) (.seq (.reg 5 [⟨some 26, .move (.t 5), none, [5]⟩,
  ⟨some 2, .assign (.nilS 1), none, []⟩,
  ⟨some 3, .assign (.c (Value.int IntKind.i64 10)), none, []⟩,
  ⟨some 4, .assign (.t 26), none, [26]⟩] none [2, 3, 4, 59])
 .ret) .skip))))
 k0_limbs_Read)
def k1_limbs_Read : IR := .tail [0, 12, 13] j1_limbs_Read
def w0_limbs_Read : IR :=
 (.seq (.reg 2 [⟨some 14, .bin .lss 3 (.t 13) (.t 12) 3, none, []⟩] none [0, 12, 13, 14])
 (.seq (.cond [0, 12, 13] (.t 14) .skip (.exit 0))
 k1_limbs_Read))
def l0_limbs_Read : IR := .loop [0, 12, 13] w0_limbs_Read
def j2_limbs_Read : IR :=
 (.reg 18 [⟨some 50, .bin .add 3 (.t 37) (.c (Value.int IntKind.i64 1)) 3, none, []⟩,
  ⟨some 37, .move (.t 50), none, [50]⟩] none [0, 6, 7, 8, 9, 36, 37, 54])
def k2_limbs_Read : IR := .tail [0, 6, 7, 8, 9, 36, 37, 54] j2_limbs_Read
def j3_limbs_Read : IR :=
 (.seq (.block 5 (.seq (.reg 15 [⟨some 39, .move (.t 37), none, []⟩,
  ⟨some 10, .assign (.t 39), none, [39]⟩] none [0, 6, 7, 8, 9, 10, 36, 37, 54])
 (.seq (.reg 16 [⟨some 40, .move (.t 8), none, []⟩,
  ⟨some 41, .bin .mul 49 (.t 40) (.c (Value.int IntKind.u32 10)) 49, none, [40]⟩,
  ⟨some 8, .assign (.t 41), none, [41]⟩] none [0, 6, 7, 8, 9, 10, 36, 37, 54])
 (.reg 17 [⟨some 42, .move (.t 9), none, []⟩,
  ⟨some 43, .bin .mul 49 (.c (Value.int IntKind.u32 10)) (.t 42) 49, none, [42]⟩,
  ⟨some 44, .move (.t 0), none, []⟩,
  ⟨some 45, .move (.t 10), none, [10]⟩,
  ⟨some 46, .index 9 .str none (.t 44) (.t 45), none, [44, 45]⟩,
  ⟨some 47, .bin .sub 5 (.t 46) (.c (Value.int IntKind.u8 48)) 5, none, [46]⟩,
  ⟨some 48, .conv 5 49 (.int .u32) (.t 47), none, [47]⟩,
  ⟨some 49, .bin .add 49 (.t 43) (.t 48) 49, none, [43, 48]⟩,
  ⟨some 9, .assign (.t 49), none, [49]⟩] none [0, 6, 7, 8, 9, 36, 37, 54]))))
 k2_limbs_Read)
def k3_limbs_Read : IR := .tail [0, 6, 7, 8, 9, 36, 37, 54] j3_limbs_Read
def w2_limbs_Read : IR :=
 (.seq (.reg 14 [⟨some 38, .bin .lss 3 (.t 37) (.t 36) 3, none, []⟩] none [0, 6, 7, 8, 9, 36, 37, 38, 54])
 (.seq (.cond [0, 6, 7, 8, 9, 36, 37, 54] (.t 38) .skip (.exit 4))
 k3_limbs_Read))
def l2_limbs_Read : IR := .loop [0, 6, 7, 8, 9, 36, 37, 54] w2_limbs_Read
def j4_limbs_Read : IR :=
 (.seq (.reg 19 [⟨some 51, .move (.t 6), none, []⟩,
  ⟨some 52, .move (.t 8), none, [8]⟩,
  ⟨some 53, .move (.t 9), none, [9]⟩,
  ⟨some 54, .call n_limbs_grow [(.t 51), (.t 52), (.t 53)] [22, 49, 49], none, [51, 52, 53]⟩,
  ⟨some 6, .assign (.t 54), none, []⟩] none [0, 6, 7, 54])
 (.reg 20 [⟨some 55, .move (.t 0), none, []⟩,
  ⟨some 56, .move (.t 7), none, [7]⟩,
  ⟨some 57, .slice 9 .str (.t 55) (some (.t 56)) none none, none, [55, 56]⟩,
  ⟨some 0, .assign (.t 57), none, [57]⟩] none [0, 6, 54]))
def k4_limbs_Read : IR := .tail [0, 6, 7, 8, 9, 54] j4_limbs_Read
def j5_limbs_Read : IR :=
 (.block 3 (.seq (.reg 11 [⟨some 33, .move (.t 0), none, []⟩,
  ⟨some 34, .len 9 true (.t 33), none, [33]⟩,
  ⟨some 35, .minmax false [3, 3] (.c (Value.int IntKind.i64 9)) (.t 34), none, [34]⟩,
  ⟨some 7, .assign (.t 35), none, [35]⟩] none [0, 6, 7, 54])
 (.seq (.reg 12 [⟨some 8, .assign (.c (Value.int IntKind.u32 1)), none, []⟩,
  ⟨some 9, .assign (.c (Value.int IntKind.u32 0)), none, []⟩] none [0, 6, 7, 8, 9, 54])
 (.seq (.seq (.reg 13 [⟨some 36, .move (.t 7), none, []⟩,
  ⟨some 37, .move (.c (Value.int IntKind.i64 0)), none, []⟩] none [0, 6, 7, 8, 9, 36, 37, 54])
 (.block 4 l2_limbs_Read))
 k4_limbs_Read))))
def k5_limbs_Read : IR := .tail [0, 6, 54] j5_limbs_Read
def w1_limbs_Read : IR :=
 (.seq (.seq (.reg 10 [⟨some 30, .move (.t 0), none, []⟩,
  ⟨some 31, .len 9 true (.t 30), none, [30]⟩,
  ⟨some 32, .bin .gtr 3 (.t 31) (.c (Value.int IntKind.i64 0)) 3, none, [31]⟩] none [0, 6, 32, 54])
 (.cond [0, 6, 54] (.t 32) .skip (.exit 2)))
 k5_limbs_Read)
def l1_limbs_Read : IR := .loop [0, 6, 54] w1_limbs_Read
def j6_limbs_Read : IR :=
 (.seq (.reg 21 [⟨some 58, .move (.t 6), none, []⟩,
  ⟨some 59, .call n_limbs_trim [(.t 58)] [22], none, [6, 54, 58]⟩,
  ⟨some 2, .assign (.t 59), none, []⟩,
  ⟨some 3, .assign (.c (Value.int IntKind.i64 0)), none, []⟩,
  ⟨some 4, .assign (.c (Value.int IntKind.i64 0)), none, []⟩] none [2, 3, 4, 59])
 .ret)
def k6_limbs_Read : IR := .tail [6, 54] j6_limbs_Read
def j7_limbs_Read : IR :=
 (.seq (.reg 9 [⟨some 6, .assign (.nilS 1), none, []⟩] none [0, 6, 54])
 (.seq (.block 2 l1_limbs_Read)
 k6_limbs_Read))
def k7_limbs_Read : IR := .tail [0] j7_limbs_Read
def j8_limbs_Read : IR :=
 (.seq (.seq (.reg 7 [⟨some 28, .move (.t 0), none, []⟩,
  ⟨some 29, .bin .eql 9 (.t 28) (.c (Value.string { data := #[] })) 9, none, [28]⟩] none [0, 29])
 (.cond [0] (.t 29) (.seq (.reg 8 [⟨some 2, .assign (.nilS 1), none, []⟩,
  ⟨some 3, .assign (.c (Value.int IntKind.i64 10)), none, []⟩,
  ⟨some 4, .assign (.c (Value.int IntKind.i64 0)), none, []⟩] none [2, 3, 4, 59])
 .ret) .skip))
 k7_limbs_Read)
def k8_limbs_Read : IR := .tail [0] j8_limbs_Read
def b_limbs_Read : IR :=
 (.seq (.reg 0 [⟨some 2, .assign (.nilS 1), none, [2]⟩,
  ⟨some 3, .assign (.c (Value.int IntKind.i64 0)), none, [3]⟩,
  ⟨some 4, .assign (.c (Value.int IntKind.i64 0)), none, [4]⟩] none [0])
 (.seq (.seq (.reg 1 [⟨some 11, .move (.t 0), none, []⟩,
  ⟨some 12, .len 9 true (.t 11), none, [11]⟩,
  ⟨some 13, .move (.c (Value.int IntKind.i64 0)), none, []⟩] none [0, 12, 13])
 (.block 0 l0_limbs_Read))
 k8_limbs_Read))
def a_limbs_Read : AFunc := ⟨60, [.tmp 2, .tmp 3, .tmp 4], b_limbs_Read⟩

def j0_thicketref01_Norm : IR :=
 (.block 1 (.reg 3 [⟨some 18, .move (.t 3), none, []⟩,
  ⟨some 19, .bin .sub 3 (.t 18) (.c (Value.int IntKind.i64 1)) 3, none, [18]⟩,
  ⟨some 3, .assign (.t 19), none, [19]⟩] none [0, 3]))
def k0_thicketref01_Norm : IR := .tail [0, 3] j0_thicketref01_Norm
def w0_thicketref01_Norm : IR :=
 (.seq (.seq (.reg 2 [⟨some 8, .move (.t 3), none, []⟩,
  ⟨some 9, .bin .gtr 3 (.t 8) (.c (Value.int IntKind.i64 0)) 3, none, [8]⟩,
  ⟨some 10, .move (.t 9), none, [9]⟩,
  ⟨some 11, .move (.t 0), some (2, true), []⟩,
  ⟨some 12, .move (.t 3), some (2, true), []⟩,
  ⟨some 13, .bin .sub 3 (.t 12) (.c (Value.int IntKind.i64 1)) 3, some (2, true), [12]⟩,
  ⟨some 14, .iaddr 22 (.sl 1) (.t 11) (.t 13), some (2, true), []⟩,
  ⟨some 15, .load 49 none (.t 14), some (2, true), [11, 13, 14]⟩,
  ⟨some 16, .bin .eql 49 (.t 15) (.c (Value.int IntKind.u32 0)) 49, some (2, true), [15]⟩,
  ⟨some 17, .pick (.t 10) (.t 16) (.c (Value.bool false)), none, [10, 16]⟩] none [0, 3, 17])
 (.cond [0, 3] (.t 17) .skip (.exit 0)))
 k0_thicketref01_Norm)
def l0_thicketref01_Norm : IR := .loop [0, 3] w0_thicketref01_Norm
def j1_thicketref01_Norm : IR :=
 (.reg 7 [⟨some 23, .move (.t 5), none, []⟩,
  ⟨some 24, .bin .add 3 (.t 23) (.c (Value.int IntKind.i64 1)) 3, none, [23]⟩,
  ⟨some 5, .assign (.t 24), none, [24]⟩] none [0, 3, 4, 5, 31])
def k1_thicketref01_Norm : IR := .tail [0, 3, 4, 5, 31] j1_thicketref01_Norm
def j2_thicketref01_Norm : IR :=
 (.seq (.block 3 (.reg 8 [⟨some 25, .move (.t 4), none, []⟩,
  ⟨some 26, .move (.t 0), none, []⟩,
  ⟨some 27, .move (.t 5), none, []⟩,
  ⟨some 28, .iaddr 22 (.sl 1) (.t 26) (.t 27), none, []⟩,
  ⟨some 29, .load 49 none (.t 28), none, [26, 27, 28]⟩,
  ⟨some 30, .lit 22 1 [(.t 29)], none, [29]⟩,
  ⟨some 31, .append 22 22 false 1 4 (.t 25) (.t 30), none, [25, 30]⟩,
  ⟨some 4, .assign (.t 31), none, []⟩] none [0, 3, 4, 5, 31]))
 k1_thicketref01_Norm)
def k2_thicketref01_Norm : IR := .tail [0, 3, 4, 5, 31] j2_thicketref01_Norm
def w1_thicketref01_Norm : IR :=
 (.seq (.seq (.reg 6 [⟨some 20, .move (.t 5), none, []⟩,
  ⟨some 21, .move (.t 3), none, []⟩,
  ⟨some 22, .bin .lss 3 (.t 20) (.t 21) 3, none, [20, 21]⟩] none [0, 3, 4, 5, 22, 31])
 (.cond [0, 3, 4, 5, 31] (.t 22) .skip (.exit 2)))
 k2_thicketref01_Norm)
def l1_thicketref01_Norm : IR := .loop [0, 3, 4, 5, 31] w1_thicketref01_Norm
def j3_thicketref01_Norm : IR :=
 (.seq (.reg 9 [⟨some 32, .move (.t 4), none, []⟩,
  ⟨some 2, .assign (.t 32), none, []⟩] none [2, 4, 31, 32])
 .ret)
def k3_thicketref01_Norm : IR := .tail [4, 31] j3_thicketref01_Norm
def j4_thicketref01_Norm : IR :=
 (.seq (.reg 4 [⟨some 4, .assign (.nilS 1), none, []⟩] none [0, 3, 4, 31])
 (.seq (.seq (.reg 5 [⟨some 5, .assign (.c (Value.int IntKind.i64 0)), none, []⟩] none [0, 3, 4, 5, 31])
 (.block 2 l1_thicketref01_Norm))
 k3_thicketref01_Norm))
def k4_thicketref01_Norm : IR := .tail [0, 3] j4_thicketref01_Norm
def b_thicketref01_Norm : IR :=
 (.seq (.reg 0 [⟨some 2, .assign (.nilS 1), none, [2]⟩] none [0])
 (.seq (.reg 1 [⟨some 6, .move (.t 0), none, []⟩,
  ⟨some 7, .len 22 false (.t 6), none, [6]⟩,
  ⟨some 3, .assign (.t 7), none, [7]⟩] none [0, 3])
 (.seq (.block 0 l0_thicketref01_Norm)
 k4_thicketref01_Norm)))
def a_thicketref01_Norm : AFunc := ⟨33, [.tmp 2], b_thicketref01_Norm⟩

def b_thicketref01_From : IR :=
 (.seq (.reg 0 [⟨some 2, .assign (.nilS 1), none, [2]⟩] none [0])
 (.seq (.reg 1 [⟨some 3, .move (.t 0), none, []⟩,
  ⟨some 4, .bin .and 33 (.t 3) (.c (Value.int IntKind.u64 4294967295)) 33, none, [3]⟩,
  ⟨some 5, .conv 33 49 (.int .u32) (.t 4), none, [4]⟩,
  ⟨some 6, .move (.t 0), none, [0]⟩,
  ⟨some 7, .bin .shr 33 (.t 6) (.c (Value.int IntKind.u64 32)) 68, none, [6]⟩,
  ⟨some 8, .conv 33 49 (.int .u32) (.t 7), none, [7]⟩,
  ⟨some 9, .lit 22 1 [(.t 5), (.t 8)], none, [5, 8]⟩,
  ⟨some 10, .call n_thicketref01_Norm [(.t 9)] [22], none, [9]⟩,
  ⟨some 2, .assign (.t 10), none, []⟩] none [2, 10])
 .ret))
def a_thicketref01_From : AFunc := ⟨11, [.tmp 2], b_thicketref01_From⟩

def j0_thicketref01_Add : IR :=
 (.seq (.reg 10 [⟨some 46, .move (.t 5), none, []⟩,
  ⟨some 47, .move (.t 6), none, []⟩,
  ⟨some 48, .bin .and 33 (.t 47) (.c (Value.int IntKind.u64 4294967295)) 33, none, [47]⟩,
  ⟨some 49, .conv 33 49 (.int .u32) (.t 48), none, [48]⟩,
  ⟨some 50, .lit 22 1 [(.t 49)], none, [49]⟩,
  ⟨some 51, .append 22 22 false 1 4 (.t 46) (.t 50), none, [46, 50]⟩,
  ⟨some 5, .assign (.t 51), none, []⟩] none [0, 1, 5, 6, 7, 51])
 (.reg 11 [⟨some 52, .move (.t 6), none, []⟩,
  ⟨some 53, .bin .shr 33 (.t 52) (.c (Value.int IntKind.u64 32)) 68, none, [52]⟩,
  ⟨some 6, .assign (.t 53), none, [53]⟩] none [0, 1, 5, 6, 7, 51]))
def k0_thicketref01_Add : IR := .tail [0, 1, 5, 6, 7, 51] j0_thicketref01_Add
def j1_thicketref01_Add : IR :=
 (.seq (.seq (.reg 8 [⟨some 35, .move (.t 7), none, []⟩,
  ⟨some 36, .move (.t 1), none, []⟩,
  ⟨some 37, .len 22 false (.t 36), none, [36]⟩,
  ⟨some 38, .bin .lss 3 (.t 35) (.t 37) 3, none, [35, 37]⟩] none [0, 1, 5, 6, 7, 38, 51])
 (.cond [0, 1, 5, 6, 7, 51] (.t 38) (.reg 9 [⟨some 39, .move (.t 6), none, []⟩,
  ⟨some 40, .move (.t 1), none, []⟩,
  ⟨some 41, .move (.t 7), none, []⟩,
  ⟨some 42, .iaddr 22 (.sl 1) (.t 40) (.t 41), none, []⟩,
  ⟨some 43, .load 49 none (.t 42), none, [40, 41, 42]⟩,
  ⟨some 44, .conv 49 33 (.int .u64) (.t 43), none, [43]⟩,
  ⟨some 45, .bin .add 33 (.t 39) (.t 44) 33, none, [39, 44]⟩,
  ⟨some 6, .assign (.t 45), none, [45]⟩] none [0, 1, 5, 6, 7, 51]) .skip))
 k0_thicketref01_Add)
def k1_thicketref01_Add : IR := .tail [0, 1, 5, 6, 7, 51] j1_thicketref01_Add
def j2_thicketref01_Add : IR :=
 (.reg 5 [⟨some 22, .move (.t 7), none, []⟩,
  ⟨some 23, .bin .add 3 (.t 22) (.c (Value.int IntKind.i64 1)) 3, none, [22]⟩,
  ⟨some 7, .assign (.t 23), none, [23]⟩] none [0, 1, 5, 6, 7, 51])
def k2_thicketref01_Add : IR := .tail [0, 1, 5, 6, 7, 51] j2_thicketref01_Add
def j3_thicketref01_Add : IR :=
 (.seq (.block 1 (.seq (.seq (.reg 6 [⟨some 24, .move (.t 7), none, []⟩,
  ⟨some 25, .move (.t 0), none, []⟩,
  ⟨some 26, .len 22 false (.t 25), none, [25]⟩,
  ⟨some 27, .bin .lss 3 (.t 24) (.t 26) 3, none, [24, 26]⟩] none [0, 1, 5, 6, 7, 27, 51])
 (.cond [0, 1, 5, 6, 7, 51] (.t 27) (.reg 7 [⟨some 28, .move (.t 6), none, []⟩,
  ⟨some 29, .move (.t 0), none, []⟩,
  ⟨some 30, .move (.t 7), none, []⟩,
  ⟨some 31, .iaddr 22 (.sl 1) (.t 29) (.t 30), none, []⟩,
  ⟨some 32, .load 49 none (.t 31), none, [29, 30, 31]⟩,
  ⟨some 33, .conv 49 33 (.int .u64) (.t 32), none, [32]⟩,
  ⟨some 34, .bin .add 33 (.t 28) (.t 33) 33, none, [28, 33]⟩,
  ⟨some 6, .assign (.t 34), none, [34]⟩] none [0, 1, 5, 6, 7, 51]) .skip))
 k1_thicketref01_Add))
 k2_thicketref01_Add)
def k3_thicketref01_Add : IR := .tail [0, 1, 5, 6, 7, 51] j3_thicketref01_Add
def w0_thicketref01_Add : IR :=
 (.seq (.seq (.reg 4 [⟨some 8, .move (.t 7), none, []⟩,
  ⟨some 9, .move (.t 0), none, []⟩,
  ⟨some 10, .len 22 false (.t 9), none, [9]⟩,
  ⟨some 11, .bin .lss 3 (.t 8) (.t 10) 3, none, [8, 10]⟩,
  ⟨some 12, .move (.t 11), none, [11]⟩,
  ⟨some 13, .move (.t 7), some (4, false), []⟩,
  ⟨some 14, .move (.t 1), some (4, false), []⟩,
  ⟨some 15, .len 22 false (.t 14), some (4, false), [14]⟩,
  ⟨some 16, .bin .lss 3 (.t 13) (.t 15) 3, some (4, false), [13, 15]⟩,
  ⟨some 17, .pick (.t 12) (.c (Value.bool true)) (.t 16), none, [12, 16]⟩,
  ⟨some 18, .move (.t 17), none, [17]⟩,
  ⟨some 19, .move (.t 6), some (10, false), []⟩,
  ⟨some 20, .bin .gtr 33 (.t 19) (.c (Value.int IntKind.u64 0)) 33, some (10, false), [19]⟩,
  ⟨some 21, .pick (.t 18) (.c (Value.bool true)) (.t 20), none, [18, 20]⟩] none [0, 1, 5, 6, 7, 21, 51])
 (.cond [0, 1, 5, 6, 7, 51] (.t 21) .skip (.exit 0)))
 k3_thicketref01_Add)
def l0_thicketref01_Add : IR := .loop [0, 1, 5, 6, 7, 51] w0_thicketref01_Add
def j4_thicketref01_Add : IR :=
 (.seq (.reg 12 [⟨some 54, .move (.t 5), none, []⟩,
  ⟨some 55, .call n_thicketref01_Norm [(.t 54)] [22], none, [5, 51, 54]⟩,
  ⟨some 4, .assign (.t 55), none, []⟩] none [4, 55])
 .ret)
def k4_thicketref01_Add : IR := .tail [5, 51] j4_thicketref01_Add
def b_thicketref01_Add : IR :=
 (.seq (.reg 0 [⟨some 4, .assign (.nilS 1), none, [4]⟩] none [0, 1])
 (.seq (.reg 1 [⟨some 5, .assign (.nilS 1), none, []⟩] none [0, 1, 5, 51])
 (.seq (.reg 2 [⟨some 6, .assign (.c (Value.int IntKind.u64 0)), none, []⟩] none [0, 1, 5, 6, 51])
 (.seq (.seq (.reg 3 [⟨some 7, .assign (.c (Value.int IntKind.i64 0)), none, []⟩] none [0, 1, 5, 6, 7, 51])
 (.block 0 l0_thicketref01_Add))
 k4_thicketref01_Add))))
def a_thicketref01_Add : AFunc := ⟨56, [.tmp 4], b_thicketref01_Add⟩

def j0_thicketref01_Mul : IR :=
 (.seq (.reg 12 [⟨some 58, .move (.t 5), none, []⟩,
  ⟨some 59, .move (.t 6), none, []⟩,
  ⟨some 60, .move (.t 9), none, []⟩,
  ⟨some 61, .bin .add 3 (.t 59) (.t 60) 3, none, [59, 60]⟩,
  ⟨some 62, .move (.t 10), none, []⟩,
  ⟨some 63, .bin .and 33 (.t 62) (.c (Value.int IntKind.u64 4294967295)) 33, none, [62]⟩,
  ⟨some 64, .conv 33 49 (.int .u32) (.t 63), none, [63]⟩,
  ⟨some 65, .iaddr 22 (.sl 1) (.t 58) (.t 61), none, []⟩,
  ⟨none, .store 49 none (.t 65) (.t 64), none, [58, 61, 64, 65]⟩] none [0, 1, 5, 6, 7, 9, 10, 17, 18, 19, 20])
 (.reg 13 [⟨some 66, .move (.t 10), none, [10]⟩,
  ⟨some 67, .bin .shr 33 (.t 66) (.c (Value.int IntKind.u64 32)) 68, none, [66]⟩,
  ⟨some 8, .assign (.t 67), none, [67]⟩] none [0, 1, 5, 6, 7, 8, 9, 17, 18, 19, 20]))
def k0_thicketref01_Mul : IR := .tail [0, 1, 5, 6, 7, 9, 10, 17, 18, 19, 20] j0_thicketref01_Mul
def j1_thicketref01_Mul : IR :=
 (.reg 8 [⟨some 33, .move (.t 9), none, []⟩,
  ⟨some 34, .bin .add 3 (.t 33) (.c (Value.int IntKind.i64 1)) 3, none, [33]⟩,
  ⟨some 9, .assign (.t 34), none, [34]⟩] none [0, 1, 5, 6, 7, 8, 9, 17, 18, 19, 20])
def k1_thicketref01_Mul : IR := .tail [0, 1, 5, 6, 7, 8, 9, 17, 18, 19, 20] j1_thicketref01_Mul
def j2_thicketref01_Mul : IR :=
 (.seq (.block 3 (.seq (.reg 9 [⟨some 35, .move (.t 8), none, [8]⟩,
  ⟨some 36, .move (.t 5), none, []⟩,
  ⟨some 37, .move (.t 6), none, []⟩,
  ⟨some 38, .move (.t 9), none, []⟩,
  ⟨some 39, .bin .add 3 (.t 37) (.t 38) 3, none, [37, 38]⟩,
  ⟨some 40, .iaddr 22 (.sl 1) (.t 36) (.t 39), none, []⟩,
  ⟨some 41, .load 49 none (.t 40), none, [36, 39, 40]⟩,
  ⟨some 42, .conv 49 33 (.int .u64) (.t 41), none, [41]⟩,
  ⟨some 43, .bin .add 33 (.t 35) (.t 42) 33, none, [35, 42]⟩,
  ⟨some 10, .assign (.t 43), none, [43]⟩] none [0, 1, 5, 6, 7, 9, 10, 17, 18, 19, 20])
 (.seq (.seq (.reg 10 [⟨some 44, .move (.t 9), none, []⟩,
  ⟨some 45, .move (.t 1), none, []⟩,
  ⟨some 46, .len 22 false (.t 45), none, [45]⟩,
  ⟨some 47, .bin .lss 3 (.t 44) (.t 46) 3, none, [44, 46]⟩] none [0, 1, 5, 6, 7, 9, 10, 17, 18, 19, 20, 47])
 (.cond [0, 1, 5, 6, 7, 9, 10, 17, 18, 19, 20] (.t 47) (.reg 11 [⟨some 48, .move (.t 10), none, []⟩,
  ⟨some 49, .move (.t 7), none, []⟩,
  ⟨some 50, .conv 49 33 (.int .u64) (.t 49), none, [49]⟩,
  ⟨some 51, .move (.t 1), none, []⟩,
  ⟨some 52, .move (.t 9), none, []⟩,
  ⟨some 53, .iaddr 22 (.sl 1) (.t 51) (.t 52), none, []⟩,
  ⟨some 54, .load 49 none (.t 53), none, [51, 52, 53]⟩,
  ⟨some 55, .conv 49 33 (.int .u64) (.t 54), none, [54]⟩,
  ⟨some 56, .bin .mul 33 (.t 50) (.t 55) 33, none, [50, 55]⟩,
  ⟨some 57, .bin .add 33 (.t 48) (.t 56) 33, none, [48, 56]⟩,
  ⟨some 10, .assign (.t 57), none, [57]⟩] none [0, 1, 5, 6, 7, 9, 10, 17, 18, 19, 20]) .skip))
 k0_thicketref01_Mul)))
 k1_thicketref01_Mul)
def k2_thicketref01_Mul : IR := .tail [0, 1, 5, 6, 7, 8, 9, 17, 18, 19, 20] j2_thicketref01_Mul
def w1_thicketref01_Mul : IR :=
 (.seq (.seq (.reg 7 [⟨some 25, .move (.t 9), none, []⟩,
  ⟨some 26, .move (.t 1), none, []⟩,
  ⟨some 27, .len 22 false (.t 26), none, [26]⟩,
  ⟨some 28, .bin .lss 3 (.t 25) (.t 27) 3, none, [25, 27]⟩,
  ⟨some 29, .move (.t 28), none, [28]⟩,
  ⟨some 30, .move (.t 8), some (4, false), []⟩,
  ⟨some 31, .bin .gtr 33 (.t 30) (.c (Value.int IntKind.u64 0)) 33, some (4, false), [30]⟩,
  ⟨some 32, .pick (.t 29) (.c (Value.bool true)) (.t 31), none, [29, 31]⟩] none [0, 1, 5, 6, 7, 8, 9, 17, 18, 19, 20, 32])
 (.cond [0, 1, 5, 6, 7, 8, 9, 17, 18, 19, 20] (.t 32) .skip (.exit 2)))
 k2_thicketref01_Mul)
def l1_thicketref01_Mul : IR := .loop [0, 1, 5, 6, 7, 8, 9, 17, 18, 19, 20] w1_thicketref01_Mul
def j3_thicketref01_Mul : IR :=
 (.reg 14 [⟨some 68, .bin .add 3 (.t 20) (.c (Value.int IntKind.i64 1)) 3, none, []⟩,
  ⟨some 20, .move (.t 68), none, [68]⟩] none [0, 1, 5, 17, 18, 19, 20])
def k3_thicketref01_Mul : IR := .tail [0, 1, 5, 17, 18, 19, 20] j3_thicketref01_Mul
def j4_thicketref01_Mul : IR :=
 (.seq (.block 1 (.seq (.reg 4 [⟨some 22, .move (.t 20), none, []⟩,
  ⟨some 23, .iaddr 22 (.sl 1) (.t 18) (.t 20), none, []⟩,
  ⟨some 24, .load 49 none (.t 23), none, [23]⟩,
  ⟨some 6, .assign (.t 22), none, [22]⟩,
  ⟨some 7, .assign (.t 24), none, [24]⟩] none [0, 1, 5, 6, 7, 17, 18, 19, 20])
 (.seq (.reg 5 [⟨some 8, .assign (.c (Value.int IntKind.u64 0)), none, []⟩] none [0, 1, 5, 6, 7, 8, 17, 18, 19, 20])
 (.seq (.reg 6 [⟨some 9, .assign (.c (Value.int IntKind.i64 0)), none, []⟩] none [0, 1, 5, 6, 7, 8, 9, 17, 18, 19, 20])
 (.block 2 l1_thicketref01_Mul)))))
 k3_thicketref01_Mul)
def k4_thicketref01_Mul : IR := .tail [0, 1, 5, 17, 18, 19, 20] j4_thicketref01_Mul
def w0_thicketref01_Mul : IR :=
 (.seq (.reg 3 [⟨some 21, .bin .lss 3 (.t 20) (.t 19) 3, none, []⟩] none [0, 1, 5, 17, 18, 19, 20, 21])
 (.seq (.cond [0, 1, 5, 17, 18, 19, 20] (.t 21) .skip (.exit 0))
 k4_thicketref01_Mul))
def l0_thicketref01_Mul : IR := .loop [0, 1, 5, 17, 18, 19, 20] w0_thicketref01_Mul
def j5_thicketref01_Mul : IR :=
 (.seq (.reg 15 [⟨some 69, .move (.t 5), none, []⟩,
  ⟨some 70, .call n_thicketref01_Norm [(.t 69)] [22], none, [5, 17, 69]⟩,
  ⟨some 4, .assign (.t 70), none, []⟩] none [4, 70])
 .ret)
def k5_thicketref01_Mul : IR := .tail [5, 17] j5_thicketref01_Mul
def b_thicketref01_Mul : IR :=
 (.seq (.reg 0 [⟨some 4, .assign (.nilS 1), none, [4]⟩] none [0, 1])
 (.seq (.reg 1 [⟨some 11, .move (.t 0), none, []⟩,
  ⟨some 12, .len 22 false (.t 11), none, [11]⟩,
  ⟨some 13, .move (.t 1), none, []⟩,
  ⟨some 14, .len 22 false (.t 13), none, [13]⟩,
  ⟨some 15, .bin .add 3 (.t 12) (.t 14) 3, none, [12, 14]⟩,
  ⟨some 16, .bin .add 3 (.t 15) (.c (Value.int IntKind.i64 1)) 3, none, [15]⟩,
  ⟨some 17, .mk 22 1 4 (.v (.int .u32 0)) (.t 16) (.t 16), none, [16]⟩,
  ⟨some 5, .assign (.t 17), none, []⟩] none [0, 1, 5, 17])
 (.seq (.seq (.reg 2 [⟨some 18, .move (.t 0), none, []⟩,
  ⟨some 19, .len 22 false (.t 18), none, []⟩,
  ⟨some 20, .move (.c (Value.int IntKind.i64 0)), none, []⟩] none [0, 1, 5, 17, 18, 19, 20])
 (.block 0 l0_thicketref01_Mul))
 k5_thicketref01_Mul)))
def a_thicketref01_Mul : AFunc := ⟨71, [.tmp 4], b_thicketref01_Mul⟩

def j0_thicketref01_Read : IR :=
 (.reg 3 [⟨some 15, .move (.t 5), none, []⟩,
  ⟨some 16, .bin .add 3 (.t 15) (.c (Value.int IntKind.i64 1)) 3, none, [15]⟩,
  ⟨some 5, .assign (.t 16), none, [16]⟩] none [0, 5])
def k0_thicketref01_Read : IR := .tail [0, 5] j0_thicketref01_Read
def j1_thicketref01_Read : IR :=
 (.seq (.block 1 (.seq (.reg 4 [⟨some 17, .move (.t 0), none, []⟩,
  ⟨some 18, .move (.t 5), none, []⟩,
  ⟨some 19, .index 9 .str none (.t 17) (.t 18), none, [17, 18]⟩,
  ⟨some 20, .bin .lss 5 (.t 19) (.c (Value.int IntKind.u8 48)) 5, none, [19]⟩,
  ⟨some 21, .move (.t 20), none, [20]⟩,
  ⟨some 22, .move (.t 0), some (4, false), []⟩,
  ⟨some 23, .move (.t 5), some (4, false), []⟩,
  ⟨some 24, .index 9 .str none (.t 22) (.t 23), some (4, false), [22, 23]⟩,
  ⟨some 25, .bin .gtr 5 (.t 24) (.c (Value.int IntKind.u8 57)) 5, some (4, false), [24]⟩,
  ⟨some 26, .pick (.t 21) (.c (Value.bool true)) (.t 25), none, [21, 25]⟩] none [0, 5, 26])
 (.cond [0, 5] (.t 26) (.seq (.reg 5 [⟨some 27, .move (.t 5), none, [5]⟩,
  ⟨some 2, .assign (.nilS 1), none, []⟩,
  ⟨some 3, .assign (.c (Value.int IntKind.i64 10)), none, []⟩,
  ⟨some 4, .assign (.t 27), none, [27]⟩] none [2, 3, 4, 6, 66, 67])
 .ret) .skip)))
 k0_thicketref01_Read)
def k1_thicketref01_Read : IR := .tail [0, 5] j1_thicketref01_Read
def w0_thicketref01_Read : IR :=
 (.seq (.seq (.reg 2 [⟨some 11, .move (.t 5), none, []⟩,
  ⟨some 12, .move (.t 0), none, []⟩,
  ⟨some 13, .len 9 true (.t 12), none, [12]⟩,
  ⟨some 14, .bin .lss 3 (.t 11) (.t 13) 3, none, [11, 13]⟩] none [0, 5, 14])
 (.cond [0, 5] (.t 14) .skip (.exit 0)))
 k1_thicketref01_Read)
def l0_thicketref01_Read : IR := .loop [0, 5] w0_thicketref01_Read
def j2_thicketref01_Read : IR :=
 (.reg 15 [⟨some 48, .move (.t 10), none, []⟩,
  ⟨some 49, .bin .add 3 (.t 48) (.c (Value.int IntKind.i64 1)) 3, none, [48]⟩,
  ⟨some 10, .assign (.t 49), none, [49]⟩] none [0, 6, 7, 8, 9, 10, 66])
def k2_thicketref01_Read : IR := .tail [0, 6, 7, 8, 9, 10, 66] j2_thicketref01_Read
def j3_thicketref01_Read : IR :=
 (.seq (.block 5 (.seq (.reg 16 [⟨some 50, .move (.t 8), none, []⟩,
  ⟨some 51, .bin .mul 33 (.c (Value.int IntKind.u64 10)) (.t 50) 33, none, [50]⟩,
  ⟨some 52, .move (.t 0), none, []⟩,
  ⟨some 53, .move (.t 10), none, []⟩,
  ⟨some 54, .index 9 .str none (.t 52) (.t 53), none, [52, 53]⟩,
  ⟨some 55, .bin .sub 5 (.t 54) (.c (Value.int IntKind.u8 48)) 5, none, [54]⟩,
  ⟨some 56, .conv 5 33 (.int .u64) (.t 55), none, [55]⟩,
  ⟨some 57, .bin .add 33 (.t 51) (.t 56) 33, none, [51, 56]⟩,
  ⟨some 8, .assign (.t 57), none, [57]⟩] none [0, 6, 7, 8, 9, 10, 66])
 (.reg 17 [⟨some 58, .move (.t 9), none, []⟩,
  ⟨some 59, .bin .mul 33 (.c (Value.int IntKind.u64 10)) (.t 58) 33, none, [58]⟩,
  ⟨some 9, .assign (.t 59), none, [59]⟩] none [0, 6, 7, 8, 9, 10, 66])))
 k2_thicketref01_Read)
def k3_thicketref01_Read : IR := .tail [0, 6, 7, 8, 9, 10, 66] j3_thicketref01_Read
def w2_thicketref01_Read : IR :=
 (.seq (.seq (.reg 14 [⟨some 38, .move (.t 10), none, []⟩,
  ⟨some 39, .move (.t 0), none, []⟩,
  ⟨some 40, .len 9 true (.t 39), none, [39]⟩,
  ⟨some 41, .bin .lss 3 (.t 38) (.t 40) 3, none, [38, 40]⟩,
  ⟨some 42, .move (.t 41), none, [41]⟩,
  ⟨some 43, .move (.t 10), some (4, true), []⟩,
  ⟨some 44, .move (.t 7), some (4, true), []⟩,
  ⟨some 45, .bin .add 3 (.t 44) (.c (Value.int IntKind.i64 9)) 3, some (4, true), [44]⟩,
  ⟨some 46, .bin .lss 3 (.t 43) (.t 45) 3, some (4, true), [43, 45]⟩,
  ⟨some 47, .pick (.t 42) (.t 46) (.c (Value.bool false)), none, [42, 46]⟩] none [0, 6, 7, 8, 9, 10, 47, 66])
 (.cond [0, 6, 7, 8, 9, 10, 66] (.t 47) .skip (.exit 4)))
 k3_thicketref01_Read)
def l2_thicketref01_Read : IR := .loop [0, 6, 7, 8, 9, 10, 66] w2_thicketref01_Read
def j4_thicketref01_Read : IR :=
 (.reg 18 [⟨some 60, .move (.t 6), none, []⟩,
  ⟨some 61, .move (.t 9), none, [9]⟩,
  ⟨some 62, .call n_thicketref01_From [(.t 61)] [33], none, [61]⟩,
  ⟨some 63, .call n_thicketref01_Mul [(.t 60), (.t 62)] [22, 22], none, [60, 62]⟩,
  ⟨some 64, .move (.t 8), none, [8]⟩,
  ⟨some 65, .call n_thicketref01_From [(.t 64)] [33], none, [64]⟩,
  ⟨some 66, .call n_thicketref01_Add [(.t 63), (.t 65)] [22, 22], none, [63, 65]⟩,
  ⟨some 6, .assign (.t 66), none, []⟩] none [0, 6, 7, 66])
def k4_thicketref01_Read : IR := .tail [0, 6, 7, 8, 9, 66] j4_thicketref01_Read
def j5_thicketref01_Read : IR :=
 (.reg 11 [⟨some 35, .move (.t 7), none, []⟩,
  ⟨some 36, .bin .add 3 (.t 35) (.c (Value.int IntKind.i64 9)) 3, none, [35]⟩,
  ⟨some 7, .assign (.t 36), none, [36]⟩] none [0, 6, 7, 66])
def k5_thicketref01_Read : IR := .tail [0, 6, 7, 66] j5_thicketref01_Read
def j6_thicketref01_Read : IR :=
 (.seq (.block 3 (.seq (.reg 12 [⟨some 8, .assign (.c (Value.int IntKind.u64 0)), none, []⟩,
  ⟨some 9, .assign (.c (Value.int IntKind.u64 1)), none, []⟩] none [0, 6, 7, 8, 9, 66])
 (.seq (.seq (.reg 13 [⟨some 37, .move (.t 7), none, []⟩,
  ⟨some 10, .assign (.t 37), none, [37]⟩] none [0, 6, 7, 8, 9, 10, 66])
 (.block 4 l2_thicketref01_Read))
 k4_thicketref01_Read)))
 k5_thicketref01_Read)
def k6_thicketref01_Read : IR := .tail [0, 6, 7, 66] j6_thicketref01_Read
def w1_thicketref01_Read : IR :=
 (.seq (.seq (.reg 10 [⟨some 31, .move (.t 7), none, []⟩,
  ⟨some 32, .move (.t 0), none, []⟩,
  ⟨some 33, .len 9 true (.t 32), none, [32]⟩,
  ⟨some 34, .bin .lss 3 (.t 31) (.t 33) 3, none, [31, 33]⟩] none [0, 6, 7, 34, 66])
 (.cond [0, 6, 7, 66] (.t 34) .skip (.exit 2)))
 k6_thicketref01_Read)
def l1_thicketref01_Read : IR := .loop [0, 6, 7, 66] w1_thicketref01_Read
def j7_thicketref01_Read : IR :=
 (.seq (.reg 19 [⟨some 67, .move (.t 6), none, []⟩,
  ⟨some 2, .assign (.t 67), none, []⟩,
  ⟨some 3, .assign (.c (Value.int IntKind.i64 0)), none, []⟩,
  ⟨some 4, .assign (.c (Value.int IntKind.i64 0)), none, []⟩] none [2, 3, 4, 6, 66, 67])
 .ret)
def k7_thicketref01_Read : IR := .tail [6, 66] j7_thicketref01_Read
def j8_thicketref01_Read : IR :=
 (.seq (.reg 8 [⟨some 6, .assign (.nilS 1), none, []⟩] none [0, 6, 66])
 (.seq (.seq (.reg 9 [⟨some 7, .assign (.c (Value.int IntKind.i64 0)), none, []⟩] none [0, 6, 7, 66])
 (.block 2 l1_thicketref01_Read))
 k7_thicketref01_Read))
def k8_thicketref01_Read : IR := .tail [0] j8_thicketref01_Read
def j9_thicketref01_Read : IR :=
 (.seq (.seq (.reg 6 [⟨some 28, .move (.t 0), none, []⟩,
  ⟨some 29, .len 9 true (.t 28), none, [28]⟩,
  ⟨some 30, .bin .eql 3 (.t 29) (.c (Value.int IntKind.i64 0)) 3, none, [29]⟩] none [0, 30])
 (.cond [0] (.t 30) (.seq (.reg 7 [⟨some 2, .assign (.nilS 1), none, []⟩,
  ⟨some 3, .assign (.c (Value.int IntKind.i64 10)), none, []⟩,
  ⟨some 4, .assign (.c (Value.int IntKind.i64 0)), none, []⟩] none [2, 3, 4, 6, 66, 67])
 .ret) .skip))
 k8_thicketref01_Read)
def k9_thicketref01_Read : IR := .tail [0] j9_thicketref01_Read
def b_thicketref01_Read : IR :=
 (.seq (.reg 0 [⟨some 2, .assign (.nilS 1), none, [2]⟩,
  ⟨some 3, .assign (.c (Value.int IntKind.i64 0)), none, [3]⟩,
  ⟨some 4, .assign (.c (Value.int IntKind.i64 0)), none, [4]⟩] none [0])
 (.seq (.seq (.reg 1 [⟨some 5, .assign (.c (Value.int IntKind.i64 0)), none, []⟩] none [0, 5])
 (.block 0 l0_thicketref01_Read))
 k9_thicketref01_Read))
def a_thicketref01_Read : AFunc := ⟨68, [.tmp 2, .tmp 3, .tmp 4], b_thicketref01_Read⟩

def b_limbs_Norm : IR :=
 (.seq (.reg 0 [⟨some 2, .assign (.nilS 1), none, [2]⟩] none [0])
 (.seq (.reg 1 [⟨some 3, .move (.t 0), none, []⟩,
  ⟨some 4, .call n_limbs_trim [(.t 3)] [22], none, [0, 3]⟩,
  ⟨some 5, .append 22 22 false 1 4 (.nilS 1) (.t 4), none, [4]⟩,
  ⟨some 2, .assign (.t 5), none, []⟩] none [2, 5])
 .ret))
def a_limbs_Norm : AFunc := ⟨6, [.tmp 2], b_limbs_Norm⟩

def j0_strings_trimLeftByte : IR :=
 (.block 1 (.reg 2 [⟨some 14, .move (.t 0), none, []⟩,
  ⟨some 15, .slice 9 .str (.t 14) (some (.c (Value.int IntKind.i64 1))) none none, none, [14]⟩,
  ⟨some 0, .assign (.t 15), none, [15]⟩] none [0, 1]))
def k0_strings_trimLeftByte : IR := .tail [0, 1] j0_strings_trimLeftByte
def w0_strings_trimLeftByte : IR :=
 (.seq (.seq (.reg 1 [⟨some 5, .move (.t 0), none, []⟩,
  ⟨some 6, .len 9 true (.t 5), none, [5]⟩,
  ⟨some 7, .bin .gtr 3 (.t 6) (.c (Value.int IntKind.i64 0)) 3, none, [6]⟩,
  ⟨some 8, .move (.t 7), none, [7]⟩,
  ⟨some 9, .move (.t 0), some (3, true), []⟩,
  ⟨some 10, .index 9 .str none (.t 9) (.c (Value.int IntKind.i64 0)), some (3, true), [9]⟩,
  ⟨some 11, .move (.t 1), some (3, true), []⟩,
  ⟨some 12, .bin .eql 5 (.t 10) (.t 11) 5, some (3, true), [10, 11]⟩,
  ⟨some 13, .pick (.t 8) (.t 12) (.c (Value.bool false)), none, [8, 12]⟩] none [0, 1, 13])
 (.cond [0, 1] (.t 13) .skip (.exit 0)))
 k0_strings_trimLeftByte)
def l0_strings_trimLeftByte : IR := .loop [0, 1] w0_strings_trimLeftByte
def j1_strings_trimLeftByte : IR :=
 (.seq (.reg 3 [⟨some 16, .move (.t 0), none, [0]⟩,
  ⟨some 4, .assign (.t 16), none, [16]⟩] none [4])
 .ret)
def k1_strings_trimLeftByte : IR := .tail [0] j1_strings_trimLeftByte
def b_strings_trimLeftByte : IR :=
 (.seq (.reg 0 [⟨some 4, .assign (.c (Value.string { data := #[] })), none, [4]⟩] none [0, 1])
 (.seq (.block 0 l0_strings_trimLeftByte)
 k1_strings_trimLeftByte))
def a_strings_trimLeftByte : AFunc := ⟨17, [.tmp 4], b_strings_trimLeftByte⟩

def j0_strings_TrimLeft : IR :=
 (.seq (.reg 8 [⟨some 34, .move (.t 0), none, [0]⟩,
  ⟨some 35, .move (.t 1), none, [1]⟩,
  ⟨some 36, .call n_strings_trimLeftUnicode [(.t 34), (.t 35)] [9, 9], none, [34, 35]⟩,
  ⟨some 4, .assign (.t 36), none, [36]⟩] none [4])
 .ret)
def k0_strings_TrimLeft : IR := .tail [0, 1] j0_strings_TrimLeft
def j1_strings_TrimLeft : IR :=
 (.seq (.seq (.reg 5 [⟨some 27, .move (.t 1), none, []⟩,
  ⟨some 28, .call n_strings_makeASCIISet [(.t 27)] [9], none, [27]⟩,
  ⟨some 26, .move (.t 28), none, [28]⟩,
  ⟨some 29, .extr (.t 26) 0, none, []⟩,
  ⟨some 30, .extr (.t 26) 1, none, [26]⟩,
  ⟨some 5, .alloc 90 [.v (.bool false), .v (.bool false), .v (.bool false), .v (.bool false), .v (.bool false), .v (.bool false), .v (.bool false), .v (.bool false), .v (.bool false), .v (.bool false), .v (.bool false), .v (.bool false), .v (.bool false), .v (.bool false), .v (.bool false), .v (.bool false), .v (.bool false), .v (.bool false), .v (.bool false), .v (.bool false), .v (.bool false), .v (.bool false), .v (.bool false), .v (.bool false), .v (.bool false), .v (.bool false), .v (.bool false), .v (.bool false), .v (.bool false), .v (.bool false), .v (.bool false), .v (.bool false), .v (.bool false), .v (.bool false), .v (.bool false), .v (.bool false), .v (.bool false), .v (.bool false), .v (.bool false), .v (.bool false), .v (.bool false), .v (.bool false), .v (.bool false), .v (.bool false), .v (.bool false), .v (.bool false), .v (.bool false), .v (.bool false), .v (.bool false), .v (.bool false), .v (.bool false), .v (.bool false), .v (.bool false), .v (.bool false), .v (.bool false), .v (.bool false), .v (.bool false), .v (.bool false), .v (.bool false), .v (.bool false), .v (.bool false), .v (.bool false), .v (.bool false), .v (.bool false), .v (.bool false), .v (.bool false), .v (.bool false), .v (.bool false), .v (.bool false), .v (.bool false), .v (.bool false), .v (.bool false), .v (.bool false), .v (.bool false), .v (.bool false), .v (.bool false), .v (.bool false), .v (.bool false), .v (.bool false), .v (.bool false), .v (.bool false), .v (.bool false), .v (.bool false), .v (.bool false), .v (.bool false), .v (.bool false), .v (.bool false), .v (.bool false), .v (.bool false), .v (.bool false), .v (.bool false), .v (.bool false), .v (.bool false), .v (.bool false), .v (.bool false), .v (.bool false), .v (.bool false), .v (.bool false), .v (.bool false), .v (.bool false), .v (.bool false), .v (.bool false), .v (.bool false), .v (.bool false), .v (.bool false), .v (.bool false), .v (.bool false), .v (.bool false), .v (.bool false), .v (.bool false), .v (.bool false), .v (.bool false), .v (.bool false), .v (.bool false), .v (.bool false), .v (.bool false), .v (.bool false), .v (.bool false), .v (.bool false), .v (.bool false), .v (.bool false), .v (.bool false), .v (.bool false), .v (.bool false), .v (.bool false), .v (.bool false), .v (.bool false), .v (.bool false), .v (.bool false), .v (.bool false), .v (.bool false), .v (.bool false), .v (.bool false), .v (.bool false), .v (.bool false), .v (.bool false), .v (.bool false), .v (.bool false), .v (.bool false), .v (.bool false), .v (.bool false), .v (.bool false), .v (.bool false), .v (.bool false), .v (.bool false), .v (.bool false), .v (.bool false), .v (.bool false), .v (.bool false), .v (.bool false), .v (.bool false), .v (.bool false), .v (.bool false), .v (.bool false), .v (.bool false), .v (.bool false), .v (.bool false), .v (.bool false), .v (.bool false), .v (.bool false), .v (.bool false), .v (.bool false), .v (.bool false), .v (.bool false), .v (.bool false), .v (.bool false), .v (.bool false), .v (.bool false), .v (.bool false), .v (.bool false), .v (.bool false), .v (.bool false), .v (.bool false), .v (.bool false), .v (.bool false), .v (.bool false), .v (.bool false), .v (.bool false), .v (.bool false), .v (.bool false), .v (.bool false), .v (.bool false), .v (.bool false), .v (.bool false), .v (.bool false), .v (.bool false), .v (.bool false), .v (.bool false), .v (.bool false), .v (.bool false), .v (.bool false), .v (.bool false), .v (.bool false), .v (.bool false), .v (.bool false), .v (.bool false), .v (.bool false), .v (.bool false), .v (.bool false), .v (.bool false), .v (.bool false), .v (.bool false), .v (.bool false), .v (.bool false), .v (.bool false), .v (.bool false), .v (.bool false), .v (.bool false), .v (.bool false), .v (.bool false), .v (.bool false), .v (.bool false), .v (.bool false), .v (.bool false), .v (.bool false), .v (.bool false), .v (.bool false), .v (.bool false), .v (.bool false), .v (.bool false), .v (.bool false), .v (.bool false), .v (.bool false), .v (.bool false), .v (.bool false), .v (.bool false), .v (.bool false), .v (.bool false), .v (.bool false), .v (.bool false), .v (.bool false), .v (.bool false), .v (.bool false), .v (.bool false), .v (.bool false), .v (.bool false), .v (.bool false), .v (.bool false), .v (.bool false), .v (.bool false), .v (.bool false), .v (.bool false), .v (.bool false), .v (.bool false), .v (.bool false), .v (.bool false), .v (.bool false), .v (.bool false), .v (.bool false), .v (.bool false), .v (.bool false), .v (.bool false), .v (.bool false), .v (.bool false), .v (.bool false), .v (.bool false)], none, []⟩,
  ⟨none, .store 90 (some 256) (.t 5) (.t 29), none, [29]⟩,
  ⟨some 6, .assign (.t 30), none, [30]⟩] none [0, 1, 5, 6])
 (.seq (.reg 6 [⟨some 31, .move (.t 6), none, [6]⟩] none [0, 1, 5, 31])
 (.cond [0, 1, 5] (.t 31) (.seq (.reg 7 [⟨some 32, .move (.t 0), none, [0]⟩,
  ⟨some 33, .call n_strings_trimLeftASCII [(.t 32), (.t 5)] [9, 94], none, [5, 32]⟩,
  ⟨some 4, .assign (.t 33), none, [33]⟩] none [4])
 .ret) .skip)))
 k0_strings_TrimLeft)
def k1_strings_TrimLeft : IR := .tail [0, 1] j1_strings_TrimLeft
def j2_strings_TrimLeft : IR :=
 (.seq (.seq (.reg 3 [⟨some 14, .move (.t 1), none, []⟩,
  ⟨some 15, .len 9 true (.t 14), none, [14]⟩,
  ⟨some 16, .bin .eql 3 (.t 15) (.c (Value.int IntKind.i64 1)) 3, none, [15]⟩,
  ⟨some 17, .move (.t 16), none, [16]⟩,
  ⟨some 18, .move (.t 1), some (3, true), []⟩,
  ⟨some 19, .index 9 .str none (.t 18) (.c (Value.int IntKind.i64 0)), some (3, true), [18]⟩,
  ⟨some 20, .bin .lss 5 (.t 19) (.c (Value.int IntKind.u8 128)) 5, some (3, true), [19]⟩,
  ⟨some 21, .pick (.t 17) (.t 20) (.c (Value.bool false)), none, [17, 20]⟩] none [0, 1, 21])
 (.cond [0, 1] (.t 21) (.seq (.reg 4 [⟨some 22, .move (.t 0), none, [0]⟩,
  ⟨some 23, .move (.t 1), none, [1]⟩,
  ⟨some 24, .index 9 .str none (.t 23) (.c (Value.int IntKind.i64 0)), none, [23]⟩,
  ⟨some 25, .call n_strings_trimLeftByte [(.t 22), (.t 24)] [9, 5], none, [22, 24]⟩,
  ⟨some 4, .assign (.t 25), none, [25]⟩] none [4])
 .ret) .skip))
 k1_strings_TrimLeft)
def k2_strings_TrimLeft : IR := .tail [0, 1] j2_strings_TrimLeft
def b_strings_TrimLeft : IR :=
 (.seq (.reg 0 [⟨some 4, .assign (.c (Value.string { data := #[] })), none, [4]⟩] none [0, 1])
 (.seq (.seq (.reg 1 [⟨some 7, .move (.t 0), none, []⟩,
  ⟨some 8, .bin .eql 9 (.t 7) (.c (Value.string { data := #[] })) 9, none, [7]⟩,
  ⟨some 9, .move (.t 8), none, [8]⟩,
  ⟨some 10, .move (.t 1), some (2, false), []⟩,
  ⟨some 11, .bin .eql 9 (.t 10) (.c (Value.string { data := #[] })) 9, some (2, false), [10]⟩,
  ⟨some 12, .pick (.t 9) (.c (Value.bool true)) (.t 11), none, [9, 11]⟩] none [0, 1, 12])
 (.cond [0, 1] (.t 12) (.seq (.reg 2 [⟨some 13, .move (.t 0), none, [0]⟩,
  ⟨some 4, .assign (.t 13), none, [13]⟩] none [4])
 .ret) .skip))
 k2_strings_TrimLeft))
def a_strings_TrimLeft : AFunc := ⟨37, [.tmp 4], b_strings_TrimLeft⟩

def j0_limbs_Print : IR :=
 (.reg 9 [⟨some 22, .move (.t 5), none, []⟩,
  ⟨some 23, .bin .sub 3 (.t 22) (.c (Value.int IntKind.i64 1)) 3, none, [22]⟩,
  ⟨some 5, .assign (.t 23), none, [23]⟩] none [0, 3, 4, 5, 10, 41, 57])
def k0_limbs_Print : IR := .tail [0, 3, 4, 5, 10, 41, 57] j0_limbs_Print
def j1_limbs_Print : IR :=
 (.seq (.block 3 (.seq (.reg 10 [⟨some 24, .move (.t 4), none, []⟩,
  ⟨some 25, .bin .shl 33 (.t 24) (.c (Value.int IntKind.u64 32)) 68, none, [24]⟩,
  ⟨some 26, .move (.t 0), none, []⟩,
  ⟨some 27, .move (.t 5), none, []⟩,
  ⟨some 28, .iaddr 22 (.sl 1) (.t 26) (.t 27), none, []⟩,
  ⟨some 29, .load 49 none (.t 28), none, [26, 27, 28]⟩,
  ⟨some 30, .conv 49 33 (.int .u64) (.t 29), none, [29]⟩,
  ⟨some 31, .bin .or 33 (.t 25) (.t 30) 33, none, [25, 30]⟩,
  ⟨some 4, .assign (.t 31), none, [31]⟩] none [0, 3, 4, 5, 10, 41, 57])
 (.seq (.reg 11 [⟨some 32, .move (.t 0), none, []⟩,
  ⟨some 33, .move (.t 5), none, []⟩,
  ⟨some 34, .move (.t 4), none, []⟩,
  ⟨some 35, .bin .quo 33 (.t 34) (.c (Value.int IntKind.u64 1000000000)) 33, none, [34]⟩,
  ⟨some 36, .conv 33 49 (.int .u32) (.t 35), none, [35]⟩,
  ⟨some 37, .iaddr 22 (.sl 1) (.t 32) (.t 33), none, []⟩,
  ⟨none, .store 49 none (.t 37) (.t 36), none, [32, 33, 36, 37]⟩] none [0, 3, 4, 5, 10, 41, 57])
 (.reg 12 [⟨some 38, .move (.t 4), none, []⟩,
  ⟨some 39, .bin .rem 33 (.t 38) (.c (Value.int IntKind.u64 1000000000)) 33, none, [38]⟩,
  ⟨some 4, .assign (.t 39), none, [39]⟩] none [0, 3, 4, 5, 10, 41, 57]))))
 k0_limbs_Print)
def k1_limbs_Print : IR := .tail [0, 3, 4, 5, 10, 41, 57] j1_limbs_Print
def w1_limbs_Print : IR :=
 (.seq (.seq (.reg 8 [⟨some 20, .move (.t 5), none, []⟩,
  ⟨some 21, .bin .geq 3 (.t 20) (.c (Value.int IntKind.i64 0)) 3, none, [20]⟩] none [0, 3, 4, 5, 10, 21, 41, 57])
 (.cond [0, 3, 4, 5, 10, 41, 57] (.t 21) .skip (.exit 2)))
 k1_limbs_Print)
def l1_limbs_Print : IR := .loop [0, 3, 4, 5, 10, 41, 57] w1_limbs_Print
def j2_limbs_Print : IR :=
 (.reg 19 [⟨some 53, .bin .add 3 (.t 42) (.c (Value.int IntKind.i64 1)) 3, none, []⟩,
  ⟨some 42, .move (.t 53), none, [53]⟩] none [0, 3, 4, 6, 10, 41, 42, 57])
def k2_limbs_Print : IR := .tail [0, 3, 4, 6, 10, 41, 42, 57] j2_limbs_Print
def j3_limbs_Print : IR :=
 (.seq (.block 5 (.seq (.reg 17 [⟨some 44, .move (.t 4), none, []⟩,
  ⟨some 45, .bin .rem 33 (.t 44) (.c (Value.int IntKind.u64 10)) 33, none, [44]⟩,
  ⟨some 46, .bin .add 33 (.c (Value.int IntKind.u64 48)) (.t 45) 33, none, [45]⟩,
  ⟨some 47, .conv 33 21 (.int .i32) (.t 46), none, [46]⟩,
  ⟨some 48, .conv 21 9 .rune (.t 47), none, [47]⟩,
  ⟨some 49, .move (.t 6), none, []⟩,
  ⟨some 50, .bin .add 9 (.t 48) (.t 49) 9, none, [48, 49]⟩,
  ⟨some 6, .assign (.t 50), none, [50]⟩] none [0, 3, 4, 6, 10, 41, 42, 57])
 (.reg 18 [⟨some 51, .move (.t 4), none, []⟩,
  ⟨some 52, .bin .quo 33 (.t 51) (.c (Value.int IntKind.u64 10)) 33, none, [51]⟩,
  ⟨some 4, .assign (.t 52), none, [52]⟩] none [0, 3, 4, 6, 10, 41, 42, 57])))
 k2_limbs_Print)
def k3_limbs_Print : IR := .tail [0, 3, 4, 6, 10, 41, 42, 57] j3_limbs_Print
def w2_limbs_Print : IR :=
 (.seq (.reg 16 [⟨some 43, .bin .lss 3 (.t 42) (.c (Value.int IntKind.i64 9)) 3, none, []⟩] none [0, 3, 4, 6, 10, 41, 42, 43, 57])
 (.seq (.cond [0, 3, 4, 6, 10, 41, 42, 57] (.t 43) .skip (.exit 4))
 k3_limbs_Print))
def l2_limbs_Print : IR := .loop [0, 3, 4, 6, 10, 41, 42, 57] w2_limbs_Print
def j4_limbs_Print : IR :=
 (.reg 20 [⟨some 54, .move (.t 3), none, []⟩,
  ⟨some 55, .move (.t 6), none, [6]⟩,
  ⟨some 56, .lit 67 1 [(.t 55)], none, [55]⟩,
  ⟨some 57, .append 67 67 false 1 16 (.t 54) (.t 56), none, [54, 56]⟩,
  ⟨some 3, .assign (.t 57), none, []⟩] none [0, 3, 10, 41, 57])
def k4_limbs_Print : IR := .tail [0, 3, 6, 10, 41, 57] j4_limbs_Print
def j5_limbs_Print : IR :=
 (.seq (.reg 13 [⟨some 40, .move (.t 0), none, []⟩,
  ⟨some 41, .call n_limbs_trim [(.t 40)] [22], none, [40]⟩,
  ⟨some 0, .assign (.t 41), none, []⟩] none [0, 3, 4, 10, 41, 57])
 (.seq (.reg 14 [⟨some 6, .assign (.c (Value.string { data := #[] })), none, []⟩] none [0, 3, 4, 6, 10, 41, 57])
 (.seq (.seq (.reg 15 [⟨some 42, .move (.c (Value.int IntKind.i64 0)), none, []⟩] none [0, 3, 4, 6, 10, 41, 42, 57])
 (.block 4 l2_limbs_Print))
 k4_limbs_Print)))
def k5_limbs_Print : IR := .tail [0, 3, 4, 10, 41, 57] j5_limbs_Print
def j6_limbs_Print : IR :=
 (.block 1 (.seq (.reg 6 [⟨some 4, .assign (.c (Value.int IntKind.u64 0)), none, []⟩] none [0, 3, 4, 10, 41, 57])
 (.seq (.seq (.reg 7 [⟨some 17, .move (.t 0), none, []⟩,
  ⟨some 18, .len 22 false (.t 17), none, [17]⟩,
  ⟨some 19, .bin .sub 3 (.t 18) (.c (Value.int IntKind.i64 1)) 3, none, [18]⟩,
  ⟨some 5, .assign (.t 19), none, [19]⟩] none [0, 3, 4, 5, 10, 41, 57])
 (.block 2 l1_limbs_Print))
 k5_limbs_Print)))
def k6_limbs_Print : IR := .tail [0, 3, 10, 41, 57] j6_limbs_Print
def w0_limbs_Print : IR :=
 (.seq (.seq (.reg 5 [⟨some 14, .move (.t 0), none, []⟩,
  ⟨some 15, .len 22 false (.t 14), none, [14]⟩,
  ⟨some 16, .bin .gtr 3 (.t 15) (.c (Value.int IntKind.i64 0)) 3, none, [15]⟩] none [0, 3, 10, 16, 41, 57])
 (.cond [0, 3, 10, 41, 57] (.t 16) .skip (.exit 0)))
 k6_limbs_Print)
def l0_limbs_Print : IR := .loop [0, 3, 10, 41, 57] w0_limbs_Print
def j7_limbs_Print : IR :=
 (.reg 24 [⟨some 63, .move (.t 8), none, []⟩,
  ⟨some 64, .bin .sub 3 (.t 63) (.c (Value.int IntKind.i64 1)) 3, none, [63]⟩,
  ⟨some 8, .assign (.t 64), none, [64]⟩] none [3, 7, 8, 57])
def k7_limbs_Print : IR := .tail [3, 7, 8, 57] j7_limbs_Print
def j8_limbs_Print : IR :=
 (.seq (.block 7 (.reg 25 [⟨some 65, .move (.t 3), none, []⟩,
  ⟨some 66, .move (.t 8), none, []⟩,
  ⟨some 67, .iaddr 67 (.sl 1) (.t 65) (.t 66), none, []⟩,
  ⟨some 68, .load 9 none (.t 67), none, [65, 66, 67]⟩,
  ⟨some 69, .call n_strings_Builder_WriteString [(.t 7), (.t 68)] [72, 9], none, [68, 69]⟩] none [3, 7, 8, 57]))
 k7_limbs_Print)
def k8_limbs_Print : IR := .tail [3, 7, 8, 57] j8_limbs_Print
def w3_limbs_Print : IR :=
 (.seq (.seq (.reg 23 [⟨some 61, .move (.t 8), none, []⟩,
  ⟨some 62, .bin .geq 3 (.t 61) (.c (Value.int IntKind.i64 0)) 3, none, [61]⟩] none [3, 7, 8, 57, 62])
 (.cond [3, 7, 8, 57] (.t 62) .skip (.exit 6)))
 k8_limbs_Print)
def l3_limbs_Print : IR := .loop [3, 7, 8, 57] w3_limbs_Print
def j9_limbs_Print : IR :=
 (.seq (.reg 26 [⟨some 70, .call n_strings_Builder_String [(.t 7)] [72], none, [7]⟩,
  ⟨some 71, .call n_strings_TrimLeft [(.t 70), (.c (Value.string { data := #[48] }))] [9, 9], none, [70]⟩,
  ⟨some 2, .assign (.t 71), none, [71]⟩] none [2])
 .ret)
def k9_limbs_Print : IR := .tail [7] j9_limbs_Print
def j10_limbs_Print : IR :=
 (.seq (.reg 21 [⟨some 7, .allocB 72 5, none, []⟩] none [3, 7, 57])
 (.seq (.seq (.reg 22 [⟨some 58, .move (.t 3), none, []⟩,
  ⟨some 59, .len 67 false (.t 58), none, [58]⟩,
  ⟨some 60, .bin .sub 3 (.t 59) (.c (Value.int IntKind.i64 1)) 3, none, [59]⟩,
  ⟨some 8, .assign (.t 60), none, [60]⟩] none [3, 7, 8, 57])
 (.block 6 l3_limbs_Print))
 k9_limbs_Print))
def k10_limbs_Print : IR := .tail [3, 57] j10_limbs_Print
def j11_limbs_Print : IR :=
 (.seq (.reg 4 [⟨some 3, .assign (.nilS 1), none, []⟩] none [0, 3, 10, 41, 57])
 (.seq (.block 0 l0_limbs_Print)
 k10_limbs_Print))
def k11_limbs_Print : IR := .tail [0, 10, 41] j11_limbs_Print
def b_limbs_Print : IR :=
 (.seq (.reg 0 [⟨some 2, .assign (.c (Value.string { data := #[] })), none, [2]⟩] none [0, 10, 41])
 (.seq (.reg 1 [⟨some 9, .move (.t 0), none, []⟩,
  ⟨some 10, .call n_limbs_Norm [(.t 9)] [22], none, [9]⟩,
  ⟨some 0, .assign (.t 10), none, []⟩] none [0, 10, 41])
 (.seq (.seq (.reg 2 [⟨some 11, .move (.t 0), none, []⟩,
  ⟨some 12, .len 22 false (.t 11), none, [11]⟩,
  ⟨some 13, .bin .eql 3 (.t 12) (.c (Value.int IntKind.i64 0)) 3, none, [12]⟩] none [0, 10, 13, 41])
 (.cond [0, 10, 41] (.t 13) (.seq (.reg 3 [⟨some 2, .assign (.c (Value.string { data := #[48] })), none, []⟩] none [2])
 .ret) .skip))
 k11_limbs_Print)))
def a_limbs_Print : AFunc := ⟨72, [.tmp 2], b_limbs_Print⟩

def b_limbs_From : IR :=
 (.seq (.reg 0 [⟨some 2, .assign (.nilS 1), none, [2]⟩] none [0])
 (.seq (.reg 1 [⟨some 3, .move (.t 0), none, []⟩,
  ⟨some 4, .call n_limbs_low [(.t 3)] [33], none, [3]⟩,
  ⟨some 5, .move (.t 0), none, [0]⟩,
  ⟨some 6, .call n_limbs_high [(.t 5)] [33], none, [5]⟩,
  ⟨some 7, .conv 33 49 (.int .u32) (.t 6), none, [6]⟩,
  ⟨some 8, .lit 22 1 [(.t 4), (.t 7)], none, [4, 7]⟩,
  ⟨some 9, .call n_limbs_trim [(.t 8)] [22], none, [8]⟩,
  ⟨some 2, .assign (.t 9), none, []⟩] none [2, 9])
 .ret))
def a_limbs_From : AFunc := ⟨10, [.tmp 2], b_limbs_From⟩

def j0_limbs_Cmp : IR :=
 (.seq (.reg 5 [⟨some 4, .assign (.c (Value.int IntKind.i64 1)), none, []⟩] none [4])
 .ret)
def k0_limbs_Cmp : IR := .tail [] j0_limbs_Cmp
def j1_limbs_Cmp : IR :=
 (.reg 8 [⟨some 25, .move (.t 5), none, []⟩,
  ⟨some 26, .bin .sub 3 (.t 25) (.c (Value.int IntKind.i64 1)) 3, none, [25]⟩,
  ⟨some 5, .assign (.t 26), none, [26]⟩] none [0, 1, 5, 7, 9])
def k1_limbs_Cmp : IR := .tail [0, 1, 5, 7, 9] j1_limbs_Cmp
def j2_limbs_Cmp : IR :=
 (.seq (.block 1 (.block 2 (.seq (.reg 9 [⟨some 28, .move (.t 0), none, []⟩,
  ⟨some 29, .move (.t 5), none, []⟩,
  ⟨some 30, .iaddr 22 (.sl 1) (.t 28) (.t 29), none, []⟩,
  ⟨some 31, .load 49 none (.t 30), none, [28, 29, 30]⟩,
  ⟨some 32, .move (.t 1), none, []⟩,
  ⟨some 33, .move (.t 5), none, []⟩,
  ⟨some 34, .iaddr 22 (.sl 1) (.t 32) (.t 33), none, []⟩,
  ⟨some 35, .load 49 none (.t 34), none, [32, 33, 34]⟩,
  ⟨some 36, .bin .lss 49 (.t 31) (.t 35) 49, none, [31, 35]⟩,
  ⟨some 27, .assign (.t 36), none, [36]⟩] (some [⟨0, []⟩, ⟨1, []⟩, ⟨2, []⟩, ⟨4, []⟩, ⟨5, []⟩, ⟨6, []⟩, ⟨3, []⟩, ⟨7, []⟩, ⟨8, []⟩, ⟨9, []⟩]) [0, 1, 5, 7, 9, 27])
 (.cond [0, 1, 5, 7, 9] (.t 27) (.seq (.reg 10 [⟨some 4, .assign (.c (Value.int IntKind.i64 (-1))), none, []⟩] none [4])
 .ret) (.seq (.reg 11 [⟨some 38, .move (.t 0), none, []⟩,
  ⟨some 39, .move (.t 5), none, []⟩,
  ⟨some 40, .iaddr 22 (.sl 1) (.t 38) (.t 39), none, []⟩,
  ⟨some 41, .load 49 none (.t 40), none, [38, 39, 40]⟩,
  ⟨some 42, .move (.t 1), none, []⟩,
  ⟨some 43, .move (.t 5), none, []⟩,
  ⟨some 44, .iaddr 22 (.sl 1) (.t 42) (.t 43), none, []⟩,
  ⟨some 45, .load 49 none (.t 44), none, [42, 43, 44]⟩,
  ⟨some 46, .bin .gtr 49 (.t 41) (.t 45) 49, none, [41, 45]⟩,
  ⟨some 37, .assign (.t 46), none, [46]⟩] (some [⟨0, []⟩, ⟨1, []⟩, ⟨2, []⟩, ⟨4, []⟩, ⟨5, []⟩, ⟨6, []⟩, ⟨3, []⟩, ⟨7, []⟩, ⟨8, []⟩, ⟨9, []⟩]) [0, 1, 5, 7, 9, 37])
 (.cond [0, 1, 5, 7, 9] (.t 37) (.seq (.reg 12 [⟨some 4, .assign (.c (Value.int IntKind.i64 1)), none, []⟩] none [4])
 .ret) .skip))))))
 k1_limbs_Cmp)
def k2_limbs_Cmp : IR := .tail [0, 1, 5, 7, 9] j2_limbs_Cmp
def w0_limbs_Cmp : IR :=
 (.seq (.seq (.reg 7 [⟨some 23, .move (.t 5), none, []⟩,
  ⟨some 24, .bin .geq 3 (.t 23) (.c (Value.int IntKind.i64 0)) 3, none, [23]⟩] none [0, 1, 5, 7, 9, 24])
 (.cond [0, 1, 5, 7, 9] (.t 24) .skip (.exit 0)))
 k2_limbs_Cmp)
def l0_limbs_Cmp : IR := .loop [0, 1, 5, 7, 9] w0_limbs_Cmp
def j3_limbs_Cmp : IR :=
 (.seq (.reg 13 [⟨some 4, .assign (.c (Value.int IntKind.i64 0)), none, []⟩] none [4])
 .ret)
def k3_limbs_Cmp : IR := .tail [] j3_limbs_Cmp
def j4_limbs_Cmp : IR :=
 (.seq (.seq (.reg 6 [⟨some 20, .move (.t 0), none, []⟩,
  ⟨some 21, .len 22 false (.t 20), none, [20]⟩,
  ⟨some 22, .bin .sub 3 (.t 21) (.c (Value.int IntKind.i64 1)) 3, none, [21]⟩,
  ⟨some 5, .assign (.t 22), none, [22]⟩] none [0, 1, 5, 7, 9])
 (.block 0 l0_limbs_Cmp))
 k3_limbs_Cmp)
def k4_limbs_Cmp : IR := .tail [0, 1, 7, 9] j4_limbs_Cmp
def b_limbs_Cmp : IR :=
 (.seq (.reg 0 [⟨some 4, .assign (.c (Value.int IntKind.i64 0)), none, [4]⟩] none [0, 1, 7, 9])
 (.seq (.reg 1 [⟨some 6, .move (.t 0), none, []⟩,
  ⟨some 7, .call n_limbs_trim [(.t 6)] [22], none, [6]⟩,
  ⟨some 8, .move (.t 1), none, []⟩,
  ⟨some 9, .call n_limbs_trim [(.t 8)] [22], none, [8]⟩,
  ⟨some 0, .assign (.t 7), none, []⟩,
  ⟨some 1, .assign (.t 9), none, []⟩] none [0, 1, 7, 9])
 (.seq (.seq (.reg 2 [⟨some 10, .move (.t 0), none, []⟩,
  ⟨some 11, .len 22 false (.t 10), none, [10]⟩,
  ⟨some 12, .move (.t 1), none, []⟩,
  ⟨some 13, .len 22 false (.t 12), none, [12]⟩,
  ⟨some 14, .bin .neq 3 (.t 11) (.t 13) 3, none, [11, 13]⟩] none [0, 1, 7, 9, 14])
 (.cond [0, 1, 7, 9] (.t 14) (.seq (.seq (.reg 3 [⟨some 15, .move (.t 0), none, []⟩,
  ⟨some 16, .len 22 false (.t 15), none, [0, 7, 15]⟩,
  ⟨some 17, .move (.t 1), none, []⟩,
  ⟨some 18, .len 22 false (.t 17), none, [1, 9, 17]⟩,
  ⟨some 19, .bin .lss 3 (.t 16) (.t 18) 3, none, [16, 18]⟩] none [19])
 (.cond [] (.t 19) (.seq (.reg 4 [⟨some 4, .assign (.c (Value.int IntKind.i64 (-1))), none, []⟩] none [4])
 .ret) .skip))
 k0_limbs_Cmp) .skip))
 k4_limbs_Cmp)))
def a_limbs_Cmp : AFunc := ⟨47, [.tmp 4], b_limbs_Cmp⟩

def j0_bits_Len32 : IR :=
 (.seq (.reg 7 [⟨some 13, .move (.t 2), none, []⟩,
  ⟨some 14, .move (.t 0), none, [0]⟩,
  ⟨some 15, .conv 49 5 (.int .u8) (.t 14), none, [14]⟩,
  ⟨some 16, .index 9 .str none (.c (Value.string { data := #[0, 1, 2, 2, 3, 3, 3, 3, 4, 4, 4, 4, 4, 4, 4, 4, 5, 5, 5, 5, 5, 5, 5, 5, 5, 5, 5, 5, 5, 5, 5, 5, 6, 6, 6, 6, 6, 6, 6, 6, 6, 6, 6, 6, 6, 6, 6, 6, 6, 6, 6, 6, 6, 6, 6, 6, 6, 6, 6, 6, 6, 6, 6, 6, 7, 7, 7, 7, 7, 7, 7, 7, 7, 7, 7, 7, 7, 7, 7, 7, 7, 7, 7, 7, 7, 7, 7, 7, 7, 7, 7, 7, 7, 7, 7, 7, 7, 7, 7, 7, 7, 7, 7, 7, 7, 7, 7, 7, 7, 7, 7, 7, 7, 7, 7, 7, 7, 7, 7, 7, 7, 7, 7, 7, 7, 7, 7, 7, 8, 8, 8, 8, 8, 8, 8, 8, 8, 8, 8, 8, 8, 8, 8, 8, 8, 8, 8, 8, 8, 8, 8, 8, 8, 8, 8, 8, 8, 8, 8, 8, 8, 8, 8, 8, 8, 8, 8, 8, 8, 8, 8, 8, 8, 8, 8, 8, 8, 8, 8, 8, 8, 8, 8, 8, 8, 8, 8, 8, 8, 8, 8, 8, 8, 8, 8, 8, 8, 8, 8, 8, 8, 8, 8, 8, 8, 8, 8, 8, 8, 8, 8, 8, 8, 8, 8, 8, 8, 8, 8, 8, 8, 8, 8, 8, 8, 8, 8, 8, 8, 8, 8, 8, 8, 8, 8, 8, 8, 8, 8, 8, 8, 8, 8, 8, 8, 8, 8, 8, 8, 8, 8, 8, 8, 8, 8, 8] })) (.t 15), none, [15]⟩,
  ⟨some 17, .conv 5 3 (.int .i64) (.t 16), none, [16]⟩,
  ⟨some 18, .bin .add 3 (.t 13) (.t 17) 3, none, [13, 17]⟩,
  ⟨some 2, .assign (.t 18), none, [18]⟩] none [2])
 .ret)
def k0_bits_Len32 : IR := .tail [0, 2] j0_bits_Len32
def j1_bits_Len32 : IR :=
 (.seq (.seq (.reg 4 [⟨some 7, .move (.t 0), none, []⟩,
  ⟨some 8, .bin .geq 49 (.t 7) (.c (Value.int IntKind.u32 256)) 49, none, [7]⟩] none [0, 2, 8])
 (.cond [0, 2] (.t 8) (.seq (.reg 5 [⟨some 9, .move (.t 0), none, []⟩,
  ⟨some 10, .bin .shr 49 (.t 9) (.c (Value.int IntKind.u64 8)) 68, none, [9]⟩,
  ⟨some 0, .assign (.t 10), none, [10]⟩] none [0, 2])
 (.reg 6 [⟨some 11, .move (.t 2), none, []⟩,
  ⟨some 12, .bin .add 3 (.t 11) (.c (Value.int IntKind.i64 8)) 3, none, [11]⟩,
  ⟨some 2, .assign (.t 12), none, [12]⟩] none [0, 2])) .skip))
 k0_bits_Len32)
def k1_bits_Len32 : IR := .tail [0, 2] j1_bits_Len32
def b_bits_Len32 : IR :=
 (.seq (.reg 0 [⟨some 2, .assign (.c (Value.int IntKind.i64 0)), none, []⟩] none [0, 2])
 (.seq (.seq (.reg 1 [⟨some 3, .move (.t 0), none, []⟩,
  ⟨some 4, .bin .geq 49 (.t 3) (.c (Value.int IntKind.u32 65536)) 49, none, [3]⟩] none [0, 2, 4])
 (.cond [0, 2] (.t 4) (.seq (.reg 2 [⟨some 5, .move (.t 0), none, []⟩,
  ⟨some 6, .bin .shr 49 (.t 5) (.c (Value.int IntKind.u64 16)) 68, none, [5]⟩,
  ⟨some 0, .assign (.t 6), none, [6]⟩] none [0])
 (.reg 3 [⟨some 2, .assign (.c (Value.int IntKind.i64 16)), none, []⟩] none [0, 2])) .skip))
 k1_bits_Len32))
def a_bits_Len32 : AFunc := ⟨19, [.tmp 2], b_bits_Len32⟩

def b_bits_LeadingZeros32 : IR :=
 (.seq (.reg 0 [⟨some 2, .assign (.c (Value.int IntKind.i64 0)), none, [2]⟩] none [0])
 (.seq (.reg 1 [⟨some 3, .move (.t 0), none, [0]⟩,
  ⟨some 4, .call n_bits_Len32 [(.t 3)] [49], none, [3]⟩,
  ⟨some 5, .bin .sub 3 (.c (Value.int IntKind.i64 32)) (.t 4) 3, none, [4]⟩,
  ⟨some 2, .assign (.t 5), none, [5]⟩] none [2])
 .ret))
def a_bits_LeadingZeros32 : AFunc := ⟨6, [.tmp 2], b_bits_LeadingZeros32⟩

def j0_limbs_up : IR :=
 (.reg 12 [⟨some 43, .bin .add 3 (.t 25) (.c (Value.int IntKind.i64 1)) 3, none, []⟩,
  ⟨some 25, .move (.t 43), none, [43]⟩] none [0, 1, 5, 6, 10, 22, 23, 24, 25, 40])
def k0_limbs_up : IR := .tail [0, 1, 5, 6, 10, 22, 23, 24, 25, 40] j0_limbs_up
def j1_limbs_up : IR :=
 (.seq (.block 1 (.seq (.reg 8 [⟨some 27, .iaddr 22 (.sl 1) (.t 23) (.t 25), none, []⟩,
  ⟨some 28, .load 49 none (.t 27), none, [27]⟩,
  ⟨some 8, .assign (.t 28), none, [28]⟩] none [0, 1, 5, 6, 8, 10, 22, 23, 24, 25, 40])
 (.seq (.reg 9 [⟨some 29, .move (.t 6), none, []⟩,
  ⟨some 30, .move (.t 8), none, [8]⟩,
  ⟨some 31, .conv 49 33 (.int .u64) (.t 30), none, [30]⟩,
  ⟨some 32, .move (.t 1), none, []⟩,
  ⟨some 33, .bin .rem 3 (.t 32) (.c (Value.int IntKind.i64 32)) 3, none, [32]⟩,
  ⟨some 34, .bin .shl 33 (.t 31) (.t 33) 3, none, [31, 33]⟩,
  ⟨some 35, .bin .or 33 (.t 29) (.t 34) 33, none, [29, 34]⟩,
  ⟨some 6, .assign (.t 35), none, [35]⟩] none [0, 1, 5, 6, 10, 22, 23, 24, 25, 40])
 (.seq (.reg 10 [⟨some 36, .move (.t 5), none, []⟩,
  ⟨some 37, .move (.t 6), none, []⟩,
  ⟨some 38, .call n_limbs_low [(.t 37)] [33], none, [37]⟩,
  ⟨some 39, .lit 22 1 [(.t 38)], none, [38]⟩,
  ⟨some 40, .append 22 22 false 1 4 (.t 36) (.t 39), none, [36, 39]⟩,
  ⟨some 5, .assign (.t 40), none, []⟩] none [0, 1, 5, 6, 10, 22, 23, 24, 25, 40])
 (.reg 11 [⟨some 41, .move (.t 6), none, []⟩,
  ⟨some 42, .call n_limbs_high [(.t 41)] [33], none, [41]⟩,
  ⟨some 6, .assign (.t 42), none, [42]⟩] none [0, 1, 5, 6, 10, 22, 23, 24, 25, 40])))))
 k0_limbs_up)
def k1_limbs_up : IR := .tail [0, 1, 5, 6, 10, 22, 23, 24, 25, 40] j1_limbs_up
def w0_limbs_up : IR :=
 (.seq (.reg 7 [⟨some 26, .bin .lss 3 (.t 25) (.t 24) 3, none, []⟩] none [0, 1, 5, 6, 10, 22, 23, 24, 25, 26, 40])
 (.seq (.cond [0, 1, 5, 6, 10, 22, 23, 24, 25, 40] (.t 26) .skip (.exit 0))
 k1_limbs_up))
def l0_limbs_up : IR := .loop [0, 1, 5, 6, 10, 22, 23, 24, 25, 40] w0_limbs_up
def j2_limbs_up : IR :=
 (.seq (.reg 13 [⟨some 44, .move (.t 5), none, []⟩,
  ⟨some 45, .move (.t 6), none, [6]⟩,
  ⟨some 46, .conv 33 49 (.int .u32) (.t 45), none, [45]⟩,
  ⟨some 47, .lit 22 1 [(.t 46)], none, [46]⟩,
  ⟨some 48, .append 22 22 false 1 4 (.t 44) (.t 47), none, [5, 22, 40, 44, 47]⟩,
  ⟨some 49, .call n_limbs_trim [(.t 48)] [22], none, [48]⟩,
  ⟨some 4, .assign (.t 49), none, []⟩] none [4, 49])
 .ret)
def k2_limbs_up : IR := .tail [5, 6, 22, 40] j2_limbs_up
def j3_limbs_up : IR :=
 (.seq (.reg 4 [⟨some 14, .move (.t 1), none, []⟩,
  ⟨some 15, .bin .quo 3 (.t 14) (.c (Value.int IntKind.i64 32)) 3, none, [14]⟩,
  ⟨some 16, .move (.t 1), none, []⟩,
  ⟨some 17, .bin .quo 3 (.t 16) (.c (Value.int IntKind.i64 32)) 3, none, [16]⟩,
  ⟨some 18, .move (.t 0), none, []⟩,
  ⟨some 19, .len 22 false (.t 18), none, [18]⟩,
  ⟨some 20, .bin .add 3 (.t 17) (.t 19) 3, none, [17, 19]⟩,
  ⟨some 21, .bin .add 3 (.t 20) (.c (Value.int IntKind.i64 1)) 3, none, [20]⟩,
  ⟨some 22, .mk 22 1 4 (.v (.int .u32 0)) (.t 15) (.t 21), none, [15, 21]⟩,
  ⟨some 5, .assign (.t 22), none, []⟩] none [0, 1, 5, 10, 22, 40])
 (.seq (.reg 5 [⟨some 6, .assign (.c (Value.int IntKind.u64 0)), none, []⟩] none [0, 1, 5, 6, 10, 22, 40])
 (.seq (.seq (.reg 6 [⟨some 23, .move (.t 0), none, []⟩,
  ⟨some 24, .len 22 false (.t 23), none, []⟩,
  ⟨some 25, .move (.c (Value.int IntKind.i64 0)), none, []⟩] none [0, 1, 5, 6, 10, 22, 23, 24, 25, 40])
 (.block 0 l0_limbs_up))
 k2_limbs_up)))
def k3_limbs_up : IR := .tail [0, 1, 10] j3_limbs_up
def b_limbs_up : IR :=
 (.seq (.reg 0 [⟨some 4, .assign (.nilS 1), none, [4]⟩] none [0, 1, 10])
 (.seq (.reg 1 [⟨some 9, .move (.t 0), none, []⟩,
  ⟨some 10, .call n_limbs_trim [(.t 9)] [22], none, [9]⟩,
  ⟨some 0, .assign (.t 10), none, []⟩] none [0, 1, 10])
 (.seq (.seq (.reg 2 [⟨some 11, .move (.t 0), none, []⟩,
  ⟨some 12, .len 22 false (.t 11), none, [11]⟩,
  ⟨some 13, .bin .eql 3 (.t 12) (.c (Value.int IntKind.i64 0)) 3, none, [12]⟩] none [0, 1, 10, 13])
 (.cond [0, 1, 10] (.t 13) (.seq (.reg 3 [⟨some 4, .assign (.nilS 1), none, []⟩] none [4, 49])
 .ret) .skip))
 k3_limbs_up)))
def a_limbs_up : AFunc := ⟨50, [.tmp 4], b_limbs_up⟩

def b_bits_Sub32 : IR :=
 (.seq (.reg 0 [⟨some 6, .assign (.c (Value.int IntKind.u32 0)), none, [6]⟩,
  ⟨some 7, .assign (.c (Value.int IntKind.u32 0)), none, [7]⟩] none [0, 1, 2])
 (.seq (.reg 1 [⟨some 8, .move (.t 0), none, []⟩,
  ⟨some 9, .move (.t 1), none, []⟩,
  ⟨some 10, .bin .sub 49 (.t 8) (.t 9) 49, none, [8, 9]⟩,
  ⟨some 11, .move (.t 2), none, [2]⟩,
  ⟨some 12, .bin .sub 49 (.t 10) (.t 11) 49, none, [10, 11]⟩,
  ⟨some 6, .assign (.t 12), none, [12]⟩] none [0, 1, 6])
 (.seq (.reg 2 [⟨some 13, .move (.t 0), none, []⟩,
  ⟨some 14, .un .xor 49 (.t 13), none, [13]⟩,
  ⟨some 15, .move (.t 1), none, []⟩,
  ⟨some 16, .bin .and 49 (.t 14) (.t 15) 49, none, [14, 15]⟩,
  ⟨some 17, .move (.t 0), none, [0]⟩,
  ⟨some 18, .move (.t 1), none, [1]⟩,
  ⟨some 19, .bin .xor 49 (.t 17) (.t 18) 49, none, [17, 18]⟩,
  ⟨some 20, .un .xor 49 (.t 19), none, [19]⟩,
  ⟨some 21, .move (.t 6), none, []⟩,
  ⟨some 22, .bin .and 49 (.t 20) (.t 21) 49, none, [20, 21]⟩,
  ⟨some 23, .bin .or 49 (.t 16) (.t 22) 49, none, [16, 22]⟩,
  ⟨some 24, .bin .shr 49 (.t 23) (.c (Value.int IntKind.u64 31)) 68, none, [23]⟩,
  ⟨some 7, .assign (.t 24), none, [24]⟩] none [6, 7])
 .ret)))
def a_bits_Sub32 : AFunc := ⟨25, [.tmp 6, .tmp 7], b_bits_Sub32⟩

def b_bits_Add32 : IR :=
 (.seq (.reg 0 [⟨some 6, .assign (.c (Value.int IntKind.u32 0)), none, [6]⟩,
  ⟨some 7, .assign (.c (Value.int IntKind.u32 0)), none, [7]⟩] none [0, 1, 2])
 (.seq (.reg 1 [⟨some 9, .move (.t 0), none, [0]⟩,
  ⟨some 10, .conv 49 33 (.int .u64) (.t 9), none, [9]⟩,
  ⟨some 11, .move (.t 1), none, [1]⟩,
  ⟨some 12, .conv 49 33 (.int .u64) (.t 11), none, [11]⟩,
  ⟨some 13, .bin .add 33 (.t 10) (.t 12) 33, none, [10, 12]⟩,
  ⟨some 14, .move (.t 2), none, [2]⟩,
  ⟨some 15, .conv 49 33 (.int .u64) (.t 14), none, [14]⟩,
  ⟨some 16, .bin .add 33 (.t 13) (.t 15) 33, none, [13, 15]⟩,
  ⟨some 8, .assign (.t 16), none, [16]⟩] none [8])
 (.seq (.reg 2 [⟨some 17, .move (.t 8), none, []⟩,
  ⟨some 18, .conv 33 49 (.int .u32) (.t 17), none, [17]⟩,
  ⟨some 6, .assign (.t 18), none, [18]⟩] none [6, 8])
 (.seq (.reg 3 [⟨some 19, .move (.t 8), none, [8]⟩,
  ⟨some 20, .bin .shr 33 (.t 19) (.c (Value.int IntKind.u64 32)) 68, none, [19]⟩,
  ⟨some 21, .conv 33 49 (.int .u32) (.t 20), none, [20]⟩,
  ⟨some 7, .assign (.t 21), none, [21]⟩] none [6, 7])
 .ret))))
def a_bits_Add32 : AFunc := ⟨22, [.tmp 6, .tmp 7], b_bits_Add32⟩

def j0_limbs_long : IR :=
 (.cond [0, 1, 5, 6, 7, 8, 9, 11, 12, 24, 100000] (.t 71) (.seq (.reg 12 [⟨some 89, .move (.t 11), none, []⟩,
  ⟨some 90, .bin .sub 33 (.t 89) (.c (Value.int IntKind.u64 1)) 33, none, [89]⟩,
  ⟨some 11, .assign (.t 90), none, [90]⟩] none [0, 1, 5, 6, 7, 8, 9, 11, 12, 24, 100000])
 (.reg 13 [⟨some 91, .move (.t 12), none, []⟩,
  ⟨some 92, .move (.t 7), none, []⟩,
  ⟨some 93, .bin .add 33 (.t 91) (.t 92) 33, none, [91, 92]⟩,
  ⟨some 12, .assign (.t 93), none, [93]⟩] none [0, 1, 5, 6, 7, 8, 9, 11, 12, 24, 100000])) (.exit 2))
def k0_limbs_long : IR := .tail [0, 1, 5, 6, 7, 8, 9, 11, 12, 24, 71, 100000] j0_limbs_long
def j1_limbs_long : IR :=
 (.block 3 (.block 4 (.seq (.seq (.reg 10 [⟨some 72, .move (.t 11), none, []⟩,
  ⟨some 73, .bin .geq 33 (.t 72) (.c (Value.int IntKind.u64 4294967296)) 33, none, [72]⟩,
  ⟨some 71, .assign (.t 73), none, [73]⟩] none [0, 1, 5, 6, 7, 8, 9, 11, 12, 24, 71, 100000])
 (.cond [0, 1, 5, 6, 7, 8, 9, 11, 12, 24, 71, 100000] (.t 71) .skip (.reg 11 [⟨some 74, .move (.t 11), none, []⟩,
  ⟨some 75, .move (.t 8), none, []⟩,
  ⟨some 76, .bin .mul 33 (.t 74) (.t 75) 33, none, [74, 75]⟩,
  ⟨some 77, .move (.t 12), none, []⟩,
  ⟨some 78, .bin .shl 33 (.t 77) (.c (Value.int IntKind.u64 32)) 68, none, [77]⟩,
  ⟨some 79, .move (.t 0), none, []⟩,
  ⟨some 80, .move (.t 9), none, []⟩,
  ⟨some 81, .move (.t 5), none, []⟩,
  ⟨some 82, .bin .add 3 (.t 80) (.t 81) 3, none, [80, 81]⟩,
  ⟨some 83, .bin .sub 3 (.t 82) (.c (Value.int IntKind.i64 2)) 3, none, [82]⟩,
  ⟨some 84, .iaddr 22 (.sl 1) (.t 79) (.t 83), none, []⟩,
  ⟨some 85, .load 49 none (.t 84), none, [79, 83, 84]⟩,
  ⟨some 86, .conv 49 33 (.int .u64) (.t 85), none, [85]⟩,
  ⟨some 87, .bin .or 33 (.t 78) (.t 86) 33, none, [78, 86]⟩,
  ⟨some 88, .bin .gtr 33 (.t 76) (.t 87) 33, none, [76, 87]⟩,
  ⟨some 71, .assign (.t 88), none, [88]⟩] none [0, 1, 5, 6, 7, 8, 9, 11, 12, 24, 71, 100000])))
 k0_limbs_long)))
def k1_limbs_long : IR := .tail [0, 1, 5, 6, 7, 8, 9, 11, 12, 24, 100000] j1_limbs_long
def w1_limbs_long : IR :=
 (.seq (.seq (.reg 9 [⟨some 69, .move (.t 12), none, []⟩,
  ⟨some 70, .bin .lss 33 (.t 69) (.c (Value.int IntKind.u64 4294967296)) 33, none, [69]⟩] none [0, 1, 5, 6, 7, 8, 9, 11, 12, 24, 70, 100000])
 (.cond [0, 1, 5, 6, 7, 8, 9, 11, 12, 24, 100000] (.t 70) .skip (.exit 2)))
 k1_limbs_long)
def l1_limbs_long : IR := .loop [0, 1, 5, 6, 7, 8, 9, 11, 12, 24, 100000] w1_limbs_long
def j2_limbs_long : IR :=
 (.reg 22 [⟨some 127, .bin .add 3 (.t 95) (.c (Value.int IntKind.i64 1)) 3, none, []⟩,
  ⟨some 95, .move (.t 127), none, [127]⟩] none [0, 1, 5, 6, 7, 8, 9, 11, 13, 14, 24, 94, 95, 100000])
def k2_limbs_long : IR := .tail [0, 1, 5, 6, 7, 8, 9, 11, 13, 14, 24, 94, 95, 100000] j2_limbs_long
def j3_limbs_long : IR :=
 (.seq (.block 6 (.seq (.reg 18 [⟨some 97, .move (.t 95), none, []⟩,
  ⟨some 15, .assign (.t 97), none, [97]⟩] none [0, 1, 5, 6, 7, 8, 9, 11, 13, 14, 15, 24, 94, 95, 100000])
 (.seq (.reg 19 [⟨some 98, .move (.t 13), none, []⟩,
  ⟨some 99, .move (.t 11), none, []⟩,
  ⟨some 100, .move (.t 1), none, []⟩,
  ⟨some 101, .move (.t 15), none, []⟩,
  ⟨some 102, .iaddr 22 (.sl 1) (.t 100) (.t 101), none, []⟩,
  ⟨some 103, .load 49 none (.t 102), none, [100, 101, 102]⟩,
  ⟨some 104, .conv 49 33 (.int .u64) (.t 103), none, [103]⟩,
  ⟨some 105, .bin .mul 33 (.t 99) (.t 104) 33, none, [99, 104]⟩,
  ⟨some 106, .bin .add 33 (.t 98) (.t 105) 33, none, [98, 105]⟩,
  ⟨some 13, .assign (.t 106), none, [106]⟩] none [0, 1, 5, 6, 7, 8, 9, 11, 13, 14, 15, 24, 94, 95, 100000])
 (.seq (.reg 20 [⟨some 108, .move (.t 0), none, []⟩,
  ⟨some 109, .move (.t 15), none, []⟩,
  ⟨some 110, .move (.t 9), none, []⟩,
  ⟨some 111, .bin .add 3 (.t 109) (.t 110) 3, none, [109, 110]⟩,
  ⟨some 112, .move (.t 0), none, []⟩,
  ⟨some 113, .move (.t 15), none, [15]⟩,
  ⟨some 114, .move (.t 9), none, []⟩,
  ⟨some 115, .bin .add 3 (.t 113) (.t 114) 3, none, [113, 114]⟩,
  ⟨some 116, .iaddr 22 (.sl 1) (.t 112) (.t 115), none, []⟩,
  ⟨some 117, .load 49 none (.t 116), none, []⟩,
  ⟨some 118, .move (.t 13), none, []⟩,
  ⟨some 119, .call n_limbs_low [(.t 118)] [33], none, [112, 115, 116, 118]⟩,
  ⟨some 120, .move (.t 14), none, []⟩,
  ⟨some 121, .call n_bits_Sub32 [(.t 117), (.t 119), (.t 120)] [49, 49, 49], none, [117, 119, 120]⟩,
  ⟨some 107, .move (.t 121), none, [121]⟩,
  ⟨some 122, .extr (.t 107) 0, none, []⟩,
  ⟨some 123, .extr (.t 107) 1, none, [107]⟩,
  ⟨some 124, .iaddr 22 (.sl 1) (.t 108) (.t 111), none, []⟩,
  ⟨none, .store 49 none (.t 124) (.t 122), none, [108, 111, 122, 124]⟩,
  ⟨some 14, .assign (.t 123), none, [123]⟩] (some [⟨0, []⟩, ⟨1, []⟩, ⟨2, []⟩, ⟨3, []⟩, ⟨4, []⟩, ⟨5, []⟩, ⟨6, []⟩, ⟨7, []⟩, ⟨8, []⟩, ⟨10, []⟩, ⟨12, []⟩, ⟨9, []⟩, ⟨11, [9]⟩, ⟨13, []⟩, ⟨14, []⟩, ⟨15, []⟩, ⟨16, []⟩, ⟨17, []⟩, ⟨18, []⟩, ⟨19, []⟩]) [0, 1, 5, 6, 7, 8, 9, 11, 13, 14, 24, 94, 95, 100000])
 (.reg 21 [⟨some 125, .move (.t 13), none, []⟩,
  ⟨some 126, .call n_limbs_high [(.t 125)] [33], none, [125]⟩,
  ⟨some 13, .assign (.t 126), none, [126]⟩] none [0, 1, 5, 6, 7, 8, 9, 11, 13, 14, 24, 94, 95, 100000])))))
 k2_limbs_long)
def k3_limbs_long : IR := .tail [0, 1, 5, 6, 7, 8, 9, 11, 13, 14, 24, 94, 95, 100000] j3_limbs_long
def w2_limbs_long : IR :=
 (.seq (.reg 17 [⟨some 96, .bin .lss 3 (.t 95) (.t 94) 3, none, []⟩] none [0, 1, 5, 6, 7, 8, 9, 11, 13, 14, 24, 94, 95, 96, 100000])
 (.seq (.cond [0, 1, 5, 6, 7, 8, 9, 11, 13, 14, 24, 94, 95, 100000] (.t 96) .skip (.exit 5))
 k3_limbs_long))
def l2_limbs_long : IR := .loop [0, 1, 5, 6, 7, 8, 9, 11, 13, 14, 24, 94, 95, 100000] w2_limbs_long
def j4_limbs_long : IR :=
 (.reg 32 [⟨some 183, .bin .add 3 (.t 160) (.c (Value.int IntKind.i64 1)) 3, none, []⟩,
  ⟨some 160, .move (.t 183), none, [183]⟩] none [0, 1, 5, 6, 7, 8, 9, 16, 24, 159, 160, 100000])
def k4_limbs_long : IR := .tail [0, 1, 5, 6, 7, 8, 9, 16, 24, 159, 160, 100000] j4_limbs_long
def j5_limbs_long : IR :=
 (.seq (.block 8 (.seq (.reg 30 [⟨some 162, .move (.t 160), none, []⟩,
  ⟨some 17, .assign (.t 162), none, [162]⟩] none [0, 1, 5, 6, 7, 8, 9, 16, 17, 24, 159, 160, 100000])
 (.reg 31 [⟨some 164, .move (.t 0), none, []⟩,
  ⟨some 165, .move (.t 17), none, []⟩,
  ⟨some 166, .move (.t 9), none, []⟩,
  ⟨some 167, .bin .add 3 (.t 165) (.t 166) 3, none, [165, 166]⟩,
  ⟨some 168, .move (.t 0), none, []⟩,
  ⟨some 169, .move (.t 17), none, []⟩,
  ⟨some 170, .move (.t 9), none, []⟩,
  ⟨some 171, .bin .add 3 (.t 169) (.t 170) 3, none, [169, 170]⟩,
  ⟨some 172, .iaddr 22 (.sl 1) (.t 168) (.t 171), none, []⟩,
  ⟨some 173, .load 49 none (.t 172), none, [168, 171, 172]⟩,
  ⟨some 174, .move (.t 1), none, []⟩,
  ⟨some 175, .move (.t 17), none, [17]⟩,
  ⟨some 176, .iaddr 22 (.sl 1) (.t 174) (.t 175), none, []⟩,
  ⟨some 177, .load 49 none (.t 176), none, [174, 175, 176]⟩,
  ⟨some 178, .move (.t 16), none, []⟩,
  ⟨some 179, .call n_bits_Add32 [(.t 173), (.t 177), (.t 178)] [49, 49, 49], none, [173, 177, 178]⟩,
  ⟨some 163, .move (.t 179), none, [179]⟩,
  ⟨some 180, .extr (.t 163) 0, none, []⟩,
  ⟨some 181, .extr (.t 163) 1, none, [163]⟩,
  ⟨some 182, .iaddr 22 (.sl 1) (.t 164) (.t 167), none, []⟩,
  ⟨none, .store 49 none (.t 182) (.t 180), none, [164, 167, 180, 182]⟩,
  ⟨some 16, .assign (.t 181), none, [181]⟩] (some [⟨0, []⟩, ⟨1, []⟩, ⟨2, []⟩, ⟨3, []⟩, ⟨4, []⟩, ⟨5, []⟩, ⟨6, []⟩, ⟨7, []⟩, ⟨8, []⟩, ⟨10, []⟩, ⟨11, []⟩, ⟨12, []⟩, ⟨14, []⟩, ⟨9, []⟩, ⟨13, []⟩, ⟨15, []⟩, ⟨16, []⟩, ⟨17, []⟩, ⟨18, []⟩, ⟨19, []⟩, ⟨20, []⟩, ⟨21, []⟩]) [0, 1, 5, 6, 7, 8, 9, 16, 24, 159, 160, 100000])))
 k4_limbs_long)
def k5_limbs_long : IR := .tail [0, 1, 5, 6, 7, 8, 9, 16, 24, 159, 160, 100000] j5_limbs_long
def w3_limbs_long : IR :=
 (.seq (.reg 29 [⟨some 161, .bin .lss 3 (.t 160) (.t 159) 3, none, []⟩] none [0, 1, 5, 6, 7, 8, 9, 16, 24, 159, 160, 161, 100000])
 (.seq (.cond [0, 1, 5, 6, 7, 8, 9, 16, 24, 159, 160, 100000] (.t 161) .skip (.exit 7))
 k5_limbs_long))
def l3_limbs_long : IR := .loop [0, 1, 5, 6, 7, 8, 9, 16, 24, 159, 160, 100000] w3_limbs_long
def j6_limbs_long : IR :=
 (.reg 33 [⟨some 184, .move (.t 0), none, []⟩,
  ⟨some 185, .move (.t 9), none, []⟩,
  ⟨some 186, .move (.t 5), none, []⟩,
  ⟨some 187, .bin .add 3 (.t 185) (.t 186) 3, none, [185, 186]⟩,
  ⟨some 188, .iaddr 22 (.sl 1) (.t 184) (.t 187), none, []⟩,
  ⟨some 189, .load 49 none (.t 188), none, [188]⟩,
  ⟨some 190, .move (.t 16), none, [16]⟩,
  ⟨some 191, .bin .add 49 (.t 189) (.t 190) 49, none, [189, 190]⟩,
  ⟨some 192, .iaddr 22 (.sl 1) (.t 184) (.t 187), none, []⟩,
  ⟨none, .store 49 none (.t 192) (.t 191), none, [184, 187, 191, 192]⟩] none [0, 1, 5, 6, 7, 8, 9, 24, 100000])
def k6_limbs_long : IR := .tail [0, 1, 5, 6, 7, 8, 9, 16, 24, 100000] j6_limbs_long
def j7_limbs_long : IR :=
 (.seq (.reg 26 [⟨some 153, .move (.t 6), none, []⟩,
  ⟨some 154, .move (.t 9), none, []⟩,
  ⟨some 155, .iaddr 22 (.sl 1) (.t 153) (.t 154), none, []⟩,
  ⟨some 156, .load 49 none (.t 155), none, [155]⟩,
  ⟨some 157, .bin .sub 49 (.t 156) (.c (Value.int IntKind.u32 1)) 49, none, [156]⟩,
  ⟨some 158, .iaddr 22 (.sl 1) (.t 153) (.t 154), none, []⟩,
  ⟨none, .store 49 none (.t 158) (.t 157), none, [153, 154, 157, 158]⟩] none [0, 1, 5, 6, 7, 8, 9, 24, 100000])
 (.seq (.reg 27 [⟨some 16, .assign (.c (Value.int IntKind.u32 0)), none, []⟩] none [0, 1, 5, 6, 7, 8, 9, 16, 24, 100000])
 (.seq (.seq (.reg 28 [⟨some 159, .move (.t 5), none, []⟩,
  ⟨some 160, .move (.c (Value.int IntKind.i64 0)), none, []⟩] none [0, 1, 5, 6, 7, 8, 9, 16, 24, 159, 160, 100000])
 (.block 7 l3_limbs_long))
 k6_limbs_long)))
def k7_limbs_long : IR := .tail [0, 1, 5, 6, 7, 8, 9, 24, 100000] j7_limbs_long
def j8_limbs_long : IR :=
 (.seq (.reg 23 [⟨some 129, .move (.t 0), none, []⟩,
  ⟨some 130, .move (.t 9), none, []⟩,
  ⟨some 131, .move (.t 5), none, []⟩,
  ⟨some 132, .bin .add 3 (.t 130) (.t 131) 3, none, [130, 131]⟩,
  ⟨some 133, .move (.t 0), none, []⟩,
  ⟨some 134, .move (.t 9), none, []⟩,
  ⟨some 135, .move (.t 5), none, []⟩,
  ⟨some 136, .bin .add 3 (.t 134) (.t 135) 3, none, [134, 135]⟩,
  ⟨some 137, .iaddr 22 (.sl 1) (.t 133) (.t 136), none, []⟩,
  ⟨some 138, .load 49 none (.t 137), none, [133, 136, 137]⟩,
  ⟨some 139, .move (.t 13), none, [13]⟩,
  ⟨some 140, .conv 33 49 (.int .u32) (.t 139), none, [139]⟩,
  ⟨some 141, .move (.t 14), none, []⟩,
  ⟨some 142, .call n_bits_Sub32 [(.t 138), (.t 140), (.t 141)] [49, 49, 49], none, [138, 140, 141]⟩,
  ⟨some 128, .move (.t 142), none, [142]⟩,
  ⟨some 143, .extr (.t 128) 0, none, []⟩,
  ⟨some 144, .extr (.t 128) 1, none, [128]⟩,
  ⟨some 145, .iaddr 22 (.sl 1) (.t 129) (.t 132), none, []⟩,
  ⟨none, .store 49 none (.t 145) (.t 143), none, [129, 132, 143, 145]⟩,
  ⟨some 14, .assign (.t 144), none, [144]⟩] none [0, 1, 5, 6, 7, 8, 9, 11, 14, 24, 100000])
 (.seq (.reg 24 [⟨some 146, .move (.t 6), none, []⟩,
  ⟨some 147, .move (.t 9), none, []⟩,
  ⟨some 148, .move (.t 11), none, [11]⟩,
  ⟨some 149, .conv 33 49 (.int .u32) (.t 148), none, [148]⟩,
  ⟨some 150, .iaddr 22 (.sl 1) (.t 146) (.t 147), none, []⟩,
  ⟨none, .store 49 none (.t 150) (.t 149), none, [146, 147, 149, 150]⟩] none [0, 1, 5, 6, 7, 8, 9, 14, 24, 100000])
 (.seq (.seq (.reg 25 [⟨some 151, .move (.t 14), none, [14]⟩,
  ⟨some 152, .bin .eql 49 (.t 151) (.c (Value.int IntKind.u32 0)) 49, none, [151]⟩] none [0, 1, 5, 6, 7, 8, 9, 24, 152, 100000])
 (.cond [0, 1, 5, 6, 7, 8, 9, 24, 100000] (.t 152) (.exit 1) .skip))
 k7_limbs_long)))
def k8_limbs_long : IR := .tail [0, 1, 5, 6, 7, 8, 9, 11, 13, 14, 24, 100000] j8_limbs_long
def j9_limbs_long : IR :=
 (.seq (.reg 14 [⟨some 13, .assign (.c (Value.int IntKind.u64 0)), none, []⟩] none [0, 1, 5, 6, 7, 8, 9, 11, 13, 24, 100000])
 (.seq (.reg 15 [⟨some 14, .assign (.c (Value.int IntKind.u32 0)), none, []⟩] none [0, 1, 5, 6, 7, 8, 9, 11, 13, 14, 24, 100000])
 (.seq (.seq (.reg 16 [⟨some 94, .move (.t 5), none, []⟩,
  ⟨some 95, .move (.c (Value.int IntKind.i64 0)), none, []⟩] none [0, 1, 5, 6, 7, 8, 9, 11, 13, 14, 24, 94, 95, 100000])
 (.block 5 l2_limbs_long))
 k8_limbs_long)))
def k9_limbs_long : IR := .tail [0, 1, 5, 6, 7, 8, 9, 11, 24, 100000] j9_limbs_long
def j10_limbs_long : IR :=
 (.reg 6 [⟨some 44, .move (.t 9), none, []⟩,
  ⟨some 45, .bin .sub 3 (.t 44) (.c (Value.int IntKind.i64 1)) 3, none, [44]⟩,
  ⟨some 9, .assign (.t 45), none, [45]⟩] none [0, 1, 5, 6, 7, 8, 9, 24, 100000])
def k10_limbs_long : IR := .tail [0, 1, 5, 6, 7, 8, 9, 24, 100000] j10_limbs_long
def j11_limbs_long : IR :=
 (.seq (.block 1 (.scope (.seq (.reg 7 [⟨some 46, .move (.t 0), none, []⟩,
  ⟨some 47, .move (.t 9), none, []⟩,
  ⟨some 48, .move (.t 5), none, []⟩,
  ⟨some 49, .bin .add 3 (.t 47) (.t 48) 3, none, [47, 48]⟩,
  ⟨some 50, .iaddr 22 (.sl 1) (.t 46) (.t 49), none, []⟩,
  ⟨some 51, .load 49 none (.t 50), none, [46, 49, 50]⟩,
  ⟨some 52, .conv 49 33 (.int .u64) (.t 51), none, [51]⟩,
  ⟨some 53, .bin .shl 33 (.t 52) (.c (Value.int IntKind.u64 32)) 68, none, [52]⟩,
  ⟨some 54, .move (.t 0), none, []⟩,
  ⟨some 55, .move (.t 9), none, []⟩,
  ⟨some 56, .move (.t 5), none, []⟩,
  ⟨some 57, .bin .add 3 (.t 55) (.t 56) 3, none, [55, 56]⟩,
  ⟨some 58, .bin .sub 3 (.t 57) (.c (Value.int IntKind.i64 1)) 3, none, [57]⟩,
  ⟨some 59, .iaddr 22 (.sl 1) (.t 54) (.t 58), none, []⟩,
  ⟨some 60, .load 49 none (.t 59), none, [54, 58, 59]⟩,
  ⟨some 61, .conv 49 33 (.int .u64) (.t 60), none, [60]⟩,
  ⟨some 62, .bin .or 33 (.t 53) (.t 61) 33, none, [53, 61]⟩,
  ⟨some 10, .assign (.t 62), none, [62]⟩] (some [⟨0, []⟩, ⟨1, []⟩, ⟨2, []⟩, ⟨3, []⟩, ⟨4, []⟩, ⟨8, []⟩, ⟨9, []⟩, ⟨10, []⟩, ⟨11, []⟩, ⟨12, []⟩, ⟨13, []⟩, ⟨5, []⟩, ⟨6, []⟩, ⟨7, []⟩, ⟨14, []⟩, ⟨15, []⟩, ⟨16, []⟩, ⟨17, []⟩]) [0, 1, 5, 6, 7, 8, 9, 10, 24, 100000])
 (.seq (.reg 8 [⟨some 63, .move (.t 10), none, []⟩,
  ⟨some 64, .move (.t 7), none, []⟩,
  ⟨some 65, .bin .quo 33 (.t 63) (.t 64) 33, none, [63, 64]⟩,
  ⟨some 66, .move (.t 10), none, [10]⟩,
  ⟨some 67, .move (.t 7), none, []⟩,
  ⟨some 68, .bin .rem 33 (.t 66) (.t 67) 33, none, [66, 67]⟩,
  ⟨some 11, .assign (.t 65), none, [65]⟩,
  ⟨some 12, .assign (.t 68), none, [68]⟩] (some [⟨0, []⟩, ⟨1, []⟩, ⟨2, []⟩, ⟨3, []⟩, ⟨4, []⟩, ⟨5, []⟩, ⟨6, []⟩, ⟨7, []⟩]) [0, 1, 5, 6, 7, 8, 9, 11, 12, 24, 100000])
 (.seq (.label 0)
 (.seq (.block 2 l1_limbs_long)
 k9_limbs_long))))))
 k10_limbs_long)
def k11_limbs_long : IR := .tail [0, 1, 5, 6, 7, 8, 9, 24, 100000] j11_limbs_long
def w0_limbs_long : IR :=
 (.seq (.seq (.reg 5 [⟨some 42, .move (.t 9), none, []⟩,
  ⟨some 43, .bin .geq 3 (.t 42) (.c (Value.int IntKind.i64 0)) 3, none, [42]⟩] none [0, 1, 5, 6, 7, 8, 9, 24, 43, 100000])
 (.cond [0, 1, 5, 6, 7, 8, 9, 24, 100000] (.t 43) .skip (.exit 0)))
 k11_limbs_long)
def l0_limbs_long : IR := .loop [0, 1, 5, 6, 7, 8, 9, 24, 100000] w0_limbs_long
def j12_limbs_long : IR :=
 (.seq (.reg 34 [⟨some 193, .move (.t 6), none, []⟩,
  ⟨some 4, .assign (.t 193), none, []⟩] none [4, 6, 24, 193, 100000])
 .ret)
def k12_limbs_long : IR := .tail [6, 24, 100000] j12_limbs_long
def b_limbs_long : IR :=
 (.seq (.reg 0 [⟨some 4, .assign (.nilS 1), none, [4]⟩] none [0, 1, 100000])
 (.seq (.reg 1 [⟨some 18, .move (.t 1), none, []⟩,
  ⟨some 19, .len 22 false (.t 18), none, [18]⟩,
  ⟨some 5, .assign (.t 19), none, [19]⟩] none [0, 1, 5, 100000])
 (.seq (.reg 2 [⟨some 20, .move (.t 0), none, []⟩,
  ⟨some 21, .len 22 false (.t 20), none, [20]⟩,
  ⟨some 22, .move (.t 5), none, []⟩,
  ⟨some 23, .bin .sub 3 (.t 21) (.t 22) 3, none, [21, 22]⟩,
  ⟨some 24, .mk 22 1 4 (.v (.int .u32 0)) (.t 23) (.t 23), none, [23]⟩,
  ⟨some 6, .assign (.t 24), none, []⟩] none [0, 1, 5, 6, 24, 100000])
 (.seq (.reg 3 [⟨some 25, .move (.t 1), none, []⟩,
  ⟨some 26, .move (.t 5), none, []⟩,
  ⟨some 27, .bin .sub 3 (.t 26) (.c (Value.int IntKind.i64 1)) 3, none, [26]⟩,
  ⟨some 28, .iaddr 22 (.sl 1) (.t 25) (.t 27), none, []⟩,
  ⟨some 29, .load 49 none (.t 28), none, [25, 27, 28]⟩,
  ⟨some 30, .conv 49 33 (.int .u64) (.t 29), none, [29]⟩,
  ⟨some 31, .move (.t 1), none, []⟩,
  ⟨some 32, .move (.t 5), none, []⟩,
  ⟨some 33, .bin .sub 3 (.t 32) (.c (Value.int IntKind.i64 2)) 3, none, [32]⟩,
  ⟨some 34, .iaddr 22 (.sl 1) (.t 31) (.t 33), none, []⟩,
  ⟨some 35, .load 49 none (.t 34), none, []⟩,
  ⟨some 36, .conv 49 33 (.int .u64) (.t 35), none, [35]⟩,
  ⟨some 7, .assign (.t 30), none, [30, 31, 33, 34]⟩,
  ⟨some 8, .assign (.t 36), none, [36]⟩] (some [⟨0, []⟩, ⟨1, []⟩, ⟨2, []⟩, ⟨3, []⟩, ⟨6, []⟩, ⟨7, []⟩, ⟨8, []⟩, ⟨9, []⟩, ⟨4, []⟩, ⟨5, []⟩, ⟨10, []⟩, ⟨11, []⟩, ⟨12, [10]⟩, ⟨13, []⟩]) [0, 1, 5, 6, 7, 8, 24, 100000])
 (.seq (.seq (.reg 4 [⟨some 37, .move (.t 0), none, []⟩,
  ⟨some 38, .len 22 false (.t 37), none, [37]⟩,
  ⟨some 39, .move (.t 5), none, []⟩,
  ⟨some 40, .bin .sub 3 (.t 38) (.t 39) 3, none, [38, 39]⟩,
  ⟨some 41, .bin .sub 3 (.t 40) (.c (Value.int IntKind.i64 1)) 3, none, [40]⟩,
  ⟨some 9, .assign (.t 41), none, [41]⟩] none [0, 1, 5, 6, 7, 8, 9, 24, 100000])
 (.block 0 l0_limbs_long))
 k12_limbs_long)))))
def a_limbs_long : AFunc := ⟨194, [.tmp 4], b_limbs_long⟩

def j0_limbs_down : IR :=
 (.reg 12 [⟨some 46, .move (.t 5), none, []⟩,
  ⟨some 47, .move (.t 6), none, [6]⟩,
  ⟨some 48, .move (.t 7), none, [7]⟩,
  ⟨some 49, .move (.t 1), none, []⟩,
  ⟨some 50, .bin .rem 3 (.t 49) (.c (Value.int IntKind.i64 32)) 3, none, [49]⟩,
  ⟨some 51, .bin .shr 33 (.t 48) (.t 50) 3, none, [48, 50]⟩,
  ⟨some 52, .call n_limbs_low [(.t 51)] [33], none, [51]⟩,
  ⟨some 53, .iaddr 22 (.sl 1) (.t 46) (.t 47), none, []⟩,
  ⟨none, .store 49 none (.t 53) (.t 52), none, [46, 47, 52, 53]⟩] none [0, 1, 5, 9, 15, 17, 18, 21, 23, 24])
def k0_limbs_down : IR := .tail [0, 1, 5, 6, 7, 9, 15, 17, 18, 21, 23, 24] j0_limbs_down
def j1_limbs_down : IR :=
 (.reg 13 [⟨some 54, .bin .add 3 (.t 24) (.c (Value.int IntKind.i64 1)) 3, none, []⟩,
  ⟨some 24, .move (.t 54), none, [54]⟩] none [0, 1, 5, 9, 15, 17, 18, 21, 23, 24])
def k1_limbs_down : IR := .tail [0, 1, 5, 9, 15, 17, 18, 21, 23, 24] j1_limbs_down
def j2_limbs_down : IR :=
 (.seq (.block 1 (.seq (.reg 8 [⟨some 26, .move (.t 24), none, []⟩,
  ⟨some 6, .assign (.t 26), none, [26]⟩] none [0, 1, 5, 6, 9, 15, 17, 18, 21, 23, 24])
 (.seq (.reg 9 [⟨some 27, .move (.t 0), none, []⟩,
  ⟨some 28, .move (.t 6), none, []⟩,
  ⟨some 29, .iaddr 22 (.sl 1) (.t 27) (.t 28), none, []⟩,
  ⟨some 30, .load 49 none (.t 29), none, [27, 28, 29]⟩,
  ⟨some 31, .conv 49 33 (.int .u64) (.t 30), none, [30]⟩,
  ⟨some 7, .assign (.t 31), none, [31]⟩] none [0, 1, 5, 6, 7, 9, 15, 17, 18, 21, 23, 24])
 (.seq (.seq (.reg 10 [⟨some 32, .move (.t 6), none, []⟩,
  ⟨some 33, .bin .add 3 (.t 32) (.c (Value.int IntKind.i64 1)) 3, none, [32]⟩,
  ⟨some 34, .move (.t 0), none, []⟩,
  ⟨some 35, .len 22 false (.t 34), none, [34]⟩,
  ⟨some 36, .bin .lss 3 (.t 33) (.t 35) 3, none, [33, 35]⟩] none [0, 1, 5, 6, 7, 9, 15, 17, 18, 21, 23, 24, 36])
 (.cond [0, 1, 5, 6, 7, 9, 15, 17, 18, 21, 23, 24] (.t 36) (.reg 11 [⟨some 37, .move (.t 7), none, []⟩,
  ⟨some 38, .move (.t 0), none, []⟩,
  ⟨some 39, .move (.t 6), none, []⟩,
  ⟨some 40, .bin .add 3 (.t 39) (.c (Value.int IntKind.i64 1)) 3, none, [39]⟩,
  ⟨some 41, .iaddr 22 (.sl 1) (.t 38) (.t 40), none, []⟩,
  ⟨some 42, .load 49 none (.t 41), none, [38, 40, 41]⟩,
  ⟨some 43, .conv 49 33 (.int .u64) (.t 42), none, [42]⟩,
  ⟨some 44, .bin .shl 33 (.t 43) (.c (Value.int IntKind.u64 32)) 68, none, [43]⟩,
  ⟨some 45, .bin .or 33 (.t 37) (.t 44) 33, none, [37, 44]⟩,
  ⟨some 7, .assign (.t 45), none, [45]⟩] none [0, 1, 5, 6, 7, 9, 15, 17, 18, 21, 23, 24]) .skip))
 k0_limbs_down))))
 k1_limbs_down)
def k2_limbs_down : IR := .tail [0, 1, 5, 9, 15, 17, 18, 21, 23, 24] j2_limbs_down
def w0_limbs_down : IR :=
 (.seq (.reg 7 [⟨some 25, .bin .lss 3 (.t 24) (.t 23) 3, none, []⟩] none [0, 1, 5, 9, 15, 17, 18, 21, 23, 24, 25])
 (.seq (.cond [0, 1, 5, 9, 15, 17, 18, 21, 23, 24] (.t 25) .skip (.exit 0))
 k2_limbs_down))
def l0_limbs_down : IR := .loop [0, 1, 5, 9, 15, 17, 18, 21, 23, 24] w0_limbs_down
def j3_limbs_down : IR :=
 (.seq (.reg 14 [⟨some 55, .move (.t 5), none, []⟩,
  ⟨some 56, .call n_limbs_trim [(.t 55)] [22], none, [5, 21, 55]⟩,
  ⟨some 4, .assign (.t 56), none, []⟩] none [4, 56])
 .ret)
def k3_limbs_down : IR := .tail [5, 21] j3_limbs_down
def j4_limbs_down : IR :=
 (.seq (.reg 4 [⟨some 15, .move (.t 0), none, []⟩,
  ⟨some 16, .move (.t 1), none, []⟩,
  ⟨some 17, .bin .quo 3 (.t 16) (.c (Value.int IntKind.i64 32)) 3, none, [16]⟩,
  ⟨some 18, .slice 22 (.sl 1) (.t 15) (some (.t 17)) none none, none, []⟩,
  ⟨some 0, .assign (.t 18), none, []⟩] none [0, 1, 9, 15, 17, 18])
 (.seq (.reg 5 [⟨some 19, .move (.t 0), none, []⟩,
  ⟨some 20, .len 22 false (.t 19), none, [19]⟩,
  ⟨some 21, .mk 22 1 4 (.v (.int .u32 0)) (.t 20) (.t 20), none, [20]⟩,
  ⟨some 5, .assign (.t 21), none, []⟩] none [0, 1, 5, 9, 15, 17, 18, 21])
 (.seq (.seq (.reg 6 [⟨some 22, .move (.t 0), none, []⟩,
  ⟨some 23, .len 22 false (.t 22), none, [22]⟩,
  ⟨some 24, .move (.c (Value.int IntKind.i64 0)), none, []⟩] none [0, 1, 5, 9, 15, 17, 18, 21, 23, 24])
 (.block 0 l0_limbs_down))
 k3_limbs_down)))
def k4_limbs_down : IR := .tail [0, 1, 9, 15, 17, 18] j4_limbs_down
def b_limbs_down : IR :=
 (.seq (.reg 0 [⟨some 4, .assign (.nilS 1), none, [4]⟩] none [0, 1, 9, 15, 17, 18])
 (.seq (.reg 1 [⟨some 8, .move (.t 0), none, []⟩,
  ⟨some 9, .call n_limbs_trim [(.t 8)] [22], none, [8]⟩,
  ⟨some 0, .assign (.t 9), none, []⟩] none [0, 1, 9, 15, 17, 18])
 (.seq (.seq (.reg 2 [⟨some 10, .move (.t 1), none, []⟩,
  ⟨some 11, .bin .quo 3 (.t 10) (.c (Value.int IntKind.i64 32)) 3, none, [10]⟩,
  ⟨some 12, .move (.t 0), none, []⟩,
  ⟨some 13, .len 22 false (.t 12), none, [12]⟩,
  ⟨some 14, .bin .geq 3 (.t 11) (.t 13) 3, none, [11, 13]⟩] none [0, 1, 9, 14, 15, 17, 18])
 (.cond [0, 1, 9, 15, 17, 18] (.t 14) (.seq (.reg 3 [⟨some 4, .assign (.nilS 1), none, []⟩] none [4, 56])
 .ret) .skip))
 k4_limbs_down)))
def a_limbs_down : AFunc := ⟨57, [.tmp 4], b_limbs_down⟩

def j0_limbs_DivMod : IR :=
 (.reg 11 [⟨some 38, .move (.t 9), none, []⟩,
  ⟨some 39, .bin .sub 3 (.t 38) (.c (Value.int IntKind.i64 1)) 3, none, [38]⟩,
  ⟨some 9, .assign (.t 39), none, [39]⟩] none [0, 1, 7, 8, 9, 15, 17, 32])
def k0_limbs_DivMod : IR := .tail [0, 1, 7, 8, 9, 15, 17, 32] j0_limbs_DivMod
def j1_limbs_DivMod : IR :=
 (.seq (.block 1 (.seq (.reg 12 [⟨some 40, .move (.t 8), none, []⟩,
  ⟨some 41, .bin .shl 33 (.t 40) (.c (Value.int IntKind.u64 32)) 68, none, [40]⟩,
  ⟨some 42, .move (.t 0), none, []⟩,
  ⟨some 43, .move (.t 9), none, []⟩,
  ⟨some 44, .iaddr 22 (.sl 1) (.t 42) (.t 43), none, []⟩,
  ⟨some 45, .load 49 none (.t 44), none, [42, 43, 44]⟩,
  ⟨some 46, .conv 49 33 (.int .u64) (.t 45), none, [45]⟩,
  ⟨some 47, .bin .or 33 (.t 41) (.t 46) 33, none, [41, 46]⟩,
  ⟨some 8, .assign (.t 47), none, [47]⟩] none [0, 1, 7, 8, 9, 15, 17, 32])
 (.seq (.reg 13 [⟨some 48, .move (.t 7), none, []⟩,
  ⟨some 49, .move (.t 9), none, []⟩,
  ⟨some 50, .move (.t 8), none, []⟩,
  ⟨some 51, .move (.t 1), none, []⟩,
  ⟨some 52, .iaddr 22 (.sl 1) (.t 51) (.c (Value.int IntKind.i64 0)), none, []⟩,
  ⟨some 53, .load 49 none (.t 52), none, [51, 52]⟩,
  ⟨some 54, .conv 49 33 (.int .u64) (.t 53), none, [53]⟩,
  ⟨some 55, .bin .quo 33 (.t 50) (.t 54) 33, none, [50, 54]⟩,
  ⟨some 56, .conv 33 49 (.int .u32) (.t 55), none, [55]⟩,
  ⟨some 57, .iaddr 22 (.sl 1) (.t 48) (.t 49), none, []⟩,
  ⟨none, .store 49 none (.t 57) (.t 56), none, [48, 49, 56, 57]⟩] none [0, 1, 7, 8, 9, 15, 17, 32])
 (.reg 14 [⟨some 58, .move (.t 8), none, []⟩,
  ⟨some 59, .move (.t 1), none, []⟩,
  ⟨some 60, .iaddr 22 (.sl 1) (.t 59) (.c (Value.int IntKind.i64 0)), none, []⟩,
  ⟨some 61, .load 49 none (.t 60), none, [59, 60]⟩,
  ⟨some 62, .conv 49 33 (.int .u64) (.t 61), none, [61]⟩,
  ⟨some 63, .bin .rem 33 (.t 58) (.t 62) 33, none, [58, 62]⟩,
  ⟨some 8, .assign (.t 63), none, [63]⟩] none [0, 1, 7, 8, 9, 15, 17, 32]))))
 k0_limbs_DivMod)
def k1_limbs_DivMod : IR := .tail [0, 1, 7, 8, 9, 15, 17, 32] j1_limbs_DivMod
def w0_limbs_DivMod : IR :=
 (.seq (.seq (.reg 10 [⟨some 36, .move (.t 9), none, []⟩,
  ⟨some 37, .bin .geq 3 (.t 36) (.c (Value.int IntKind.i64 0)) 3, none, [36]⟩] none [0, 1, 7, 8, 9, 15, 17, 32, 37])
 (.cond [0, 1, 7, 8, 9, 15, 17, 32] (.t 37) .skip (.exit 0)))
 k1_limbs_DivMod)
def l0_limbs_DivMod : IR := .loop [0, 1, 7, 8, 9, 15, 17, 32] w0_limbs_DivMod
def j2_limbs_DivMod : IR :=
 (.seq (.reg 15 [⟨some 64, .move (.t 7), none, []⟩,
  ⟨some 65, .call n_limbs_trim [(.t 64)] [22], none, [7, 32, 64]⟩,
  ⟨some 66, .move (.t 8), none, [8]⟩,
  ⟨some 67, .call n_limbs_From [(.t 66)] [33], none, [66]⟩,
  ⟨some 4, .assign (.t 65), none, []⟩,
  ⟨some 5, .assign (.t 67), none, []⟩,
  ⟨some 6, .assign (.c (Value.int IntKind.i64 0)), none, []⟩] none [4, 5, 6, 26, 65, 67, 93, 100])
 .ret)
def k2_limbs_DivMod : IR := .tail [7, 8, 32] j2_limbs_DivMod
def j3_limbs_DivMod : IR :=
 (.block 3 (.reg 19 [⟨some 86, .move (.t 11), none, []⟩,
  ⟨some 87, .lit 22 1 [(.c (Value.int IntKind.u32 0))], none, []⟩,
  ⟨some 88, .append 22 22 false 1 4 (.t 86) (.t 87), none, [86, 87]⟩,
  ⟨some 11, .assign (.t 88), none, []⟩] none [0, 10, 11, 12, 15, 77, 80, 88]))
def k3_limbs_DivMod : IR := .tail [0, 10, 11, 12, 15, 77, 80, 88] j3_limbs_DivMod
def w1_limbs_DivMod : IR :=
 (.seq (.seq (.reg 18 [⟨some 81, .move (.t 11), none, []⟩,
  ⟨some 82, .len 22 false (.t 81), none, [81]⟩,
  ⟨some 83, .move (.t 0), none, []⟩,
  ⟨some 84, .len 22 false (.t 83), none, [83]⟩,
  ⟨some 85, .bin .leq 3 (.t 82) (.t 84) 3, none, [82, 84]⟩] none [0, 10, 11, 12, 15, 77, 80, 85, 88])
 (.cond [0, 10, 11, 12, 15, 77, 80, 88] (.t 85) .skip (.exit 2)))
 k3_limbs_DivMod)
def l1_limbs_DivMod : IR := .loop [0, 10, 11, 12, 15, 77, 80, 88] w1_limbs_DivMod
def j4_limbs_DivMod : IR :=
 (.seq (.reg 20 [⟨some 89, .move (.t 11), none, []⟩,
  ⟨some 90, .move (.t 12), none, []⟩,
  ⟨some 91, .call n_limbs_long [(.t 89), (.t 90)] [22, 22], none, [89, 90]⟩,
  ⟨some 13, .assign (.t 91), none, []⟩] none [10, 11, 12, 13, 77, 80, 88, 91])
 (.seq (.reg 21 [⟨some 92, .move (.t 13), none, []⟩,
  ⟨some 93, .call n_limbs_trim [(.t 92)] [22], none, [13, 91, 92]⟩,
  ⟨some 94, .move (.t 11), none, []⟩,
  ⟨some 95, .move (.t 12), none, []⟩,
  ⟨some 96, .len 22 false (.t 95), none, [12, 80, 95]⟩,
  ⟨some 97, .slice 22 (.sl 1) (.t 94) none (some (.t 96)) none, none, []⟩,
  ⟨some 98, .call n_limbs_trim [(.t 97)] [22], none, [11, 77, 88, 94, 96, 97]⟩,
  ⟨some 99, .move (.t 10), none, [10]⟩,
  ⟨some 100, .call n_limbs_down [(.t 98), (.t 99)] [22, 3], none, [98, 99]⟩,
  ⟨some 4, .assign (.t 93), none, []⟩,
  ⟨some 5, .assign (.t 100), none, []⟩,
  ⟨some 6, .assign (.c (Value.int IntKind.i64 0)), none, []⟩] (some [⟨0, []⟩, ⟨2, []⟩, ⟨3, []⟩, ⟨4, []⟩, ⟨5, []⟩, ⟨7, []⟩, ⟨1, []⟩, ⟨6, []⟩, ⟨8, []⟩, ⟨9, []⟩, ⟨10, []⟩, ⟨11, []⟩]) [4, 5, 6, 26, 65, 67, 93, 100])
 .ret))
def k4_limbs_DivMod : IR := .tail [10, 11, 12, 77, 80, 88] j4_limbs_DivMod
def j5_limbs_DivMod : IR :=
 (.seq (.reg 16 [⟨some 68, .move (.t 1), none, []⟩,
  ⟨some 69, .move (.t 1), none, []⟩,
  ⟨some 70, .len 22 false (.t 69), none, [69]⟩,
  ⟨some 71, .bin .sub 3 (.t 70) (.c (Value.int IntKind.i64 1)) 3, none, [70]⟩,
  ⟨some 72, .iaddr 22 (.sl 1) (.t 68) (.t 71), none, []⟩,
  ⟨some 73, .load 49 none (.t 72), none, [68, 71, 72]⟩,
  ⟨some 74, .call n_bits_LeadingZeros32 [(.t 73)] [49], none, [73]⟩,
  ⟨some 10, .assign (.t 74), none, [74]⟩] none [0, 1, 10, 15, 17])
 (.seq (.reg 17 [⟨some 75, .move (.t 0), none, []⟩,
  ⟨some 76, .move (.t 10), none, []⟩,
  ⟨some 77, .call n_limbs_up [(.t 75), (.t 76)] [22, 3], none, [75, 76]⟩,
  ⟨some 78, .move (.t 1), none, []⟩,
  ⟨some 79, .move (.t 10), none, []⟩,
  ⟨some 80, .call n_limbs_up [(.t 78), (.t 79)] [22, 3], none, [1, 17, 78, 79]⟩,
  ⟨some 11, .assign (.t 77), none, []⟩,
  ⟨some 12, .assign (.t 80), none, []⟩] none [0, 10, 11, 12, 15, 77, 80, 88])
 (.seq (.block 2 l1_limbs_DivMod)
 k4_limbs_DivMod)))
def k5_limbs_DivMod : IR := .tail [0, 1, 15, 17] j5_limbs_DivMod
def j6_limbs_DivMod : IR :=
 (.seq (.seq (.reg 6 [⟨some 27, .move (.t 1), none, []⟩,
  ⟨some 28, .len 22 false (.t 27), none, [27]⟩,
  ⟨some 29, .bin .eql 3 (.t 28) (.c (Value.int IntKind.i64 1)) 3, none, [28]⟩] none [0, 1, 15, 17, 29])
 (.cond [0, 1, 15, 17] (.t 29) (.seq (.reg 7 [⟨some 30, .move (.t 0), none, []⟩,
  ⟨some 31, .len 22 false (.t 30), none, [30]⟩,
  ⟨some 32, .mk 22 1 4 (.v (.int .u32 0)) (.t 31) (.t 31), none, [31]⟩,
  ⟨some 7, .assign (.t 32), none, []⟩] none [0, 1, 7, 15, 17, 32])
 (.seq (.reg 8 [⟨some 8, .assign (.c (Value.int IntKind.u64 0)), none, []⟩] none [0, 1, 7, 8, 15, 17, 32])
 (.seq (.seq (.reg 9 [⟨some 33, .move (.t 0), none, []⟩,
  ⟨some 34, .len 22 false (.t 33), none, [33]⟩,
  ⟨some 35, .bin .sub 3 (.t 34) (.c (Value.int IntKind.i64 1)) 3, none, [34]⟩,
  ⟨some 9, .assign (.t 35), none, [35]⟩] none [0, 1, 7, 8, 9, 15, 17, 32])
 (.block 0 l0_limbs_DivMod))
 k2_limbs_DivMod))) .skip))
 k5_limbs_DivMod)
def k6_limbs_DivMod : IR := .tail [0, 1, 15, 17] j6_limbs_DivMod
def j7_limbs_DivMod : IR :=
 (.seq (.seq (.reg 4 [⟨some 21, .move (.t 0), none, []⟩,
  ⟨some 22, .move (.t 1), none, []⟩,
  ⟨some 23, .call n_limbs_Cmp [(.t 21), (.t 22)] [22, 22], none, [21, 22]⟩,
  ⟨some 24, .bin .lss 3 (.t 23) (.c (Value.int IntKind.i64 0)) 3, none, [23]⟩] none [0, 1, 15, 17, 24])
 (.cond [0, 1, 15, 17] (.t 24) (.seq (.reg 5 [⟨some 25, .move (.t 0), none, []⟩,
  ⟨some 26, .call n_limbs_Norm [(.t 25)] [22], none, [0, 15, 25]⟩,
  ⟨some 4, .assign (.nilS 1), none, []⟩,
  ⟨some 5, .assign (.t 26), none, []⟩,
  ⟨some 6, .assign (.c (Value.int IntKind.i64 0)), none, []⟩] none [4, 5, 6, 26, 65, 67, 93, 100])
 .ret) .skip))
 k6_limbs_DivMod)
def k7_limbs_DivMod : IR := .tail [0, 1, 15, 17] j7_limbs_DivMod
def b_limbs_DivMod : IR :=
 (.seq (.reg 0 [⟨some 4, .assign (.nilS 1), none, [4]⟩,
  ⟨some 5, .assign (.nilS 1), none, [5]⟩,
  ⟨some 6, .assign (.c (Value.int IntKind.i64 0)), none, [6]⟩] none [0, 1, 15, 17])
 (.seq (.reg 1 [⟨some 14, .move (.t 0), none, []⟩,
  ⟨some 15, .call n_limbs_trim [(.t 14)] [22], none, [14]⟩,
  ⟨some 16, .move (.t 1), none, []⟩,
  ⟨some 17, .call n_limbs_trim [(.t 16)] [22], none, [16]⟩,
  ⟨some 0, .assign (.t 15), none, []⟩,
  ⟨some 1, .assign (.t 17), none, []⟩] none [0, 1, 15, 17])
 (.seq (.seq (.reg 2 [⟨some 18, .move (.t 1), none, []⟩,
  ⟨some 19, .len 22 false (.t 18), none, [18]⟩,
  ⟨some 20, .bin .eql 3 (.t 19) (.c (Value.int IntKind.i64 0)) 3, none, [19]⟩] none [0, 1, 15, 17, 20])
 (.cond [0, 1, 15, 17] (.t 20) (.seq (.reg 3 [⟨some 4, .assign (.nilS 1), none, []⟩,
  ⟨some 5, .assign (.nilS 1), none, []⟩,
  ⟨some 6, .assign (.c (Value.int IntKind.i64 11)), none, []⟩] none [4, 5, 6, 26, 65, 67, 93, 100])
 .ret) .skip))
 k7_limbs_DivMod)))
def a_limbs_DivMod : AFunc := ⟨101, [.tmp 4, .tmp 5, .tmp 6], b_limbs_DivMod⟩

def j0_limbs_Add : IR :=
 (.seq (.reg 11 [⟨some 42, .move (.t 5), none, []⟩,
  ⟨some 43, .move (.t 6), none, []⟩,
  ⟨some 44, .call n_limbs_low [(.t 43)] [33], none, [43]⟩,
  ⟨some 45, .lit 22 1 [(.t 44)], none, [44]⟩,
  ⟨some 46, .append 22 22 false 1 4 (.t 42) (.t 45), none, [42, 45]⟩,
  ⟨some 5, .assign (.t 46), none, []⟩] none [0, 1, 5, 6, 13, 14, 18, 20, 21, 46])
 (.reg 12 [⟨some 47, .move (.t 6), none, []⟩,
  ⟨some 48, .call n_limbs_high [(.t 47)] [33], none, [47]⟩,
  ⟨some 6, .assign (.t 48), none, [48]⟩] none [0, 1, 5, 6, 13, 14, 18, 20, 21, 46]))
def k0_limbs_Add : IR := .tail [0, 1, 5, 6, 13, 14, 18, 20, 21, 46] j0_limbs_Add
def j1_limbs_Add : IR :=
 (.reg 13 [⟨some 49, .bin .add 3 (.t 21) (.c (Value.int IntKind.i64 1)) 3, none, []⟩,
  ⟨some 21, .move (.t 49), none, [49]⟩] none [0, 1, 5, 6, 13, 14, 18, 20, 21, 46])
def k1_limbs_Add : IR := .tail [0, 1, 5, 6, 13, 14, 18, 20, 21, 46] j1_limbs_Add
def j2_limbs_Add : IR :=
 (.seq (.block 1 (.seq (.reg 7 [⟨some 23, .move (.t 21), none, []⟩,
  ⟨some 7, .assign (.t 23), none, [23]⟩] none [0, 1, 5, 6, 7, 13, 14, 18, 20, 21, 46])
 (.seq (.reg 8 [⟨some 24, .move (.t 6), none, []⟩,
  ⟨some 25, .move (.t 0), none, []⟩,
  ⟨some 26, .move (.t 7), none, []⟩,
  ⟨some 27, .iaddr 22 (.sl 1) (.t 25) (.t 26), none, []⟩,
  ⟨some 28, .load 49 none (.t 27), none, [25, 26, 27]⟩,
  ⟨some 29, .conv 49 33 (.int .u64) (.t 28), none, [28]⟩,
  ⟨some 30, .bin .add 33 (.t 24) (.t 29) 33, none, [24, 29]⟩,
  ⟨some 6, .assign (.t 30), none, [30]⟩] none [0, 1, 5, 6, 7, 13, 14, 18, 20, 21, 46])
 (.seq (.seq (.reg 9 [⟨some 31, .move (.t 7), none, []⟩,
  ⟨some 32, .move (.t 1), none, []⟩,
  ⟨some 33, .len 22 false (.t 32), none, [32]⟩,
  ⟨some 34, .bin .lss 3 (.t 31) (.t 33) 3, none, [31, 33]⟩] none [0, 1, 5, 6, 7, 13, 14, 18, 20, 21, 34, 46])
 (.cond [0, 1, 5, 6, 7, 13, 14, 18, 20, 21, 46] (.t 34) (.reg 10 [⟨some 35, .move (.t 6), none, []⟩,
  ⟨some 36, .move (.t 1), none, []⟩,
  ⟨some 37, .move (.t 7), none, [7]⟩,
  ⟨some 38, .iaddr 22 (.sl 1) (.t 36) (.t 37), none, []⟩,
  ⟨some 39, .load 49 none (.t 38), none, [36, 37, 38]⟩,
  ⟨some 40, .conv 49 33 (.int .u64) (.t 39), none, [39]⟩,
  ⟨some 41, .bin .add 33 (.t 35) (.t 40) 33, none, [35, 40]⟩,
  ⟨some 6, .assign (.t 41), none, [41]⟩] none [0, 1, 5, 6, 13, 14, 18, 20, 21, 46]) .skip))
 k0_limbs_Add))))
 k1_limbs_Add)
def k2_limbs_Add : IR := .tail [0, 1, 5, 6, 13, 14, 18, 20, 21, 46] j2_limbs_Add
def w0_limbs_Add : IR :=
 (.seq (.reg 6 [⟨some 22, .bin .lss 3 (.t 21) (.t 20) 3, none, []⟩] none [0, 1, 5, 6, 13, 14, 18, 20, 21, 22, 46])
 (.seq (.cond [0, 1, 5, 6, 13, 14, 18, 20, 21, 46] (.t 22) .skip (.exit 0))
 k2_limbs_Add))
def l0_limbs_Add : IR := .loop [0, 1, 5, 6, 13, 14, 18, 20, 21, 46] w0_limbs_Add
def j3_limbs_Add : IR :=
 (.seq (.reg 14 [⟨some 50, .move (.t 5), none, []⟩,
  ⟨some 51, .move (.t 6), none, [6]⟩,
  ⟨some 52, .conv 33 49 (.int .u32) (.t 51), none, [51]⟩,
  ⟨some 53, .lit 22 1 [(.t 52)], none, [52]⟩,
  ⟨some 54, .append 22 22 false 1 4 (.t 50) (.t 53), none, [5, 18, 46, 50, 53]⟩,
  ⟨some 55, .call n_limbs_trim [(.t 54)] [22], none, [54]⟩,
  ⟨some 4, .assign (.t 55), none, []⟩] none [4, 55])
 .ret)
def k3_limbs_Add : IR := .tail [5, 6, 18, 46] j3_limbs_Add
def j4_limbs_Add : IR :=
 (.seq (.reg 3 [⟨some 15, .move (.t 0), none, []⟩,
  ⟨some 16, .len 22 false (.t 15), none, [15]⟩,
  ⟨some 17, .bin .add 3 (.t 16) (.c (Value.int IntKind.i64 1)) 3, none, [16]⟩,
  ⟨some 18, .mk 22 1 4 (.v (.int .u32 0)) (.c (Value.int IntKind.i64 0)) (.t 17), none, [17]⟩,
  ⟨some 5, .assign (.t 18), none, []⟩] none [0, 1, 5, 13, 14, 18, 46])
 (.seq (.reg 4 [⟨some 6, .assign (.c (Value.int IntKind.u64 0)), none, []⟩] none [0, 1, 5, 6, 13, 14, 18, 46])
 (.seq (.seq (.reg 5 [⟨some 19, .move (.t 0), none, []⟩,
  ⟨some 20, .len 22 false (.t 19), none, [19]⟩,
  ⟨some 21, .move (.c (Value.int IntKind.i64 0)), none, []⟩] none [0, 1, 5, 6, 13, 14, 18, 20, 21, 46])
 (.block 0 l0_limbs_Add))
 k3_limbs_Add)))
def k4_limbs_Add : IR := .tail [0, 1, 13, 14] j4_limbs_Add
def b_limbs_Add : IR :=
 (.seq (.reg 0 [⟨some 4, .assign (.nilS 1), none, [4]⟩] none [0, 1, 13, 14])
 (.seq (.seq (.reg 1 [⟨some 8, .move (.t 0), none, []⟩,
  ⟨some 9, .len 22 false (.t 8), none, [8]⟩,
  ⟨some 10, .move (.t 1), none, []⟩,
  ⟨some 11, .len 22 false (.t 10), none, [10]⟩,
  ⟨some 12, .bin .lss 3 (.t 9) (.t 11) 3, none, [9, 11]⟩] none [0, 1, 12, 13, 14])
 (.cond [0, 1, 13, 14] (.t 12) (.reg 2 [⟨some 13, .move (.t 1), none, []⟩,
  ⟨some 14, .move (.t 0), none, []⟩,
  ⟨some 0, .assign (.t 13), none, []⟩,
  ⟨some 1, .assign (.t 14), none, []⟩] none [0, 1, 13, 14]) .skip))
 k4_limbs_Add))
def a_limbs_Add : AFunc := ⟨56, [.tmp 4], b_limbs_Add⟩

def j0_limbs_Gcd : IR :=
 (.block 1 (.seq (.reg 3 [⟨some 16, .move (.t 0), none, []⟩,
  ⟨some 17, .move (.t 1), none, []⟩,
  ⟨some 18, .call n_limbs_DivMod [(.t 16), (.t 17)] [22, 22], none, [0, 9, 16, 17, 22]⟩,
  ⟨some 15, .move (.t 18), none, []⟩,
  ⟨some 19, .extr (.t 15) 0, none, []⟩,
  ⟨some 20, .extr (.t 15) 1, none, []⟩,
  ⟨some 21, .extr (.t 15) 2, none, []⟩,
  ⟨some 5, .assign (.t 19), none, [5, 19]⟩,
  ⟨some 6, .assign (.t 20), none, []⟩,
  ⟨some 7, .assign (.t 21), none, [7, 21]⟩] none [1, 6, 11, 15, 18, 20, 23])
 (.reg 4 [⟨some 22, .move (.t 1), none, []⟩,
  ⟨some 23, .move (.t 6), none, []⟩,
  ⟨some 0, .assign (.t 22), none, []⟩,
  ⟨some 1, .assign (.t 23), none, []⟩] none [0, 1, 6, 9, 11, 15, 18, 20, 22, 23])))
def k0_limbs_Gcd : IR := .tail [0, 1, 6, 9, 11, 15, 18, 20, 22, 23] j0_limbs_Gcd
def w0_limbs_Gcd : IR :=
 (.seq (.seq (.reg 2 [⟨some 12, .move (.t 1), none, []⟩,
  ⟨some 13, .len 22 false (.t 12), none, [12]⟩,
  ⟨some 14, .bin .gtr 3 (.t 13) (.c (Value.int IntKind.i64 0)) 3, none, [13]⟩] none [0, 1, 6, 9, 11, 14, 15, 18, 20, 22, 23])
 (.cond [0, 1, 6, 9, 11, 15, 18, 20, 22, 23] (.t 14) .skip (.exit 0)))
 k0_limbs_Gcd)
def l0_limbs_Gcd : IR := .loop [0, 1, 6, 9, 11, 15, 18, 20, 22, 23] w0_limbs_Gcd
def j1_limbs_Gcd : IR :=
 (.seq (.reg 5 [⟨some 24, .move (.t 0), none, []⟩,
  ⟨some 4, .assign (.t 24), none, []⟩] none [0, 1, 4, 6, 9, 11, 15, 18, 20, 22, 23, 24])
 .ret)
def k1_limbs_Gcd : IR := .tail [0, 1, 6, 9, 11, 15, 18, 20, 22, 23] j1_limbs_Gcd
def b_limbs_Gcd : IR :=
 (.seq (.reg 0 [⟨some 4, .assign (.nilS 1), none, [4]⟩] none [0, 1, 6, 9, 11, 15, 18, 20, 22, 23])
 (.seq (.reg 1 [⟨some 8, .move (.t 0), none, []⟩,
  ⟨some 9, .call n_limbs_Norm [(.t 8)] [22], none, [8]⟩,
  ⟨some 10, .move (.t 1), none, []⟩,
  ⟨some 11, .call n_limbs_Norm [(.t 10)] [22], none, [10]⟩,
  ⟨some 0, .assign (.t 9), none, []⟩,
  ⟨some 1, .assign (.t 11), none, []⟩] none [0, 1, 6, 9, 11, 15, 18, 20, 22, 23])
 (.seq (.block 0 l0_limbs_Gcd)
 k1_limbs_Gcd)))
def a_limbs_Gcd : AFunc := ⟨25, [.tmp 4], b_limbs_Gcd⟩

def j0_limbs_right : IR :=
 (.seq (.reg 3 [⟨some 20, .move (.t 1), none, []⟩,
  ⟨some 21, .move (.t 2), none, []⟩,
  ⟨some 22, .call n_limbs_Gcd [(.t 20), (.t 21)] [22, 22], none, [20, 21]⟩,
  ⟨some 7, .assign (.t 22), none, []⟩] none [0, 1, 2, 6, 7, 22])
 (.seq (.reg 4 [⟨some 24, .move (.t 1), none, []⟩,
  ⟨some 25, .move (.t 7), none, []⟩,
  ⟨some 26, .call n_limbs_DivMod [(.t 24), (.t 25)] [22, 22], none, [1, 24, 25]⟩,
  ⟨some 23, .move (.t 26), none, []⟩,
  ⟨some 27, .extr (.t 23) 0, none, []⟩,
  ⟨some 28, .extr (.t 23) 1, none, []⟩,
  ⟨some 29, .extr (.t 23) 2, none, []⟩,
  ⟨some 8, .assign (.t 27), none, []⟩,
  ⟨some 9, .assign (.t 28), none, [9, 28]⟩,
  ⟨some 10, .assign (.t 29), none, [10, 29]⟩] none [0, 2, 6, 7, 8, 22, 23, 26, 27])
 (.seq (.reg 5 [⟨some 31, .move (.t 2), none, []⟩,
  ⟨some 32, .move (.t 7), none, []⟩,
  ⟨some 33, .call n_limbs_DivMod [(.t 31), (.t 32)] [22, 22], none, [2, 7, 22, 31, 32]⟩,
  ⟨some 30, .move (.t 33), none, []⟩,
  ⟨some 34, .extr (.t 30) 0, none, []⟩,
  ⟨some 35, .extr (.t 30) 1, none, []⟩,
  ⟨some 36, .extr (.t 30) 2, none, []⟩,
  ⟨some 11, .assign (.t 34), none, []⟩,
  ⟨some 12, .assign (.t 35), none, [12, 35]⟩,
  ⟨some 13, .assign (.t 36), none, [13, 36]⟩] none [0, 6, 8, 11, 23, 26, 27, 30, 33, 34])
 (.seq (.reg 6 [⟨some 37, .move (.t 0), none, [0]⟩,
  ⟨some 38, .move (.t 8), none, []⟩,
  ⟨some 39, .move (.t 11), none, []⟩,
  ⟨some 40, .build 48 [(0, 1), (1, 1), (2, 1)] [.v (.bool false), .nil 1, .nil 1] [(0, (.t 37)), (1, (.t 38)), (2, (.t 39))], none, []⟩,
  ⟨none, .store 48 (some 3) (.t 6) (.t 40), none, [8, 11, 23, 26, 27, 30, 33, 34, 37, 38, 39, 40]⟩] none [6])
 .ret))))
def k0_limbs_right : IR := .tail [0, 1, 2, 6] j0_limbs_right
def b_limbs_right : IR :=
 (.seq (.reg 0 [⟨some 6, .alloc 48 [.v (.bool false), .nil 1, .nil 1], none, []⟩] none [0, 1, 2, 6])
 (.seq (.seq (.reg 1 [⟨some 14, .move (.t 1), none, []⟩,
  ⟨some 15, .call n_limbs_trim [(.t 14)] [22], none, [14]⟩,
  ⟨some 16, .len 22 false (.t 15), none, [15]⟩,
  ⟨some 17, .bin .eql 3 (.t 16) (.c (Value.int IntKind.i64 0)) 3, none, [16]⟩] none [0, 1, 2, 6, 17])
 (.cond [0, 1, 2, 6] (.t 17) (.seq (.reg 2 [⟨some 18, .lit 22 1 [(.c (Value.int IntKind.u32 1))], none, []⟩,
  ⟨some 19, .build 48 [(0, 1), (1, 1), (2, 1)] [.v (.bool false), .nil 1, .nil 1] [(2, (.t 18))], none, []⟩,
  ⟨none, .store 48 (some 3) (.t 6) (.t 19), none, [18, 19]⟩] none [6])
 .ret) .skip))
 k0_limbs_right))
def a_limbs_right : AFunc := ⟨41, [.cell 6 48 (some 3)], b_limbs_right⟩

def j0_limbs_Over : IR :=
 (.seq (.reg 3 [⟨some 13, .move (.t 0), none, [0]⟩,
  ⟨some 14, .move (.t 1), none, []⟩,
  ⟨some 15, .move (.t 2), none, []⟩,
  ⟨some 16, .call n_limbs_right [(.t 13), (.t 14), (.t 15)] [4, 22, 22], none, [1, 2, 13, 14, 15]⟩,
  ⟨none, .store 48 (some 3) (.t 6) (.t 16), none, [16]⟩,
  ⟨some 7, .assign (.c (Value.int IntKind.i64 0)), none, []⟩] none [6, 7])
 .ret)
def k0_limbs_Over : IR := .tail [0, 1, 2, 6] j0_limbs_Over
def b_limbs_Over : IR :=
 (.seq (.reg 0 [⟨some 6, .alloc 48 [.v (.bool false), .nil 1, .nil 1], none, []⟩,
  ⟨some 7, .assign (.c (Value.int IntKind.i64 0)), none, [7]⟩] none [0, 1, 2, 6])
 (.seq (.seq (.reg 1 [⟨some 8, .move (.t 2), none, []⟩,
  ⟨some 9, .call n_limbs_trim [(.t 8)] [22], none, [8]⟩,
  ⟨some 10, .len 22 false (.t 9), none, [9]⟩,
  ⟨some 11, .bin .eql 3 (.t 10) (.c (Value.int IntKind.i64 0)) 3, none, [10]⟩] none [0, 1, 2, 6, 11])
 (.cond [0, 1, 2, 6] (.t 11) (.seq (.reg 2 [⟨some 12, .build 48 [(0, 1), (1, 1), (2, 1)] [.v (.bool false), .nil 1, .nil 1] [], none, []⟩,
  ⟨none, .store 48 (some 3) (.t 6) (.t 12), none, [12]⟩,
  ⟨some 7, .assign (.c (Value.int IntKind.i64 11)), none, []⟩] none [6, 7])
 .ret) .skip))
 k0_limbs_Over))
def a_limbs_Over : AFunc := ⟨17, [.cell 6 48 (some 3), .tmp 7], b_limbs_Over⟩

def j0_limbs_Write : IR :=
 (.seq (.reg 9 [⟨some 38, .move (.t 6), none, [6]⟩,
  ⟨some 2, .assign (.t 38), none, [38]⟩,
  ⟨some 3, .assign (.c (Value.int IntKind.i64 0)), none, []⟩] none [2, 3])
 .ret)
def k0_limbs_Write : IR := .tail [6] j0_limbs_Write
def j1_limbs_Write : IR :=
 (.seq (.seq (.reg 7 [⟨some 27, .faddr 48 (.t 4) 2 2, none, []⟩,
  ⟨some 28, .load 22 none (.t 27), none, []⟩,
  ⟨some 29, .lit 22 1 [(.c (Value.int IntKind.u32 1))], none, []⟩,
  ⟨some 30, .call n_limbs_Cmp [(.t 28), (.t 29)] [22, 22], none, [27, 28, 29]⟩,
  ⟨some 31, .bin .neq 3 (.t 30) (.c (Value.int IntKind.i64 0)) 3, none, [30]⟩] none [4, 6, 31])
 (.cond [4, 6] (.t 31) (.reg 8 [⟨some 32, .move (.t 6), none, []⟩,
  ⟨some 33, .faddr 48 (.t 4) 2 2, none, []⟩,
  ⟨some 34, .load 22 none (.t 33), none, []⟩,
  ⟨some 35, .call n_limbs_Print [(.t 34)] [22], none, [4, 33, 34]⟩,
  ⟨some 36, .bin .add 9 (.c (Value.string { data := #[47] })) (.t 35) 9, none, [35]⟩,
  ⟨some 37, .bin .add 9 (.t 32) (.t 36) 9, none, [32, 36]⟩,
  ⟨some 6, .assign (.t 37), none, [37]⟩] none [6]) .skip))
 k0_limbs_Write)
def k1_limbs_Write : IR := .tail [4, 6] j1_limbs_Write
def j2_limbs_Write : IR :=
 (.seq (.reg 4 [⟨some 20, .faddr 48 (.t 4) 1 1, none, []⟩,
  ⟨some 21, .load 22 none (.t 20), none, []⟩,
  ⟨some 22, .call n_limbs_Print [(.t 21)] [22], none, [20, 21]⟩,
  ⟨some 6, .assign (.t 22), none, [22]⟩] none [4, 6])
 (.seq (.seq (.reg 5 [⟨some 23, .faddr 48 (.t 4) 0 0, none, []⟩,
  ⟨some 24, .load 4 none (.t 23), none, [23]⟩] none [4, 6, 24])
 (.cond [4, 6] (.t 24) (.reg 6 [⟨some 25, .move (.t 6), none, []⟩,
  ⟨some 26, .bin .add 9 (.c (Value.string { data := #[45] })) (.t 25) 9, none, [25]⟩,
  ⟨some 6, .assign (.t 26), none, [26]⟩] none [4, 6]) .skip))
 k1_limbs_Write))
def k2_limbs_Write : IR := .tail [4] j2_limbs_Write
def b_limbs_Write : IR :=
 (.seq (.reg 0 [⟨some 1, .box 48 (.t 0), none, [0]⟩,
  ⟨some 2, .assign (.c (Value.string { data := #[] })), none, [2]⟩,
  ⟨some 3, .assign (.c (Value.int IntKind.i64 0)), none, [3]⟩] none [1])
 (.seq (.reg 1 [⟨some 8, .faddr 48 (.t 1) 0 0, none, []⟩,
  ⟨some 9, .load 4 none (.t 8), none, [8]⟩,
  ⟨some 10, .faddr 48 (.t 1) 1 1, none, []⟩,
  ⟨some 11, .load 22 none (.t 10), none, []⟩,
  ⟨some 12, .faddr 48 (.t 1) 2 2, none, []⟩,
  ⟨some 13, .load 22 none (.t 12), none, []⟩,
  ⟨some 14, .call n_limbs_Over [(.t 9), (.t 11), (.t 13)] [4, 22, 22], none, [1, 9, 10, 11, 12, 13]⟩,
  ⟨some 7, .move (.t 14), none, []⟩,
  ⟨some 15, .extr (.t 7) 0, none, []⟩,
  ⟨some 16, .extr (.t 7) 1, none, []⟩,
  ⟨some 4, .alloc 48 [.v (.bool false), .nil 1, .nil 1], none, []⟩,
  ⟨none, .store 48 (some 3) (.t 4) (.t 15), none, [7, 14, 15]⟩,
  ⟨some 5, .assign (.t 16), none, [16]⟩] none [4, 5])
 (.seq (.seq (.reg 2 [⟨some 17, .move (.t 5), none, []⟩,
  ⟨some 18, .bin .neq 23 (.t 17) (.c (Value.int IntKind.i64 0)) 23, none, [17]⟩] none [4, 5, 18])
 (.cond [4, 5] (.t 18) (.seq (.reg 3 [⟨some 19, .move (.t 5), none, [5]⟩,
  ⟨some 2, .assign (.c (Value.string { data := #[] })), none, []⟩,
  ⟨some 3, .assign (.t 19), none, [19]⟩] none [2, 3])
 .ret) .skip))
 k2_limbs_Write)))
def a_limbs_Write : AFunc := ⟨39, [.tmp 2, .tmp 3], b_limbs_Write⟩

def b_thicketlaw01_lives : IR :=
 (.seq (.reg 0 [⟨some 0, .assign (.c (Value.bool false)), none, [0]⟩] none [])
 (.seq (.reg 1 [⟨some 12, .lit 22 1 [(.c (Value.int IntKind.u32 7))], none, []⟩,
  ⟨some 13, .lit 22 1 [(.c (Value.int IntKind.u32 2))], none, []⟩,
  ⟨some 14, .call n_limbs_DivMod [(.t 12), (.t 13)] [22, 22], none, [12, 13]⟩,
  ⟨some 11, .move (.t 14), none, []⟩,
  ⟨some 15, .extr (.t 11) 0, none, []⟩,
  ⟨some 16, .extr (.t 11) 1, none, []⟩,
  ⟨some 17, .extr (.t 11) 2, none, []⟩,
  ⟨some 1, .assign (.t 15), none, []⟩,
  ⟨some 2, .assign (.t 16), none, []⟩,
  ⟨some 3, .assign (.t 17), none, [17]⟩] none [1, 2, 3, 11, 14, 15, 16])
 (.seq (.reg 2 [⟨some 19, .lit 22 1 [(.c (Value.int IntKind.u32 6))], none, []⟩,
  ⟨some 20, .lit 22 1 [(.c (Value.int IntKind.u32 4))], none, []⟩,
  ⟨some 21, .call n_limbs_Over [(.c (Value.bool true)), (.t 19), (.t 20)] [4, 22, 22], none, [19, 20]⟩,
  ⟨some 18, .move (.t 21), none, []⟩,
  ⟨some 22, .extr (.t 18) 0, none, []⟩,
  ⟨some 23, .extr (.t 18) 1, none, []⟩,
  ⟨some 4, .alloc 48 [.v (.bool false), .nil 1, .nil 1], none, []⟩,
  ⟨none, .store 48 (some 3) (.t 4) (.t 22), none, [18, 21, 22]⟩,
  ⟨some 5, .assign (.t 23), none, [23]⟩] none [1, 2, 3, 4, 5, 11, 14, 15, 16])
 (.seq (.reg 3 [⟨some 25, .load 48 (some 3) (.t 4), none, []⟩,
  ⟨some 26, .call n_limbs_Write [(.t 25)] [48], none, [4, 25]⟩,
  ⟨some 24, .move (.t 26), none, [26]⟩,
  ⟨some 27, .extr (.t 24) 0, none, []⟩,
  ⟨some 28, .extr (.t 24) 1, none, [24]⟩,
  ⟨some 6, .assign (.t 27), none, [27]⟩,
  ⟨some 7, .assign (.t 28), none, [28]⟩] none [1, 2, 3, 5, 6, 7, 11, 14, 15, 16])
 (.seq (.reg 4 [⟨some 30, .call n_limbs_Read [(.c (Value.string { data := #[52, 50, 57, 52, 57, 54, 55, 50, 57, 54] }))] [9], none, []⟩,
  ⟨some 29, .move (.t 30), none, []⟩,
  ⟨some 31, .extr (.t 29) 0, none, []⟩,
  ⟨some 32, .extr (.t 29) 1, none, []⟩,
  ⟨some 33, .extr (.t 29) 2, none, []⟩,
  ⟨some 8, .assign (.t 31), none, []⟩,
  ⟨some 9, .assign (.t 32), none, [32]⟩,
  ⟨some 10, .assign (.t 33), none, [10, 33]⟩] none [1, 2, 3, 5, 6, 7, 8, 9, 11, 14, 15, 16, 29, 30, 31])
 (.seq (.reg 5 [⟨some 34, .move (.t 3), none, [3]⟩,
  ⟨some 35, .bin .eql 23 (.t 34) (.c (Value.int IntKind.i64 0)) 23, none, [34]⟩,
  ⟨some 36, .move (.t 35), none, [35]⟩,
  ⟨some 37, .move (.t 5), some (2, true), [5]⟩,
  ⟨some 38, .bin .eql 23 (.t 37) (.c (Value.int IntKind.i64 0)) 23, some (2, true), [37]⟩,
  ⟨some 39, .pick (.t 36) (.t 38) (.c (Value.bool false)), none, [36, 38]⟩,
  ⟨some 40, .move (.t 39), none, [39]⟩,
  ⟨some 41, .move (.t 7), some (6, true), [7]⟩,
  ⟨some 42, .bin .eql 23 (.t 41) (.c (Value.int IntKind.i64 0)) 23, some (6, true), [41]⟩,
  ⟨some 43, .pick (.t 40) (.t 42) (.c (Value.bool false)), none, [40, 42]⟩,
  ⟨some 44, .move (.t 43), none, [43]⟩,
  ⟨some 45, .move (.t 9), some (10, true), [9]⟩,
  ⟨some 46, .bin .eql 23 (.t 45) (.c (Value.int IntKind.i64 0)) 23, some (10, true), [45]⟩,
  ⟨some 47, .pick (.t 44) (.t 46) (.c (Value.bool false)), none, [44, 46]⟩,
  ⟨some 48, .move (.t 47), none, [47]⟩,
  ⟨some 49, .move (.t 6), some (14, true), [6]⟩,
  ⟨some 50, .bin .eql 9 (.t 49) (.c (Value.string { data := #[45, 51, 47, 50] })) 9, some (14, true), [49]⟩,
  ⟨some 51, .pick (.t 48) (.t 50) (.c (Value.bool false)), none, [48, 50]⟩,
  ⟨some 52, .move (.t 51), none, [51]⟩,
  ⟨some 53, .move (.t 1), some (18, true), []⟩,
  ⟨some 54, .len 22 false (.t 53), some (18, true), [53]⟩,
  ⟨some 55, .bin .eql 3 (.t 54) (.c (Value.int IntKind.i64 1)) 3, some (18, true), [54]⟩,
  ⟨some 56, .pick (.t 52) (.t 55) (.c (Value.bool false)), none, [52, 55]⟩,
  ⟨some 57, .move (.t 56), none, [56]⟩,
  ⟨some 58, .move (.t 1), some (23, true), []⟩,
  ⟨some 59, .iaddr 22 (.sl 1) (.t 58) (.c (Value.int IntKind.i64 0)), some (23, true), []⟩,
  ⟨some 60, .load 49 none (.t 59), some (23, true), [1, 15, 58, 59]⟩,
  ⟨some 61, .bin .eql 49 (.t 60) (.c (Value.int IntKind.u32 3)) 49, some (23, true), [60]⟩,
  ⟨some 62, .pick (.t 57) (.t 61) (.c (Value.bool false)), none, [57, 61]⟩,
  ⟨some 63, .move (.t 62), none, [62]⟩,
  ⟨some 64, .move (.t 2), some (29, true), []⟩,
  ⟨some 65, .len 22 false (.t 64), some (29, true), [64]⟩,
  ⟨some 66, .bin .eql 3 (.t 65) (.c (Value.int IntKind.i64 1)) 3, some (29, true), [65]⟩,
  ⟨some 67, .pick (.t 63) (.t 66) (.c (Value.bool false)), none, [63, 66]⟩,
  ⟨some 68, .move (.t 67), none, [67]⟩,
  ⟨some 69, .move (.t 2), some (34, true), []⟩,
  ⟨some 70, .iaddr 22 (.sl 1) (.t 69) (.c (Value.int IntKind.i64 0)), some (34, true), []⟩,
  ⟨some 71, .load 49 none (.t 70), some (34, true), [2, 11, 14, 16, 69, 70]⟩,
  ⟨some 72, .bin .eql 49 (.t 71) (.c (Value.int IntKind.u32 1)) 49, some (34, true), [71]⟩,
  ⟨some 73, .pick (.t 68) (.t 72) (.c (Value.bool false)), none, [68, 72]⟩,
  ⟨some 74, .move (.t 73), none, [73]⟩,
  ⟨some 75, .move (.t 8), some (40, true), []⟩,
  ⟨some 76, .len 22 false (.t 75), some (40, true), [75]⟩,
  ⟨some 77, .bin .eql 3 (.t 76) (.c (Value.int IntKind.i64 2)) 3, some (40, true), [76]⟩,
  ⟨some 78, .pick (.t 74) (.t 77) (.c (Value.bool false)), none, [74, 77]⟩,
  ⟨some 79, .move (.t 78), none, [78]⟩,
  ⟨some 80, .move (.t 8), some (45, true), []⟩,
  ⟨some 81, .iaddr 22 (.sl 1) (.t 80) (.c (Value.int IntKind.i64 0)), some (45, true), []⟩,
  ⟨some 82, .load 49 none (.t 81), some (45, true), [80, 81]⟩,
  ⟨some 83, .bin .eql 49 (.t 82) (.c (Value.int IntKind.u32 0)) 49, some (45, true), [82]⟩,
  ⟨some 84, .pick (.t 79) (.t 83) (.c (Value.bool false)), none, [79, 83]⟩,
  ⟨some 85, .move (.t 84), none, [84]⟩,
  ⟨some 86, .move (.t 8), some (51, true), []⟩,
  ⟨some 87, .iaddr 22 (.sl 1) (.t 86) (.c (Value.int IntKind.i64 1)), some (51, true), []⟩,
  ⟨some 88, .load 49 none (.t 87), some (51, true), [86, 87]⟩,
  ⟨some 89, .bin .eql 49 (.t 88) (.c (Value.int IntKind.u32 1)) 49, some (51, true), [88]⟩,
  ⟨some 90, .pick (.t 85) (.t 89) (.c (Value.bool false)), none, [85, 89]⟩,
  ⟨some 91, .move (.t 90), none, [90]⟩,
  ⟨some 92, .move (.t 8), some (57, true), []⟩,
  ⟨some 93, .move (.t 8), some (57, true), []⟩,
  ⟨some 94, .call n_limbs_Add [(.t 92), (.t 93)] [22, 22], some (57, true), [8, 29, 30, 31, 92, 93]⟩,
  ⟨some 95, .call n_limbs_Print [(.t 94)] [22], some (57, true), [94]⟩,
  ⟨some 96, .bin .eql 9 (.t 95) (.c (Value.string { data := #[56, 53, 56, 57, 57, 51, 52, 53, 57, 50] })) 9, some (57, true), [95]⟩,
  ⟨some 97, .pick (.t 91) (.t 96) (.c (Value.bool false)), none, [91, 96]⟩,
  ⟨some 0, .assign (.t 97), none, [97]⟩] none [0])
 .ret))))))
def a_thicketlaw01_lives : AFunc := ⟨98, [.tmp 0], b_thicketlaw01_lives⟩

def j0_thicketref01_Same : IR :=
 (.reg 8 [⟨some 25, .bin .add 3 (.t 13) (.c (Value.int IntKind.i64 1)) 3, none, []⟩,
  ⟨some 13, .move (.t 25), none, [25]⟩] none [0, 1, 12, 13])
def k0_thicketref01_Same : IR := .tail [0, 1, 12, 13] j0_thicketref01_Same
def j1_thicketref01_Same : IR :=
 (.seq (.block 1 (.seq (.reg 5 [⟨some 15, .move (.t 13), none, []⟩,
  ⟨some 5, .assign (.t 15), none, [15]⟩] none [0, 1, 5, 12, 13])
 (.seq (.reg 6 [⟨some 16, .move (.t 0), none, []⟩,
  ⟨some 17, .move (.t 5), none, []⟩,
  ⟨some 18, .iaddr 22 (.sl 1) (.t 16) (.t 17), none, []⟩,
  ⟨some 19, .load 49 none (.t 18), none, [16, 17, 18]⟩,
  ⟨some 20, .move (.t 1), none, []⟩,
  ⟨some 21, .move (.t 5), none, [5]⟩,
  ⟨some 22, .iaddr 22 (.sl 1) (.t 20) (.t 21), none, []⟩,
  ⟨some 23, .load 49 none (.t 22), none, [20, 21, 22]⟩,
  ⟨some 24, .bin .neq 49 (.t 19) (.t 23) 49, none, [19, 23]⟩] (some [⟨0, []⟩, ⟨1, []⟩, ⟨2, []⟩, ⟨4, []⟩, ⟨5, []⟩, ⟨6, []⟩, ⟨3, []⟩, ⟨7, []⟩, ⟨8, []⟩]) [0, 1, 12, 13, 24])
 (.cond [0, 1, 12, 13] (.t 24) (.seq (.reg 7 [⟨some 4, .assign (.c (Value.bool false)), none, []⟩] none [4])
 .ret) .skip))))
 k0_thicketref01_Same)
def k1_thicketref01_Same : IR := .tail [0, 1, 12, 13] j1_thicketref01_Same
def w0_thicketref01_Same : IR :=
 (.seq (.reg 4 [⟨some 14, .bin .lss 3 (.t 13) (.t 12) 3, none, []⟩] none [0, 1, 12, 13, 14])
 (.seq (.cond [0, 1, 12, 13] (.t 14) .skip (.exit 0))
 k1_thicketref01_Same))
def l0_thicketref01_Same : IR := .loop [0, 1, 12, 13] w0_thicketref01_Same
def j2_thicketref01_Same : IR :=
 (.seq (.reg 9 [⟨some 4, .assign (.c (Value.bool true)), none, []⟩] none [4])
 .ret)
def k2_thicketref01_Same : IR := .tail [] j2_thicketref01_Same
def j3_thicketref01_Same : IR :=
 (.seq (.seq (.reg 3 [⟨some 11, .move (.t 0), none, []⟩,
  ⟨some 12, .len 22 false (.t 11), none, [11]⟩,
  ⟨some 13, .move (.c (Value.int IntKind.i64 0)), none, []⟩] none [0, 1, 12, 13])
 (.block 0 l0_thicketref01_Same))
 k2_thicketref01_Same)
def k3_thicketref01_Same : IR := .tail [0, 1] j3_thicketref01_Same
def b_thicketref01_Same : IR :=
 (.seq (.reg 0 [⟨some 4, .assign (.c (Value.bool false)), none, [4]⟩] none [0, 1])
 (.seq (.seq (.reg 1 [⟨some 6, .move (.t 0), none, []⟩,
  ⟨some 7, .len 22 false (.t 6), none, [6]⟩,
  ⟨some 8, .move (.t 1), none, []⟩,
  ⟨some 9, .len 22 false (.t 8), none, [8]⟩,
  ⟨some 10, .bin .neq 3 (.t 7) (.t 9) 3, none, [7, 9]⟩] none [0, 1, 10])
 (.cond [0, 1] (.t 10) (.seq (.reg 2 [⟨some 4, .assign (.c (Value.bool false)), none, []⟩] none [4])
 .ret) .skip))
 k3_thicketref01_Same))
def a_thicketref01_Same : AFunc := ⟨26, [.tmp 4], b_thicketref01_Same⟩

def j0_thicketref01_Cmp : IR :=
 (.seq (.reg 5 [⟨some 4, .assign (.c (Value.int IntKind.i64 1)), none, []⟩] none [4])
 .ret)
def k0_thicketref01_Cmp : IR := .tail [] j0_thicketref01_Cmp
def j1_thicketref01_Cmp : IR :=
 (.seq (.reg 11 [⟨some 38, .move (.t 5), none, []⟩,
  ⟨some 39, .move (.t 7), none, []⟩,
  ⟨some 40, .iaddr 22 (.sl 1) (.t 38) (.t 39), none, []⟩,
  ⟨some 41, .load 49 none (.t 40), none, [38, 39, 40]⟩,
  ⟨some 42, .move (.t 6), none, []⟩,
  ⟨some 43, .move (.t 7), none, []⟩,
  ⟨some 44, .iaddr 22 (.sl 1) (.t 42) (.t 43), none, []⟩,
  ⟨some 45, .load 49 none (.t 44), none, [42, 43, 44]⟩,
  ⟨some 46, .bin .gtr 49 (.t 41) (.t 45) 49, none, [41, 45]⟩] (some [⟨0, []⟩, ⟨1, []⟩, ⟨2, []⟩, ⟨4, []⟩, ⟨5, []⟩, ⟨6, []⟩, ⟨3, []⟩, ⟨7, []⟩, ⟨8, []⟩]) [5, 6, 7, 9, 11, 46])
 (.cond [5, 6, 7, 9, 11] (.t 46) (.seq (.reg 12 [⟨some 4, .assign (.c (Value.int IntKind.i64 1)), none, []⟩] none [4])
 .ret) .skip))
def k1_thicketref01_Cmp : IR := .tail [5, 6, 7, 9, 11] j1_thicketref01_Cmp
def j2_thicketref01_Cmp : IR :=
 (.reg 8 [⟨some 27, .move (.t 7), none, []⟩,
  ⟨some 28, .bin .sub 3 (.t 27) (.c (Value.int IntKind.i64 1)) 3, none, [27]⟩,
  ⟨some 7, .assign (.t 28), none, [28]⟩] none [5, 6, 7, 9, 11])
def k2_thicketref01_Cmp : IR := .tail [5, 6, 7, 9, 11] j2_thicketref01_Cmp
def j3_thicketref01_Cmp : IR :=
 (.seq (.block 1 (.seq (.seq (.reg 9 [⟨some 29, .move (.t 5), none, []⟩,
  ⟨some 30, .move (.t 7), none, []⟩,
  ⟨some 31, .iaddr 22 (.sl 1) (.t 29) (.t 30), none, []⟩,
  ⟨some 32, .load 49 none (.t 31), none, [29, 30, 31]⟩,
  ⟨some 33, .move (.t 6), none, []⟩,
  ⟨some 34, .move (.t 7), none, []⟩,
  ⟨some 35, .iaddr 22 (.sl 1) (.t 33) (.t 34), none, []⟩,
  ⟨some 36, .load 49 none (.t 35), none, [33, 34, 35]⟩,
  ⟨some 37, .bin .lss 49 (.t 32) (.t 36) 49, none, [32, 36]⟩] (some [⟨0, []⟩, ⟨1, []⟩, ⟨2, []⟩, ⟨4, []⟩, ⟨5, []⟩, ⟨6, []⟩, ⟨3, []⟩, ⟨7, []⟩, ⟨8, []⟩]) [5, 6, 7, 9, 11, 37])
 (.cond [5, 6, 7, 9, 11] (.t 37) (.seq (.reg 10 [⟨some 4, .assign (.c (Value.int IntKind.i64 (-1))), none, []⟩] none [4])
 .ret) .skip))
 k1_thicketref01_Cmp))
 k2_thicketref01_Cmp)
def k3_thicketref01_Cmp : IR := .tail [5, 6, 7, 9, 11] j3_thicketref01_Cmp
def w0_thicketref01_Cmp : IR :=
 (.seq (.seq (.reg 7 [⟨some 25, .move (.t 7), none, []⟩,
  ⟨some 26, .bin .geq 3 (.t 25) (.c (Value.int IntKind.i64 0)) 3, none, [25]⟩] none [5, 6, 7, 9, 11, 26])
 (.cond [5, 6, 7, 9, 11] (.t 26) .skip (.exit 0)))
 k3_thicketref01_Cmp)
def l0_thicketref01_Cmp : IR := .loop [5, 6, 7, 9, 11] w0_thicketref01_Cmp
def j4_thicketref01_Cmp : IR :=
 (.seq (.reg 13 [⟨some 4, .assign (.c (Value.int IntKind.i64 0)), none, []⟩] none [4])
 .ret)
def k4_thicketref01_Cmp : IR := .tail [] j4_thicketref01_Cmp
def j5_thicketref01_Cmp : IR :=
 (.seq (.seq (.reg 6 [⟨some 22, .move (.t 5), none, []⟩,
  ⟨some 23, .len 22 false (.t 22), none, [22]⟩,
  ⟨some 24, .bin .sub 3 (.t 23) (.c (Value.int IntKind.i64 1)) 3, none, [23]⟩,
  ⟨some 7, .assign (.t 24), none, [24]⟩] none [5, 6, 7, 9, 11])
 (.block 0 l0_thicketref01_Cmp))
 k4_thicketref01_Cmp)
def k5_thicketref01_Cmp : IR := .tail [5, 6, 9, 11] j5_thicketref01_Cmp
def b_thicketref01_Cmp : IR :=
 (.seq (.reg 0 [⟨some 4, .assign (.c (Value.int IntKind.i64 0)), none, [4]⟩] none [0, 1])
 (.seq (.reg 1 [⟨some 8, .move (.t 0), none, []⟩,
  ⟨some 9, .call n_thicketref01_Norm [(.t 8)] [22], none, [0, 8]⟩,
  ⟨some 10, .move (.t 1), none, []⟩,
  ⟨some 11, .call n_thicketref01_Norm [(.t 10)] [22], none, [1, 10]⟩,
  ⟨some 5, .assign (.t 9), none, []⟩,
  ⟨some 6, .assign (.t 11), none, []⟩] none [5, 6, 9, 11])
 (.seq (.seq (.reg 2 [⟨some 12, .move (.t 5), none, []⟩,
  ⟨some 13, .len 22 false (.t 12), none, [12]⟩,
  ⟨some 14, .move (.t 6), none, []⟩,
  ⟨some 15, .len 22 false (.t 14), none, [14]⟩,
  ⟨some 16, .bin .neq 3 (.t 13) (.t 15) 3, none, [13, 15]⟩] none [5, 6, 9, 11, 16])
 (.cond [5, 6, 9, 11] (.t 16) (.seq (.seq (.reg 3 [⟨some 17, .move (.t 5), none, []⟩,
  ⟨some 18, .len 22 false (.t 17), none, [5, 9, 17]⟩,
  ⟨some 19, .move (.t 6), none, []⟩,
  ⟨some 20, .len 22 false (.t 19), none, [6, 11, 19]⟩,
  ⟨some 21, .bin .lss 3 (.t 18) (.t 20) 3, none, [18, 20]⟩] none [21])
 (.cond [] (.t 21) (.seq (.reg 4 [⟨some 4, .assign (.c (Value.int IntKind.i64 (-1))), none, []⟩] none [4])
 .ret) .skip))
 k0_thicketref01_Cmp) .skip))
 k5_thicketref01_Cmp)))
def a_thicketref01_Cmp : AFunc := ⟨47, [.tmp 4], b_thicketref01_Cmp⟩

def b_thicketref01_Bit : IR :=
 (.seq (.reg 0 [⟨some 4, .assign (.c (Value.bool false)), none, [4]⟩] none [0, 1])
 (.seq (.reg 1 [⟨some 5, .move (.t 1), none, []⟩,
  ⟨some 6, .bin .geq 3 (.t 5) (.c (Value.int IntKind.i64 0)) 3, none, [5]⟩,
  ⟨some 7, .move (.t 6), none, [6]⟩,
  ⟨some 8, .move (.t 1), some (2, true), []⟩,
  ⟨some 9, .bin .quo 3 (.t 8) (.c (Value.int IntKind.i64 32)) 3, some (2, true), [8]⟩,
  ⟨some 10, .move (.t 0), some (2, true), []⟩,
  ⟨some 11, .len 22 false (.t 10), some (2, true), [10]⟩,
  ⟨some 12, .bin .lss 3 (.t 9) (.t 11) 3, some (2, true), [9, 11]⟩,
  ⟨some 13, .pick (.t 7) (.t 12) (.c (Value.bool false)), none, [7, 12]⟩,
  ⟨some 14, .move (.t 13), none, [13]⟩,
  ⟨some 15, .move (.t 0), some (9, true), []⟩,
  ⟨some 16, .move (.t 1), some (9, true), []⟩,
  ⟨some 17, .bin .quo 3 (.t 16) (.c (Value.int IntKind.i64 32)) 3, some (9, true), [16]⟩,
  ⟨some 18, .iaddr 22 (.sl 1) (.t 15) (.t 17), some (9, true), []⟩,
  ⟨some 19, .load 49 none (.t 18), some (9, true), [0, 15, 17, 18]⟩,
  ⟨some 20, .move (.t 1), some (9, true), [1]⟩,
  ⟨some 21, .bin .rem 3 (.t 20) (.c (Value.int IntKind.i64 32)) 3, some (9, true), [20]⟩,
  ⟨some 22, .conv 3 68 (.int .u64) (.t 21), some (9, true), [21]⟩,
  ⟨some 23, .bin .shr 49 (.t 19) (.t 22) 68, some (9, true), [19, 22]⟩,
  ⟨some 24, .bin .and 49 (.t 23) (.c (Value.int IntKind.u32 1)) 49, some (9, true), [23]⟩,
  ⟨some 25, .bin .eql 49 (.t 24) (.c (Value.int IntKind.u32 1)) 49, some (9, true), [24]⟩,
  ⟨some 26, .pick (.t 14) (.t 25) (.c (Value.bool false)), none, [14, 25]⟩,
  ⟨some 4, .assign (.t 26), none, [26]⟩] none [4])
 .ret))
def a_thicketref01_Bit : AFunc := ⟨27, [.tmp 4], b_thicketref01_Bit⟩

def j0_thicketref01_Sub : IR :=
 (.reg 16 [⟨some 47, .move (.t 8), none, []⟩,
  ⟨some 48, .move (.t 11), none, [11]⟩,
  ⟨some 49, .conv 2 49 (.int .u32) (.t 48), none, [48]⟩,
  ⟨some 50, .lit 22 1 [(.t 49)], none, [49]⟩,
  ⟨some 51, .append 22 22 false 1 4 (.t 47) (.t 50), none, [47, 50]⟩,
  ⟨some 8, .assign (.t 51), none, []⟩] none [6, 7, 8, 9, 17, 19, 21, 22, 51])
def k0_thicketref01_Sub : IR := .tail [6, 7, 8, 9, 11, 17, 19, 21, 22, 51] j0_thicketref01_Sub
def j1_thicketref01_Sub : IR :=
 (.seq (.reg 12 [⟨some 9, .assign (.c (Value.int IntKind.i64 0)), none, []⟩] none [6, 7, 8, 9, 11, 17, 19, 21, 22, 51])
 (.seq (.seq (.reg 13 [⟨some 43, .move (.t 11), none, []⟩,
  ⟨some 44, .bin .lss 2 (.t 43) (.c (Value.int IntKind.i64 0)) 2, none, [43]⟩] none [6, 7, 8, 9, 11, 17, 19, 21, 22, 44, 51])
 (.cond [6, 7, 8, 9, 11, 17, 19, 21, 22, 51] (.t 44) (.seq (.reg 14 [⟨some 45, .move (.t 11), none, []⟩,
  ⟨some 46, .bin .add 2 (.t 45) (.c (Value.int IntKind.i64 4294967296)) 2, none, [45]⟩,
  ⟨some 11, .assign (.t 46), none, [46]⟩] none [6, 7, 8, 11, 17, 19, 21, 22, 51])
 (.reg 15 [⟨some 9, .assign (.c (Value.int IntKind.i64 1)), none, []⟩] none [6, 7, 8, 9, 11, 17, 19, 21, 22, 51])) .skip))
 k0_thicketref01_Sub))
def k1_thicketref01_Sub : IR := .tail [6, 7, 8, 11, 17, 19, 21, 22, 51] j1_thicketref01_Sub
def j2_thicketref01_Sub : IR :=
 (.reg 17 [⟨some 52, .bin .add 3 (.t 22) (.c (Value.int IntKind.i64 1)) 3, none, []⟩,
  ⟨some 22, .move (.t 52), none, [52]⟩] none [6, 7, 8, 9, 17, 19, 21, 22, 51])
def k2_thicketref01_Sub : IR := .tail [6, 7, 8, 9, 17, 19, 21, 22, 51] j2_thicketref01_Sub
def j3_thicketref01_Sub : IR :=
 (.seq (.block 1 (.seq (.reg 8 [⟨some 24, .move (.t 22), none, []⟩,
  ⟨some 10, .assign (.t 24), none, [24]⟩] none [6, 7, 8, 9, 10, 17, 19, 21, 22, 51])
 (.seq (.reg 9 [⟨some 25, .move (.t 6), none, []⟩,
  ⟨some 26, .move (.t 10), none, []⟩,
  ⟨some 27, .iaddr 22 (.sl 1) (.t 25) (.t 26), none, []⟩,
  ⟨some 28, .load 49 none (.t 27), none, [25, 26, 27]⟩,
  ⟨some 29, .conv 49 2 (.int .i64) (.t 28), none, [28]⟩,
  ⟨some 30, .move (.t 9), none, [9]⟩,
  ⟨some 31, .bin .sub 2 (.t 29) (.t 30) 2, none, [29, 30]⟩,
  ⟨some 11, .assign (.t 31), none, [31]⟩] none [6, 7, 8, 10, 11, 17, 19, 21, 22, 51])
 (.seq (.seq (.reg 10 [⟨some 32, .move (.t 10), none, []⟩,
  ⟨some 33, .move (.t 7), none, []⟩,
  ⟨some 34, .len 22 false (.t 33), none, [33]⟩,
  ⟨some 35, .bin .lss 3 (.t 32) (.t 34) 3, none, [32, 34]⟩] none [6, 7, 8, 10, 11, 17, 19, 21, 22, 35, 51])
 (.cond [6, 7, 8, 10, 11, 17, 19, 21, 22, 51] (.t 35) (.reg 11 [⟨some 36, .move (.t 11), none, []⟩,
  ⟨some 37, .move (.t 7), none, []⟩,
  ⟨some 38, .move (.t 10), none, [10]⟩,
  ⟨some 39, .iaddr 22 (.sl 1) (.t 37) (.t 38), none, []⟩,
  ⟨some 40, .load 49 none (.t 39), none, [37, 38, 39]⟩,
  ⟨some 41, .conv 49 2 (.int .i64) (.t 40), none, [40]⟩,
  ⟨some 42, .bin .sub 2 (.t 36) (.t 41) 2, none, [36, 41]⟩,
  ⟨some 11, .assign (.t 42), none, [42]⟩] none [6, 7, 8, 11, 17, 19, 21, 22, 51]) .skip))
 k1_thicketref01_Sub))))
 k2_thicketref01_Sub)
def k3_thicketref01_Sub : IR := .tail [6, 7, 8, 9, 17, 19, 21, 22, 51] j3_thicketref01_Sub
def w0_thicketref01_Sub : IR :=
 (.seq (.reg 7 [⟨some 23, .bin .lss 3 (.t 22) (.t 21) 3, none, []⟩] none [6, 7, 8, 9, 17, 19, 21, 22, 23, 51])
 (.seq (.cond [6, 7, 8, 9, 17, 19, 21, 22, 51] (.t 23) .skip (.exit 0))
 k3_thicketref01_Sub))
def l0_thicketref01_Sub : IR := .loop [6, 7, 8, 9, 17, 19, 21, 22, 51] w0_thicketref01_Sub
def j4_thicketref01_Sub : IR :=
 (.seq (.reg 18 [⟨some 53, .move (.t 8), none, []⟩,
  ⟨some 54, .call n_thicketref01_Norm [(.t 53)] [22], none, [8, 51, 53]⟩,
  ⟨some 4, .assign (.t 54), none, []⟩,
  ⟨some 5, .assign (.c (Value.int IntKind.i64 0)), none, []⟩] none [4, 5, 54])
 .ret)
def k4_thicketref01_Sub : IR := .tail [8, 51] j4_thicketref01_Sub
def j5_thicketref01_Sub : IR :=
 (.seq (.reg 3 [⟨some 16, .move (.t 0), none, []⟩,
  ⟨some 17, .call n_thicketref01_Norm [(.t 16)] [22], none, [0, 16]⟩,
  ⟨some 18, .move (.t 1), none, []⟩,
  ⟨some 19, .call n_thicketref01_Norm [(.t 18)] [22], none, [1, 18]⟩,
  ⟨some 6, .assign (.t 17), none, []⟩,
  ⟨some 7, .assign (.t 19), none, []⟩] none [6, 7, 17, 19])
 (.seq (.reg 4 [⟨some 8, .assign (.nilS 1), none, []⟩] none [6, 7, 8, 17, 19, 51])
 (.seq (.reg 5 [⟨some 9, .assign (.c (Value.int IntKind.i64 0)), none, []⟩] none [6, 7, 8, 9, 17, 19, 51])
 (.seq (.seq (.reg 6 [⟨some 20, .move (.t 6), none, []⟩,
  ⟨some 21, .len 22 false (.t 20), none, [20]⟩,
  ⟨some 22, .move (.c (Value.int IntKind.i64 0)), none, []⟩] none [6, 7, 8, 9, 17, 19, 21, 22, 51])
 (.block 0 l0_thicketref01_Sub))
 k4_thicketref01_Sub))))
def k5_thicketref01_Sub : IR := .tail [0, 1] j5_thicketref01_Sub
def b_thicketref01_Sub : IR :=
 (.seq (.reg 0 [⟨some 4, .assign (.nilS 1), none, [4]⟩,
  ⟨some 5, .assign (.c (Value.int IntKind.i64 0)), none, [5]⟩] none [0, 1])
 (.seq (.seq (.reg 1 [⟨some 12, .move (.t 0), none, []⟩,
  ⟨some 13, .move (.t 1), none, []⟩,
  ⟨some 14, .call n_thicketref01_Cmp [(.t 12), (.t 13)] [22, 22], none, [12, 13]⟩,
  ⟨some 15, .bin .lss 3 (.t 14) (.c (Value.int IntKind.i64 0)) 3, none, [14]⟩] none [0, 1, 15])
 (.cond [0, 1] (.t 15) (.seq (.reg 2 [⟨some 4, .assign (.nilS 1), none, []⟩,
  ⟨some 5, .assign (.c (Value.int IntKind.i64 12)), none, []⟩] none [4, 5, 54])
 .ret) .skip))
 k5_thicketref01_Sub))
def a_thicketref01_Sub : AFunc := ⟨55, [.tmp 4, .tmp 5], b_thicketref01_Sub⟩

def j0_thicketref01_double : IR :=
 (.reg 10 [⟨some 25, .bin .add 3 (.t 12) (.c (Value.int IntKind.i64 1)) 3, none, []⟩,
  ⟨some 12, .move (.t 25), none, [25]⟩] none [0, 5, 6, 10, 11, 12, 22])
def k0_thicketref01_double : IR := .tail [0, 5, 6, 10, 11, 12, 22] j0_thicketref01_double
def j1_thicketref01_double : IR :=
 (.seq (.block 1 (.seq (.reg 7 [⟨some 14, .iaddr 22 (.sl 1) (.t 10) (.t 12), none, []⟩,
  ⟨some 15, .load 49 none (.t 14), none, [14]⟩,
  ⟨some 8, .assign (.t 15), none, [15]⟩] none [0, 5, 6, 8, 10, 11, 12, 22])
 (.seq (.reg 8 [⟨some 16, .move (.t 5), none, []⟩,
  ⟨some 17, .move (.t 8), none, []⟩,
  ⟨some 18, .bin .shl 49 (.t 17) (.c (Value.int IntKind.u64 1)) 68, none, [17]⟩,
  ⟨some 19, .move (.t 6), none, [6]⟩,
  ⟨some 20, .bin .or 49 (.t 18) (.t 19) 49, none, [18, 19]⟩,
  ⟨some 21, .lit 22 1 [(.t 20)], none, [20]⟩,
  ⟨some 22, .append 22 22 false 1 4 (.t 16) (.t 21), none, [16, 21]⟩,
  ⟨some 5, .assign (.t 22), none, []⟩] none [0, 5, 8, 10, 11, 12, 22])
 (.reg 9 [⟨some 23, .move (.t 8), none, [8]⟩,
  ⟨some 24, .bin .shr 49 (.t 23) (.c (Value.int IntKind.u64 31)) 68, none, [23]⟩,
  ⟨some 6, .assign (.t 24), none, [24]⟩] none [0, 5, 6, 10, 11, 12, 22]))))
 k0_thicketref01_double)
def k1_thicketref01_double : IR := .tail [0, 5, 6, 10, 11, 12, 22] j1_thicketref01_double
def w0_thicketref01_double : IR :=
 (.seq (.reg 6 [⟨some 13, .bin .lss 3 (.t 12) (.t 11) 3, none, []⟩] none [0, 5, 6, 10, 11, 12, 13, 22])
 (.seq (.cond [0, 5, 6, 10, 11, 12, 22] (.t 13) .skip (.exit 0))
 k1_thicketref01_double))
def l0_thicketref01_double : IR := .loop [0, 5, 6, 10, 11, 12, 22] w0_thicketref01_double
def j2_thicketref01_double : IR :=
 (.seq (.reg 11 [⟨some 26, .move (.t 5), none, []⟩,
  ⟨some 27, .move (.t 6), none, [6]⟩,
  ⟨some 28, .lit 22 1 [(.t 27)], none, [27]⟩,
  ⟨some 29, .append 22 22 false 1 4 (.t 26) (.t 28), none, [5, 22, 26, 28]⟩,
  ⟨some 30, .call n_thicketref01_Norm [(.t 29)] [22], none, [29]⟩,
  ⟨some 4, .assign (.t 30), none, []⟩] none [4, 30])
 .ret)
def k2_thicketref01_double : IR := .tail [5, 6, 22] j2_thicketref01_double
def j3_thicketref01_double : IR :=
 (.seq (.seq (.reg 5 [⟨some 10, .move (.t 0), none, []⟩,
  ⟨some 11, .len 22 false (.t 10), none, []⟩,
  ⟨some 12, .move (.c (Value.int IntKind.i64 0)), none, []⟩] none [0, 5, 6, 10, 11, 12, 22])
 (.block 0 l0_thicketref01_double))
 k2_thicketref01_double)
def k3_thicketref01_double : IR := .tail [0, 5, 6, 22] j3_thicketref01_double
def b_thicketref01_double : IR :=
 (.seq (.reg 0 [⟨some 4, .assign (.nilS 1), none, [4]⟩] none [0, 1])
 (.seq (.reg 1 [⟨some 5, .assign (.nilS 1), none, []⟩] none [0, 1, 5, 22])
 (.seq (.reg 2 [⟨some 6, .assign (.c (Value.int IntKind.u32 0)), none, []⟩] none [0, 1, 5, 6, 22])
 (.seq (.seq (.reg 3 [⟨some 9, .move (.t 1), none, [1]⟩] none [0, 5, 6, 9, 22])
 (.cond [0, 5, 6, 22] (.t 9) (.reg 4 [⟨some 6, .assign (.c (Value.int IntKind.u32 1)), none, []⟩] none [0, 5, 6, 22]) .skip))
 k3_thicketref01_double))))
def a_thicketref01_double : AFunc := ⟨31, [.tmp 4], b_thicketref01_double⟩

def j0_thicketref01_DivMod : IR :=
 (.reg 9 [⟨some 32, .move (.t 11), none, []⟩,
  ⟨some 33, .bin .sub 3 (.t 32) (.c (Value.int IntKind.i64 1)) 3, none, [32]⟩,
  ⟨some 11, .assign (.t 33), none, [33]⟩] none [7, 8, 9, 10, 11, 15, 17, 23])
def k0_thicketref01_DivMod : IR := .tail [7, 8, 9, 10, 11, 15, 17, 23] j0_thicketref01_DivMod
def j1_thicketref01_DivMod : IR :=
 (.seq (.block 1 (.seq (.reg 10 [⟨some 34, .move (.t 10), none, []⟩,
  ⟨some 35, .bin .shl 33 (.t 34) (.c (Value.int IntKind.u64 32)) 68, none, [34]⟩,
  ⟨some 36, .move (.t 7), none, []⟩,
  ⟨some 37, .move (.t 11), none, []⟩,
  ⟨some 38, .iaddr 22 (.sl 1) (.t 36) (.t 37), none, []⟩,
  ⟨some 39, .load 49 none (.t 38), none, [36, 37, 38]⟩,
  ⟨some 40, .conv 49 33 (.int .u64) (.t 39), none, [39]⟩,
  ⟨some 41, .bin .or 33 (.t 35) (.t 40) 33, none, [35, 40]⟩,
  ⟨some 10, .assign (.t 41), none, [41]⟩] none [7, 8, 9, 10, 11, 15, 17, 23])
 (.seq (.reg 11 [⟨some 42, .move (.t 9), none, []⟩,
  ⟨some 43, .move (.t 11), none, []⟩,
  ⟨some 44, .move (.t 10), none, []⟩,
  ⟨some 45, .move (.t 8), none, []⟩,
  ⟨some 46, .iaddr 22 (.sl 1) (.t 45) (.c (Value.int IntKind.i64 0)), none, []⟩,
  ⟨some 47, .load 49 none (.t 46), none, [45, 46]⟩,
  ⟨some 48, .conv 49 33 (.int .u64) (.t 47), none, [47]⟩,
  ⟨some 49, .bin .quo 33 (.t 44) (.t 48) 33, none, [44, 48]⟩,
  ⟨some 50, .conv 33 49 (.int .u32) (.t 49), none, [49]⟩,
  ⟨some 51, .iaddr 22 (.sl 1) (.t 42) (.t 43), none, []⟩,
  ⟨none, .store 49 none (.t 51) (.t 50), none, [42, 43, 50, 51]⟩] none [7, 8, 9, 10, 11, 15, 17, 23])
 (.reg 12 [⟨some 52, .move (.t 10), none, []⟩,
  ⟨some 53, .move (.t 8), none, []⟩,
  ⟨some 54, .iaddr 22 (.sl 1) (.t 53) (.c (Value.int IntKind.i64 0)), none, []⟩,
  ⟨some 55, .load 49 none (.t 54), none, [53, 54]⟩,
  ⟨some 56, .conv 49 33 (.int .u64) (.t 55), none, [55]⟩,
  ⟨some 57, .bin .rem 33 (.t 52) (.t 56) 33, none, [52, 56]⟩,
  ⟨some 10, .assign (.t 57), none, [57]⟩] none [7, 8, 9, 10, 11, 15, 17, 23]))))
 k0_thicketref01_DivMod)
def k1_thicketref01_DivMod : IR := .tail [7, 8, 9, 10, 11, 15, 17, 23] j1_thicketref01_DivMod
def w0_thicketref01_DivMod : IR :=
 (.seq (.seq (.reg 8 [⟨some 30, .move (.t 11), none, []⟩,
  ⟨some 31, .bin .geq 3 (.t 30) (.c (Value.int IntKind.i64 0)) 3, none, [30]⟩] none [7, 8, 9, 10, 11, 15, 17, 23, 31])
 (.cond [7, 8, 9, 10, 11, 15, 17, 23] (.t 31) .skip (.exit 0)))
 k1_thicketref01_DivMod)
def l0_thicketref01_DivMod : IR := .loop [7, 8, 9, 10, 11, 15, 17, 23] w0_thicketref01_DivMod
def j2_thicketref01_DivMod : IR :=
 (.seq (.reg 13 [⟨some 58, .move (.t 9), none, []⟩,
  ⟨some 59, .call n_thicketref01_Norm [(.t 58)] [22], none, [9, 23, 58]⟩,
  ⟨some 60, .move (.t 10), none, [10]⟩,
  ⟨some 61, .call n_thicketref01_From [(.t 60)] [33], none, [60]⟩,
  ⟨some 4, .assign (.t 59), none, []⟩,
  ⟨some 5, .assign (.t 61), none, []⟩,
  ⟨some 6, .assign (.c (Value.int IntKind.i64 0)), none, []⟩] none [4, 5, 6, 12, 59, 61, 74, 79, 82, 83, 100, 101])
 .ret)
def k2_thicketref01_DivMod : IR := .tail [9, 10, 23] j2_thicketref01_DivMod
def j3_thicketref01_DivMod : IR :=
 (.reg 17 [⟨some 68, .move (.t 13), none, []⟩,
  ⟨some 69, .bin .sub 3 (.t 68) (.c (Value.int IntKind.i64 1)) 3, none, [68]⟩,
  ⟨some 13, .assign (.t 69), none, [69]⟩] none [7, 8, 9, 12, 13, 15, 17, 23, 74, 79, 82, 83])
def k3_thicketref01_DivMod : IR := .tail [7, 8, 9, 12, 13, 15, 17, 23, 74, 79, 82, 83] j3_thicketref01_DivMod
def j4_thicketref01_DivMod : IR :=
 (.seq (.block 3 (.seq (.reg 18 [⟨some 70, .move (.t 12), none, []⟩,
  ⟨some 71, .move (.t 7), none, []⟩,
  ⟨some 72, .move (.t 13), none, []⟩,
  ⟨some 73, .call n_thicketref01_Bit [(.t 71), (.t 72)] [22, 3], none, [71, 72]⟩,
  ⟨some 74, .call n_thicketref01_double [(.t 70), (.t 73)] [22, 4], none, [70, 73]⟩,
  ⟨some 12, .assign (.t 74), none, []⟩] none [7, 8, 9, 12, 13, 15, 17, 23, 74, 79, 82, 83])
 (.seq (.reg 19 [⟨some 75, .move (.t 12), none, []⟩,
  ⟨some 76, .move (.t 8), none, []⟩,
  ⟨some 77, .call n_thicketref01_Cmp [(.t 75), (.t 76)] [22, 22], none, [75, 76]⟩,
  ⟨some 78, .bin .geq 3 (.t 77) (.c (Value.int IntKind.i64 0)) 3, none, [77]⟩] none [7, 8, 9, 12, 13, 15, 17, 23, 74, 78, 79, 82, 83])
 (.cond [7, 8, 9, 12, 13, 15, 17, 23, 74, 79, 82, 83] (.t 78) (.seq (.reg 20 [⟨some 80, .move (.t 12), none, []⟩,
  ⟨some 81, .move (.t 8), none, []⟩,
  ⟨some 82, .call n_thicketref01_Sub [(.t 80), (.t 81)] [22, 22], none, [80, 81]⟩,
  ⟨some 79, .move (.t 82), none, []⟩,
  ⟨some 83, .extr (.t 79) 0, none, []⟩,
  ⟨some 84, .extr (.t 79) 1, none, [84]⟩,
  ⟨some 12, .assign (.t 83), none, []⟩] none [7, 8, 9, 12, 13, 15, 17, 23, 74, 79, 82, 83])
 (.reg 21 [⟨some 85, .move (.t 9), none, []⟩,
  ⟨some 86, .move (.t 13), none, []⟩,
  ⟨some 87, .bin .quo 3 (.t 86) (.c (Value.int IntKind.i64 32)) 3, none, [86]⟩,
  ⟨some 88, .move (.t 9), none, []⟩,
  ⟨some 89, .move (.t 13), none, []⟩,
  ⟨some 90, .bin .quo 3 (.t 89) (.c (Value.int IntKind.i64 32)) 3, none, [89]⟩,
  ⟨some 91, .iaddr 22 (.sl 1) (.t 88) (.t 90), none, []⟩,
  ⟨some 92, .load 49 none (.t 91), none, [88, 90, 91]⟩,
  ⟨some 93, .move (.t 13), none, []⟩,
  ⟨some 94, .bin .rem 3 (.t 93) (.c (Value.int IntKind.i64 32)) 3, none, [93]⟩,
  ⟨some 95, .conv 3 68 (.int .u64) (.t 94), none, [94]⟩,
  ⟨some 96, .bin .shl 49 (.c (Value.int IntKind.u32 1)) (.t 95) 68, none, [95]⟩,
  ⟨some 97, .bin .or 49 (.t 92) (.t 96) 49, none, [92, 96]⟩,
  ⟨some 98, .iaddr 22 (.sl 1) (.t 85) (.t 87), none, []⟩,
  ⟨none, .store 49 none (.t 98) (.t 97), none, [85, 87, 97, 98]⟩] none [7, 8, 9, 12, 13, 15, 17, 23, 74, 79, 82, 83])) .skip))))
 k3_thicketref01_DivMod)
def k4_thicketref01_DivMod : IR := .tail [7, 8, 9, 12, 13, 15, 17, 23, 74, 79, 82, 83] j4_thicketref01_DivMod
def w1_thicketref01_DivMod : IR :=
 (.seq (.seq (.reg 16 [⟨some 66, .move (.t 13), none, []⟩,
  ⟨some 67, .bin .geq 3 (.t 66) (.c (Value.int IntKind.i64 0)) 3, none, [66]⟩] none [7, 8, 9, 12, 13, 15, 17, 23, 67, 74, 79, 82, 83])
 (.cond [7, 8, 9, 12, 13, 15, 17, 23, 74, 79, 82, 83] (.t 67) .skip (.exit 2)))
 k4_thicketref01_DivMod)
def l1_thicketref01_DivMod : IR := .loop [7, 8, 9, 12, 13, 15, 17, 23, 74, 79, 82, 83] w1_thicketref01_DivMod
def j5_thicketref01_DivMod : IR :=
 (.seq (.reg 22 [⟨some 99, .move (.t 9), none, []⟩,
  ⟨some 100, .call n_thicketref01_Norm [(.t 99)] [22], none, [9, 23, 99]⟩,
  ⟨some 101, .move (.t 12), none, []⟩,
  ⟨some 4, .assign (.t 100), none, []⟩,
  ⟨some 5, .assign (.t 101), none, []⟩,
  ⟨some 6, .assign (.c (Value.int IntKind.i64 0)), none, []⟩] none [4, 5, 6, 12, 59, 61, 74, 79, 82, 83, 100, 101])
 .ret)
def k5_thicketref01_DivMod : IR := .tail [9, 12, 23, 74, 79, 82, 83] j5_thicketref01_DivMod
def j6_thicketref01_DivMod : IR :=
 (.seq (.reg 14 [⟨some 12, .assign (.nilS 1), none, []⟩] none [7, 8, 9, 12, 15, 17, 23, 74, 79, 82, 83])
 (.seq (.seq (.reg 15 [⟨some 62, .move (.t 7), none, []⟩,
  ⟨some 63, .len 22 false (.t 62), none, [62]⟩,
  ⟨some 64, .bin .mul 3 (.c (Value.int IntKind.i64 32)) (.t 63) 3, none, [63]⟩,
  ⟨some 65, .bin .sub 3 (.t 64) (.c (Value.int IntKind.i64 1)) 3, none, [64]⟩,
  ⟨some 13, .assign (.t 65), none, [65]⟩] none [7, 8, 9, 12, 13, 15, 17, 23, 74, 79, 82, 83])
 (.block 2 l1_thicketref01_DivMod))
 k5_thicketref01_DivMod))
def k6_thicketref01_DivMod : IR := .tail [7, 8, 9, 15, 17, 23] j6_thicketref01_DivMod
def j7_thicketref01_DivMod : IR :=
 (.seq (.reg 4 [⟨some 21, .move (.t 7), none, []⟩,
  ⟨some 22, .len 22 false (.t 21), none, [21]⟩,
  ⟨some 23, .mk 22 1 4 (.v (.int .u32 0)) (.t 22) (.t 22), none, [22]⟩,
  ⟨some 9, .assign (.t 23), none, []⟩] none [7, 8, 9, 15, 17, 23])
 (.seq (.seq (.reg 5 [⟨some 24, .move (.t 8), none, []⟩,
  ⟨some 25, .len 22 false (.t 24), none, [24]⟩,
  ⟨some 26, .bin .eql 3 (.t 25) (.c (Value.int IntKind.i64 1)) 3, none, [25]⟩] none [7, 8, 9, 15, 17, 23, 26])
 (.cond [7, 8, 9, 15, 17, 23] (.t 26) (.seq (.reg 6 [⟨some 10, .assign (.c (Value.int IntKind.u64 0)), none, []⟩] none [7, 8, 9, 10, 15, 17, 23])
 (.seq (.seq (.reg 7 [⟨some 27, .move (.t 7), none, []⟩,
  ⟨some 28, .len 22 false (.t 27), none, [27]⟩,
  ⟨some 29, .bin .sub 3 (.t 28) (.c (Value.int IntKind.i64 1)) 3, none, [28]⟩,
  ⟨some 11, .assign (.t 29), none, [29]⟩] none [7, 8, 9, 10, 11, 15, 17, 23])
 (.block 0 l0_thicketref01_DivMod))
 k2_thicketref01_DivMod)) .skip))
 k6_thicketref01_DivMod))
def k7_thicketref01_DivMod : IR := .tail [7, 8, 15, 17] j7_thicketref01_DivMod
def b_thicketref01_DivMod : IR :=
 (.seq (.reg 0 [⟨some 4, .assign (.nilS 1), none, [4]⟩,
  ⟨some 5, .assign (.nilS 1), none, [5]⟩,
  ⟨some 6, .assign (.c (Value.int IntKind.i64 0)), none, [6]⟩] none [0, 1])
 (.seq (.reg 1 [⟨some 14, .move (.t 0), none, []⟩,
  ⟨some 15, .call n_thicketref01_Norm [(.t 14)] [22], none, [0, 14]⟩,
  ⟨some 16, .move (.t 1), none, []⟩,
  ⟨some 17, .call n_thicketref01_Norm [(.t 16)] [22], none, [1, 16]⟩,
  ⟨some 7, .assign (.t 15), none, []⟩,
  ⟨some 8, .assign (.t 17), none, []⟩] none [7, 8, 15, 17])
 (.seq (.seq (.reg 2 [⟨some 18, .move (.t 8), none, []⟩,
  ⟨some 19, .len 22 false (.t 18), none, [18]⟩,
  ⟨some 20, .bin .eql 3 (.t 19) (.c (Value.int IntKind.i64 0)) 3, none, [19]⟩] none [7, 8, 15, 17, 20])
 (.cond [7, 8, 15, 17] (.t 20) (.seq (.reg 3 [⟨some 4, .assign (.nilS 1), none, []⟩,
  ⟨some 5, .assign (.nilS 1), none, []⟩,
  ⟨some 6, .assign (.c (Value.int IntKind.i64 11)), none, []⟩] none [4, 5, 6, 12, 59, 61, 74, 79, 82, 83, 100, 101])
 .ret) .skip))
 k7_thicketref01_DivMod)))
def a_thicketref01_DivMod : AFunc := ⟨102, [.tmp 4, .tmp 5, .tmp 6], b_thicketref01_DivMod⟩

def j0_thicketref01_Small : IR :=
 (.reg 7 [⟨some 17, .move (.t 6), none, []⟩,
  ⟨some 18, .bin .sub 3 (.t 17) (.c (Value.int IntKind.i64 1)) 3, none, [17]⟩,
  ⟨some 6, .assign (.t 18), none, [18]⟩] none [4, 5, 6, 8])
def k0_thicketref01_Small : IR := .tail [4, 5, 6, 8] j0_thicketref01_Small
def j1_thicketref01_Small : IR :=
 (.seq (.block 1 (.reg 8 [⟨some 19, .move (.t 5), none, []⟩,
  ⟨some 20, .bin .shl 33 (.t 19) (.c (Value.int IntKind.u64 32)) 68, none, [19]⟩,
  ⟨some 21, .move (.t 4), none, []⟩,
  ⟨some 22, .move (.t 6), none, []⟩,
  ⟨some 23, .iaddr 22 (.sl 1) (.t 21) (.t 22), none, []⟩,
  ⟨some 24, .load 49 none (.t 23), none, [21, 22, 23]⟩,
  ⟨some 25, .conv 49 33 (.int .u64) (.t 24), none, [24]⟩,
  ⟨some 26, .bin .or 33 (.t 20) (.t 25) 33, none, [20, 25]⟩,
  ⟨some 5, .assign (.t 26), none, [26]⟩] none [4, 5, 6, 8]))
 k0_thicketref01_Small)
def k1_thicketref01_Small : IR := .tail [4, 5, 6, 8] j1_thicketref01_Small
def w0_thicketref01_Small : IR :=
 (.seq (.seq (.reg 6 [⟨some 15, .move (.t 6), none, []⟩,
  ⟨some 16, .bin .geq 3 (.t 15) (.c (Value.int IntKind.i64 0)) 3, none, [15]⟩] none [4, 5, 6, 8, 16])
 (.cond [4, 5, 6, 8] (.t 16) .skip (.exit 0)))
 k1_thicketref01_Small)
def l0_thicketref01_Small : IR := .loop [4, 5, 6, 8] w0_thicketref01_Small
def j2_thicketref01_Small : IR :=
 (.seq (.reg 9 [⟨some 27, .move (.t 5), none, [5]⟩,
  ⟨some 2, .assign (.t 27), none, [27]⟩,
  ⟨some 3, .assign (.c (Value.bool true)), none, []⟩] none [2, 3])
 .ret)
def k2_thicketref01_Small : IR := .tail [5] j2_thicketref01_Small
def j3_thicketref01_Small : IR :=
 (.seq (.reg 4 [⟨some 5, .assign (.c (Value.int IntKind.u64 0)), none, []⟩] none [4, 5, 8])
 (.seq (.seq (.reg 5 [⟨some 12, .move (.t 4), none, []⟩,
  ⟨some 13, .len 22 false (.t 12), none, [12]⟩,
  ⟨some 14, .bin .sub 3 (.t 13) (.c (Value.int IntKind.i64 1)) 3, none, [13]⟩,
  ⟨some 6, .assign (.t 14), none, [14]⟩] none [4, 5, 6, 8])
 (.block 0 l0_thicketref01_Small))
 k2_thicketref01_Small))
def k3_thicketref01_Small : IR := .tail [4, 8] j3_thicketref01_Small
def b_thicketref01_Small : IR :=
 (.seq (.reg 0 [⟨some 2, .assign (.c (Value.int IntKind.u64 0)), none, [2]⟩,
  ⟨some 3, .assign (.c (Value.bool false)), none, [3]⟩] none [0])
 (.seq (.reg 1 [⟨some 7, .move (.t 0), none, []⟩,
  ⟨some 8, .call n_thicketref01_Norm [(.t 7)] [22], none, [0, 7]⟩,
  ⟨some 4, .assign (.t 8), none, []⟩] none [4, 8])
 (.seq (.seq (.reg 2 [⟨some 9, .move (.t 4), none, []⟩,
  ⟨some 10, .len 22 false (.t 9), none, [9]⟩,
  ⟨some 11, .bin .gtr 3 (.t 10) (.c (Value.int IntKind.i64 2)) 3, none, [10]⟩] none [4, 8, 11])
 (.cond [4, 8] (.t 11) (.seq (.reg 3 [⟨some 2, .assign (.c (Value.int IntKind.u64 0)), none, []⟩,
  ⟨some 3, .assign (.c (Value.bool false)), none, []⟩] none [2, 3])
 .ret) .skip))
 k3_thicketref01_Small)))
def a_thicketref01_Small : AFunc := ⟨28, [.tmp 2, .tmp 3], b_thicketref01_Small⟩

def j0_thicketref01_Print : IR :=
 (.reg 11 [⟨some 45, .move (.t 10), none, []⟩,
  ⟨some 46, .bin .add 3 (.t 45) (.c (Value.int IntKind.i64 1)) 3, none, [45]⟩,
  ⟨some 10, .assign (.t 46), none, [46]⟩] none [3, 4, 5, 8, 10, 14, 21, 24, 25, 33, 53])
def k0_thicketref01_Print : IR := .tail [3, 4, 5, 8, 10, 14, 21, 24, 25, 33, 53] j0_thicketref01_Print
def j1_thicketref01_Print : IR :=
 (.seq (.block 3 (.seq (.reg 12 [⟨some 47, .move (.t 4), none, []⟩,
  ⟨some 48, .move (.t 8), none, []⟩,
  ⟨some 49, .bin .rem 33 (.t 48) (.c (Value.int IntKind.u64 10)) 33, none, [48]⟩,
  ⟨some 50, .bin .add 33 (.c (Value.int IntKind.u64 48)) (.t 49) 33, none, [49]⟩,
  ⟨some 51, .conv 33 5 (.int .u8) (.t 50), none, [50]⟩,
  ⟨some 52, .lit 70 1 [(.t 51)], none, [51]⟩,
  ⟨some 53, .append 70 70 false 1 1 (.t 47) (.t 52), none, [47, 52]⟩,
  ⟨some 4, .assign (.t 53), none, []⟩] none [3, 4, 5, 8, 10, 14, 21, 24, 25, 33, 53])
 (.reg 13 [⟨some 54, .move (.t 8), none, []⟩,
  ⟨some 55, .bin .quo 33 (.t 54) (.c (Value.int IntKind.u64 10)) 33, none, [54]⟩,
  ⟨some 8, .assign (.t 55), none, [55]⟩] none [3, 4, 5, 8, 10, 14, 21, 24, 25, 33, 53])))
 k0_thicketref01_Print)
def k1_thicketref01_Print : IR := .tail [3, 4, 5, 8, 10, 14, 21, 24, 25, 33, 53] j1_thicketref01_Print
def w1_thicketref01_Print : IR :=
 (.seq (.seq (.reg 10 [⟨some 34, .move (.t 10), none, []⟩,
  ⟨some 35, .bin .lss 3 (.t 34) (.c (Value.int IntKind.i64 9)) 3, none, [34]⟩,
  ⟨some 36, .move (.t 35), none, [35]⟩,
  ⟨some 37, .move (.t 8), some (2, true), []⟩,
  ⟨some 38, .bin .gtr 33 (.t 37) (.c (Value.int IntKind.u64 0)) 33, some (2, true), [37]⟩,
  ⟨some 39, .move (.t 38), some (2, true), [38]⟩,
  ⟨some 40, .move (.t 3), some (5, false), []⟩,
  ⟨some 41, .len 22 false (.t 40), some (5, false), [40]⟩,
  ⟨some 42, .bin .gtr 3 (.t 41) (.c (Value.int IntKind.i64 0)) 3, some (5, false), [41]⟩,
  ⟨some 43, .pick (.t 39) (.c (Value.bool true)) (.t 42), some (2, true), [39, 42]⟩,
  ⟨some 44, .pick (.t 36) (.t 43) (.c (Value.bool false)), none, [36, 43]⟩] none [3, 4, 5, 8, 10, 14, 21, 24, 25, 33, 44, 53])
 (.cond [3, 4, 5, 8, 10, 14, 21, 24, 25, 33, 53] (.t 44) .skip (.exit 2)))
 k1_thicketref01_Print)
def l1_thicketref01_Print : IR := .loop [3, 4, 5, 8, 10, 14, 21, 24, 25, 33, 53] w1_thicketref01_Print
def j2_thicketref01_Print : IR :=
 (.block 1 (.seq (.reg 6 [⟨some 22, .move (.t 3), none, []⟩,
  ⟨some 23, .lit 22 1 [(.c (Value.int IntKind.u32 1000000000))], none, []⟩,
  ⟨some 24, .call n_thicketref01_DivMod [(.t 22), (.t 23)] [22, 22], none, [3, 14, 22, 23, 33]⟩,
  ⟨some 21, .move (.t 24), none, []⟩,
  ⟨some 25, .extr (.t 21) 0, none, []⟩,
  ⟨some 26, .extr (.t 21) 1, none, []⟩,
  ⟨some 27, .extr (.t 21) 2, none, []⟩,
  ⟨some 5, .assign (.t 25), none, []⟩,
  ⟨some 6, .assign (.t 26), none, []⟩,
  ⟨some 7, .assign (.t 27), none, [7, 27]⟩] none [4, 5, 6, 21, 24, 25, 26, 53])
 (.seq (.reg 7 [⟨some 29, .move (.t 6), none, []⟩,
  ⟨some 30, .call n_thicketref01_Small [(.t 29)] [22], none, [6, 26, 29]⟩,
  ⟨some 28, .move (.t 30), none, [30]⟩,
  ⟨some 31, .extr (.t 28) 0, none, []⟩,
  ⟨some 32, .extr (.t 28) 1, none, [28]⟩,
  ⟨some 8, .assign (.t 31), none, [31]⟩,
  ⟨some 9, .assign (.t 32), none, [9, 32]⟩] none [4, 5, 8, 21, 24, 25, 53])
 (.seq (.reg 8 [⟨some 33, .move (.t 5), none, []⟩,
  ⟨some 3, .assign (.t 33), none, []⟩] none [3, 4, 5, 8, 14, 21, 24, 25, 33, 53])
 (.seq (.reg 9 [⟨some 10, .assign (.c (Value.int IntKind.i64 0)), none, []⟩] none [3, 4, 5, 8, 10, 14, 21, 24, 25, 33, 53])
 (.block 2 l1_thicketref01_Print))))))
def k2_thicketref01_Print : IR := .tail [3, 4, 5, 14, 21, 24, 25, 33, 53] j2_thicketref01_Print
def w0_thicketref01_Print : IR :=
 (.seq (.seq (.reg 5 [⟨some 18, .move (.t 3), none, []⟩,
  ⟨some 19, .len 22 false (.t 18), none, [18]⟩,
  ⟨some 20, .bin .gtr 3 (.t 19) (.c (Value.int IntKind.i64 0)) 3, none, [19]⟩] none [3, 4, 5, 14, 20, 21, 24, 25, 33, 53])
 (.cond [3, 4, 5, 14, 21, 24, 25, 33, 53] (.t 20) .skip (.exit 0)))
 k2_thicketref01_Print)
def l0_thicketref01_Print : IR := .loop [3, 4, 5, 14, 21, 24, 25, 33, 53] w0_thicketref01_Print
def j3_thicketref01_Print : IR :=
 (.reg 17 [⟨some 61, .move (.t 12), none, []⟩,
  ⟨some 62, .bin .sub 3 (.t 61) (.c (Value.int IntKind.i64 1)) 3, none, [61]⟩,
  ⟨some 12, .assign (.t 62), none, [62]⟩] none [4, 11, 12, 53, 69])
def k3_thicketref01_Print : IR := .tail [4, 11, 12, 53, 69] j3_thicketref01_Print
def j4_thicketref01_Print : IR :=
 (.seq (.block 5 (.reg 18 [⟨some 63, .move (.t 11), none, []⟩,
  ⟨some 64, .move (.t 4), none, []⟩,
  ⟨some 65, .move (.t 12), none, []⟩,
  ⟨some 66, .iaddr 70 (.sl 1) (.t 64) (.t 65), none, []⟩,
  ⟨some 67, .load 5 none (.t 66), none, [64, 65, 66]⟩,
  ⟨some 68, .lit 70 1 [(.t 67)], none, [67]⟩,
  ⟨some 69, .append 70 70 false 1 1 (.t 63) (.t 68), none, [63, 68]⟩,
  ⟨some 11, .assign (.t 69), none, []⟩] none [4, 11, 12, 53, 69]))
 k3_thicketref01_Print)
def k4_thicketref01_Print : IR := .tail [4, 11, 12, 53, 69] j4_thicketref01_Print
def w2_thicketref01_Print : IR :=
 (.seq (.seq (.reg 16 [⟨some 59, .move (.t 12), none, []⟩,
  ⟨some 60, .bin .geq 3 (.t 59) (.c (Value.int IntKind.i64 0)) 3, none, [59]⟩] none [4, 11, 12, 53, 60, 69])
 (.cond [4, 11, 12, 53, 69] (.t 60) .skip (.exit 4)))
 k4_thicketref01_Print)
def l2_thicketref01_Print : IR := .loop [4, 11, 12, 53, 69] w2_thicketref01_Print
def j5_thicketref01_Print : IR :=
 (.seq (.reg 19 [⟨some 70, .move (.t 11), none, []⟩,
  ⟨some 71, .conv 70 9 .bytes (.t 70), none, [11, 69, 70]⟩,
  ⟨some 2, .assign (.t 71), none, [71]⟩] none [2])
 .ret)
def k5_thicketref01_Print : IR := .tail [11, 69] j5_thicketref01_Print
def j6_thicketref01_Print : IR :=
 (.seq (.reg 14 [⟨some 11, .assign (.nilS 1), none, []⟩] none [4, 11, 53, 69])
 (.seq (.seq (.reg 15 [⟨some 56, .move (.t 4), none, []⟩,
  ⟨some 57, .len 70 false (.t 56), none, [56]⟩,
  ⟨some 58, .bin .sub 3 (.t 57) (.c (Value.int IntKind.i64 1)) 3, none, [57]⟩,
  ⟨some 12, .assign (.t 58), none, [58]⟩] none [4, 11, 12, 53, 69])
 (.block 4 l2_thicketref01_Print))
 k5_thicketref01_Print))
def k6_thicketref01_Print : IR := .tail [4, 53] j6_thicketref01_Print
def j7_thicketref01_Print : IR :=
 (.seq (.reg 4 [⟨some 4, .assign (.nilS 1), none, []⟩] none [3, 4, 5, 14, 21, 24, 25, 33, 53])
 (.seq (.block 0 l0_thicketref01_Print)
 k6_thicketref01_Print))
def k7_thicketref01_Print : IR := .tail [3, 5, 14, 21, 24, 25, 33] j7_thicketref01_Print
def b_thicketref01_Print : IR :=
 (.seq (.reg 0 [⟨some 2, .assign (.c (Value.string { data := #[] })), none, [2]⟩] none [0])
 (.seq (.reg 1 [⟨some 13, .move (.t 0), none, []⟩,
  ⟨some 14, .call n_thicketref01_Norm [(.t 13)] [22], none, [0, 13]⟩,
  ⟨some 3, .assign (.t 14), none, []⟩] none [3, 5, 14, 21, 24, 25, 33])
 (.seq (.seq (.reg 2 [⟨some 15, .move (.t 3), none, []⟩,
  ⟨some 16, .len 22 false (.t 15), none, [15]⟩,
  ⟨some 17, .bin .eql 3 (.t 16) (.c (Value.int IntKind.i64 0)) 3, none, [16]⟩] none [3, 5, 14, 17, 21, 24, 25, 33])
 (.cond [3, 5, 14, 21, 24, 25, 33] (.t 17) (.seq (.reg 3 [⟨some 2, .assign (.c (Value.string { data := #[48] })), none, []⟩] none [2])
 .ret) .skip))
 k7_thicketref01_Print)))
def a_thicketref01_Print : AFunc := ⟨72, [.tmp 2], b_thicketref01_Print⟩

def b_thicketlaw01_LimbsReads : IR :=
 (.seq (.reg 0 [⟨some 4, .assign (.c (Value.bool false)), none, [4]⟩] none [0, 1])
 (.seq (.reg 1 [⟨some 12, .move (.t 0), none, []⟩,
  ⟨some 13, .call n_limbs_Read [(.t 12)] [9], none, [12]⟩,
  ⟨some 11, .move (.t 13), none, []⟩,
  ⟨some 14, .extr (.t 11) 0, none, []⟩,
  ⟨some 15, .extr (.t 11) 1, none, []⟩,
  ⟨some 16, .extr (.t 11) 2, none, []⟩,
  ⟨some 5, .assign (.t 14), none, []⟩,
  ⟨some 6, .assign (.t 15), none, [15]⟩,
  ⟨some 7, .assign (.t 16), none, [16]⟩] none [0, 1, 5, 6, 7, 11, 13, 14])
 (.seq (.reg 2 [⟨some 18, .move (.t 0), none, [0]⟩,
  ⟨some 19, .call n_thicketref01_Read [(.t 18)] [9], none, [18]⟩,
  ⟨some 17, .move (.t 19), none, []⟩,
  ⟨some 20, .extr (.t 17) 0, none, []⟩,
  ⟨some 21, .extr (.t 17) 1, none, []⟩,
  ⟨some 22, .extr (.t 17) 2, none, []⟩,
  ⟨some 8, .assign (.t 20), none, []⟩,
  ⟨some 9, .assign (.t 21), none, [21]⟩,
  ⟨some 10, .assign (.t 22), none, [22]⟩] none [1, 5, 6, 7, 8, 9, 10, 11, 13, 14, 17, 19, 20])
 (.seq (.reg 3 [⟨some 23, .call n_thicketlaw01_lives [] [], none, []⟩,
  ⟨some 24, .move (.t 23), none, [23]⟩,
  ⟨some 25, .move (.t 5), some (1, true), []⟩,
  ⟨some 26, .move (.t 8), some (1, true), []⟩,
  ⟨some 27, .call n_thicketref01_Same [(.t 25), (.t 26)] [22, 22], some (1, true), [5, 8, 11, 13, 14, 17, 19, 20, 25, 26]⟩,
  ⟨some 28, .pick (.t 24) (.t 27) (.c (Value.bool false)), none, [24, 27]⟩,
  ⟨some 29, .move (.t 28), none, [28]⟩,
  ⟨some 30, .move (.t 6), some (6, true), [6]⟩,
  ⟨some 31, .move (.t 9), some (6, true), [9]⟩,
  ⟨some 32, .bin .eql 23 (.t 30) (.t 31) 23, some (6, true), [30, 31]⟩,
  ⟨some 33, .pick (.t 29) (.t 32) (.c (Value.bool false)), none, [29, 32]⟩,
  ⟨some 34, .move (.t 33), none, [33]⟩,
  ⟨some 35, .move (.t 7), some (11, true), [7]⟩,
  ⟨some 36, .move (.t 10), some (11, true), [10]⟩,
  ⟨some 37, .bin .eql 3 (.t 35) (.t 36) 3, some (11, true), [35, 36]⟩,
  ⟨some 38, .pick (.t 34) (.t 37) (.c (Value.bool false)), none, [34, 37]⟩,
  ⟨some 39, .move (.t 38), none, [38]⟩,
  ⟨some 40, .move (.t 1), some (16, true), []⟩,
  ⟨some 41, .call n_limbs_Print [(.t 40)] [22], some (16, true), [40]⟩,
  ⟨some 42, .move (.t 1), some (16, true), []⟩,
  ⟨some 43, .call n_thicketref01_Print [(.t 42)] [22], some (16, true), [1, 42]⟩,
  ⟨some 44, .bin .eql 9 (.t 41) (.t 43) 9, some (16, true), [41, 43]⟩,
  ⟨some 45, .pick (.t 39) (.t 44) (.c (Value.bool false)), none, [39, 44]⟩,
  ⟨some 4, .assign (.t 45), none, [45]⟩] none [4])
 .ret))))
def a_thicketlaw01_LimbsReads : AFunc := ⟨46, [.tmp 4], b_thicketlaw01_LimbsReads⟩

def j0_thicketref01_Gcd : IR :=
 (.block 1 (.seq (.reg 3 [⟨some 18, .move (.t 5), none, []⟩,
  ⟨some 19, .move (.t 6), none, []⟩,
  ⟨some 20, .call n_thicketref01_DivMod [(.t 18), (.t 19)] [22, 22], none, [5, 11, 18, 19, 24]⟩,
  ⟨some 17, .move (.t 20), none, []⟩,
  ⟨some 21, .extr (.t 17) 0, none, []⟩,
  ⟨some 22, .extr (.t 17) 1, none, []⟩,
  ⟨some 23, .extr (.t 17) 2, none, []⟩,
  ⟨some 7, .assign (.t 21), none, [7, 21]⟩,
  ⟨some 8, .assign (.t 22), none, []⟩,
  ⟨some 9, .assign (.t 23), none, [9, 23]⟩] none [6, 8, 13, 17, 20, 22, 25])
 (.reg 4 [⟨some 24, .move (.t 6), none, []⟩,
  ⟨some 25, .move (.t 8), none, []⟩,
  ⟨some 5, .assign (.t 24), none, []⟩,
  ⟨some 6, .assign (.t 25), none, []⟩] none [5, 6, 8, 11, 13, 17, 20, 22, 24, 25])))
def k0_thicketref01_Gcd : IR := .tail [5, 6, 8, 11, 13, 17, 20, 22, 24, 25] j0_thicketref01_Gcd
def w0_thicketref01_Gcd : IR :=
 (.seq (.seq (.reg 2 [⟨some 14, .move (.t 6), none, []⟩,
  ⟨some 15, .len 22 false (.t 14), none, [14]⟩,
  ⟨some 16, .bin .gtr 3 (.t 15) (.c (Value.int IntKind.i64 0)) 3, none, [15]⟩] none [5, 6, 8, 11, 13, 16, 17, 20, 22, 24, 25])
 (.cond [5, 6, 8, 11, 13, 17, 20, 22, 24, 25] (.t 16) .skip (.exit 0)))
 k0_thicketref01_Gcd)
def l0_thicketref01_Gcd : IR := .loop [5, 6, 8, 11, 13, 17, 20, 22, 24, 25] w0_thicketref01_Gcd
def j1_thicketref01_Gcd : IR :=
 (.seq (.reg 5 [⟨some 26, .move (.t 5), none, []⟩,
  ⟨some 4, .assign (.t 26), none, []⟩] none [4, 5, 6, 8, 11, 13, 17, 20, 22, 24, 25, 26])
 .ret)
def k1_thicketref01_Gcd : IR := .tail [5, 6, 8, 11, 13, 17, 20, 22, 24, 25] j1_thicketref01_Gcd
def b_thicketref01_Gcd : IR :=
 (.seq (.reg 0 [⟨some 4, .assign (.nilS 1), none, [4]⟩] none [0, 1])
 (.seq (.reg 1 [⟨some 10, .move (.t 0), none, []⟩,
  ⟨some 11, .call n_thicketref01_Norm [(.t 10)] [22], none, [0, 10]⟩,
  ⟨some 12, .move (.t 1), none, []⟩,
  ⟨some 13, .call n_thicketref01_Norm [(.t 12)] [22], none, [1, 12]⟩,
  ⟨some 5, .assign (.t 11), none, []⟩,
  ⟨some 6, .assign (.t 13), none, []⟩] none [5, 6, 8, 11, 13, 17, 20, 22, 24, 25])
 (.seq (.block 0 l0_thicketref01_Gcd)
 k1_thicketref01_Gcd)))
def a_thicketref01_Gcd : AFunc := ⟨27, [.tmp 4], b_thicketref01_Gcd⟩

def b_thicketlaw01_LimbsParts : IR :=
 (.seq (.reg 0 [⟨some 4, .assign (.c (Value.bool false)), none, [4]⟩] none [0, 1])
 (.seq (.reg 1 [⟨some 12, .move (.t 0), none, []⟩,
  ⟨some 13, .move (.t 1), none, []⟩,
  ⟨some 14, .call n_limbs_DivMod [(.t 12), (.t 13)] [22, 22], none, [12, 13]⟩,
  ⟨some 11, .move (.t 14), none, []⟩,
  ⟨some 15, .extr (.t 11) 0, none, []⟩,
  ⟨some 16, .extr (.t 11) 1, none, []⟩,
  ⟨some 17, .extr (.t 11) 2, none, []⟩,
  ⟨some 5, .assign (.t 15), none, []⟩,
  ⟨some 6, .assign (.t 16), none, []⟩,
  ⟨some 7, .assign (.t 17), none, [17]⟩] none [0, 1, 5, 6, 7, 11, 14, 15, 16])
 (.seq (.reg 2 [⟨some 19, .move (.t 0), none, []⟩,
  ⟨some 20, .move (.t 1), none, []⟩,
  ⟨some 21, .call n_thicketref01_DivMod [(.t 19), (.t 20)] [22, 22], none, [19, 20]⟩,
  ⟨some 18, .move (.t 21), none, []⟩,
  ⟨some 22, .extr (.t 18) 0, none, []⟩,
  ⟨some 23, .extr (.t 18) 1, none, []⟩,
  ⟨some 24, .extr (.t 18) 2, none, []⟩,
  ⟨some 8, .assign (.t 22), none, []⟩,
  ⟨some 9, .assign (.t 23), none, []⟩,
  ⟨some 10, .assign (.t 24), none, [24]⟩] none [0, 1, 5, 6, 7, 8, 9, 10, 11, 14, 15, 16, 18, 21, 22, 23])
 (.seq (.reg 3 [⟨some 25, .call n_thicketlaw01_lives [] [], none, []⟩,
  ⟨some 26, .move (.t 25), none, [25]⟩,
  ⟨some 27, .move (.t 5), some (1, true), []⟩,
  ⟨some 28, .move (.t 8), some (1, true), []⟩,
  ⟨some 29, .call n_thicketref01_Same [(.t 27), (.t 28)] [22, 22], some (1, true), [5, 8, 15, 22, 27, 28]⟩,
  ⟨some 30, .pick (.t 26) (.t 29) (.c (Value.bool false)), none, [26, 29]⟩,
  ⟨some 31, .move (.t 30), none, [30]⟩,
  ⟨some 32, .move (.t 6), some (6, true), []⟩,
  ⟨some 33, .move (.t 9), some (6, true), []⟩,
  ⟨some 34, .call n_thicketref01_Same [(.t 32), (.t 33)] [22, 22], some (6, true), [6, 9, 11, 14, 16, 18, 21, 23, 32, 33]⟩,
  ⟨some 35, .pick (.t 31) (.t 34) (.c (Value.bool false)), none, [31, 34]⟩,
  ⟨some 36, .move (.t 35), none, [35]⟩,
  ⟨some 37, .move (.t 7), some (11, true), [7]⟩,
  ⟨some 38, .move (.t 10), some (11, true), [10]⟩,
  ⟨some 39, .bin .eql 23 (.t 37) (.t 38) 23, some (11, true), [37, 38]⟩,
  ⟨some 40, .pick (.t 36) (.t 39) (.c (Value.bool false)), none, [36, 39]⟩,
  ⟨some 41, .move (.t 40), none, [40]⟩,
  ⟨some 42, .move (.t 0), some (16, true), []⟩,
  ⟨some 43, .move (.t 1), some (16, true), []⟩,
  ⟨some 44, .call n_limbs_Gcd [(.t 42), (.t 43)] [22, 22], some (16, true), [42, 43]⟩,
  ⟨some 45, .move (.t 0), some (16, true), []⟩,
  ⟨some 46, .move (.t 1), some (16, true), []⟩,
  ⟨some 47, .call n_thicketref01_Gcd [(.t 45), (.t 46)] [22, 22], some (16, true), [0, 1, 45, 46]⟩,
  ⟨some 48, .call n_thicketref01_Same [(.t 44), (.t 47)] [22, 22], some (16, true), [44, 47]⟩,
  ⟨some 49, .pick (.t 41) (.t 48) (.c (Value.bool false)), none, [41, 48]⟩,
  ⟨some 4, .assign (.t 49), none, [49]⟩] none [4])
 .ret))))
def a_thicketlaw01_LimbsParts : AFunc := ⟨50, [.tmp 4], b_thicketlaw01_LimbsParts⟩

def j0_limbs_Small : IR :=
 (.reg 9 [⟨some 26, .bin .add 3 (.t 13) (.c (Value.int IntKind.i64 1)) 3, none, []⟩,
  ⟨some 13, .move (.t 26), none, [26]⟩] none [0, 4, 7, 12, 13])
def k0_limbs_Small : IR := .tail [0, 4, 7, 12, 13] j0_limbs_Small
def j1_limbs_Small : IR :=
 (.seq (.block 1 (.seq (.reg 7 [⟨some 15, .move (.t 13), none, []⟩,
  ⟨some 5, .assign (.t 15), none, [15]⟩] none [0, 4, 5, 7, 12, 13])
 (.reg 8 [⟨some 16, .move (.t 4), none, []⟩,
  ⟨some 17, .move (.t 0), none, []⟩,
  ⟨some 18, .move (.t 5), none, []⟩,
  ⟨some 19, .iaddr 22 (.sl 1) (.t 17) (.t 18), none, []⟩,
  ⟨some 20, .load 49 none (.t 19), none, [17, 18, 19]⟩,
  ⟨some 21, .conv 49 33 (.int .u64) (.t 20), none, [20]⟩,
  ⟨some 22, .move (.t 5), none, [5]⟩,
  ⟨some 23, .bin .mul 3 (.c (Value.int IntKind.i64 32)) (.t 22) 3, none, [22]⟩,
  ⟨some 24, .bin .shl 33 (.t 21) (.t 23) 3, none, [21, 23]⟩,
  ⟨some 25, .bin .or 33 (.t 16) (.t 24) 33, none, [16, 24]⟩,
  ⟨some 4, .assign (.t 25), none, [25]⟩] none [0, 4, 7, 12, 13])))
 k0_limbs_Small)
def k1_limbs_Small : IR := .tail [0, 4, 7, 12, 13] j1_limbs_Small
def w0_limbs_Small : IR :=
 (.seq (.reg 6 [⟨some 14, .bin .lss 3 (.t 13) (.t 12) 3, none, []⟩] none [0, 4, 7, 12, 13, 14])
 (.seq (.cond [0, 4, 7, 12, 13] (.t 14) .skip (.exit 0))
 k1_limbs_Small))
def l0_limbs_Small : IR := .loop [0, 4, 7, 12, 13] w0_limbs_Small
def j2_limbs_Small : IR :=
 (.seq (.reg 10 [⟨some 27, .move (.t 4), none, [4]⟩,
  ⟨some 2, .assign (.t 27), none, [27]⟩,
  ⟨some 3, .assign (.c (Value.bool true)), none, []⟩] none [2, 3])
 .ret)
def k2_limbs_Small : IR := .tail [4] j2_limbs_Small
def j3_limbs_Small : IR :=
 (.seq (.seq (.reg 5 [⟨some 11, .move (.t 0), none, []⟩,
  ⟨some 12, .len 22 false (.t 11), none, [11]⟩,
  ⟨some 13, .move (.c (Value.int IntKind.i64 0)), none, []⟩] none [0, 4, 7, 12, 13])
 (.block 0 l0_limbs_Small))
 k2_limbs_Small)
def k3_limbs_Small : IR := .tail [0, 4, 7] j3_limbs_Small
def b_limbs_Small : IR :=
 (.seq (.reg 0 [⟨some 2, .assign (.c (Value.int IntKind.u64 0)), none, [2]⟩,
  ⟨some 3, .assign (.c (Value.bool false)), none, [3]⟩] none [0, 7])
 (.seq (.reg 1 [⟨some 6, .move (.t 0), none, []⟩,
  ⟨some 7, .call n_limbs_trim [(.t 6)] [22], none, [6]⟩,
  ⟨some 0, .assign (.t 7), none, []⟩] none [0, 7])
 (.seq (.reg 2 [⟨some 4, .assign (.c (Value.int IntKind.u64 0)), none, []⟩] none [0, 4, 7])
 (.seq (.seq (.reg 3 [⟨some 8, .move (.t 0), none, []⟩,
  ⟨some 9, .len 22 false (.t 8), none, [8]⟩,
  ⟨some 10, .bin .gtr 3 (.t 9) (.c (Value.int IntKind.i64 2)) 3, none, [9]⟩] none [0, 4, 7, 10])
 (.cond [0, 4, 7] (.t 10) (.seq (.reg 4 [⟨some 2, .assign (.c (Value.int IntKind.u64 0)), none, []⟩,
  ⟨some 3, .assign (.c (Value.bool false)), none, []⟩] none [2, 3])
 .ret) .skip))
 k3_limbs_Small))))
def a_limbs_Small : AFunc := ⟨28, [.tmp 2, .tmp 3], b_limbs_Small⟩

def j0_limbs_Len : IR :=
 (.seq (.reg 4 [⟨some 8, .move (.t 0), none, []⟩,
  ⟨some 9, .len 22 false (.t 8), none, [8]⟩,
  ⟨some 10, .bin .sub 3 (.t 9) (.c (Value.int IntKind.i64 1)) 3, none, [9]⟩,
  ⟨some 11, .bin .mul 3 (.c (Value.int IntKind.i64 32)) (.t 10) 3, none, [10]⟩,
  ⟨some 12, .move (.t 0), none, []⟩,
  ⟨some 13, .move (.t 0), none, []⟩,
  ⟨some 14, .len 22 false (.t 13), none, [13]⟩,
  ⟨some 15, .bin .sub 3 (.t 14) (.c (Value.int IntKind.i64 1)) 3, none, [14]⟩,
  ⟨some 16, .iaddr 22 (.sl 1) (.t 12) (.t 15), none, []⟩,
  ⟨some 17, .load 49 none (.t 16), none, [0, 4, 12, 15, 16]⟩,
  ⟨some 18, .call n_bits_Len32 [(.t 17)] [49], none, [17]⟩,
  ⟨some 19, .bin .add 3 (.t 11) (.t 18) 3, none, [11, 18]⟩,
  ⟨some 2, .assign (.t 19), none, [19]⟩] none [2])
 .ret)
def k0_limbs_Len : IR := .tail [0, 4] j0_limbs_Len
def b_limbs_Len : IR :=
 (.seq (.reg 0 [⟨some 2, .assign (.c (Value.int IntKind.i64 0)), none, [2]⟩] none [0, 4])
 (.seq (.reg 1 [⟨some 3, .move (.t 0), none, []⟩,
  ⟨some 4, .call n_limbs_trim [(.t 3)] [22], none, [3]⟩,
  ⟨some 0, .assign (.t 4), none, []⟩] none [0, 4])
 (.seq (.seq (.reg 2 [⟨some 5, .move (.t 0), none, []⟩,
  ⟨some 6, .len 22 false (.t 5), none, [5]⟩,
  ⟨some 7, .bin .eql 3 (.t 6) (.c (Value.int IntKind.i64 0)) 3, none, [6]⟩] none [0, 4, 7])
 (.cond [0, 4] (.t 7) (.seq (.reg 3 [⟨some 2, .assign (.c (Value.int IntKind.i64 0)), none, []⟩] none [2])
 .ret) .skip))
 k0_limbs_Len)))
def a_limbs_Len : AFunc := ⟨20, [.tmp 2], b_limbs_Len⟩

def j0_thicketref01_Len : IR :=
 (.reg 7 [⟨some 23, .move (.t 5), none, []⟩,
  ⟨some 24, .bin .shr 49 (.t 23) (.c (Value.int IntKind.u64 1)) 68, none, [23]⟩,
  ⟨some 5, .assign (.t 24), none, [24]⟩] none [4, 5])
def k0_thicketref01_Len : IR := .tail [4, 5] j0_thicketref01_Len
def j1_thicketref01_Len : IR :=
 (.seq (.block 1 (.reg 8 [⟨some 25, .move (.t 4), none, []⟩,
  ⟨some 26, .bin .add 3 (.t 25) (.c (Value.int IntKind.i64 1)) 3, none, [25]⟩,
  ⟨some 4, .assign (.t 26), none, [26]⟩] none [4, 5]))
 k0_thicketref01_Len)
def k1_thicketref01_Len : IR := .tail [4, 5] j1_thicketref01_Len
def w0_thicketref01_Len : IR :=
 (.seq (.seq (.reg 6 [⟨some 21, .move (.t 5), none, []⟩,
  ⟨some 22, .bin .gtr 49 (.t 21) (.c (Value.int IntKind.u32 0)) 49, none, [21]⟩] none [4, 5, 22])
 (.cond [4, 5] (.t 22) .skip (.exit 0)))
 k1_thicketref01_Len)
def l0_thicketref01_Len : IR := .loop [4, 5] w0_thicketref01_Len
def j2_thicketref01_Len : IR :=
 (.seq (.reg 9 [⟨some 27, .move (.t 4), none, [4]⟩,
  ⟨some 2, .assign (.t 27), none, [27]⟩] none [2])
 .ret)
def k2_thicketref01_Len : IR := .tail [4] j2_thicketref01_Len
def j3_thicketref01_Len : IR :=
 (.seq (.reg 4 [⟨some 11, .move (.t 3), none, []⟩,
  ⟨some 12, .len 22 false (.t 11), none, [11]⟩,
  ⟨some 13, .bin .sub 3 (.t 12) (.c (Value.int IntKind.i64 1)) 3, none, [12]⟩,
  ⟨some 14, .bin .mul 3 (.c (Value.int IntKind.i64 32)) (.t 13) 3, none, [13]⟩,
  ⟨some 4, .assign (.t 14), none, [14]⟩] none [3, 4, 7])
 (.seq (.seq (.reg 5 [⟨some 15, .move (.t 3), none, []⟩,
  ⟨some 16, .move (.t 3), none, []⟩,
  ⟨some 17, .len 22 false (.t 16), none, [16]⟩,
  ⟨some 18, .bin .sub 3 (.t 17) (.c (Value.int IntKind.i64 1)) 3, none, [17]⟩,
  ⟨some 19, .iaddr 22 (.sl 1) (.t 15) (.t 18), none, []⟩,
  ⟨some 20, .load 49 none (.t 19), none, [3, 7, 15, 18, 19]⟩,
  ⟨some 5, .assign (.t 20), none, [20]⟩] none [4, 5])
 (.block 0 l0_thicketref01_Len))
 k2_thicketref01_Len))
def k3_thicketref01_Len : IR := .tail [3, 7] j3_thicketref01_Len
def b_thicketref01_Len : IR :=
 (.seq (.reg 0 [⟨some 2, .assign (.c (Value.int IntKind.i64 0)), none, [2]⟩] none [0])
 (.seq (.reg 1 [⟨some 6, .move (.t 0), none, []⟩,
  ⟨some 7, .call n_thicketref01_Norm [(.t 6)] [22], none, [0, 6]⟩,
  ⟨some 3, .assign (.t 7), none, []⟩] none [3, 7])
 (.seq (.seq (.reg 2 [⟨some 8, .move (.t 3), none, []⟩,
  ⟨some 9, .len 22 false (.t 8), none, [8]⟩,
  ⟨some 10, .bin .eql 3 (.t 9) (.c (Value.int IntKind.i64 0)) 3, none, [9]⟩] none [3, 7, 10])
 (.cond [3, 7] (.t 10) (.seq (.reg 3 [⟨some 2, .assign (.c (Value.int IntKind.i64 0)), none, []⟩] none [2])
 .ret) .skip))
 k3_thicketref01_Len)))
def a_thicketref01_Len : AFunc := ⟨28, [.tmp 2], b_thicketref01_Len⟩

def b_limbs_Bit : IR :=
 (.seq (.reg 0 [⟨some 4, .assign (.c (Value.bool false)), none, [4]⟩] none [0, 1])
 (.seq (.reg 1 [⟨some 5, .move (.t 1), none, []⟩,
  ⟨some 6, .bin .geq 3 (.t 5) (.c (Value.int IntKind.i64 0)) 3, none, [5]⟩,
  ⟨some 7, .move (.t 6), none, [6]⟩,
  ⟨some 8, .move (.t 1), some (2, true), []⟩,
  ⟨some 9, .bin .quo 3 (.t 8) (.c (Value.int IntKind.i64 32)) 3, some (2, true), [8]⟩,
  ⟨some 10, .move (.t 0), some (2, true), []⟩,
  ⟨some 11, .len 22 false (.t 10), some (2, true), [10]⟩,
  ⟨some 12, .bin .lss 3 (.t 9) (.t 11) 3, some (2, true), [9, 11]⟩,
  ⟨some 13, .pick (.t 7) (.t 12) (.c (Value.bool false)), none, [7, 12]⟩,
  ⟨some 14, .move (.t 13), none, [13]⟩,
  ⟨some 15, .move (.t 0), some (9, true), []⟩,
  ⟨some 16, .move (.t 1), some (9, true), []⟩,
  ⟨some 17, .bin .quo 3 (.t 16) (.c (Value.int IntKind.i64 32)) 3, some (9, true), [16]⟩,
  ⟨some 18, .iaddr 22 (.sl 1) (.t 15) (.t 17), some (9, true), []⟩,
  ⟨some 19, .load 49 none (.t 18), some (9, true), [0, 15, 17, 18]⟩,
  ⟨some 20, .move (.t 1), some (9, true), [1]⟩,
  ⟨some 21, .bin .rem 3 (.t 20) (.c (Value.int IntKind.i64 32)) 3, some (9, true), [20]⟩,
  ⟨some 22, .bin .shr 49 (.t 19) (.t 21) 3, some (9, true), [19, 21]⟩,
  ⟨some 23, .bin .and 49 (.t 22) (.c (Value.int IntKind.u32 1)) 49, some (9, true), [22]⟩,
  ⟨some 24, .bin .eql 49 (.t 23) (.c (Value.int IntKind.u32 1)) 49, some (9, true), [23]⟩,
  ⟨some 25, .pick (.t 14) (.t 24) (.c (Value.bool false)), none, [14, 24]⟩,
  ⟨some 4, .assign (.t 25), none, [25]⟩] none [4])
 .ret))
def a_limbs_Bit : AFunc := ⟨26, [.tmp 4], b_limbs_Bit⟩

def b_thicketlaw01_LimbsForms : IR :=
 (.seq (.reg 0 [⟨some 8, .assign (.c (Value.bool false)), none, [8]⟩] none [0, 1, 2, 3])
 (.seq (.reg 1 [⟨some 14, .move (.t 0), none, []⟩,
  ⟨some 15, .call n_limbs_Small [(.t 14)] [22], none, [14]⟩,
  ⟨some 13, .move (.t 15), none, [15]⟩,
  ⟨some 16, .extr (.t 13) 0, none, []⟩,
  ⟨some 17, .extr (.t 13) 1, none, [13]⟩,
  ⟨some 9, .assign (.t 16), none, [16]⟩,
  ⟨some 10, .assign (.t 17), none, [17]⟩] none [0, 1, 2, 3, 9, 10])
 (.seq (.reg 2 [⟨some 19, .move (.t 0), none, []⟩,
  ⟨some 20, .call n_thicketref01_Small [(.t 19)] [22], none, [19]⟩,
  ⟨some 18, .move (.t 20), none, [20]⟩,
  ⟨some 21, .extr (.t 18) 0, none, []⟩,
  ⟨some 22, .extr (.t 18) 1, none, [18]⟩,
  ⟨some 11, .assign (.t 21), none, [21]⟩,
  ⟨some 12, .assign (.t 22), none, [22]⟩] none [0, 1, 2, 3, 9, 10, 11, 12])
 (.seq (.reg 3 [⟨some 23, .call n_thicketlaw01_lives [] [], none, []⟩,
  ⟨some 24, .move (.t 23), none, [23]⟩,
  ⟨some 25, .move (.t 0), some (1, true), []⟩,
  ⟨some 26, .call n_limbs_Norm [(.t 25)] [22], some (1, true), [25]⟩,
  ⟨some 27, .move (.t 0), some (1, true), []⟩,
  ⟨some 28, .call n_thicketref01_Norm [(.t 27)] [22], some (1, true), [27]⟩,
  ⟨some 29, .call n_thicketref01_Same [(.t 26), (.t 28)] [22, 22], some (1, true), [26, 28]⟩,
  ⟨some 30, .pick (.t 24) (.t 29) (.c (Value.bool false)), none, [24, 29]⟩,
  ⟨some 31, .move (.t 30), none, [30]⟩,
  ⟨some 32, .move (.t 2), some (8, true), []⟩,
  ⟨some 33, .call n_limbs_From [(.t 32)] [33], some (8, true), [32]⟩,
  ⟨some 34, .move (.t 2), some (8, true), [2]⟩,
  ⟨some 35, .call n_thicketref01_From [(.t 34)] [33], some (8, true), [34]⟩,
  ⟨some 36, .call n_thicketref01_Same [(.t 33), (.t 35)] [22, 22], some (8, true), [33, 35]⟩,
  ⟨some 37, .pick (.t 31) (.t 36) (.c (Value.bool false)), none, [31, 36]⟩,
  ⟨some 38, .move (.t 37), none, [37]⟩,
  ⟨some 39, .move (.t 9), some (15, true), [9]⟩,
  ⟨some 40, .move (.t 11), some (15, true), [11]⟩,
  ⟨some 41, .bin .eql 33 (.t 39) (.t 40) 33, some (15, true), [39, 40]⟩,
  ⟨some 42, .pick (.t 38) (.t 41) (.c (Value.bool false)), none, [38, 41]⟩,
  ⟨some 43, .move (.t 42), none, [42]⟩,
  ⟨some 44, .move (.t 10), some (20, true), [10]⟩,
  ⟨some 45, .move (.t 12), some (20, true), [12]⟩,
  ⟨some 46, .eqs false 4 (.one .bool) (.t 44) (.t 45) 4, some (20, true), [44, 45]⟩,
  ⟨some 47, .pick (.t 43) (.t 46) (.c (Value.bool false)), none, [43, 46]⟩,
  ⟨some 48, .move (.t 47), none, [47]⟩,
  ⟨some 49, .move (.t 0), some (25, true), []⟩,
  ⟨some 50, .move (.t 1), some (25, true), []⟩,
  ⟨some 51, .call n_limbs_Cmp [(.t 49), (.t 50)] [22, 22], some (25, true), [49, 50]⟩,
  ⟨some 52, .move (.t 0), some (25, true), []⟩,
  ⟨some 53, .move (.t 1), some (25, true), []⟩,
  ⟨some 54, .call n_thicketref01_Cmp [(.t 52), (.t 53)] [22, 22], some (25, true), [1, 52, 53]⟩,
  ⟨some 55, .bin .eql 3 (.t 51) (.t 54) 3, some (25, true), [51, 54]⟩,
  ⟨some 56, .pick (.t 48) (.t 55) (.c (Value.bool false)), none, [48, 55]⟩,
  ⟨some 57, .move (.t 56), none, [56]⟩,
  ⟨some 58, .move (.t 0), some (34, true), []⟩,
  ⟨some 59, .call n_limbs_Len [(.t 58)] [22], some (34, true), [58]⟩,
  ⟨some 60, .move (.t 0), some (34, true), []⟩,
  ⟨some 61, .call n_thicketref01_Len [(.t 60)] [22], some (34, true), [60]⟩,
  ⟨some 62, .bin .eql 3 (.t 59) (.t 61) 3, some (34, true), [59, 61]⟩,
  ⟨some 63, .pick (.t 57) (.t 62) (.c (Value.bool false)), none, [57, 62]⟩,
  ⟨some 64, .move (.t 63), none, [63]⟩,
  ⟨some 65, .move (.t 0), some (41, true), []⟩,
  ⟨some 66, .move (.t 3), some (41, true), []⟩,
  ⟨some 67, .call n_limbs_Bit [(.t 65), (.t 66)] [22, 3], some (41, true), [65, 66]⟩,
  ⟨some 68, .move (.t 0), some (41, true), []⟩,
  ⟨some 69, .move (.t 3), some (41, true), [3]⟩,
  ⟨some 70, .call n_thicketref01_Bit [(.t 68), (.t 69)] [22, 3], some (41, true), [0, 68, 69]⟩,
  ⟨some 71, .eqs false 4 (.one .bool) (.t 67) (.t 70) 4, some (41, true), [67, 70]⟩,
  ⟨some 72, .pick (.t 64) (.t 71) (.c (Value.bool false)), none, [64, 71]⟩,
  ⟨some 8, .assign (.t 72), none, [72]⟩] none [8])
 .ret))))
def a_thicketlaw01_LimbsForms : AFunc := ⟨73, [.tmp 8], b_thicketlaw01_LimbsForms⟩

def j0_limbs_sub : IR :=
 (.reg 9 [⟨some 25, .move (.t 5), none, []⟩,
  ⟨some 26, .move (.t 7), none, []⟩,
  ⟨some 27, .move (.t 5), none, []⟩,
  ⟨some 28, .move (.t 7), none, [7]⟩,
  ⟨some 29, .iaddr 22 (.sl 1) (.t 27) (.t 28), none, []⟩,
  ⟨some 30, .load 49 none (.t 29), none, [27, 28, 29]⟩,
  ⟨some 31, .move (.t 8), none, [8]⟩,
  ⟨some 32, .move (.t 6), none, []⟩,
  ⟨some 33, .call n_bits_Sub32 [(.t 30), (.t 31), (.t 32)] [49, 49, 49], none, [30, 31, 32]⟩,
  ⟨some 24, .move (.t 33), none, [33]⟩,
  ⟨some 34, .extr (.t 24) 0, none, []⟩,
  ⟨some 35, .extr (.t 24) 1, none, [24]⟩,
  ⟨some 36, .iaddr 22 (.sl 1) (.t 25) (.t 26), none, []⟩,
  ⟨none, .store 49 none (.t 36) (.t 34), none, [25, 26, 34, 36]⟩,
  ⟨some 6, .assign (.t 35), none, [35]⟩] none [1, 5, 6, 10, 12, 13])
def k0_limbs_sub : IR := .tail [1, 5, 6, 7, 8, 10, 12, 13] j0_limbs_sub
def j1_limbs_sub : IR :=
 (.reg 10 [⟨some 37, .bin .add 3 (.t 13) (.c (Value.int IntKind.i64 1)) 3, none, []⟩,
  ⟨some 13, .move (.t 37), none, [37]⟩] none [1, 5, 6, 10, 12, 13])
def k1_limbs_sub : IR := .tail [1, 5, 6, 10, 12, 13] j1_limbs_sub
def j2_limbs_sub : IR :=
 (.seq (.block 1 (.seq (.reg 5 [⟨some 15, .move (.t 13), none, []⟩,
  ⟨some 7, .assign (.t 15), none, [15]⟩] none [1, 5, 6, 7, 10, 12, 13])
 (.seq (.reg 6 [⟨some 8, .assign (.c (Value.int IntKind.u32 0)), none, []⟩] none [1, 5, 6, 7, 8, 10, 12, 13])
 (.seq (.seq (.reg 7 [⟨some 16, .move (.t 7), none, []⟩,
  ⟨some 17, .move (.t 1), none, []⟩,
  ⟨some 18, .len 22 false (.t 17), none, [17]⟩,
  ⟨some 19, .bin .lss 3 (.t 16) (.t 18) 3, none, [16, 18]⟩] none [1, 5, 6, 7, 8, 10, 12, 13, 19])
 (.cond [1, 5, 6, 7, 8, 10, 12, 13] (.t 19) (.reg 8 [⟨some 20, .move (.t 1), none, []⟩,
  ⟨some 21, .move (.t 7), none, []⟩,
  ⟨some 22, .iaddr 22 (.sl 1) (.t 20) (.t 21), none, []⟩,
  ⟨some 23, .load 49 none (.t 22), none, [20, 21, 22]⟩,
  ⟨some 8, .assign (.t 23), none, [23]⟩] none [1, 5, 6, 7, 8, 10, 12, 13]) .skip))
 k0_limbs_sub))))
 k1_limbs_sub)
def k2_limbs_sub : IR := .tail [1, 5, 6, 10, 12, 13] j2_limbs_sub
def w0_limbs_sub : IR :=
 (.seq (.reg 4 [⟨some 14, .bin .lss 3 (.t 13) (.t 12) 3, none, []⟩] none [1, 5, 6, 10, 12, 13, 14])
 (.seq (.cond [1, 5, 6, 10, 12, 13] (.t 14) .skip (.exit 0))
 k2_limbs_sub))
def l0_limbs_sub : IR := .loop [1, 5, 6, 10, 12, 13] w0_limbs_sub
def j3_limbs_sub : IR :=
 (.seq (.reg 11 [⟨some 38, .move (.t 5), none, []⟩,
  ⟨some 39, .call n_limbs_trim [(.t 38)] [22], none, [5, 10, 38]⟩,
  ⟨some 4, .assign (.t 39), none, []⟩] none [4, 39])
 .ret)
def k3_limbs_sub : IR := .tail [5, 10] j3_limbs_sub
def b_limbs_sub : IR :=
 (.seq (.reg 0 [⟨some 4, .assign (.nilS 1), none, [4]⟩] none [0, 1])
 (.seq (.reg 1 [⟨some 9, .move (.t 0), none, []⟩,
  ⟨some 10, .append 22 22 false 1 4 (.nilS 1) (.t 9), none, [0, 9]⟩,
  ⟨some 5, .assign (.t 10), none, []⟩] none [1, 5, 10])
 (.seq (.reg 2 [⟨some 6, .assign (.c (Value.int IntKind.u32 0)), none, []⟩] none [1, 5, 6, 10])
 (.seq (.seq (.reg 3 [⟨some 11, .move (.t 5), none, []⟩,
  ⟨some 12, .len 22 false (.t 11), none, [11]⟩,
  ⟨some 13, .move (.c (Value.int IntKind.i64 0)), none, []⟩] none [1, 5, 6, 10, 12, 13])
 (.block 0 l0_limbs_sub))
 k3_limbs_sub))))
def a_limbs_sub : AFunc := ⟨40, [.tmp 4], b_limbs_sub⟩

def j0_limbs_Sub : IR :=
 (.seq (.reg 4 [⟨some 14, .move (.t 0), none, []⟩,
  ⟨some 15, .move (.t 1), none, []⟩,
  ⟨some 16, .call n_limbs_sub [(.t 14), (.t 15)] [22, 22], none, [0, 1, 7, 9, 14, 15]⟩,
  ⟨some 4, .assign (.t 16), none, []⟩,
  ⟨some 5, .assign (.c (Value.int IntKind.i64 0)), none, []⟩] none [4, 5, 16])
 .ret)
def k0_limbs_Sub : IR := .tail [0, 1, 7, 9] j0_limbs_Sub
def b_limbs_Sub : IR :=
 (.seq (.reg 0 [⟨some 4, .assign (.nilS 1), none, [4]⟩,
  ⟨some 5, .assign (.c (Value.int IntKind.i64 0)), none, [5]⟩] none [0, 1, 7, 9])
 (.seq (.reg 1 [⟨some 6, .move (.t 0), none, []⟩,
  ⟨some 7, .call n_limbs_trim [(.t 6)] [22], none, [6]⟩,
  ⟨some 8, .move (.t 1), none, []⟩,
  ⟨some 9, .call n_limbs_trim [(.t 8)] [22], none, [8]⟩,
  ⟨some 0, .assign (.t 7), none, []⟩,
  ⟨some 1, .assign (.t 9), none, []⟩] none [0, 1, 7, 9])
 (.seq (.seq (.reg 2 [⟨some 10, .move (.t 0), none, []⟩,
  ⟨some 11, .move (.t 1), none, []⟩,
  ⟨some 12, .call n_limbs_Cmp [(.t 10), (.t 11)] [22, 22], none, [10, 11]⟩,
  ⟨some 13, .bin .lss 3 (.t 12) (.c (Value.int IntKind.i64 0)) 3, none, [12]⟩] none [0, 1, 7, 9, 13])
 (.cond [0, 1, 7, 9] (.t 13) (.seq (.reg 3 [⟨some 4, .assign (.nilS 1), none, []⟩,
  ⟨some 5, .assign (.c (Value.int IntKind.i64 12)), none, []⟩] none [4, 5, 16])
 .ret) .skip))
 k0_limbs_Sub)))
def a_limbs_Sub : AFunc := ⟨17, [.tmp 4, .tmp 5], b_limbs_Sub⟩

def j0_limbs_Mul : IR :=
 (.reg 13 [⟨some 59, .bin .add 3 (.t 26) (.c (Value.int IntKind.i64 1)) 3, none, []⟩,
  ⟨some 26, .move (.t 59), none, [59]⟩] none [0, 1, 5, 6, 7, 10, 12, 18, 20, 21, 25, 26])
def k0_limbs_Mul : IR := .tail [0, 1, 5, 6, 7, 10, 12, 18, 20, 21, 25, 26] j0_limbs_Mul
def j1_limbs_Mul : IR :=
 (.seq (.block 3 (.seq (.reg 9 [⟨some 28, .move (.t 26), none, []⟩,
  ⟨some 8, .assign (.t 28), none, [28]⟩] none [0, 1, 5, 6, 7, 8, 10, 12, 18, 20, 21, 25, 26])
 (.seq (.reg 10 [⟨some 29, .move (.t 7), none, []⟩,
  ⟨some 30, .move (.t 0), none, []⟩,
  ⟨some 31, .move (.t 6), none, []⟩,
  ⟨some 32, .iaddr 22 (.sl 1) (.t 30) (.t 31), none, []⟩,
  ⟨some 33, .load 49 none (.t 32), none, [30, 31, 32]⟩,
  ⟨some 34, .conv 49 33 (.int .u64) (.t 33), none, [33]⟩,
  ⟨some 35, .move (.t 1), none, []⟩,
  ⟨some 36, .move (.t 8), none, []⟩,
  ⟨some 37, .iaddr 22 (.sl 1) (.t 35) (.t 36), none, []⟩,
  ⟨some 38, .load 49 none (.t 37), none, [35, 36, 37]⟩,
  ⟨some 39, .conv 49 33 (.int .u64) (.t 38), none, [38]⟩,
  ⟨some 40, .bin .mul 33 (.t 34) (.t 39) 33, none, [34, 39]⟩,
  ⟨some 41, .move (.t 5), none, []⟩,
  ⟨some 42, .move (.t 6), none, []⟩,
  ⟨some 43, .move (.t 8), none, []⟩,
  ⟨some 44, .bin .add 3 (.t 42) (.t 43) 3, none, [42, 43]⟩,
  ⟨some 45, .iaddr 22 (.sl 1) (.t 41) (.t 44), none, []⟩,
  ⟨some 46, .load 49 none (.t 45), none, [41, 44, 45]⟩,
  ⟨some 47, .conv 49 33 (.int .u64) (.t 46), none, [46]⟩,
  ⟨some 48, .bin .add 33 (.t 40) (.t 47) 33, none, [40, 47]⟩,
  ⟨some 49, .bin .add 33 (.t 29) (.t 48) 33, none, [29, 48]⟩,
  ⟨some 7, .assign (.t 49), none, [49]⟩] (some [⟨0, []⟩, ⟨1, []⟩, ⟨2, []⟩, ⟨3, []⟩, ⟨6, []⟩, ⟨7, []⟩, ⟨8, []⟩, ⟨12, []⟩, ⟨13, []⟩, ⟨14, []⟩, ⟨15, []⟩, ⟨16, []⟩, ⟨4, []⟩, ⟨5, []⟩, ⟨9, []⟩, ⟨10, []⟩, ⟨11, []⟩, ⟨17, []⟩, ⟨18, []⟩, ⟨19, []⟩, ⟨20, []⟩, ⟨21, []⟩]) [0, 1, 5, 6, 7, 8, 10, 12, 18, 20, 21, 25, 26])
 (.seq (.reg 11 [⟨some 50, .move (.t 5), none, []⟩,
  ⟨some 51, .move (.t 6), none, []⟩,
  ⟨some 52, .move (.t 8), none, [8]⟩,
  ⟨some 53, .bin .add 3 (.t 51) (.t 52) 3, none, [51, 52]⟩,
  ⟨some 54, .move (.t 7), none, []⟩,
  ⟨some 55, .call n_limbs_low [(.t 54)] [33], none, [54]⟩,
  ⟨some 56, .iaddr 22 (.sl 1) (.t 50) (.t 53), none, []⟩,
  ⟨none, .store 49 none (.t 56) (.t 55), none, [50, 53, 55, 56]⟩] none [0, 1, 5, 6, 7, 10, 12, 18, 20, 21, 25, 26])
 (.reg 12 [⟨some 57, .move (.t 7), none, []⟩,
  ⟨some 58, .call n_limbs_high [(.t 57)] [33], none, [57]⟩,
  ⟨some 7, .assign (.t 58), none, [58]⟩] none [0, 1, 5, 6, 7, 10, 12, 18, 20, 21, 25, 26])))))
 k0_limbs_Mul)
def k1_limbs_Mul : IR := .tail [0, 1, 5, 6, 7, 10, 12, 18, 20, 21, 25, 26] j1_limbs_Mul
def w1_limbs_Mul : IR :=
 (.seq (.reg 8 [⟨some 27, .bin .lss 3 (.t 26) (.t 25) 3, none, []⟩] none [0, 1, 5, 6, 7, 10, 12, 18, 20, 21, 25, 26, 27])
 (.seq (.cond [0, 1, 5, 6, 7, 10, 12, 18, 20, 21, 25, 26] (.t 27) .skip (.exit 2))
 k1_limbs_Mul))
def l1_limbs_Mul : IR := .loop [0, 1, 5, 6, 7, 10, 12, 18, 20, 21, 25, 26] w1_limbs_Mul
def j2_limbs_Mul : IR :=
 (.reg 14 [⟨some 60, .move (.t 5), none, []⟩,
  ⟨some 61, .move (.t 6), none, [6]⟩,
  ⟨some 62, .move (.t 1), none, []⟩,
  ⟨some 63, .len 22 false (.t 62), none, [62]⟩,
  ⟨some 64, .bin .add 3 (.t 61) (.t 63) 3, none, [61, 63]⟩,
  ⟨some 65, .move (.t 7), none, [7]⟩,
  ⟨some 66, .conv 33 49 (.int .u32) (.t 65), none, [65]⟩,
  ⟨some 67, .iaddr 22 (.sl 1) (.t 60) (.t 64), none, []⟩,
  ⟨none, .store 49 none (.t 67) (.t 66), none, [60, 64, 66, 67]⟩] none [0, 1, 5, 10, 12, 18, 20, 21])
def k2_limbs_Mul : IR := .tail [0, 1, 5, 6, 7, 10, 12, 18, 20, 21] j2_limbs_Mul
def j3_limbs_Mul : IR :=
 (.reg 15 [⟨some 68, .bin .add 3 (.t 21) (.c (Value.int IntKind.i64 1)) 3, none, []⟩,
  ⟨some 21, .move (.t 68), none, [68]⟩] none [0, 1, 5, 10, 12, 18, 20, 21])
def k3_limbs_Mul : IR := .tail [0, 1, 5, 10, 12, 18, 20, 21] j3_limbs_Mul
def j4_limbs_Mul : IR :=
 (.seq (.block 1 (.seq (.reg 5 [⟨some 23, .move (.t 21), none, []⟩,
  ⟨some 6, .assign (.t 23), none, [23]⟩] none [0, 1, 5, 6, 10, 12, 18, 20, 21])
 (.seq (.reg 6 [⟨some 7, .assign (.c (Value.int IntKind.u64 0)), none, []⟩] none [0, 1, 5, 6, 7, 10, 12, 18, 20, 21])
 (.seq (.seq (.reg 7 [⟨some 24, .move (.t 1), none, []⟩,
  ⟨some 25, .len 22 false (.t 24), none, [24]⟩,
  ⟨some 26, .move (.c (Value.int IntKind.i64 0)), none, []⟩] none [0, 1, 5, 6, 7, 10, 12, 18, 20, 21, 25, 26])
 (.block 2 l1_limbs_Mul))
 k2_limbs_Mul))))
 k3_limbs_Mul)
def k4_limbs_Mul : IR := .tail [0, 1, 5, 10, 12, 18, 20, 21] j4_limbs_Mul
def w0_limbs_Mul : IR :=
 (.seq (.reg 4 [⟨some 22, .bin .lss 3 (.t 21) (.t 20) 3, none, []⟩] none [0, 1, 5, 10, 12, 18, 20, 21, 22])
 (.seq (.cond [0, 1, 5, 10, 12, 18, 20, 21] (.t 22) .skip (.exit 0))
 k4_limbs_Mul))
def l0_limbs_Mul : IR := .loop [0, 1, 5, 10, 12, 18, 20, 21] w0_limbs_Mul
def j5_limbs_Mul : IR :=
 (.seq (.reg 16 [⟨some 69, .move (.t 5), none, []⟩,
  ⟨some 70, .call n_limbs_trim [(.t 69)] [22], none, [5, 18, 69]⟩,
  ⟨some 4, .assign (.t 70), none, []⟩] none [4, 70])
 .ret)
def k5_limbs_Mul : IR := .tail [5, 18] j5_limbs_Mul
def b_limbs_Mul : IR :=
 (.seq (.reg 0 [⟨some 4, .assign (.nilS 1), none, [4]⟩] none [0, 1, 10, 12])
 (.seq (.reg 1 [⟨some 9, .move (.t 0), none, []⟩,
  ⟨some 10, .call n_limbs_trim [(.t 9)] [22], none, [9]⟩,
  ⟨some 11, .move (.t 1), none, []⟩,
  ⟨some 12, .call n_limbs_trim [(.t 11)] [22], none, [11]⟩,
  ⟨some 0, .assign (.t 10), none, []⟩,
  ⟨some 1, .assign (.t 12), none, []⟩] none [0, 1, 10, 12])
 (.seq (.reg 2 [⟨some 13, .move (.t 0), none, []⟩,
  ⟨some 14, .len 22 false (.t 13), none, [13]⟩,
  ⟨some 15, .move (.t 1), none, []⟩,
  ⟨some 16, .len 22 false (.t 15), none, [15]⟩,
  ⟨some 17, .bin .add 3 (.t 14) (.t 16) 3, none, [14, 16]⟩,
  ⟨some 18, .mk 22 1 4 (.v (.int .u32 0)) (.t 17) (.t 17), none, [17]⟩,
  ⟨some 5, .assign (.t 18), none, []⟩] none [0, 1, 5, 10, 12, 18])
 (.seq (.seq (.reg 3 [⟨some 19, .move (.t 0), none, []⟩,
  ⟨some 20, .len 22 false (.t 19), none, [19]⟩,
  ⟨some 21, .move (.c (Value.int IntKind.i64 0)), none, []⟩] none [0, 1, 5, 10, 12, 18, 20, 21])
 (.block 0 l0_limbs_Mul))
 k5_limbs_Mul))))
def a_limbs_Mul : AFunc := ⟨71, [.tmp 4], b_limbs_Mul⟩

def b_thicketlaw01_LimbsSums : IR :=
 (.seq (.reg 0 [⟨some 4, .assign (.c (Value.bool false)), none, [4]⟩] none [0, 1])
 (.seq (.reg 1 [⟨some 10, .move (.t 0), none, []⟩,
  ⟨some 11, .move (.t 1), none, []⟩,
  ⟨some 12, .call n_limbs_Sub [(.t 10), (.t 11)] [22, 22], none, [10, 11]⟩,
  ⟨some 9, .move (.t 12), none, []⟩,
  ⟨some 13, .extr (.t 9) 0, none, []⟩,
  ⟨some 14, .extr (.t 9) 1, none, []⟩,
  ⟨some 5, .assign (.t 13), none, []⟩,
  ⟨some 6, .assign (.t 14), none, [14]⟩] none [0, 1, 5, 6, 9, 12, 13])
 (.seq (.reg 2 [⟨some 16, .move (.t 0), none, []⟩,
  ⟨some 17, .move (.t 1), none, []⟩,
  ⟨some 18, .call n_thicketref01_Sub [(.t 16), (.t 17)] [22, 22], none, [16, 17]⟩,
  ⟨some 15, .move (.t 18), none, []⟩,
  ⟨some 19, .extr (.t 15) 0, none, []⟩,
  ⟨some 20, .extr (.t 15) 1, none, []⟩,
  ⟨some 7, .assign (.t 19), none, []⟩,
  ⟨some 8, .assign (.t 20), none, [20]⟩] none [0, 1, 5, 6, 7, 8, 9, 12, 13, 15, 18, 19])
 (.seq (.reg 3 [⟨some 21, .call n_thicketlaw01_lives [] [], none, []⟩,
  ⟨some 22, .move (.t 21), none, [21]⟩,
  ⟨some 23, .move (.t 0), some (1, true), []⟩,
  ⟨some 24, .move (.t 1), some (1, true), []⟩,
  ⟨some 25, .call n_limbs_Add [(.t 23), (.t 24)] [22, 22], some (1, true), [23, 24]⟩,
  ⟨some 26, .move (.t 0), some (1, true), []⟩,
  ⟨some 27, .move (.t 1), some (1, true), []⟩,
  ⟨some 28, .call n_thicketref01_Add [(.t 26), (.t 27)] [22, 22], some (1, true), [26, 27]⟩,
  ⟨some 29, .call n_thicketref01_Same [(.t 25), (.t 28)] [22, 22], some (1, true), [25, 28]⟩,
  ⟨some 30, .pick (.t 22) (.t 29) (.c (Value.bool false)), none, [22, 29]⟩,
  ⟨some 31, .move (.t 30), none, [30]⟩,
  ⟨some 32, .move (.t 5), some (10, true), []⟩,
  ⟨some 33, .move (.t 7), some (10, true), []⟩,
  ⟨some 34, .call n_thicketref01_Same [(.t 32), (.t 33)] [22, 22], some (10, true), [5, 7, 9, 12, 13, 15, 18, 19, 32, 33]⟩,
  ⟨some 35, .pick (.t 31) (.t 34) (.c (Value.bool false)), none, [31, 34]⟩,
  ⟨some 36, .move (.t 35), none, [35]⟩,
  ⟨some 37, .move (.t 6), some (15, true), [6]⟩,
  ⟨some 38, .move (.t 8), some (15, true), [8]⟩,
  ⟨some 39, .bin .eql 23 (.t 37) (.t 38) 23, some (15, true), [37, 38]⟩,
  ⟨some 40, .pick (.t 36) (.t 39) (.c (Value.bool false)), none, [36, 39]⟩,
  ⟨some 41, .move (.t 40), none, [40]⟩,
  ⟨some 42, .move (.t 0), some (20, true), []⟩,
  ⟨some 43, .move (.t 1), some (20, true), []⟩,
  ⟨some 44, .call n_limbs_Mul [(.t 42), (.t 43)] [22, 22], some (20, true), [42, 43]⟩,
  ⟨some 45, .move (.t 0), some (20, true), []⟩,
  ⟨some 46, .move (.t 1), some (20, true), []⟩,
  ⟨some 47, .call n_thicketref01_Mul [(.t 45), (.t 46)] [22, 22], some (20, true), [0, 1, 45, 46]⟩,
  ⟨some 48, .call n_thicketref01_Same [(.t 44), (.t 47)] [22, 22], some (20, true), [44, 47]⟩,
  ⟨some 49, .pick (.t 41) (.t 48) (.c (Value.bool false)), none, [41, 48]⟩,
  ⟨some 4, .assign (.t 49), none, [49]⟩] none [4])
 .ret))))
def a_thicketlaw01_LimbsSums : AFunc := ⟨50, [.tmp 4], b_thicketlaw01_LimbsSums⟩

def j0_thicketlaw01_LimbsLaws : IR :=
 (.seq (.reg 13 [⟨some 111, .move (.t 0), none, []⟩,
  ⟨some 112, .call n_limbs_Print [(.t 111)] [22], none, [111]⟩,
  ⟨some 113, .call n_limbs_Read [(.t 112)] [9], none, [112]⟩,
  ⟨some 110, .move (.t 113), none, []⟩,
  ⟨some 114, .extr (.t 110) 0, none, []⟩,
  ⟨some 115, .extr (.t 110) 1, none, []⟩,
  ⟨some 116, .extr (.t 110) 2, none, []⟩,
  ⟨some 11, .assign (.t 114), none, []⟩,
  ⟨some 8, .assign (.t 115), none, [115]⟩,
  ⟨some 12, .assign (.t 116), none, [12, 116]⟩] none [0, 8, 11, 110, 113, 114])
 (.seq (.reg 14 [⟨some 117, .move (.t 8), none, [8]⟩,
  ⟨some 118, .bin .eql 23 (.t 117) (.c (Value.int IntKind.i64 0)) 23, none, [117]⟩,
  ⟨some 119, .move (.t 118), none, [118]⟩,
  ⟨some 120, .move (.t 11), some (2, true), []⟩,
  ⟨some 121, .move (.t 0), some (2, true), []⟩,
  ⟨some 122, .call n_limbs_Cmp [(.t 120), (.t 121)] [22, 22], some (2, true), [0, 11, 110, 113, 114, 120, 121]⟩,
  ⟨some 123, .bin .eql 3 (.t 122) (.c (Value.int IntKind.i64 0)) 3, some (2, true), [122]⟩,
  ⟨some 124, .pick (.t 119) (.t 123) (.c (Value.bool false)), none, [119, 123]⟩,
  ⟨some 6, .assign (.t 124), none, [124]⟩] none [6])
 .ret))
def k0_thicketlaw01_LimbsLaws : IR := .tail [0] j0_thicketlaw01_LimbsLaws
def j1_thicketlaw01_LimbsLaws : IR :=
 (.seq (.seq (.reg 11 [⟨some 92, .move (.t 8), none, [8]⟩,
  ⟨some 93, .bin .eql 23 (.t 92) (.c (Value.int IntKind.i64 0)) 23, none, [92]⟩,
  ⟨some 94, .move (.t 93), none, [93]⟩,
  ⟨some 95, .move (.t 9), some (2, true), []⟩,
  ⟨some 96, .move (.t 1), some (2, true), []⟩,
  ⟨some 97, .call n_limbs_Mul [(.t 95), (.t 96)] [22, 22], some (2, true), [9, 83, 95, 96]⟩,
  ⟨some 98, .move (.t 10), some (2, true), []⟩,
  ⟨some 99, .call n_limbs_Add [(.t 97), (.t 98)] [22, 22], some (2, true), [97, 98]⟩,
  ⟨some 100, .move (.t 0), some (2, true), []⟩,
  ⟨some 101, .call n_limbs_Cmp [(.t 99), (.t 100)] [22, 22], some (2, true), [99, 100]⟩,
  ⟨some 102, .bin .neq 3 (.t 101) (.c (Value.int IntKind.i64 0)) 3, some (2, true), [101]⟩,
  ⟨some 103, .move (.t 102), some (2, true), [102]⟩,
  ⟨some 104, .move (.t 10), some (11, false), []⟩,
  ⟨some 105, .move (.t 1), some (11, false), []⟩,
  ⟨some 106, .call n_limbs_Cmp [(.t 104), (.t 105)] [22, 22], some (11, false), [1, 10, 79, 82, 84, 104, 105]⟩,
  ⟨some 107, .bin .geq 3 (.t 106) (.c (Value.int IntKind.i64 0)) 3, some (11, false), [106]⟩,
  ⟨some 108, .pick (.t 103) (.c (Value.bool true)) (.t 107), some (2, true), [103, 107]⟩,
  ⟨some 109, .pick (.t 94) (.t 108) (.c (Value.bool false)), none, [94, 108]⟩] none [0, 109])
 (.cond [0] (.t 109) (.seq (.reg 12 [⟨some 6, .assign (.c (Value.bool false)), none, []⟩] none [6])
 .ret) .skip))
 k0_thicketlaw01_LimbsLaws)
def k1_thicketlaw01_LimbsLaws : IR := .tail [0, 1, 8, 9, 10, 79, 82, 83, 84] j1_thicketlaw01_LimbsLaws
def j2_thicketlaw01_LimbsLaws : IR :=
 (.seq (.reg 8 [⟨some 80, .move (.t 0), none, []⟩,
  ⟨some 81, .move (.t 1), none, []⟩,
  ⟨some 82, .call n_limbs_DivMod [(.t 80), (.t 81)] [22, 22], none, [80, 81]⟩,
  ⟨some 79, .move (.t 82), none, []⟩,
  ⟨some 83, .extr (.t 79) 0, none, []⟩,
  ⟨some 84, .extr (.t 79) 1, none, []⟩,
  ⟨some 85, .extr (.t 79) 2, none, []⟩,
  ⟨some 9, .assign (.t 83), none, []⟩,
  ⟨some 10, .assign (.t 84), none, []⟩,
  ⟨some 8, .assign (.t 85), none, [85]⟩] none [0, 1, 8, 9, 10, 79, 82, 83, 84])
 (.seq (.seq (.reg 9 [⟨some 86, .move (.t 8), none, []⟩,
  ⟨some 87, .bin .eql 23 (.t 86) (.c (Value.int IntKind.i64 11)) 23, none, [86]⟩,
  ⟨some 88, .move (.t 1), none, []⟩,
  ⟨some 89, .call n_limbs_Len [(.t 88)] [22], none, [88]⟩,
  ⟨some 90, .bin .eql 3 (.t 89) (.c (Value.int IntKind.i64 0)) 3, none, [89]⟩,
  ⟨some 91, .eqs true 4 (.one .bool) (.t 87) (.t 90) 4, none, [87, 90]⟩] none [0, 1, 8, 9, 10, 79, 82, 83, 84, 91])
 (.cond [0, 1, 8, 9, 10, 79, 82, 83, 84] (.t 91) (.seq (.reg 10 [⟨some 6, .assign (.c (Value.bool false)), none, []⟩] none [6])
 .ret) .skip))
 k1_thicketlaw01_LimbsLaws))
def k2_thicketlaw01_LimbsLaws : IR := .tail [0, 1] j2_thicketlaw01_LimbsLaws
def j3_thicketlaw01_LimbsLaws : IR :=
 (.seq (.reg 5 [⟨some 64, .move (.t 0), none, []⟩,
  ⟨some 65, .move (.t 1), none, []⟩,
  ⟨some 66, .call n_limbs_Add [(.t 64), (.t 65)] [22, 22], none, [64, 65]⟩,
  ⟨some 67, .move (.t 1), none, []⟩,
  ⟨some 68, .call n_limbs_Sub [(.t 66), (.t 67)] [22, 22], none, [66, 67]⟩,
  ⟨some 63, .move (.t 68), none, []⟩,
  ⟨some 69, .extr (.t 63) 0, none, []⟩,
  ⟨some 70, .extr (.t 63) 1, none, []⟩,
  ⟨some 7, .assign (.t 69), none, []⟩,
  ⟨some 8, .assign (.t 70), none, [70]⟩] none [0, 1, 7, 8, 63, 68, 69])
 (.seq (.seq (.reg 6 [⟨some 71, .move (.t 8), none, [8]⟩,
  ⟨some 72, .bin .neq 23 (.t 71) (.c (Value.int IntKind.i64 0)) 23, none, [71]⟩,
  ⟨some 73, .move (.t 72), none, [72]⟩,
  ⟨some 74, .move (.t 7), some (2, false), []⟩,
  ⟨some 75, .move (.t 0), some (2, false), []⟩,
  ⟨some 76, .call n_limbs_Cmp [(.t 74), (.t 75)] [22, 22], some (2, false), [7, 63, 68, 69, 74, 75]⟩,
  ⟨some 77, .bin .neq 3 (.t 76) (.c (Value.int IntKind.i64 0)) 3, some (2, false), [76]⟩,
  ⟨some 78, .pick (.t 73) (.c (Value.bool true)) (.t 77), none, [73, 77]⟩] none [0, 1, 78])
 (.cond [0, 1] (.t 78) (.seq (.reg 7 [⟨some 6, .assign (.c (Value.bool false)), none, []⟩] none [6])
 .ret) .skip))
 k2_thicketlaw01_LimbsLaws))
def k3_thicketlaw01_LimbsLaws : IR := .tail [0, 1] j3_thicketlaw01_LimbsLaws
def j4_thicketlaw01_LimbsLaws : IR :=
 (.seq (.seq (.reg 3 [⟨some 35, .move (.t 0), none, []⟩,
  ⟨some 36, .move (.t 1), none, []⟩,
  ⟨some 37, .move (.t 2), none, []⟩,
  ⟨some 38, .call n_limbs_Add [(.t 36), (.t 37)] [22, 22], none, [36, 37]⟩,
  ⟨some 39, .call n_limbs_Mul [(.t 35), (.t 38)] [22, 22], none, [35, 38]⟩,
  ⟨some 40, .move (.t 0), none, []⟩,
  ⟨some 41, .move (.t 1), none, []⟩,
  ⟨some 42, .call n_limbs_Mul [(.t 40), (.t 41)] [22, 22], none, [40, 41]⟩,
  ⟨some 43, .move (.t 0), none, []⟩,
  ⟨some 44, .move (.t 2), none, []⟩,
  ⟨some 45, .call n_limbs_Mul [(.t 43), (.t 44)] [22, 22], none, [43, 44]⟩,
  ⟨some 46, .call n_limbs_Add [(.t 42), (.t 45)] [22, 22], none, [42, 45]⟩,
  ⟨some 47, .call n_limbs_Cmp [(.t 39), (.t 46)] [22, 22], none, [39, 46]⟩,
  ⟨some 48, .bin .neq 3 (.t 47) (.c (Value.int IntKind.i64 0)) 3, none, [47]⟩,
  ⟨some 49, .move (.t 48), none, [48]⟩,
  ⟨some 50, .move (.t 0), some (14, false), []⟩,
  ⟨some 51, .move (.t 1), some (14, false), []⟩,
  ⟨some 52, .call n_limbs_Mul [(.t 50), (.t 51)] [22, 22], some (14, false), [50, 51]⟩,
  ⟨some 53, .move (.t 2), some (14, false), []⟩,
  ⟨some 54, .call n_limbs_Mul [(.t 52), (.t 53)] [22, 22], some (14, false), [52, 53]⟩,
  ⟨some 55, .move (.t 0), some (14, false), []⟩,
  ⟨some 56, .move (.t 1), some (14, false), []⟩,
  ⟨some 57, .move (.t 2), some (14, false), []⟩,
  ⟨some 58, .call n_limbs_Mul [(.t 56), (.t 57)] [22, 22], some (14, false), [2, 56, 57]⟩,
  ⟨some 59, .call n_limbs_Mul [(.t 55), (.t 58)] [22, 22], some (14, false), [55, 58]⟩,
  ⟨some 60, .call n_limbs_Cmp [(.t 54), (.t 59)] [22, 22], some (14, false), [54, 59]⟩,
  ⟨some 61, .bin .neq 3 (.t 60) (.c (Value.int IntKind.i64 0)) 3, some (14, false), [60]⟩,
  ⟨some 62, .pick (.t 49) (.c (Value.bool true)) (.t 61), none, [49, 61]⟩] none [0, 1, 62])
 (.cond [0, 1] (.t 62) (.seq (.reg 4 [⟨some 6, .assign (.c (Value.bool false)), none, []⟩] none [6])
 .ret) .skip))
 k3_thicketlaw01_LimbsLaws)
def k4_thicketlaw01_LimbsLaws : IR := .tail [0, 1, 2] j4_thicketlaw01_LimbsLaws
def b_thicketlaw01_LimbsLaws : IR :=
 (.seq (.reg 0 [⟨some 6, .assign (.c (Value.bool false)), none, [6]⟩] none [0, 1, 2])
 (.seq (.seq (.reg 1 [⟨some 13, .call n_thicketlaw01_lives [] [], none, []⟩,
  ⟨some 14, .un .not 4 (.t 13), none, [13]⟩,
  ⟨some 15, .move (.t 14), none, [14]⟩,
  ⟨some 16, .move (.t 0), some (2, false), []⟩,
  ⟨some 17, .move (.t 1), some (2, false), []⟩,
  ⟨some 18, .call n_limbs_Add [(.t 16), (.t 17)] [22, 22], some (2, false), [16, 17]⟩,
  ⟨some 19, .move (.t 1), some (2, false), []⟩,
  ⟨some 20, .move (.t 0), some (2, false), []⟩,
  ⟨some 21, .call n_limbs_Add [(.t 19), (.t 20)] [22, 22], some (2, false), [19, 20]⟩,
  ⟨some 22, .call n_limbs_Cmp [(.t 18), (.t 21)] [22, 22], some (2, false), [18, 21]⟩,
  ⟨some 23, .bin .neq 3 (.t 22) (.c (Value.int IntKind.i64 0)) 3, some (2, false), [22]⟩,
  ⟨some 24, .pick (.t 15) (.c (Value.bool true)) (.t 23), none, [15, 23]⟩,
  ⟨some 25, .move (.t 24), none, [24]⟩,
  ⟨some 26, .move (.t 0), some (12, false), []⟩,
  ⟨some 27, .move (.t 1), some (12, false), []⟩,
  ⟨some 28, .call n_limbs_Mul [(.t 26), (.t 27)] [22, 22], some (12, false), [26, 27]⟩,
  ⟨some 29, .move (.t 1), some (12, false), []⟩,
  ⟨some 30, .move (.t 0), some (12, false), []⟩,
  ⟨some 31, .call n_limbs_Mul [(.t 29), (.t 30)] [22, 22], some (12, false), [29, 30]⟩,
  ⟨some 32, .call n_limbs_Cmp [(.t 28), (.t 31)] [22, 22], some (12, false), [28, 31]⟩,
  ⟨some 33, .bin .neq 3 (.t 32) (.c (Value.int IntKind.i64 0)) 3, some (12, false), [32]⟩,
  ⟨some 34, .pick (.t 25) (.c (Value.bool true)) (.t 33), none, [25, 33]⟩] none [0, 1, 2, 34])
 (.cond [0, 1, 2] (.t 34) (.seq (.reg 2 [⟨some 6, .assign (.c (Value.bool false)), none, []⟩] none [6])
 .ret) .skip))
 k4_thicketlaw01_LimbsLaws))
def a_thicketlaw01_LimbsLaws : AFunc := ⟨125, [.tmp 6], b_thicketlaw01_LimbsLaws⟩

def j0_limbs_Pow : IR :=
 (.reg 8 [⟨some 22, .move (.t 7), none, []⟩,
  ⟨some 23, .bin .sub 3 (.t 22) (.c (Value.int IntKind.i64 1)) 3, none, [22]⟩,
  ⟨some 7, .assign (.t 23), none, [23]⟩] none [0, 1, 6, 7, 19, 26, 34])
def k0_limbs_Pow : IR := .tail [0, 1, 6, 7, 19, 26, 34] j0_limbs_Pow
def j1_limbs_Pow : IR :=
 (.seq (.block 1 (.seq (.reg 9 [⟨some 24, .move (.t 6), none, []⟩,
  ⟨some 25, .move (.t 6), none, []⟩,
  ⟨some 26, .call n_limbs_Mul [(.t 24), (.t 25)] [22, 22], none, [24, 25]⟩,
  ⟨some 6, .assign (.t 26), none, []⟩] none [0, 1, 6, 7, 19, 26, 34])
 (.seq (.reg 10 [⟨some 27, .move (.t 1), none, []⟩,
  ⟨some 28, .move (.t 7), none, []⟩,
  ⟨some 29, .bin .shr 3 (.t 27) (.t 28) 3, none, [27, 28]⟩,
  ⟨some 30, .bin .and 3 (.t 29) (.c (Value.int IntKind.i64 1)) 3, none, [29]⟩,
  ⟨some 31, .bin .eql 3 (.t 30) (.c (Value.int IntKind.i64 1)) 3, none, [30]⟩] none [0, 1, 6, 7, 19, 26, 31, 34])
 (.cond [0, 1, 6, 7, 19, 26, 34] (.t 31) (.reg 11 [⟨some 32, .move (.t 6), none, []⟩,
  ⟨some 33, .move (.t 0), none, []⟩,
  ⟨some 34, .call n_limbs_Mul [(.t 32), (.t 33)] [22, 22], none, [32, 33]⟩,
  ⟨some 6, .assign (.t 34), none, []⟩] none [0, 1, 6, 7, 19, 26, 34]) .skip))))
 k0_limbs_Pow)
def k1_limbs_Pow : IR := .tail [0, 1, 6, 7, 19, 26, 34] j1_limbs_Pow
def w0_limbs_Pow : IR :=
 (.seq (.seq (.reg 7 [⟨some 20, .move (.t 7), none, []⟩,
  ⟨some 21, .bin .geq 3 (.t 20) (.c (Value.int IntKind.i64 0)) 3, none, [20]⟩] none [0, 1, 6, 7, 19, 21, 26, 34])
 (.cond [0, 1, 6, 7, 19, 26, 34] (.t 21) .skip (.exit 0)))
 k1_limbs_Pow)
def l0_limbs_Pow : IR := .loop [0, 1, 6, 7, 19, 26, 34] w0_limbs_Pow
def j2_limbs_Pow : IR :=
 (.seq (.reg 12 [⟨some 35, .move (.t 6), none, []⟩,
  ⟨some 4, .assign (.t 35), none, []⟩,
  ⟨some 5, .assign (.c (Value.int IntKind.i64 0)), none, []⟩] none [4, 5, 6, 19, 26, 34, 35])
 .ret)
def k2_limbs_Pow : IR := .tail [6, 19, 26, 34] j2_limbs_Pow
def j3_limbs_Pow : IR :=
 (.seq (.reg 5 [⟨some 19, .lit 22 1 [(.c (Value.int IntKind.u32 1))], none, []⟩,
  ⟨some 6, .assign (.t 19), none, []⟩] none [0, 1, 6, 19, 26, 34])
 (.seq (.seq (.reg 6 [⟨some 7, .assign (.c (Value.int IntKind.i64 16)), none, []⟩] none [0, 1, 6, 7, 19, 26, 34])
 (.block 0 l0_limbs_Pow))
 k2_limbs_Pow))
def k3_limbs_Pow : IR := .tail [0, 1] j3_limbs_Pow
def j4_limbs_Pow : IR :=
 (.seq (.seq (.reg 3 [⟨some 14, .move (.t 0), none, []⟩,
  ⟨some 15, .call n_limbs_Len [(.t 14)] [22], none, [14]⟩,
  ⟨some 16, .move (.t 1), none, []⟩,
  ⟨some 17, .bin .mul 3 (.t 15) (.t 16) 3, none, [15, 16]⟩,
  ⟨some 18, .bin .gtr 3 (.t 17) (.c (Value.int IntKind.i64 65536)) 3, none, [17]⟩] none [0, 1, 18])
 (.cond [0, 1] (.t 18) (.seq (.reg 4 [⟨some 4, .assign (.nilS 1), none, []⟩,
  ⟨some 5, .assign (.c (Value.int IntKind.i64 3)), none, []⟩] none [4, 5, 6, 19, 26, 34, 35])
 .ret) .skip))
 k3_limbs_Pow)
def k4_limbs_Pow : IR := .tail [0, 1] j4_limbs_Pow
def b_limbs_Pow : IR :=
 (.seq (.reg 0 [⟨some 4, .assign (.nilS 1), none, [4]⟩,
  ⟨some 5, .assign (.c (Value.int IntKind.i64 0)), none, [5]⟩] none [0, 1])
 (.seq (.seq (.reg 1 [⟨some 8, .move (.t 1), none, []⟩,
  ⟨some 9, .bin .lss 3 (.t 8) (.c (Value.int IntKind.i64 0)) 3, none, [8]⟩,
  ⟨some 10, .move (.t 9), none, [9]⟩,
  ⟨some 11, .move (.t 1), some (2, false), []⟩,
  ⟨some 12, .bin .gtr 3 (.t 11) (.c (Value.int IntKind.i64 65536)) 3, some (2, false), [11]⟩,
  ⟨some 13, .pick (.t 10) (.c (Value.bool true)) (.t 12), none, [10, 12]⟩] none [0, 1, 13])
 (.cond [0, 1] (.t 13) (.seq (.reg 2 [⟨some 4, .assign (.nilS 1), none, []⟩,
  ⟨some 5, .assign (.c (Value.int IntKind.i64 2)), none, []⟩] none [4, 5, 6, 19, 26, 34, 35])
 .ret) .skip))
 k4_limbs_Pow))
def a_limbs_Pow : AFunc := ⟨36, [.tmp 4, .tmp 5], b_limbs_Pow⟩

def j0_thicketref01_Pow : IR :=
 (.reg 10 [⟨some 32, .move (.t 7), none, []⟩,
  ⟨some 33, .bin .add 3 (.t 32) (.c (Value.int IntKind.i64 1)) 3, none, [32]⟩,
  ⟨some 7, .assign (.t 33), none, [33]⟩] none [0, 1, 6, 7, 19, 36])
def k0_thicketref01_Pow : IR := .tail [0, 1, 6, 7, 19, 36] j0_thicketref01_Pow
def j1_thicketref01_Pow : IR :=
 (.seq (.block 1 (.reg 11 [⟨some 34, .move (.t 6), none, []⟩,
  ⟨some 35, .move (.t 0), none, []⟩,
  ⟨some 36, .call n_thicketref01_Mul [(.t 34), (.t 35)] [22, 22], none, [34, 35]⟩,
  ⟨some 6, .assign (.t 36), none, []⟩] none [0, 1, 6, 7, 19, 36]))
 k0_thicketref01_Pow)
def k1_thicketref01_Pow : IR := .tail [0, 1, 6, 7, 19, 36] j1_thicketref01_Pow
def w0_thicketref01_Pow : IR :=
 (.seq (.seq (.reg 9 [⟨some 29, .move (.t 7), none, []⟩,
  ⟨some 30, .move (.t 1), none, []⟩,
  ⟨some 31, .bin .lss 3 (.t 29) (.t 30) 3, none, [29, 30]⟩] none [0, 1, 6, 7, 19, 31, 36])
 (.cond [0, 1, 6, 7, 19, 36] (.t 31) .skip (.exit 0)))
 k1_thicketref01_Pow)
def l0_thicketref01_Pow : IR := .loop [0, 1, 6, 7, 19, 36] w0_thicketref01_Pow
def j2_thicketref01_Pow : IR :=
 (.seq (.reg 12 [⟨some 37, .move (.t 6), none, []⟩,
  ⟨some 4, .assign (.t 37), none, []⟩,
  ⟨some 5, .assign (.c (Value.int IntKind.i64 0)), none, []⟩] none [4, 5, 6, 19, 28, 36, 37])
 .ret)
def k2_thicketref01_Pow : IR := .tail [6, 19, 36] j2_thicketref01_Pow
def j3_thicketref01_Pow : IR :=
 (.seq (.seq (.reg 8 [⟨some 7, .assign (.c (Value.int IntKind.i64 0)), none, []⟩] none [0, 1, 6, 7, 19, 36])
 (.block 0 l0_thicketref01_Pow))
 k2_thicketref01_Pow)
def k3_thicketref01_Pow : IR := .tail [0, 1, 6, 19, 36] j3_thicketref01_Pow
def j4_thicketref01_Pow : IR :=
 (.seq (.reg 5 [⟨some 19, .call n_thicketref01_From [(.c (Value.int IntKind.u64 1))] [33], none, []⟩,
  ⟨some 6, .assign (.t 19), none, []⟩] none [0, 1, 6, 19, 36])
 (.seq (.seq (.reg 6 [⟨some 20, .move (.t 0), none, []⟩,
  ⟨some 21, .call n_thicketref01_Len [(.t 20)] [22], none, [20]⟩,
  ⟨some 22, .bin .lss 3 (.t 21) (.c (Value.int IntKind.i64 2)) 3, none, [21]⟩,
  ⟨some 23, .move (.t 22), none, [22]⟩,
  ⟨some 24, .move (.t 1), some (3, true), []⟩,
  ⟨some 25, .bin .gtr 3 (.t 24) (.c (Value.int IntKind.i64 0)) 3, some (3, true), [24]⟩,
  ⟨some 26, .pick (.t 23) (.t 25) (.c (Value.bool false)), none, [23, 25]⟩] none [0, 1, 6, 19, 26, 36])
 (.cond [0, 1, 6, 19, 36] (.t 26) (.seq (.reg 7 [⟨some 27, .move (.t 0), none, []⟩,
  ⟨some 28, .call n_thicketref01_Norm [(.t 27)] [22], none, [0, 27]⟩,
  ⟨some 4, .assign (.t 28), none, []⟩,
  ⟨some 5, .assign (.c (Value.int IntKind.i64 0)), none, []⟩] none [4, 5, 6, 19, 28, 36, 37])
 .ret) .skip))
 k3_thicketref01_Pow))
def k4_thicketref01_Pow : IR := .tail [0, 1] j4_thicketref01_Pow
def j5_thicketref01_Pow : IR :=
 (.seq (.seq (.reg 3 [⟨some 14, .move (.t 0), none, []⟩,
  ⟨some 15, .call n_thicketref01_Len [(.t 14)] [22], none, [14]⟩,
  ⟨some 16, .move (.t 1), none, []⟩,
  ⟨some 17, .bin .mul 3 (.t 15) (.t 16) 3, none, [15, 16]⟩,
  ⟨some 18, .bin .gtr 3 (.t 17) (.c (Value.int IntKind.i64 65536)) 3, none, [17]⟩] none [0, 1, 18])
 (.cond [0, 1] (.t 18) (.seq (.reg 4 [⟨some 4, .assign (.nilS 1), none, []⟩,
  ⟨some 5, .assign (.c (Value.int IntKind.i64 3)), none, []⟩] none [4, 5, 6, 19, 28, 36, 37])
 .ret) .skip))
 k4_thicketref01_Pow)
def k5_thicketref01_Pow : IR := .tail [0, 1] j5_thicketref01_Pow
def b_thicketref01_Pow : IR :=
 (.seq (.reg 0 [⟨some 4, .assign (.nilS 1), none, [4]⟩,
  ⟨some 5, .assign (.c (Value.int IntKind.i64 0)), none, [5]⟩] none [0, 1])
 (.seq (.seq (.reg 1 [⟨some 8, .move (.t 1), none, []⟩,
  ⟨some 9, .bin .lss 3 (.t 8) (.c (Value.int IntKind.i64 0)) 3, none, [8]⟩,
  ⟨some 10, .move (.t 9), none, [9]⟩,
  ⟨some 11, .move (.t 1), some (2, false), []⟩,
  ⟨some 12, .bin .gtr 3 (.t 11) (.c (Value.int IntKind.i64 65536)) 3, some (2, false), [11]⟩,
  ⟨some 13, .pick (.t 10) (.c (Value.bool true)) (.t 12), none, [10, 12]⟩] none [0, 1, 13])
 (.cond [0, 1] (.t 13) (.seq (.reg 2 [⟨some 4, .assign (.nilS 1), none, []⟩,
  ⟨some 5, .assign (.c (Value.int IntKind.i64 2)), none, []⟩] none [4, 5, 6, 19, 28, 36, 37])
 .ret) .skip))
 k5_thicketref01_Pow))
def a_thicketref01_Pow : AFunc := ⟨38, [.tmp 4, .tmp 5], b_thicketref01_Pow⟩

def j0_limbs_Up : IR :=
 (.seq (.reg 3 [⟨some 12, .move (.t 0), none, []⟩,
  ⟨some 13, .move (.t 1), none, [1]⟩,
  ⟨some 14, .call n_limbs_up [(.t 12), (.t 13)] [22, 3], none, [0, 12, 13]⟩,
  ⟨some 4, .assign (.t 14), none, []⟩,
  ⟨some 5, .assign (.c (Value.int IntKind.i64 0)), none, []⟩] none [4, 5, 14])
 .ret)
def k0_limbs_Up : IR := .tail [0, 1] j0_limbs_Up
def b_limbs_Up : IR :=
 (.seq (.reg 0 [⟨some 4, .assign (.nilS 1), none, [4]⟩,
  ⟨some 5, .assign (.c (Value.int IntKind.i64 0)), none, [5]⟩] none [0, 1])
 (.seq (.seq (.reg 1 [⟨some 6, .move (.t 1), none, []⟩,
  ⟨some 7, .bin .lss 3 (.t 6) (.c (Value.int IntKind.i64 0)) 3, none, [6]⟩,
  ⟨some 8, .move (.t 7), none, [7]⟩,
  ⟨some 9, .move (.t 1), some (2, false), []⟩,
  ⟨some 10, .bin .gtr 3 (.t 9) (.c (Value.int IntKind.i64 1048576)) 3, some (2, false), [9]⟩,
  ⟨some 11, .pick (.t 8) (.c (Value.bool true)) (.t 10), none, [8, 10]⟩] none [0, 1, 11])
 (.cond [0, 1] (.t 11) (.seq (.reg 2 [⟨some 4, .assign (.nilS 1), none, []⟩,
  ⟨some 5, .assign (.c (Value.int IntKind.i64 2)), none, []⟩] none [4, 5, 14])
 .ret) .skip))
 k0_limbs_Up))
def a_limbs_Up : AFunc := ⟨15, [.tmp 4, .tmp 5], b_limbs_Up⟩

def j0_thicketref01_Up : IR :=
 (.reg 11 [⟨some 42, .bin .add 3 (.t 22) (.c (Value.int IntKind.i64 1)) 3, none, []⟩,
  ⟨some 22, .move (.t 42), none, [42]⟩] none [0, 1, 6, 7, 19, 20, 21, 22, 39])
def k0_thicketref01_Up : IR := .tail [0, 1, 6, 7, 19, 20, 21, 22, 39] j0_thicketref01_Up
def j1_thicketref01_Up : IR :=
 (.seq (.block 1 (.seq (.reg 7 [⟨some 24, .iaddr 22 (.sl 1) (.t 20) (.t 22), none, []⟩,
  ⟨some 25, .load 49 none (.t 24), none, [24]⟩,
  ⟨some 9, .assign (.t 25), none, [25]⟩] none [0, 1, 6, 7, 9, 19, 20, 21, 22, 39])
 (.seq (.reg 8 [⟨some 26, .move (.t 9), none, [9]⟩,
  ⟨some 27, .conv 49 33 (.int .u64) (.t 26), none, [26]⟩,
  ⟨some 28, .move (.t 1), none, []⟩,
  ⟨some 29, .bin .rem 3 (.t 28) (.c (Value.int IntKind.i64 32)) 3, none, [28]⟩,
  ⟨some 30, .conv 3 68 (.int .u64) (.t 29), none, [29]⟩,
  ⟨some 31, .bin .shl 33 (.t 27) (.t 30) 68, none, [27, 30]⟩,
  ⟨some 32, .move (.t 7), none, [7]⟩,
  ⟨some 33, .bin .or 33 (.t 31) (.t 32) 33, none, [31, 32]⟩,
  ⟨some 10, .assign (.t 33), none, [33]⟩] none [0, 1, 6, 10, 19, 20, 21, 22, 39])
 (.seq (.reg 9 [⟨some 34, .move (.t 6), none, []⟩,
  ⟨some 35, .move (.t 10), none, []⟩,
  ⟨some 36, .bin .and 33 (.t 35) (.c (Value.int IntKind.u64 4294967295)) 33, none, [35]⟩,
  ⟨some 37, .conv 33 49 (.int .u32) (.t 36), none, [36]⟩,
  ⟨some 38, .lit 22 1 [(.t 37)], none, [37]⟩,
  ⟨some 39, .append 22 22 false 1 4 (.t 34) (.t 38), none, [34, 38]⟩,
  ⟨some 6, .assign (.t 39), none, []⟩] none [0, 1, 6, 10, 19, 20, 21, 22, 39])
 (.reg 10 [⟨some 40, .move (.t 10), none, [10]⟩,
  ⟨some 41, .bin .shr 33 (.t 40) (.c (Value.int IntKind.u64 32)) 68, none, [40]⟩,
  ⟨some 7, .assign (.t 41), none, [41]⟩] none [0, 1, 6, 7, 19, 20, 21, 22, 39])))))
 k0_thicketref01_Up)
def k1_thicketref01_Up : IR := .tail [0, 1, 6, 7, 19, 20, 21, 22, 39] j1_thicketref01_Up
def w0_thicketref01_Up : IR :=
 (.seq (.reg 6 [⟨some 23, .bin .lss 3 (.t 22) (.t 21) 3, none, []⟩] none [0, 1, 6, 7, 19, 20, 21, 22, 23, 39])
 (.seq (.cond [0, 1, 6, 7, 19, 20, 21, 22, 39] (.t 23) .skip (.exit 0))
 k1_thicketref01_Up))
def l0_thicketref01_Up : IR := .loop [0, 1, 6, 7, 19, 20, 21, 22, 39] w0_thicketref01_Up
def j2_thicketref01_Up : IR :=
 (.seq (.reg 12 [⟨some 43, .move (.t 6), none, []⟩,
  ⟨some 44, .move (.t 7), none, [7]⟩,
  ⟨some 45, .conv 33 49 (.int .u32) (.t 44), none, [44]⟩,
  ⟨some 46, .lit 22 1 [(.t 45)], none, [45]⟩,
  ⟨some 47, .append 22 22 false 1 4 (.t 43) (.t 46), none, [6, 19, 39, 43, 46]⟩,
  ⟨some 48, .call n_thicketref01_Norm [(.t 47)] [22], none, [47]⟩,
  ⟨some 4, .assign (.t 48), none, []⟩,
  ⟨some 5, .assign (.c (Value.int IntKind.i64 0)), none, []⟩] none [4, 5, 48])
 .ret)
def k2_thicketref01_Up : IR := .tail [6, 7, 19, 39] j2_thicketref01_Up
def j3_thicketref01_Up : IR :=
 (.seq (.reg 3 [⟨some 17, .move (.t 1), none, []⟩,
  ⟨some 18, .bin .quo 3 (.t 17) (.c (Value.int IntKind.i64 32)) 3, none, [17]⟩,
  ⟨some 19, .mk 22 1 4 (.v (.int .u32 0)) (.t 18) (.t 18), none, [18]⟩,
  ⟨some 6, .assign (.t 19), none, []⟩] none [0, 1, 6, 19, 39])
 (.seq (.reg 4 [⟨some 7, .assign (.c (Value.int IntKind.u64 0)), none, []⟩] none [0, 1, 6, 7, 19, 39])
 (.seq (.seq (.reg 5 [⟨some 20, .move (.t 0), none, []⟩,
  ⟨some 21, .len 22 false (.t 20), none, []⟩,
  ⟨some 22, .move (.c (Value.int IntKind.i64 0)), none, []⟩] none [0, 1, 6, 7, 19, 20, 21, 22, 39])
 (.block 0 l0_thicketref01_Up))
 k2_thicketref01_Up)))
def k3_thicketref01_Up : IR := .tail [0, 1] j3_thicketref01_Up
def b_thicketref01_Up : IR :=
 (.seq (.reg 0 [⟨some 4, .assign (.nilS 1), none, [4]⟩,
  ⟨some 5, .assign (.c (Value.int IntKind.i64 0)), none, [5]⟩] none [0, 1])
 (.seq (.seq (.reg 1 [⟨some 11, .move (.t 1), none, []⟩,
  ⟨some 12, .bin .lss 3 (.t 11) (.c (Value.int IntKind.i64 0)) 3, none, [11]⟩,
  ⟨some 13, .move (.t 12), none, [12]⟩,
  ⟨some 14, .move (.t 1), some (2, false), []⟩,
  ⟨some 15, .bin .gtr 3 (.t 14) (.c (Value.int IntKind.i64 1048576)) 3, some (2, false), [14]⟩,
  ⟨some 16, .pick (.t 13) (.c (Value.bool true)) (.t 15), none, [13, 15]⟩] none [0, 1, 16])
 (.cond [0, 1] (.t 16) (.seq (.reg 2 [⟨some 4, .assign (.nilS 1), none, []⟩,
  ⟨some 5, .assign (.c (Value.int IntKind.i64 2)), none, []⟩] none [4, 5, 48])
 .ret) .skip))
 k3_thicketref01_Up))
def a_thicketref01_Up : AFunc := ⟨49, [.tmp 4, .tmp 5], b_thicketref01_Up⟩

def j0_limbs_Down : IR :=
 (.seq (.reg 3 [⟨some 12, .move (.t 0), none, []⟩,
  ⟨some 13, .move (.t 1), none, [1]⟩,
  ⟨some 14, .call n_limbs_down [(.t 12), (.t 13)] [22, 3], none, [0, 12, 13]⟩,
  ⟨some 4, .assign (.t 14), none, []⟩,
  ⟨some 5, .assign (.c (Value.int IntKind.i64 0)), none, []⟩] none [4, 5, 14])
 .ret)
def k0_limbs_Down : IR := .tail [0, 1] j0_limbs_Down
def b_limbs_Down : IR :=
 (.seq (.reg 0 [⟨some 4, .assign (.nilS 1), none, [4]⟩,
  ⟨some 5, .assign (.c (Value.int IntKind.i64 0)), none, [5]⟩] none [0, 1])
 (.seq (.seq (.reg 1 [⟨some 6, .move (.t 1), none, []⟩,
  ⟨some 7, .bin .lss 3 (.t 6) (.c (Value.int IntKind.i64 0)) 3, none, [6]⟩,
  ⟨some 8, .move (.t 7), none, [7]⟩,
  ⟨some 9, .move (.t 1), some (2, false), []⟩,
  ⟨some 10, .bin .gtr 3 (.t 9) (.c (Value.int IntKind.i64 1048576)) 3, some (2, false), [9]⟩,
  ⟨some 11, .pick (.t 8) (.c (Value.bool true)) (.t 10), none, [8, 10]⟩] none [0, 1, 11])
 (.cond [0, 1] (.t 11) (.seq (.reg 2 [⟨some 4, .assign (.nilS 1), none, []⟩,
  ⟨some 5, .assign (.c (Value.int IntKind.i64 2)), none, []⟩] none [4, 5, 14])
 .ret) .skip))
 k0_limbs_Down))
def a_limbs_Down : AFunc := ⟨15, [.tmp 4, .tmp 5], b_limbs_Down⟩

def j0_thicketref01_Down : IR :=
 (.reg 10 [⟨some 42, .move (.t 6), none, []⟩,
  ⟨some 43, .move (.t 8), none, [8]⟩,
  ⟨some 44, .move (.t 1), none, []⟩,
  ⟨some 45, .bin .rem 3 (.t 44) (.c (Value.int IntKind.i64 32)) 3, none, [44]⟩,
  ⟨some 46, .conv 3 68 (.int .u64) (.t 45), none, [45]⟩,
  ⟨some 47, .bin .shr 33 (.t 43) (.t 46) 68, none, [43, 46]⟩,
  ⟨some 48, .bin .and 33 (.t 47) (.c (Value.int IntKind.u64 4294967295)) 33, none, [47]⟩,
  ⟨some 49, .conv 33 49 (.int .u32) (.t 48), none, [48]⟩,
  ⟨some 50, .lit 22 1 [(.t 49)], none, [49]⟩,
  ⟨some 51, .append 22 22 false 1 4 (.t 42) (.t 50), none, [42, 50]⟩,
  ⟨some 6, .assign (.t 51), none, []⟩] none [0, 1, 6, 7, 51])
def k0_thicketref01_Down : IR := .tail [0, 1, 6, 7, 8, 51] j0_thicketref01_Down
def j1_thicketref01_Down : IR :=
 (.reg 6 [⟨some 21, .move (.t 7), none, []⟩,
  ⟨some 22, .bin .add 3 (.t 21) (.c (Value.int IntKind.i64 1)) 3, none, [21]⟩,
  ⟨some 7, .assign (.t 22), none, [22]⟩] none [0, 1, 6, 7, 51])
def k1_thicketref01_Down : IR := .tail [0, 1, 6, 7, 51] j1_thicketref01_Down
def j2_thicketref01_Down : IR :=
 (.seq (.block 1 (.seq (.reg 7 [⟨some 23, .move (.t 0), none, []⟩,
  ⟨some 24, .move (.t 7), none, []⟩,
  ⟨some 25, .iaddr 22 (.sl 1) (.t 23) (.t 24), none, []⟩,
  ⟨some 26, .load 49 none (.t 25), none, [23, 24, 25]⟩,
  ⟨some 27, .conv 49 33 (.int .u64) (.t 26), none, [26]⟩,
  ⟨some 8, .assign (.t 27), none, [27]⟩] none [0, 1, 6, 7, 8, 51])
 (.seq (.seq (.reg 8 [⟨some 28, .move (.t 7), none, []⟩,
  ⟨some 29, .bin .add 3 (.t 28) (.c (Value.int IntKind.i64 1)) 3, none, [28]⟩,
  ⟨some 30, .move (.t 0), none, []⟩,
  ⟨some 31, .len 22 false (.t 30), none, [30]⟩,
  ⟨some 32, .bin .lss 3 (.t 29) (.t 31) 3, none, [29, 31]⟩] none [0, 1, 6, 7, 8, 32, 51])
 (.cond [0, 1, 6, 7, 8, 51] (.t 32) (.reg 9 [⟨some 33, .move (.t 8), none, []⟩,
  ⟨some 34, .move (.t 0), none, []⟩,
  ⟨some 35, .move (.t 7), none, []⟩,
  ⟨some 36, .bin .add 3 (.t 35) (.c (Value.int IntKind.i64 1)) 3, none, [35]⟩,
  ⟨some 37, .iaddr 22 (.sl 1) (.t 34) (.t 36), none, []⟩,
  ⟨some 38, .load 49 none (.t 37), none, [34, 36, 37]⟩,
  ⟨some 39, .conv 49 33 (.int .u64) (.t 38), none, [38]⟩,
  ⟨some 40, .bin .shl 33 (.t 39) (.c (Value.int IntKind.u64 32)) 68, none, [39]⟩,
  ⟨some 41, .bin .or 33 (.t 33) (.t 40) 33, none, [33, 40]⟩,
  ⟨some 8, .assign (.t 41), none, [41]⟩] none [0, 1, 6, 7, 8, 51]) .skip))
 k0_thicketref01_Down)))
 k1_thicketref01_Down)
def k2_thicketref01_Down : IR := .tail [0, 1, 6, 7, 51] j2_thicketref01_Down
def w0_thicketref01_Down : IR :=
 (.seq (.seq (.reg 5 [⟨some 17, .move (.t 7), none, []⟩,
  ⟨some 18, .move (.t 0), none, []⟩,
  ⟨some 19, .len 22 false (.t 18), none, [18]⟩,
  ⟨some 20, .bin .lss 3 (.t 17) (.t 19) 3, none, [17, 19]⟩] none [0, 1, 6, 7, 20, 51])
 (.cond [0, 1, 6, 7, 51] (.t 20) .skip (.exit 0)))
 k2_thicketref01_Down)
def l0_thicketref01_Down : IR := .loop [0, 1, 6, 7, 51] w0_thicketref01_Down
def j3_thicketref01_Down : IR :=
 (.seq (.reg 11 [⟨some 52, .move (.t 6), none, []⟩,
  ⟨some 53, .call n_thicketref01_Norm [(.t 52)] [22], none, [6, 51, 52]⟩,
  ⟨some 4, .assign (.t 53), none, []⟩,
  ⟨some 5, .assign (.c (Value.int IntKind.i64 0)), none, []⟩] none [4, 5, 53])
 .ret)
def k3_thicketref01_Down : IR := .tail [6, 51] j3_thicketref01_Down
def j4_thicketref01_Down : IR :=
 (.seq (.reg 3 [⟨some 6, .assign (.nilS 1), none, []⟩] none [0, 1, 6, 51])
 (.seq (.seq (.reg 4 [⟨some 15, .move (.t 1), none, []⟩,
  ⟨some 16, .bin .quo 3 (.t 15) (.c (Value.int IntKind.i64 32)) 3, none, [15]⟩,
  ⟨some 7, .assign (.t 16), none, [16]⟩] none [0, 1, 6, 7, 51])
 (.block 0 l0_thicketref01_Down))
 k3_thicketref01_Down))
def k4_thicketref01_Down : IR := .tail [0, 1] j4_thicketref01_Down
def b_thicketref01_Down : IR :=
 (.seq (.reg 0 [⟨some 4, .assign (.nilS 1), none, [4]⟩,
  ⟨some 5, .assign (.c (Value.int IntKind.i64 0)), none, [5]⟩] none [0, 1])
 (.seq (.seq (.reg 1 [⟨some 9, .move (.t 1), none, []⟩,
  ⟨some 10, .bin .lss 3 (.t 9) (.c (Value.int IntKind.i64 0)) 3, none, [9]⟩,
  ⟨some 11, .move (.t 10), none, [10]⟩,
  ⟨some 12, .move (.t 1), some (2, false), []⟩,
  ⟨some 13, .bin .gtr 3 (.t 12) (.c (Value.int IntKind.i64 1048576)) 3, some (2, false), [12]⟩,
  ⟨some 14, .pick (.t 11) (.c (Value.bool true)) (.t 13), none, [11, 13]⟩] none [0, 1, 14])
 (.cond [0, 1] (.t 14) (.seq (.reg 2 [⟨some 4, .assign (.nilS 1), none, []⟩,
  ⟨some 5, .assign (.c (Value.int IntKind.i64 2)), none, []⟩] none [4, 5, 53])
 .ret) .skip))
 k4_thicketref01_Down))
def a_thicketref01_Down : AFunc := ⟨54, [.tmp 4, .tmp 5], b_thicketref01_Down⟩

def j0_thicketlaw01_LimbsPowers : IR :=
 (.seq (.reg 9 [⟨some 62, .move (.t 0), none, []⟩,
  ⟨some 63, .move (.t 2), none, []⟩,
  ⟨some 64, .call n_limbs_Down [(.t 62), (.t 63)] [22, 3], none, [62, 63]⟩,
  ⟨some 61, .move (.t 64), none, []⟩,
  ⟨some 65, .extr (.t 61) 0, none, []⟩,
  ⟨some 66, .extr (.t 61) 1, none, []⟩,
  ⟨some 13, .assign (.t 65), none, []⟩,
  ⟨some 8, .assign (.t 66), none, [66]⟩] none [0, 2, 8, 13, 61, 64, 65])
 (.seq (.reg 10 [⟨some 68, .move (.t 0), none, []⟩,
  ⟨some 69, .move (.t 2), none, [2]⟩,
  ⟨some 70, .call n_thicketref01_Down [(.t 68), (.t 69)] [22, 3], none, [0, 68, 69]⟩,
  ⟨some 67, .move (.t 70), none, []⟩,
  ⟨some 71, .extr (.t 67) 0, none, []⟩,
  ⟨some 72, .extr (.t 67) 1, none, []⟩,
  ⟨some 14, .assign (.t 71), none, []⟩,
  ⟨some 10, .assign (.t 72), none, [72]⟩] none [8, 10, 13, 14, 61, 64, 65, 67, 70, 71])
 (.seq (.reg 11 [⟨some 73, .move (.t 13), none, []⟩,
  ⟨some 74, .move (.t 14), none, []⟩,
  ⟨some 75, .call n_thicketref01_Same [(.t 73), (.t 74)] [22, 22], none, [13, 14, 61, 64, 65, 67, 70, 71, 73, 74]⟩,
  ⟨some 76, .move (.t 75), none, [75]⟩,
  ⟨some 77, .move (.t 8), some (3, true), [8]⟩,
  ⟨some 78, .move (.t 10), some (3, true), [10]⟩,
  ⟨some 79, .bin .eql 23 (.t 77) (.t 78) 23, some (3, true), [77, 78]⟩,
  ⟨some 80, .pick (.t 76) (.t 79) (.c (Value.bool false)), none, [76, 79]⟩,
  ⟨some 6, .assign (.t 80), none, [80]⟩] none [6])
 .ret)))
def k0_thicketlaw01_LimbsPowers : IR := .tail [0, 2] j0_thicketlaw01_LimbsPowers
def j1_thicketlaw01_LimbsPowers : IR :=
 (.seq (.reg 5 [⟨some 41, .move (.t 0), none, []⟩,
  ⟨some 42, .move (.t 2), none, []⟩,
  ⟨some 43, .call n_limbs_Up [(.t 41), (.t 42)] [22, 3], none, [41, 42]⟩,
  ⟨some 40, .move (.t 43), none, []⟩,
  ⟨some 44, .extr (.t 40) 0, none, []⟩,
  ⟨some 45, .extr (.t 40) 1, none, []⟩,
  ⟨some 11, .assign (.t 44), none, []⟩,
  ⟨some 8, .assign (.t 45), none, [45]⟩] none [0, 2, 8, 11, 40, 43, 44])
 (.seq (.reg 6 [⟨some 47, .move (.t 0), none, []⟩,
  ⟨some 48, .move (.t 2), none, []⟩,
  ⟨some 49, .call n_thicketref01_Up [(.t 47), (.t 48)] [22, 3], none, [47, 48]⟩,
  ⟨some 46, .move (.t 49), none, []⟩,
  ⟨some 50, .extr (.t 46) 0, none, []⟩,
  ⟨some 51, .extr (.t 46) 1, none, []⟩,
  ⟨some 12, .assign (.t 50), none, []⟩,
  ⟨some 10, .assign (.t 51), none, [51]⟩] none [0, 2, 8, 10, 11, 12, 40, 43, 44, 46, 49, 50])
 (.seq (.seq (.reg 7 [⟨some 52, .move (.t 11), none, []⟩,
  ⟨some 53, .move (.t 12), none, []⟩,
  ⟨some 54, .call n_thicketref01_Same [(.t 52), (.t 53)] [22, 22], none, [11, 12, 40, 43, 44, 46, 49, 50, 52, 53]⟩,
  ⟨some 55, .un .not 4 (.t 54), none, [54]⟩,
  ⟨some 56, .move (.t 55), none, [55]⟩,
  ⟨some 57, .move (.t 8), some (4, false), [8]⟩,
  ⟨some 58, .move (.t 10), some (4, false), [10]⟩,
  ⟨some 59, .bin .neq 23 (.t 57) (.t 58) 23, some (4, false), [57, 58]⟩,
  ⟨some 60, .pick (.t 56) (.c (Value.bool true)) (.t 59), none, [56, 59]⟩] none [0, 2, 60])
 (.cond [0, 2] (.t 60) (.seq (.reg 8 [⟨some 6, .assign (.c (Value.bool false)), none, []⟩] none [6])
 .ret) .skip))
 k0_thicketlaw01_LimbsPowers)))
def k1_thicketlaw01_LimbsPowers : IR := .tail [0, 2] j1_thicketlaw01_LimbsPowers
def b_thicketlaw01_LimbsPowers : IR :=
 (.seq (.reg 0 [⟨some 6, .assign (.c (Value.bool false)), none, [6]⟩] none [0, 1, 2])
 (.seq (.reg 1 [⟨some 16, .move (.t 0), none, []⟩,
  ⟨some 17, .move (.t 1), none, []⟩,
  ⟨some 18, .call n_limbs_Pow [(.t 16), (.t 17)] [22, 3], none, [16, 17]⟩,
  ⟨some 15, .move (.t 18), none, []⟩,
  ⟨some 19, .extr (.t 15) 0, none, []⟩,
  ⟨some 20, .extr (.t 15) 1, none, []⟩,
  ⟨some 7, .assign (.t 19), none, []⟩,
  ⟨some 8, .assign (.t 20), none, [20]⟩] none [0, 1, 2, 7, 8, 15, 18, 19])
 (.seq (.reg 2 [⟨some 22, .move (.t 0), none, []⟩,
  ⟨some 23, .move (.t 1), none, [1]⟩,
  ⟨some 24, .call n_thicketref01_Pow [(.t 22), (.t 23)] [22, 3], none, [22, 23]⟩,
  ⟨some 21, .move (.t 24), none, []⟩,
  ⟨some 25, .extr (.t 21) 0, none, []⟩,
  ⟨some 26, .extr (.t 21) 1, none, []⟩,
  ⟨some 9, .assign (.t 25), none, []⟩,
  ⟨some 10, .assign (.t 26), none, [26]⟩] none [0, 2, 7, 8, 9, 10, 15, 18, 19, 21, 24, 25])
 (.seq (.seq (.reg 3 [⟨some 27, .call n_thicketlaw01_lives [] [], none, []⟩,
  ⟨some 28, .un .not 4 (.t 27), none, [27]⟩,
  ⟨some 29, .move (.t 28), none, [28]⟩,
  ⟨some 30, .move (.t 7), some (2, false), []⟩,
  ⟨some 31, .move (.t 9), some (2, false), []⟩,
  ⟨some 32, .call n_thicketref01_Same [(.t 30), (.t 31)] [22, 22], some (2, false), [7, 9, 15, 18, 19, 21, 24, 25, 30, 31]⟩,
  ⟨some 33, .un .not 4 (.t 32), some (2, false), [32]⟩,
  ⟨some 34, .pick (.t 29) (.c (Value.bool true)) (.t 33), none, [29, 33]⟩,
  ⟨some 35, .move (.t 34), none, [34]⟩,
  ⟨some 36, .move (.t 8), some (8, false), [8]⟩,
  ⟨some 37, .move (.t 10), some (8, false), [10]⟩,
  ⟨some 38, .bin .neq 23 (.t 36) (.t 37) 23, some (8, false), [36, 37]⟩,
  ⟨some 39, .pick (.t 35) (.c (Value.bool true)) (.t 38), none, [35, 38]⟩] none [0, 2, 39])
 (.cond [0, 2] (.t 39) (.seq (.reg 4 [⟨some 6, .assign (.c (Value.bool false)), none, []⟩] none [6])
 .ret) .skip))
 k1_thicketlaw01_LimbsPowers))))
def a_thicketlaw01_LimbsPowers : AFunc := ⟨81, [.tmp 6], b_thicketlaw01_LimbsPowers⟩

def b_thicketlaw01_copied : IR :=
 (.seq (.reg 0 [⟨some 2, .assign (.nilS 1), none, [2]⟩] none [0])
 (.seq (.reg 1 [⟨some 3, .assign (.nilS 1), none, []⟩] none [0, 3])
 (.seq (.reg 2 [⟨some 4, .move (.t 3), none, []⟩,
  ⟨some 5, .move (.t 0), none, []⟩,
  ⟨some 6, .append 22 22 false 1 4 (.t 4) (.t 5), none, [0, 3, 4, 5]⟩,
  ⟨some 2, .assign (.t 6), none, []⟩] none [2, 6])
 .ret)))
def a_thicketlaw01_copied : AFunc := ⟨7, [.tmp 2], b_thicketlaw01_copied⟩

def b_thicketlaw01_ratio : IR :=
 (.seq (.reg 0 [⟨some 1, .box 48 (.t 0), none, [0]⟩,
  ⟨some 2, .alloc 48 [.v (.bool false), .nil 1, .nil 1], none, []⟩] none [1, 2])
 (.seq (.reg 1 [⟨some 3, .faddr 48 (.t 1) 0 0, none, []⟩,
  ⟨some 4, .load 4 none (.t 3), none, []⟩,
  ⟨some 5, .faddr 48 (.t 1) 1 1, none, []⟩,
  ⟨some 6, .load 22 none (.t 5), none, []⟩,
  ⟨some 7, .call n_thicketlaw01_copied [(.t 6)] [22], none, [5, 6]⟩,
  ⟨some 8, .faddr 48 (.t 1) 2 2, none, []⟩,
  ⟨some 9, .load 22 none (.t 8), none, []⟩,
  ⟨some 10, .call n_thicketlaw01_copied [(.t 9)] [22], none, [1, 3, 8, 9]⟩,
  ⟨some 11, .build 48 [(0, 1), (1, 1), (2, 1)] [.v (.bool false), .nil 1, .nil 1] [(0, (.t 4)), (1, (.t 7)), (2, (.t 10))], none, []⟩,
  ⟨none, .store 48 (some 3) (.t 2) (.t 11), none, [4, 7, 10, 11]⟩] (some [⟨0, []⟩, ⟨2, []⟩, ⟨5, []⟩, ⟨1, []⟩, ⟨3, []⟩, ⟨6, []⟩, ⟨4, [1, 6]⟩, ⟨7, [1]⟩, ⟨8, []⟩, ⟨9, []⟩]) [2])
 .ret))
def a_thicketlaw01_ratio : AFunc := ⟨12, [.cell 2 48 (some 3)], b_thicketlaw01_ratio⟩

def j0_thicketref01_Over : IR :=
 (.seq (.reg 5 [⟨some 24, .move (.t 1), none, []⟩,
  ⟨some 25, .move (.t 2), none, []⟩,
  ⟨some 26, .call n_thicketref01_Gcd [(.t 24), (.t 25)] [22, 22], none, [24, 25]⟩,
  ⟨some 8, .assign (.t 26), none, []⟩] none [0, 1, 2, 6, 8, 26])
 (.seq (.reg 6 [⟨some 28, .move (.t 1), none, []⟩,
  ⟨some 29, .move (.t 8), none, []⟩,
  ⟨some 30, .call n_thicketref01_DivMod [(.t 28), (.t 29)] [22, 22], none, [1, 28, 29]⟩,
  ⟨some 27, .move (.t 30), none, []⟩,
  ⟨some 31, .extr (.t 27) 0, none, []⟩,
  ⟨some 32, .extr (.t 27) 1, none, []⟩,
  ⟨some 33, .extr (.t 27) 2, none, []⟩,
  ⟨some 9, .assign (.t 31), none, []⟩,
  ⟨some 10, .assign (.t 32), none, [10, 32]⟩,
  ⟨some 11, .assign (.t 33), none, [11, 33]⟩] none [0, 2, 6, 8, 9, 26, 27, 30, 31])
 (.seq (.reg 7 [⟨some 35, .move (.t 2), none, []⟩,
  ⟨some 36, .move (.t 8), none, []⟩,
  ⟨some 37, .call n_thicketref01_DivMod [(.t 35), (.t 36)] [22, 22], none, [2, 8, 26, 35, 36]⟩,
  ⟨some 34, .move (.t 37), none, []⟩,
  ⟨some 38, .extr (.t 34) 0, none, []⟩,
  ⟨some 39, .extr (.t 34) 1, none, []⟩,
  ⟨some 40, .extr (.t 34) 2, none, []⟩,
  ⟨some 12, .assign (.t 38), none, []⟩,
  ⟨some 13, .assign (.t 39), none, [13, 39]⟩,
  ⟨some 14, .assign (.t 40), none, [14, 40]⟩] none [0, 6, 9, 12, 27, 30, 31, 34, 37, 38])
 (.seq (.reg 8 [⟨some 41, .move (.t 0), none, [0]⟩,
  ⟨some 42, .move (.t 9), none, []⟩,
  ⟨some 43, .move (.t 12), none, []⟩,
  ⟨some 44, .build 48 [(0, 1), (1, 1), (2, 1)] [.v (.bool false), .nil 1, .nil 1] [(0, (.t 41)), (1, (.t 42)), (2, (.t 43))], none, []⟩,
  ⟨none, .store 48 (some 3) (.t 6) (.t 44), none, [9, 12, 27, 30, 31, 34, 37, 38, 41, 42, 43, 44]⟩,
  ⟨some 7, .assign (.c (Value.int IntKind.i64 0)), none, []⟩] none [6, 7])
 .ret))))
def k0_thicketref01_Over : IR := .tail [0, 1, 2, 6] j0_thicketref01_Over
def j1_thicketref01_Over : IR :=
 (.seq (.seq (.reg 3 [⟨some 19, .move (.t 1), none, []⟩,
  ⟨some 20, .call n_thicketref01_Len [(.t 19)] [22], none, [19]⟩,
  ⟨some 21, .bin .eql 3 (.t 20) (.c (Value.int IntKind.i64 0)) 3, none, [20]⟩] none [0, 1, 2, 6, 21])
 (.cond [0, 1, 2, 6] (.t 21) (.seq (.reg 4 [⟨some 22, .call n_thicketref01_From [(.c (Value.int IntKind.u64 1))] [33], none, []⟩,
  ⟨some 23, .build 48 [(0, 1), (1, 1), (2, 1)] [.v (.bool false), .nil 1, .nil 1] [(2, (.t 22))], none, []⟩,
  ⟨none, .store 48 (some 3) (.t 6) (.t 23), none, [22, 23]⟩,
  ⟨some 7, .assign (.c (Value.int IntKind.i64 0)), none, []⟩] none [6, 7])
 .ret) .skip))
 k0_thicketref01_Over)
def k1_thicketref01_Over : IR := .tail [0, 1, 2, 6] j1_thicketref01_Over
def b_thicketref01_Over : IR :=
 (.seq (.reg 0 [⟨some 6, .alloc 48 [.v (.bool false), .nil 1, .nil 1], none, []⟩,
  ⟨some 7, .assign (.c (Value.int IntKind.i64 0)), none, [7]⟩] none [0, 1, 2, 6])
 (.seq (.seq (.reg 1 [⟨some 15, .move (.t 2), none, []⟩,
  ⟨some 16, .call n_thicketref01_Len [(.t 15)] [22], none, [15]⟩,
  ⟨some 17, .bin .eql 3 (.t 16) (.c (Value.int IntKind.i64 0)) 3, none, [16]⟩] none [0, 1, 2, 6, 17])
 (.cond [0, 1, 2, 6] (.t 17) (.seq (.reg 2 [⟨some 18, .build 48 [(0, 1), (1, 1), (2, 1)] [.v (.bool false), .nil 1, .nil 1] [], none, []⟩,
  ⟨none, .store 48 (some 3) (.t 6) (.t 18), none, [18]⟩,
  ⟨some 7, .assign (.c (Value.int IntKind.i64 11)), none, []⟩] none [6, 7])
 .ret) .skip))
 k1_thicketref01_Over))
def a_thicketref01_Over : AFunc := ⟨45, [.cell 6 48 (some 3), .tmp 7], b_thicketref01_Over⟩

def b_thicketref01_Alike : IR :=
 (.seq (.reg 0 [⟨some 2, .box 48 (.t 0), none, [0]⟩,
  ⟨some 3, .box 48 (.t 1), none, [1]⟩,
  ⟨some 4, .assign (.c (Value.bool false)), none, [4]⟩] none [2, 3])
 (.seq (.reg 1 [⟨some 5, .faddr 48 (.t 2) 0 0, none, []⟩,
  ⟨some 6, .load 4 none (.t 5), none, [5]⟩,
  ⟨some 7, .faddr 48 (.t 3) 0 0, none, []⟩,
  ⟨some 8, .load 4 none (.t 7), none, [7]⟩,
  ⟨some 9, .eqs false 4 (.one .bool) (.t 6) (.t 8) 4, none, [6, 8]⟩,
  ⟨some 10, .move (.t 9), none, [9]⟩,
  ⟨some 11, .faddr 48 (.t 2) 1 1, some (5, true), []⟩,
  ⟨some 12, .load 22 none (.t 11), some (5, true), []⟩,
  ⟨some 13, .faddr 48 (.t 3) 1 1, some (5, true), []⟩,
  ⟨some 14, .load 22 none (.t 13), some (5, true), []⟩,
  ⟨some 15, .call n_thicketref01_Same [(.t 12), (.t 14)] [22, 22], some (5, true), [11, 12, 13, 14]⟩,
  ⟨some 16, .pick (.t 10) (.t 15) (.c (Value.bool false)), none, [10, 15]⟩,
  ⟨some 17, .move (.t 16), none, [16]⟩,
  ⟨some 18, .faddr 48 (.t 2) 2 2, some (12, true), []⟩,
  ⟨some 19, .load 22 none (.t 18), some (12, true), []⟩,
  ⟨some 20, .faddr 48 (.t 3) 2 2, some (12, true), []⟩,
  ⟨some 21, .load 22 none (.t 20), some (12, true), []⟩,
  ⟨some 22, .call n_thicketref01_Same [(.t 19), (.t 21)] [22, 22], some (12, true), [2, 3, 18, 19, 20, 21]⟩,
  ⟨some 23, .pick (.t 17) (.t 22) (.c (Value.bool false)), none, [17, 22]⟩,
  ⟨some 4, .assign (.t 23), none, [23]⟩] none [4])
 .ret))
def a_thicketref01_Alike : AFunc := ⟨24, [.tmp 4], b_thicketref01_Alike⟩

end Go.AM.F
