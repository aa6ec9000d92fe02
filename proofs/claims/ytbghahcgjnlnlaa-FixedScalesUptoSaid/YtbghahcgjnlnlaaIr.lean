/- The functions of the program in the abstract machine's form, printed by a program of the session's own (ir.py); Lean checks them against the program. No conditions. -/
import Derived.Test.YtbghahcgjnlnlaaAmBld
namespace Go.AM.F
open Go Go.AM
set_option maxRecDepth 100000

abbrev n_thicketlaw04_FixedScales : FuncId := 4
abbrev n_fixed_Scale : FuncId := 9
abbrev n_thicketref04_Scale : FuncId := 10
abbrev n_thicketref04_amount : FuncId := 12
abbrev n_thicketref04_signed : FuncId := 13
abbrev n_fixed_rounded : FuncId := 14
abbrev n_limbs_Mul : FuncId := 15
abbrev n_limbs_From : FuncId := 16
abbrev n_fixed_amount : FuncId := 17
abbrev n_fixed_signed : FuncId := 18
abbrev n_thicketref02_Product : FuncId := 19
abbrev n_thicketref02_From : FuncId := 20
abbrev n_thicketref04_Rounded : FuncId := 21
abbrev n_limbs_DivMod : FuncId := 22
abbrev n_limbs_Cmp : FuncId := 23
abbrev n_limbs_Add : FuncId := 24
abbrev n_limbs_Bit : FuncId := 25
abbrev n_limbs_trim : FuncId := 26
abbrev n_limbs_low : FuncId := 27
abbrev n_limbs_high : FuncId := 28
abbrev n_limbs_Small : FuncId := 29
abbrev n_thicketref02_norm : FuncId := 30
abbrev n_thicketref02_from : FuncId := 31
abbrev n_thicketref02_Size : FuncId := 32
abbrev n_thicketref02_Divide : FuncId := 33
abbrev n_thicketref02_Cmp : FuncId := 34
abbrev n_thicketref02_Up : FuncId := 35
abbrev n_limbs_Norm : FuncId := 36
abbrev n_bits_LeadingZeros32 : FuncId := 37
abbrev n_limbs_up : FuncId := 38
abbrev n_limbs_long : FuncId := 39
abbrev n_limbs_down : FuncId := 40
abbrev n_thicketref02_size : FuncId := 41
abbrev n_thicketref02_divide : FuncId := 42
abbrev n_thicketref02_cmp : FuncId := 43
abbrev n_thicketref02_up : FuncId := 44
abbrev n_bits_Len32 : FuncId := 45
abbrev n_bits_Sub32 : FuncId := 46
abbrev n_bits_Add32 : FuncId := 47
abbrev n_thicketref02_minus : FuncId := 48
def j0_limbs_trim : IR :=
 (.block 1 (.reg 3 [⟨some 16, .move (.t 3), none, []⟩,
  ⟨some 17, .bin .sub 3 (.t 16) (.c (Value.int IntKind.i64 1)) 3, none, [16]⟩,
  ⟨some 3, .assign (.t 17), none, [17]⟩] none [0, 3, 100000]))
def k0_limbs_trim : IR := .tail [0, 3, 100000] j0_limbs_trim
def w0_limbs_trim : IR :=
 (.seq (.seq (.reg 2 [⟨some 6, .move (.t 3), none, []⟩,
  ⟨some 7, .bin .gtr 3 (.t 6) (.c (Value.int IntKind.i64 0)) 3, none, [6]⟩,
  ⟨some 8, .move (.t 7), none, [7]⟩,
  ⟨some 9, .move (.t 0), some (2, true), []⟩,
  ⟨some 10, .move (.t 3), some (2, true), []⟩,
  ⟨some 11, .bin .sub 3 (.t 10) (.c (Value.int IntKind.i64 1)) 3, some (2, true), [10]⟩,
  ⟨some 12, .iaddr 38 (.sl 1) (.t 9) (.t 11), some (2, true), []⟩,
  ⟨some 13, .load 49 none (.t 12), some (2, true), [9, 11, 12]⟩,
  ⟨some 14, .bin .eql 49 (.t 13) (.c (Value.int IntKind.u32 0)) 49, some (2, true), [13]⟩,
  ⟨some 15, .pick (.t 8) (.t 14) (.c (Value.bool false)), none, [8, 14]⟩] none [0, 3, 15, 100000])
 (.cond [0, 3, 100000] (.t 15) .skip (.exit 0)))
 k0_limbs_trim)
def l0_limbs_trim : IR := .loop [0, 3, 100000] w0_limbs_trim
def j1_limbs_trim : IR :=
 (.seq (.reg 4 [⟨some 18, .move (.t 0), none, []⟩,
  ⟨some 19, .move (.t 3), none, []⟩,
  ⟨some 20, .move (.t 3), none, [3]⟩,
  ⟨some 21, .slice 38 (.sl 1) (.t 18) none (some (.t 19)) (some (.t 20)), none, []⟩,
  ⟨some 2, .assign (.t 21), none, []⟩] none [0, 2, 18, 19, 20, 21, 100000])
 .ret)
def k1_limbs_trim : IR := .tail [0, 3, 100000] j1_limbs_trim
def b_limbs_trim : IR :=
 (.seq (.reg 0 [⟨some 2, .assign (.nilS 1), none, [2]⟩] none [0, 100000])
 (.seq (.reg 1 [⟨some 4, .move (.t 0), none, []⟩,
  ⟨some 5, .len 38 false (.t 4), none, [4]⟩,
  ⟨some 3, .assign (.t 5), none, [5]⟩] none [0, 3, 100000])
 (.seq (.block 0 l0_limbs_trim)
 k1_limbs_trim)))
def a_limbs_trim : AFunc := ⟨22, [.tmp 2], b_limbs_trim⟩

def b_limbs_low : IR :=
 (.seq (.reg 0 [⟨some 2, .assign (.c (Value.int IntKind.u32 0)), none, [2]⟩] none [0])
 (.seq (.reg 1 [⟨some 3, .move (.t 0), none, [0]⟩,
  ⟨some 4, .bin .and 31 (.t 3) (.c (Value.int IntKind.u64 4294967295)) 31, none, [3]⟩,
  ⟨some 5, .conv 31 49 (.int .u32) (.t 4), none, [4]⟩,
  ⟨some 2, .assign (.t 5), none, [5]⟩] none [2])
 .ret))
def a_limbs_low : AFunc := ⟨6, [.tmp 2], b_limbs_low⟩

def b_limbs_high : IR :=
 (.seq (.reg 0 [⟨some 2, .assign (.c (Value.int IntKind.u64 0)), none, [2]⟩] none [0])
 (.seq (.reg 1 [⟨some 3, .move (.t 0), none, [0]⟩,
  ⟨some 4, .bin .shr 31 (.t 3) (.c (Value.int IntKind.u64 32)) 53, none, [3]⟩,
  ⟨some 2, .assign (.t 4), none, [4]⟩] none [2])
 .ret))
def a_limbs_high : AFunc := ⟨5, [.tmp 2], b_limbs_high⟩

def b_limbs_From : IR :=
 (.seq (.reg 0 [⟨some 2, .assign (.nilS 1), none, [2]⟩] none [0])
 (.seq (.reg 1 [⟨some 3, .move (.t 0), none, []⟩,
  ⟨some 4, .call n_limbs_low [(.t 3)] [31], none, [3]⟩,
  ⟨some 5, .move (.t 0), none, [0]⟩,
  ⟨some 6, .call n_limbs_high [(.t 5)] [31], none, [5]⟩,
  ⟨some 7, .conv 31 49 (.int .u32) (.t 6), none, [6]⟩,
  ⟨some 8, .lit 38 1 [(.t 4), (.t 7)], none, [4, 7]⟩,
  ⟨some 9, .call n_limbs_trim [(.t 8)] [38], none, [8]⟩,
  ⟨some 2, .assign (.t 9), none, []⟩] none [2, 9])
 .ret))
def a_limbs_From : AFunc := ⟨10, [.tmp 2], b_limbs_From⟩

def j0_limbs_Cmp : IR :=
 (.seq (.reg 5 [⟨some 4, .assign (.c (Value.int IntKind.i64 1)), none, []⟩] none [4])
 .ret)
def k0_limbs_Cmp : IR := .tail [] j0_limbs_Cmp
def j1_limbs_Cmp : IR :=
 (.reg 8 [⟨some 25, .move (.t 5), none, []⟩,
  ⟨some 26, .bin .sub 3 (.t 25) (.c (Value.int IntKind.i64 1)) 3, none, [25]⟩,
  ⟨some 5, .assign (.t 26), none, [26]⟩] none [0, 1, 5, 7, 9])
def k1_limbs_Cmp : IR := .tail [0, 1, 5, 7, 9] j1_limbs_Cmp
def j2_limbs_Cmp : IR :=
 (.seq (.block 1 (.block 2 (.seq (.reg 9 [⟨some 28, .move (.t 0), none, []⟩,
  ⟨some 29, .move (.t 5), none, []⟩,
  ⟨some 30, .iaddr 38 (.sl 1) (.t 28) (.t 29), none, []⟩,
  ⟨some 31, .load 49 none (.t 30), none, [28, 29, 30]⟩,
  ⟨some 32, .move (.t 1), none, []⟩,
  ⟨some 33, .move (.t 5), none, []⟩,
  ⟨some 34, .iaddr 38 (.sl 1) (.t 32) (.t 33), none, []⟩,
  ⟨some 35, .load 49 none (.t 34), none, [32, 33, 34]⟩,
  ⟨some 36, .bin .lss 49 (.t 31) (.t 35) 49, none, [31, 35]⟩,
  ⟨some 27, .assign (.t 36), none, [36]⟩] (some [⟨0, []⟩, ⟨1, []⟩, ⟨2, []⟩, ⟨4, []⟩, ⟨5, []⟩, ⟨6, []⟩, ⟨3, []⟩, ⟨7, []⟩, ⟨8, []⟩, ⟨9, []⟩]) [0, 1, 5, 7, 9, 27])
 (.cond [0, 1, 5, 7, 9] (.t 27) (.seq (.reg 10 [⟨some 4, .assign (.c (Value.int IntKind.i64 (-1))), none, []⟩] none [4])
 .ret) (.seq (.reg 11 [⟨some 38, .move (.t 0), none, []⟩,
  ⟨some 39, .move (.t 5), none, []⟩,
  ⟨some 40, .iaddr 38 (.sl 1) (.t 38) (.t 39), none, []⟩,
  ⟨some 41, .load 49 none (.t 40), none, [38, 39, 40]⟩,
  ⟨some 42, .move (.t 1), none, []⟩,
  ⟨some 43, .move (.t 5), none, []⟩,
  ⟨some 44, .iaddr 38 (.sl 1) (.t 42) (.t 43), none, []⟩,
  ⟨some 45, .load 49 none (.t 44), none, [42, 43, 44]⟩,
  ⟨some 46, .bin .gtr 49 (.t 41) (.t 45) 49, none, [41, 45]⟩,
  ⟨some 37, .assign (.t 46), none, [46]⟩] (some [⟨0, []⟩, ⟨1, []⟩, ⟨2, []⟩, ⟨4, []⟩, ⟨5, []⟩, ⟨6, []⟩, ⟨3, []⟩, ⟨7, []⟩, ⟨8, []⟩, ⟨9, []⟩]) [0, 1, 5, 7, 9, 37])
 (.cond [0, 1, 5, 7, 9] (.t 37) (.seq (.reg 12 [⟨some 4, .assign (.c (Value.int IntKind.i64 1)), none, []⟩] none [4])
 .ret) .skip))))))
 k1_limbs_Cmp)
def k2_limbs_Cmp : IR := .tail [0, 1, 5, 7, 9] j2_limbs_Cmp
def w0_limbs_Cmp : IR :=
 (.seq (.seq (.reg 7 [⟨some 23, .move (.t 5), none, []⟩,
  ⟨some 24, .bin .geq 3 (.t 23) (.c (Value.int IntKind.i64 0)) 3, none, [23]⟩] none [0, 1, 5, 7, 9, 24])
 (.cond [0, 1, 5, 7, 9] (.t 24) .skip (.exit 0)))
 k2_limbs_Cmp)
def l0_limbs_Cmp : IR := .loop [0, 1, 5, 7, 9] w0_limbs_Cmp
def j3_limbs_Cmp : IR :=
 (.seq (.reg 13 [⟨some 4, .assign (.c (Value.int IntKind.i64 0)), none, []⟩] none [4])
 .ret)
def k3_limbs_Cmp : IR := .tail [] j3_limbs_Cmp
def j4_limbs_Cmp : IR :=
 (.seq (.seq (.reg 6 [⟨some 20, .move (.t 0), none, []⟩,
  ⟨some 21, .len 38 false (.t 20), none, [20]⟩,
  ⟨some 22, .bin .sub 3 (.t 21) (.c (Value.int IntKind.i64 1)) 3, none, [21]⟩,
  ⟨some 5, .assign (.t 22), none, [22]⟩] none [0, 1, 5, 7, 9])
 (.block 0 l0_limbs_Cmp))
 k3_limbs_Cmp)
def k4_limbs_Cmp : IR := .tail [0, 1, 7, 9] j4_limbs_Cmp
def b_limbs_Cmp : IR :=
 (.seq (.reg 0 [⟨some 4, .assign (.c (Value.int IntKind.i64 0)), none, [4]⟩] none [0, 1, 7, 9])
 (.seq (.reg 1 [⟨some 6, .move (.t 0), none, []⟩,
  ⟨some 7, .call n_limbs_trim [(.t 6)] [38], none, [6]⟩,
  ⟨some 8, .move (.t 1), none, []⟩,
  ⟨some 9, .call n_limbs_trim [(.t 8)] [38], none, [8]⟩,
  ⟨some 0, .assign (.t 7), none, []⟩,
  ⟨some 1, .assign (.t 9), none, []⟩] none [0, 1, 7, 9])
 (.seq (.seq (.reg 2 [⟨some 10, .move (.t 0), none, []⟩,
  ⟨some 11, .len 38 false (.t 10), none, [10]⟩,
  ⟨some 12, .move (.t 1), none, []⟩,
  ⟨some 13, .len 38 false (.t 12), none, [12]⟩,
  ⟨some 14, .bin .neq 3 (.t 11) (.t 13) 3, none, [11, 13]⟩] none [0, 1, 7, 9, 14])
 (.cond [0, 1, 7, 9] (.t 14) (.seq (.seq (.reg 3 [⟨some 15, .move (.t 0), none, []⟩,
  ⟨some 16, .len 38 false (.t 15), none, [0, 7, 15]⟩,
  ⟨some 17, .move (.t 1), none, []⟩,
  ⟨some 18, .len 38 false (.t 17), none, [1, 9, 17]⟩,
  ⟨some 19, .bin .lss 3 (.t 16) (.t 18) 3, none, [16, 18]⟩] none [19])
 (.cond [] (.t 19) (.seq (.reg 4 [⟨some 4, .assign (.c (Value.int IntKind.i64 (-1))), none, []⟩] none [4])
 .ret) .skip))
 k0_limbs_Cmp) .skip))
 k4_limbs_Cmp)))
def a_limbs_Cmp : AFunc := ⟨47, [.tmp 4], b_limbs_Cmp⟩

def b_limbs_Norm : IR :=
 (.seq (.reg 0 [⟨some 2, .assign (.nilS 1), none, [2]⟩] none [0])
 (.seq (.reg 1 [⟨some 3, .move (.t 0), none, []⟩,
  ⟨some 4, .call n_limbs_trim [(.t 3)] [38], none, [0, 3]⟩,
  ⟨some 5, .append 38 38 false 1 4 (.nilS 1) (.t 4), none, [4]⟩,
  ⟨some 2, .assign (.t 5), none, []⟩] none [2, 5])
 .ret))
def a_limbs_Norm : AFunc := ⟨6, [.tmp 2], b_limbs_Norm⟩

def j0_bits_Len32 : IR :=
 (.seq (.reg 7 [⟨some 13, .move (.t 2), none, []⟩,
  ⟨some 14, .move (.t 0), none, [0]⟩,
  ⟨some 15, .conv 49 5 (.int .u8) (.t 14), none, [14]⟩,
  ⟨some 16, .index 9 .str none (.c (Value.string { data := #[0, 1, 2, 2, 3, 3, 3, 3, 4, 4, 4, 4, 4, 4, 4, 4, 5, 5, 5, 5, 5, 5, 5, 5, 5, 5, 5, 5, 5, 5, 5, 5, 6, 6, 6, 6, 6, 6, 6, 6, 6, 6, 6, 6, 6, 6, 6, 6, 6, 6, 6, 6, 6, 6, 6, 6, 6, 6, 6, 6, 6, 6, 6, 6, 7, 7, 7, 7, 7, 7, 7, 7, 7, 7, 7, 7, 7, 7, 7, 7, 7, 7, 7, 7, 7, 7, 7, 7, 7, 7, 7, 7, 7, 7, 7, 7, 7, 7, 7, 7, 7, 7, 7, 7, 7, 7, 7, 7, 7, 7, 7, 7, 7, 7, 7, 7, 7, 7, 7, 7, 7, 7, 7, 7, 7, 7, 7, 7, 8, 8, 8, 8, 8, 8, 8, 8, 8, 8, 8, 8, 8, 8, 8, 8, 8, 8, 8, 8, 8, 8, 8, 8, 8, 8, 8, 8, 8, 8, 8, 8, 8, 8, 8, 8, 8, 8, 8, 8, 8, 8, 8, 8, 8, 8, 8, 8, 8, 8, 8, 8, 8, 8, 8, 8, 8, 8, 8, 8, 8, 8, 8, 8, 8, 8, 8, 8, 8, 8, 8, 8, 8, 8, 8, 8, 8, 8, 8, 8, 8, 8, 8, 8, 8, 8, 8, 8, 8, 8, 8, 8, 8, 8, 8, 8, 8, 8, 8, 8, 8, 8, 8, 8, 8, 8, 8, 8, 8, 8, 8, 8, 8, 8, 8, 8, 8, 8, 8, 8, 8, 8, 8, 8, 8, 8, 8, 8] })) (.t 15), none, [15]⟩,
  ⟨some 17, .conv 5 3 (.int .i64) (.t 16), none, [16]⟩,
  ⟨some 18, .bin .add 3 (.t 13) (.t 17) 3, none, [13, 17]⟩,
  ⟨some 2, .assign (.t 18), none, [18]⟩] none [2])
 .ret)
def k0_bits_Len32 : IR := .tail [0, 2] j0_bits_Len32
def j1_bits_Len32 : IR :=
 (.seq (.seq (.reg 4 [⟨some 7, .move (.t 0), none, []⟩,
  ⟨some 8, .bin .geq 49 (.t 7) (.c (Value.int IntKind.u32 256)) 49, none, [7]⟩] none [0, 2, 8])
 (.cond [0, 2] (.t 8) (.seq (.reg 5 [⟨some 9, .move (.t 0), none, []⟩,
  ⟨some 10, .bin .shr 49 (.t 9) (.c (Value.int IntKind.u64 8)) 53, none, [9]⟩,
  ⟨some 0, .assign (.t 10), none, [10]⟩] none [0, 2])
 (.reg 6 [⟨some 11, .move (.t 2), none, []⟩,
  ⟨some 12, .bin .add 3 (.t 11) (.c (Value.int IntKind.i64 8)) 3, none, [11]⟩,
  ⟨some 2, .assign (.t 12), none, [12]⟩] none [0, 2])) .skip))
 k0_bits_Len32)
def k1_bits_Len32 : IR := .tail [0, 2] j1_bits_Len32
def b_bits_Len32 : IR :=
 (.seq (.reg 0 [⟨some 2, .assign (.c (Value.int IntKind.i64 0)), none, []⟩] none [0, 2])
 (.seq (.seq (.reg 1 [⟨some 3, .move (.t 0), none, []⟩,
  ⟨some 4, .bin .geq 49 (.t 3) (.c (Value.int IntKind.u32 65536)) 49, none, [3]⟩] none [0, 2, 4])
 (.cond [0, 2] (.t 4) (.seq (.reg 2 [⟨some 5, .move (.t 0), none, []⟩,
  ⟨some 6, .bin .shr 49 (.t 5) (.c (Value.int IntKind.u64 16)) 53, none, [5]⟩,
  ⟨some 0, .assign (.t 6), none, [6]⟩] none [0])
 (.reg 3 [⟨some 2, .assign (.c (Value.int IntKind.i64 16)), none, []⟩] none [0, 2])) .skip))
 k1_bits_Len32))
def a_bits_Len32 : AFunc := ⟨19, [.tmp 2], b_bits_Len32⟩

def b_bits_LeadingZeros32 : IR :=
 (.seq (.reg 0 [⟨some 2, .assign (.c (Value.int IntKind.i64 0)), none, [2]⟩] none [0])
 (.seq (.reg 1 [⟨some 3, .move (.t 0), none, [0]⟩,
  ⟨some 4, .call n_bits_Len32 [(.t 3)] [49], none, [3]⟩,
  ⟨some 5, .bin .sub 3 (.c (Value.int IntKind.i64 32)) (.t 4) 3, none, [4]⟩,
  ⟨some 2, .assign (.t 5), none, [5]⟩] none [2])
 .ret))
def a_bits_LeadingZeros32 : AFunc := ⟨6, [.tmp 2], b_bits_LeadingZeros32⟩

def j0_limbs_up : IR :=
 (.reg 12 [⟨some 43, .bin .add 3 (.t 25) (.c (Value.int IntKind.i64 1)) 3, none, []⟩,
  ⟨some 25, .move (.t 43), none, [43]⟩] none [0, 1, 5, 6, 10, 22, 23, 24, 25, 40])
def k0_limbs_up : IR := .tail [0, 1, 5, 6, 10, 22, 23, 24, 25, 40] j0_limbs_up
def j1_limbs_up : IR :=
 (.seq (.block 1 (.seq (.reg 8 [⟨some 27, .iaddr 38 (.sl 1) (.t 23) (.t 25), none, []⟩,
  ⟨some 28, .load 49 none (.t 27), none, [27]⟩,
  ⟨some 8, .assign (.t 28), none, [28]⟩] none [0, 1, 5, 6, 8, 10, 22, 23, 24, 25, 40])
 (.seq (.reg 9 [⟨some 29, .move (.t 6), none, []⟩,
  ⟨some 30, .move (.t 8), none, [8]⟩,
  ⟨some 31, .conv 49 31 (.int .u64) (.t 30), none, [30]⟩,
  ⟨some 32, .move (.t 1), none, []⟩,
  ⟨some 33, .bin .rem 3 (.t 32) (.c (Value.int IntKind.i64 32)) 3, none, [32]⟩,
  ⟨some 34, .bin .shl 31 (.t 31) (.t 33) 3, none, [31, 33]⟩,
  ⟨some 35, .bin .or 31 (.t 29) (.t 34) 31, none, [29, 34]⟩,
  ⟨some 6, .assign (.t 35), none, [35]⟩] none [0, 1, 5, 6, 10, 22, 23, 24, 25, 40])
 (.seq (.reg 10 [⟨some 36, .move (.t 5), none, []⟩,
  ⟨some 37, .move (.t 6), none, []⟩,
  ⟨some 38, .call n_limbs_low [(.t 37)] [31], none, [37]⟩,
  ⟨some 39, .lit 38 1 [(.t 38)], none, [38]⟩,
  ⟨some 40, .append 38 38 false 1 4 (.t 36) (.t 39), none, [36, 39]⟩,
  ⟨some 5, .assign (.t 40), none, []⟩] none [0, 1, 5, 6, 10, 22, 23, 24, 25, 40])
 (.reg 11 [⟨some 41, .move (.t 6), none, []⟩,
  ⟨some 42, .call n_limbs_high [(.t 41)] [31], none, [41]⟩,
  ⟨some 6, .assign (.t 42), none, [42]⟩] none [0, 1, 5, 6, 10, 22, 23, 24, 25, 40])))))
 k0_limbs_up)
def k1_limbs_up : IR := .tail [0, 1, 5, 6, 10, 22, 23, 24, 25, 40] j1_limbs_up
def w0_limbs_up : IR :=
 (.seq (.reg 7 [⟨some 26, .bin .lss 3 (.t 25) (.t 24) 3, none, []⟩] none [0, 1, 5, 6, 10, 22, 23, 24, 25, 26, 40])
 (.seq (.cond [0, 1, 5, 6, 10, 22, 23, 24, 25, 40] (.t 26) .skip (.exit 0))
 k1_limbs_up))
def l0_limbs_up : IR := .loop [0, 1, 5, 6, 10, 22, 23, 24, 25, 40] w0_limbs_up
def j2_limbs_up : IR :=
 (.seq (.reg 13 [⟨some 44, .move (.t 5), none, []⟩,
  ⟨some 45, .move (.t 6), none, [6]⟩,
  ⟨some 46, .conv 31 49 (.int .u32) (.t 45), none, [45]⟩,
  ⟨some 47, .lit 38 1 [(.t 46)], none, [46]⟩,
  ⟨some 48, .append 38 38 false 1 4 (.t 44) (.t 47), none, [5, 22, 40, 44, 47]⟩,
  ⟨some 49, .call n_limbs_trim [(.t 48)] [38], none, [48]⟩,
  ⟨some 4, .assign (.t 49), none, []⟩] none [4, 49])
 .ret)
def k2_limbs_up : IR := .tail [5, 6, 22, 40] j2_limbs_up
def j3_limbs_up : IR :=
 (.seq (.reg 4 [⟨some 14, .move (.t 1), none, []⟩,
  ⟨some 15, .bin .quo 3 (.t 14) (.c (Value.int IntKind.i64 32)) 3, none, [14]⟩,
  ⟨some 16, .move (.t 1), none, []⟩,
  ⟨some 17, .bin .quo 3 (.t 16) (.c (Value.int IntKind.i64 32)) 3, none, [16]⟩,
  ⟨some 18, .move (.t 0), none, []⟩,
  ⟨some 19, .len 38 false (.t 18), none, [18]⟩,
  ⟨some 20, .bin .add 3 (.t 17) (.t 19) 3, none, [17, 19]⟩,
  ⟨some 21, .bin .add 3 (.t 20) (.c (Value.int IntKind.i64 1)) 3, none, [20]⟩,
  ⟨some 22, .mk 38 1 4 (.v (.int .u32 0)) (.t 15) (.t 21), none, [15, 21]⟩,
  ⟨some 5, .assign (.t 22), none, []⟩] none [0, 1, 5, 10, 22, 40])
 (.seq (.reg 5 [⟨some 6, .assign (.c (Value.int IntKind.u64 0)), none, []⟩] none [0, 1, 5, 6, 10, 22, 40])
 (.seq (.seq (.reg 6 [⟨some 23, .move (.t 0), none, []⟩,
  ⟨some 24, .len 38 false (.t 23), none, []⟩,
  ⟨some 25, .move (.c (Value.int IntKind.i64 0)), none, []⟩] none [0, 1, 5, 6, 10, 22, 23, 24, 25, 40])
 (.block 0 l0_limbs_up))
 k2_limbs_up)))
def k3_limbs_up : IR := .tail [0, 1, 10] j3_limbs_up
def b_limbs_up : IR :=
 (.seq (.reg 0 [⟨some 4, .assign (.nilS 1), none, [4]⟩] none [0, 1, 10])
 (.seq (.reg 1 [⟨some 9, .move (.t 0), none, []⟩,
  ⟨some 10, .call n_limbs_trim [(.t 9)] [38], none, [9]⟩,
  ⟨some 0, .assign (.t 10), none, []⟩] none [0, 1, 10])
 (.seq (.seq (.reg 2 [⟨some 11, .move (.t 0), none, []⟩,
  ⟨some 12, .len 38 false (.t 11), none, [11]⟩,
  ⟨some 13, .bin .eql 3 (.t 12) (.c (Value.int IntKind.i64 0)) 3, none, [12]⟩] none [0, 1, 10, 13])
 (.cond [0, 1, 10] (.t 13) (.seq (.reg 3 [⟨some 4, .assign (.nilS 1), none, []⟩] none [4, 49])
 .ret) .skip))
 k3_limbs_up)))
def a_limbs_up : AFunc := ⟨50, [.tmp 4], b_limbs_up⟩

def b_bits_Sub32 : IR :=
 (.seq (.reg 0 [⟨some 6, .assign (.c (Value.int IntKind.u32 0)), none, [6]⟩,
  ⟨some 7, .assign (.c (Value.int IntKind.u32 0)), none, [7]⟩] none [0, 1, 2])
 (.seq (.reg 1 [⟨some 8, .move (.t 0), none, []⟩,
  ⟨some 9, .move (.t 1), none, []⟩,
  ⟨some 10, .bin .sub 49 (.t 8) (.t 9) 49, none, [8, 9]⟩,
  ⟨some 11, .move (.t 2), none, [2]⟩,
  ⟨some 12, .bin .sub 49 (.t 10) (.t 11) 49, none, [10, 11]⟩,
  ⟨some 6, .assign (.t 12), none, [12]⟩] none [0, 1, 6])
 (.seq (.reg 2 [⟨some 13, .move (.t 0), none, []⟩,
  ⟨some 14, .un .xor 49 (.t 13), none, [13]⟩,
  ⟨some 15, .move (.t 1), none, []⟩,
  ⟨some 16, .bin .and 49 (.t 14) (.t 15) 49, none, [14, 15]⟩,
  ⟨some 17, .move (.t 0), none, [0]⟩,
  ⟨some 18, .move (.t 1), none, [1]⟩,
  ⟨some 19, .bin .xor 49 (.t 17) (.t 18) 49, none, [17, 18]⟩,
  ⟨some 20, .un .xor 49 (.t 19), none, [19]⟩,
  ⟨some 21, .move (.t 6), none, []⟩,
  ⟨some 22, .bin .and 49 (.t 20) (.t 21) 49, none, [20, 21]⟩,
  ⟨some 23, .bin .or 49 (.t 16) (.t 22) 49, none, [16, 22]⟩,
  ⟨some 24, .bin .shr 49 (.t 23) (.c (Value.int IntKind.u64 31)) 53, none, [23]⟩,
  ⟨some 7, .assign (.t 24), none, [24]⟩] none [6, 7])
 .ret)))
def a_bits_Sub32 : AFunc := ⟨25, [.tmp 6, .tmp 7], b_bits_Sub32⟩

def b_bits_Add32 : IR :=
 (.seq (.reg 0 [⟨some 6, .assign (.c (Value.int IntKind.u32 0)), none, [6]⟩,
  ⟨some 7, .assign (.c (Value.int IntKind.u32 0)), none, [7]⟩] none [0, 1, 2])
 (.seq (.reg 1 [⟨some 9, .move (.t 0), none, [0]⟩,
  ⟨some 10, .conv 49 31 (.int .u64) (.t 9), none, [9]⟩,
  ⟨some 11, .move (.t 1), none, [1]⟩,
  ⟨some 12, .conv 49 31 (.int .u64) (.t 11), none, [11]⟩,
  ⟨some 13, .bin .add 31 (.t 10) (.t 12) 31, none, [10, 12]⟩,
  ⟨some 14, .move (.t 2), none, [2]⟩,
  ⟨some 15, .conv 49 31 (.int .u64) (.t 14), none, [14]⟩,
  ⟨some 16, .bin .add 31 (.t 13) (.t 15) 31, none, [13, 15]⟩,
  ⟨some 8, .assign (.t 16), none, [16]⟩] none [8])
 (.seq (.reg 2 [⟨some 17, .move (.t 8), none, []⟩,
  ⟨some 18, .conv 31 49 (.int .u32) (.t 17), none, [17]⟩,
  ⟨some 6, .assign (.t 18), none, [18]⟩] none [6, 8])
 (.seq (.reg 3 [⟨some 19, .move (.t 8), none, [8]⟩,
  ⟨some 20, .bin .shr 31 (.t 19) (.c (Value.int IntKind.u64 32)) 53, none, [19]⟩,
  ⟨some 21, .conv 31 49 (.int .u32) (.t 20), none, [20]⟩,
  ⟨some 7, .assign (.t 21), none, [21]⟩] none [6, 7])
 .ret))))
def a_bits_Add32 : AFunc := ⟨22, [.tmp 6, .tmp 7], b_bits_Add32⟩

def j0_limbs_long : IR :=
 (.cond [0, 1, 5, 6, 7, 8, 9, 11, 12, 24, 100000] (.t 71) (.seq (.reg 12 [⟨some 89, .move (.t 11), none, []⟩,
  ⟨some 90, .bin .sub 31 (.t 89) (.c (Value.int IntKind.u64 1)) 31, none, [89]⟩,
  ⟨some 11, .assign (.t 90), none, [90]⟩] none [0, 1, 5, 6, 7, 8, 9, 11, 12, 24, 100000])
 (.reg 13 [⟨some 91, .move (.t 12), none, []⟩,
  ⟨some 92, .move (.t 7), none, []⟩,
  ⟨some 93, .bin .add 31 (.t 91) (.t 92) 31, none, [91, 92]⟩,
  ⟨some 12, .assign (.t 93), none, [93]⟩] none [0, 1, 5, 6, 7, 8, 9, 11, 12, 24, 100000])) (.exit 2))
def k0_limbs_long : IR := .tail [0, 1, 5, 6, 7, 8, 9, 11, 12, 24, 71, 100000] j0_limbs_long
def j1_limbs_long : IR :=
 (.block 3 (.block 4 (.seq (.seq (.reg 10 [⟨some 72, .move (.t 11), none, []⟩,
  ⟨some 73, .bin .geq 31 (.t 72) (.c (Value.int IntKind.u64 4294967296)) 31, none, [72]⟩,
  ⟨some 71, .assign (.t 73), none, [73]⟩] none [0, 1, 5, 6, 7, 8, 9, 11, 12, 24, 71, 100000])
 (.cond [0, 1, 5, 6, 7, 8, 9, 11, 12, 24, 71, 100000] (.t 71) .skip (.reg 11 [⟨some 74, .move (.t 11), none, []⟩,
  ⟨some 75, .move (.t 8), none, []⟩,
  ⟨some 76, .bin .mul 31 (.t 74) (.t 75) 31, none, [74, 75]⟩,
  ⟨some 77, .move (.t 12), none, []⟩,
  ⟨some 78, .bin .shl 31 (.t 77) (.c (Value.int IntKind.u64 32)) 53, none, [77]⟩,
  ⟨some 79, .move (.t 0), none, []⟩,
  ⟨some 80, .move (.t 9), none, []⟩,
  ⟨some 81, .move (.t 5), none, []⟩,
  ⟨some 82, .bin .add 3 (.t 80) (.t 81) 3, none, [80, 81]⟩,
  ⟨some 83, .bin .sub 3 (.t 82) (.c (Value.int IntKind.i64 2)) 3, none, [82]⟩,
  ⟨some 84, .iaddr 38 (.sl 1) (.t 79) (.t 83), none, []⟩,
  ⟨some 85, .load 49 none (.t 84), none, [79, 83, 84]⟩,
  ⟨some 86, .conv 49 31 (.int .u64) (.t 85), none, [85]⟩,
  ⟨some 87, .bin .or 31 (.t 78) (.t 86) 31, none, [78, 86]⟩,
  ⟨some 88, .bin .gtr 31 (.t 76) (.t 87) 31, none, [76, 87]⟩,
  ⟨some 71, .assign (.t 88), none, [88]⟩] none [0, 1, 5, 6, 7, 8, 9, 11, 12, 24, 71, 100000])))
 k0_limbs_long)))
def k1_limbs_long : IR := .tail [0, 1, 5, 6, 7, 8, 9, 11, 12, 24, 100000] j1_limbs_long
def w1_limbs_long : IR :=
 (.seq (.seq (.reg 9 [⟨some 69, .move (.t 12), none, []⟩,
  ⟨some 70, .bin .lss 31 (.t 69) (.c (Value.int IntKind.u64 4294967296)) 31, none, [69]⟩] none [0, 1, 5, 6, 7, 8, 9, 11, 12, 24, 70, 100000])
 (.cond [0, 1, 5, 6, 7, 8, 9, 11, 12, 24, 100000] (.t 70) .skip (.exit 2)))
 k1_limbs_long)
def l1_limbs_long : IR := .loop [0, 1, 5, 6, 7, 8, 9, 11, 12, 24, 100000] w1_limbs_long
def j2_limbs_long : IR :=
 (.reg 22 [⟨some 127, .bin .add 3 (.t 95) (.c (Value.int IntKind.i64 1)) 3, none, []⟩,
  ⟨some 95, .move (.t 127), none, [127]⟩] none [0, 1, 5, 6, 7, 8, 9, 11, 13, 14, 24, 94, 95, 100000])
def k2_limbs_long : IR := .tail [0, 1, 5, 6, 7, 8, 9, 11, 13, 14, 24, 94, 95, 100000] j2_limbs_long
def j3_limbs_long : IR :=
 (.seq (.block 6 (.seq (.reg 18 [⟨some 97, .move (.t 95), none, []⟩,
  ⟨some 15, .assign (.t 97), none, [97]⟩] none [0, 1, 5, 6, 7, 8, 9, 11, 13, 14, 15, 24, 94, 95, 100000])
 (.seq (.reg 19 [⟨some 98, .move (.t 13), none, []⟩,
  ⟨some 99, .move (.t 11), none, []⟩,
  ⟨some 100, .move (.t 1), none, []⟩,
  ⟨some 101, .move (.t 15), none, []⟩,
  ⟨some 102, .iaddr 38 (.sl 1) (.t 100) (.t 101), none, []⟩,
  ⟨some 103, .load 49 none (.t 102), none, [100, 101, 102]⟩,
  ⟨some 104, .conv 49 31 (.int .u64) (.t 103), none, [103]⟩,
  ⟨some 105, .bin .mul 31 (.t 99) (.t 104) 31, none, [99, 104]⟩,
  ⟨some 106, .bin .add 31 (.t 98) (.t 105) 31, none, [98, 105]⟩,
  ⟨some 13, .assign (.t 106), none, [106]⟩] none [0, 1, 5, 6, 7, 8, 9, 11, 13, 14, 15, 24, 94, 95, 100000])
 (.seq (.reg 20 [⟨some 108, .move (.t 0), none, []⟩,
  ⟨some 109, .move (.t 15), none, []⟩,
  ⟨some 110, .move (.t 9), none, []⟩,
  ⟨some 111, .bin .add 3 (.t 109) (.t 110) 3, none, [109, 110]⟩,
  ⟨some 112, .move (.t 0), none, []⟩,
  ⟨some 113, .move (.t 15), none, [15]⟩,
  ⟨some 114, .move (.t 9), none, []⟩,
  ⟨some 115, .bin .add 3 (.t 113) (.t 114) 3, none, [113, 114]⟩,
  ⟨some 116, .iaddr 38 (.sl 1) (.t 112) (.t 115), none, []⟩,
  ⟨some 117, .load 49 none (.t 116), none, []⟩,
  ⟨some 118, .move (.t 13), none, []⟩,
  ⟨some 119, .call n_limbs_low [(.t 118)] [31], none, [112, 115, 116, 118]⟩,
  ⟨some 120, .move (.t 14), none, []⟩,
  ⟨some 121, .call n_bits_Sub32 [(.t 117), (.t 119), (.t 120)] [49, 49, 49], none, [117, 119, 120]⟩,
  ⟨some 107, .move (.t 121), none, [121]⟩,
  ⟨some 122, .extr (.t 107) 0, none, []⟩,
  ⟨some 123, .extr (.t 107) 1, none, [107]⟩,
  ⟨some 124, .iaddr 38 (.sl 1) (.t 108) (.t 111), none, []⟩,
  ⟨none, .store 49 none (.t 124) (.t 122), none, [108, 111, 122, 124]⟩,
  ⟨some 14, .assign (.t 123), none, [123]⟩] (some [⟨0, []⟩, ⟨1, []⟩, ⟨2, []⟩, ⟨3, []⟩, ⟨4, []⟩, ⟨5, []⟩, ⟨6, []⟩, ⟨7, []⟩, ⟨8, []⟩, ⟨10, []⟩, ⟨12, []⟩, ⟨9, []⟩, ⟨11, [9]⟩, ⟨13, []⟩, ⟨14, []⟩, ⟨15, []⟩, ⟨16, []⟩, ⟨17, []⟩, ⟨18, []⟩, ⟨19, []⟩]) [0, 1, 5, 6, 7, 8, 9, 11, 13, 14, 24, 94, 95, 100000])
 (.reg 21 [⟨some 125, .move (.t 13), none, []⟩,
  ⟨some 126, .call n_limbs_high [(.t 125)] [31], none, [125]⟩,
  ⟨some 13, .assign (.t 126), none, [126]⟩] none [0, 1, 5, 6, 7, 8, 9, 11, 13, 14, 24, 94, 95, 100000])))))
 k2_limbs_long)
def k3_limbs_long : IR := .tail [0, 1, 5, 6, 7, 8, 9, 11, 13, 14, 24, 94, 95, 100000] j3_limbs_long
def w2_limbs_long : IR :=
 (.seq (.reg 17 [⟨some 96, .bin .lss 3 (.t 95) (.t 94) 3, none, []⟩] none [0, 1, 5, 6, 7, 8, 9, 11, 13, 14, 24, 94, 95, 96, 100000])
 (.seq (.cond [0, 1, 5, 6, 7, 8, 9, 11, 13, 14, 24, 94, 95, 100000] (.t 96) .skip (.exit 5))
 k3_limbs_long))
def l2_limbs_long : IR := .loop [0, 1, 5, 6, 7, 8, 9, 11, 13, 14, 24, 94, 95, 100000] w2_limbs_long
def j4_limbs_long : IR :=
 (.reg 32 [⟨some 183, .bin .add 3 (.t 160) (.c (Value.int IntKind.i64 1)) 3, none, []⟩,
  ⟨some 160, .move (.t 183), none, [183]⟩] none [0, 1, 5, 6, 7, 8, 9, 16, 24, 159, 160, 100000])
def k4_limbs_long : IR := .tail [0, 1, 5, 6, 7, 8, 9, 16, 24, 159, 160, 100000] j4_limbs_long
def j5_limbs_long : IR :=
 (.seq (.block 8 (.seq (.reg 30 [⟨some 162, .move (.t 160), none, []⟩,
  ⟨some 17, .assign (.t 162), none, [162]⟩] none [0, 1, 5, 6, 7, 8, 9, 16, 17, 24, 159, 160, 100000])
 (.reg 31 [⟨some 164, .move (.t 0), none, []⟩,
  ⟨some 165, .move (.t 17), none, []⟩,
  ⟨some 166, .move (.t 9), none, []⟩,
  ⟨some 167, .bin .add 3 (.t 165) (.t 166) 3, none, [165, 166]⟩,
  ⟨some 168, .move (.t 0), none, []⟩,
  ⟨some 169, .move (.t 17), none, []⟩,
  ⟨some 170, .move (.t 9), none, []⟩,
  ⟨some 171, .bin .add 3 (.t 169) (.t 170) 3, none, [169, 170]⟩,
  ⟨some 172, .iaddr 38 (.sl 1) (.t 168) (.t 171), none, []⟩,
  ⟨some 173, .load 49 none (.t 172), none, [168, 171, 172]⟩,
  ⟨some 174, .move (.t 1), none, []⟩,
  ⟨some 175, .move (.t 17), none, [17]⟩,
  ⟨some 176, .iaddr 38 (.sl 1) (.t 174) (.t 175), none, []⟩,
  ⟨some 177, .load 49 none (.t 176), none, [174, 175, 176]⟩,
  ⟨some 178, .move (.t 16), none, []⟩,
  ⟨some 179, .call n_bits_Add32 [(.t 173), (.t 177), (.t 178)] [49, 49, 49], none, [173, 177, 178]⟩,
  ⟨some 163, .move (.t 179), none, [179]⟩,
  ⟨some 180, .extr (.t 163) 0, none, []⟩,
  ⟨some 181, .extr (.t 163) 1, none, [163]⟩,
  ⟨some 182, .iaddr 38 (.sl 1) (.t 164) (.t 167), none, []⟩,
  ⟨none, .store 49 none (.t 182) (.t 180), none, [164, 167, 180, 182]⟩,
  ⟨some 16, .assign (.t 181), none, [181]⟩] (some [⟨0, []⟩, ⟨1, []⟩, ⟨2, []⟩, ⟨3, []⟩, ⟨4, []⟩, ⟨5, []⟩, ⟨6, []⟩, ⟨7, []⟩, ⟨8, []⟩, ⟨10, []⟩, ⟨11, []⟩, ⟨12, []⟩, ⟨14, []⟩, ⟨9, []⟩, ⟨13, []⟩, ⟨15, []⟩, ⟨16, []⟩, ⟨17, []⟩, ⟨18, []⟩, ⟨19, []⟩, ⟨20, []⟩, ⟨21, []⟩]) [0, 1, 5, 6, 7, 8, 9, 16, 24, 159, 160, 100000])))
 k4_limbs_long)
def k5_limbs_long : IR := .tail [0, 1, 5, 6, 7, 8, 9, 16, 24, 159, 160, 100000] j5_limbs_long
def w3_limbs_long : IR :=
 (.seq (.reg 29 [⟨some 161, .bin .lss 3 (.t 160) (.t 159) 3, none, []⟩] none [0, 1, 5, 6, 7, 8, 9, 16, 24, 159, 160, 161, 100000])
 (.seq (.cond [0, 1, 5, 6, 7, 8, 9, 16, 24, 159, 160, 100000] (.t 161) .skip (.exit 7))
 k5_limbs_long))
def l3_limbs_long : IR := .loop [0, 1, 5, 6, 7, 8, 9, 16, 24, 159, 160, 100000] w3_limbs_long
def j6_limbs_long : IR :=
 (.reg 33 [⟨some 184, .move (.t 0), none, []⟩,
  ⟨some 185, .move (.t 9), none, []⟩,
  ⟨some 186, .move (.t 5), none, []⟩,
  ⟨some 187, .bin .add 3 (.t 185) (.t 186) 3, none, [185, 186]⟩,
  ⟨some 188, .iaddr 38 (.sl 1) (.t 184) (.t 187), none, []⟩,
  ⟨some 189, .load 49 none (.t 188), none, [188]⟩,
  ⟨some 190, .move (.t 16), none, [16]⟩,
  ⟨some 191, .bin .add 49 (.t 189) (.t 190) 49, none, [189, 190]⟩,
  ⟨some 192, .iaddr 38 (.sl 1) (.t 184) (.t 187), none, []⟩,
  ⟨none, .store 49 none (.t 192) (.t 191), none, [184, 187, 191, 192]⟩] none [0, 1, 5, 6, 7, 8, 9, 24, 100000])
def k6_limbs_long : IR := .tail [0, 1, 5, 6, 7, 8, 9, 16, 24, 100000] j6_limbs_long
def j7_limbs_long : IR :=
 (.seq (.reg 26 [⟨some 153, .move (.t 6), none, []⟩,
  ⟨some 154, .move (.t 9), none, []⟩,
  ⟨some 155, .iaddr 38 (.sl 1) (.t 153) (.t 154), none, []⟩,
  ⟨some 156, .load 49 none (.t 155), none, [155]⟩,
  ⟨some 157, .bin .sub 49 (.t 156) (.c (Value.int IntKind.u32 1)) 49, none, [156]⟩,
  ⟨some 158, .iaddr 38 (.sl 1) (.t 153) (.t 154), none, []⟩,
  ⟨none, .store 49 none (.t 158) (.t 157), none, [153, 154, 157, 158]⟩] none [0, 1, 5, 6, 7, 8, 9, 24, 100000])
 (.seq (.reg 27 [⟨some 16, .assign (.c (Value.int IntKind.u32 0)), none, []⟩] none [0, 1, 5, 6, 7, 8, 9, 16, 24, 100000])
 (.seq (.seq (.reg 28 [⟨some 159, .move (.t 5), none, []⟩,
  ⟨some 160, .move (.c (Value.int IntKind.i64 0)), none, []⟩] none [0, 1, 5, 6, 7, 8, 9, 16, 24, 159, 160, 100000])
 (.block 7 l3_limbs_long))
 k6_limbs_long)))
def k7_limbs_long : IR := .tail [0, 1, 5, 6, 7, 8, 9, 24, 100000] j7_limbs_long
def j8_limbs_long : IR :=
 (.seq (.reg 23 [⟨some 129, .move (.t 0), none, []⟩,
  ⟨some 130, .move (.t 9), none, []⟩,
  ⟨some 131, .move (.t 5), none, []⟩,
  ⟨some 132, .bin .add 3 (.t 130) (.t 131) 3, none, [130, 131]⟩,
  ⟨some 133, .move (.t 0), none, []⟩,
  ⟨some 134, .move (.t 9), none, []⟩,
  ⟨some 135, .move (.t 5), none, []⟩,
  ⟨some 136, .bin .add 3 (.t 134) (.t 135) 3, none, [134, 135]⟩,
  ⟨some 137, .iaddr 38 (.sl 1) (.t 133) (.t 136), none, []⟩,
  ⟨some 138, .load 49 none (.t 137), none, [133, 136, 137]⟩,
  ⟨some 139, .move (.t 13), none, [13]⟩,
  ⟨some 140, .conv 31 49 (.int .u32) (.t 139), none, [139]⟩,
  ⟨some 141, .move (.t 14), none, []⟩,
  ⟨some 142, .call n_bits_Sub32 [(.t 138), (.t 140), (.t 141)] [49, 49, 49], none, [138, 140, 141]⟩,
  ⟨some 128, .move (.t 142), none, [142]⟩,
  ⟨some 143, .extr (.t 128) 0, none, []⟩,
  ⟨some 144, .extr (.t 128) 1, none, [128]⟩,
  ⟨some 145, .iaddr 38 (.sl 1) (.t 129) (.t 132), none, []⟩,
  ⟨none, .store 49 none (.t 145) (.t 143), none, [129, 132, 143, 145]⟩,
  ⟨some 14, .assign (.t 144), none, [144]⟩] none [0, 1, 5, 6, 7, 8, 9, 11, 14, 24, 100000])
 (.seq (.reg 24 [⟨some 146, .move (.t 6), none, []⟩,
  ⟨some 147, .move (.t 9), none, []⟩,
  ⟨some 148, .move (.t 11), none, [11]⟩,
  ⟨some 149, .conv 31 49 (.int .u32) (.t 148), none, [148]⟩,
  ⟨some 150, .iaddr 38 (.sl 1) (.t 146) (.t 147), none, []⟩,
  ⟨none, .store 49 none (.t 150) (.t 149), none, [146, 147, 149, 150]⟩] none [0, 1, 5, 6, 7, 8, 9, 14, 24, 100000])
 (.seq (.seq (.reg 25 [⟨some 151, .move (.t 14), none, [14]⟩,
  ⟨some 152, .bin .eql 49 (.t 151) (.c (Value.int IntKind.u32 0)) 49, none, [151]⟩] none [0, 1, 5, 6, 7, 8, 9, 24, 152, 100000])
 (.cond [0, 1, 5, 6, 7, 8, 9, 24, 100000] (.t 152) (.exit 1) .skip))
 k7_limbs_long)))
def k8_limbs_long : IR := .tail [0, 1, 5, 6, 7, 8, 9, 11, 13, 14, 24, 100000] j8_limbs_long
def j9_limbs_long : IR :=
 (.seq (.reg 14 [⟨some 13, .assign (.c (Value.int IntKind.u64 0)), none, []⟩] none [0, 1, 5, 6, 7, 8, 9, 11, 13, 24, 100000])
 (.seq (.reg 15 [⟨some 14, .assign (.c (Value.int IntKind.u32 0)), none, []⟩] none [0, 1, 5, 6, 7, 8, 9, 11, 13, 14, 24, 100000])
 (.seq (.seq (.reg 16 [⟨some 94, .move (.t 5), none, []⟩,
  ⟨some 95, .move (.c (Value.int IntKind.i64 0)), none, []⟩] none [0, 1, 5, 6, 7, 8, 9, 11, 13, 14, 24, 94, 95, 100000])
 (.block 5 l2_limbs_long))
 k8_limbs_long)))
def k9_limbs_long : IR := .tail [0, 1, 5, 6, 7, 8, 9, 11, 24, 100000] j9_limbs_long
def j10_limbs_long : IR :=
 (.reg 6 [⟨some 44, .move (.t 9), none, []⟩,
  ⟨some 45, .bin .sub 3 (.t 44) (.c (Value.int IntKind.i64 1)) 3, none, [44]⟩,
  ⟨some 9, .assign (.t 45), none, [45]⟩] none [0, 1, 5, 6, 7, 8, 9, 24, 100000])
def k10_limbs_long : IR := .tail [0, 1, 5, 6, 7, 8, 9, 24, 100000] j10_limbs_long
def j11_limbs_long : IR :=
 (.seq (.block 1 (.scope (.seq (.reg 7 [⟨some 46, .move (.t 0), none, []⟩,
  ⟨some 47, .move (.t 9), none, []⟩,
  ⟨some 48, .move (.t 5), none, []⟩,
  ⟨some 49, .bin .add 3 (.t 47) (.t 48) 3, none, [47, 48]⟩,
  ⟨some 50, .iaddr 38 (.sl 1) (.t 46) (.t 49), none, []⟩,
  ⟨some 51, .load 49 none (.t 50), none, [46, 49, 50]⟩,
  ⟨some 52, .conv 49 31 (.int .u64) (.t 51), none, [51]⟩,
  ⟨some 53, .bin .shl 31 (.t 52) (.c (Value.int IntKind.u64 32)) 53, none, [52]⟩,
  ⟨some 54, .move (.t 0), none, []⟩,
  ⟨some 55, .move (.t 9), none, []⟩,
  ⟨some 56, .move (.t 5), none, []⟩,
  ⟨some 57, .bin .add 3 (.t 55) (.t 56) 3, none, [55, 56]⟩,
  ⟨some 58, .bin .sub 3 (.t 57) (.c (Value.int IntKind.i64 1)) 3, none, [57]⟩,
  ⟨some 59, .iaddr 38 (.sl 1) (.t 54) (.t 58), none, []⟩,
  ⟨some 60, .load 49 none (.t 59), none, [54, 58, 59]⟩,
  ⟨some 61, .conv 49 31 (.int .u64) (.t 60), none, [60]⟩,
  ⟨some 62, .bin .or 31 (.t 53) (.t 61) 31, none, [53, 61]⟩,
  ⟨some 10, .assign (.t 62), none, [62]⟩] (some [⟨0, []⟩, ⟨1, []⟩, ⟨2, []⟩, ⟨3, []⟩, ⟨4, []⟩, ⟨8, []⟩, ⟨9, []⟩, ⟨10, []⟩, ⟨11, []⟩, ⟨12, []⟩, ⟨13, []⟩, ⟨5, []⟩, ⟨6, []⟩, ⟨7, []⟩, ⟨14, []⟩, ⟨15, []⟩, ⟨16, []⟩, ⟨17, []⟩]) [0, 1, 5, 6, 7, 8, 9, 10, 24, 100000])
 (.seq (.reg 8 [⟨some 63, .move (.t 10), none, []⟩,
  ⟨some 64, .move (.t 7), none, []⟩,
  ⟨some 65, .bin .quo 31 (.t 63) (.t 64) 31, none, [63, 64]⟩,
  ⟨some 66, .move (.t 10), none, [10]⟩,
  ⟨some 67, .move (.t 7), none, []⟩,
  ⟨some 68, .bin .rem 31 (.t 66) (.t 67) 31, none, [66, 67]⟩,
  ⟨some 11, .assign (.t 65), none, [65]⟩,
  ⟨some 12, .assign (.t 68), none, [68]⟩] (some [⟨0, []⟩, ⟨1, []⟩, ⟨2, []⟩, ⟨3, []⟩, ⟨4, []⟩, ⟨5, []⟩, ⟨6, []⟩, ⟨7, []⟩]) [0, 1, 5, 6, 7, 8, 9, 11, 12, 24, 100000])
 (.seq (.label 0)
 (.seq (.block 2 l1_limbs_long)
 k9_limbs_long))))))
 k10_limbs_long)
def k11_limbs_long : IR := .tail [0, 1, 5, 6, 7, 8, 9, 24, 100000] j11_limbs_long
def w0_limbs_long : IR :=
 (.seq (.seq (.reg 5 [⟨some 42, .move (.t 9), none, []⟩,
  ⟨some 43, .bin .geq 3 (.t 42) (.c (Value.int IntKind.i64 0)) 3, none, [42]⟩] none [0, 1, 5, 6, 7, 8, 9, 24, 43, 100000])
 (.cond [0, 1, 5, 6, 7, 8, 9, 24, 100000] (.t 43) .skip (.exit 0)))
 k11_limbs_long)
def l0_limbs_long : IR := .loop [0, 1, 5, 6, 7, 8, 9, 24, 100000] w0_limbs_long
def j12_limbs_long : IR :=
 (.seq (.reg 34 [⟨some 193, .move (.t 6), none, []⟩,
  ⟨some 4, .assign (.t 193), none, []⟩] none [4, 6, 24, 193, 100000])
 .ret)
def k12_limbs_long : IR := .tail [6, 24, 100000] j12_limbs_long
def b_limbs_long : IR :=
 (.seq (.reg 0 [⟨some 4, .assign (.nilS 1), none, [4]⟩] none [0, 1, 100000])
 (.seq (.reg 1 [⟨some 18, .move (.t 1), none, []⟩,
  ⟨some 19, .len 38 false (.t 18), none, [18]⟩,
  ⟨some 5, .assign (.t 19), none, [19]⟩] none [0, 1, 5, 100000])
 (.seq (.reg 2 [⟨some 20, .move (.t 0), none, []⟩,
  ⟨some 21, .len 38 false (.t 20), none, [20]⟩,
  ⟨some 22, .move (.t 5), none, []⟩,
  ⟨some 23, .bin .sub 3 (.t 21) (.t 22) 3, none, [21, 22]⟩,
  ⟨some 24, .mk 38 1 4 (.v (.int .u32 0)) (.t 23) (.t 23), none, [23]⟩,
  ⟨some 6, .assign (.t 24), none, []⟩] none [0, 1, 5, 6, 24, 100000])
 (.seq (.reg 3 [⟨some 25, .move (.t 1), none, []⟩,
  ⟨some 26, .move (.t 5), none, []⟩,
  ⟨some 27, .bin .sub 3 (.t 26) (.c (Value.int IntKind.i64 1)) 3, none, [26]⟩,
  ⟨some 28, .iaddr 38 (.sl 1) (.t 25) (.t 27), none, []⟩,
  ⟨some 29, .load 49 none (.t 28), none, [25, 27, 28]⟩,
  ⟨some 30, .conv 49 31 (.int .u64) (.t 29), none, [29]⟩,
  ⟨some 31, .move (.t 1), none, []⟩,
  ⟨some 32, .move (.t 5), none, []⟩,
  ⟨some 33, .bin .sub 3 (.t 32) (.c (Value.int IntKind.i64 2)) 3, none, [32]⟩,
  ⟨some 34, .iaddr 38 (.sl 1) (.t 31) (.t 33), none, []⟩,
  ⟨some 35, .load 49 none (.t 34), none, []⟩,
  ⟨some 36, .conv 49 31 (.int .u64) (.t 35), none, [35]⟩,
  ⟨some 7, .assign (.t 30), none, [30, 31, 33, 34]⟩,
  ⟨some 8, .assign (.t 36), none, [36]⟩] (some [⟨0, []⟩, ⟨1, []⟩, ⟨2, []⟩, ⟨3, []⟩, ⟨6, []⟩, ⟨7, []⟩, ⟨8, []⟩, ⟨9, []⟩, ⟨4, []⟩, ⟨5, []⟩, ⟨10, []⟩, ⟨11, []⟩, ⟨12, [10]⟩, ⟨13, []⟩]) [0, 1, 5, 6, 7, 8, 24, 100000])
 (.seq (.seq (.reg 4 [⟨some 37, .move (.t 0), none, []⟩,
  ⟨some 38, .len 38 false (.t 37), none, [37]⟩,
  ⟨some 39, .move (.t 5), none, []⟩,
  ⟨some 40, .bin .sub 3 (.t 38) (.t 39) 3, none, [38, 39]⟩,
  ⟨some 41, .bin .sub 3 (.t 40) (.c (Value.int IntKind.i64 1)) 3, none, [40]⟩,
  ⟨some 9, .assign (.t 41), none, [41]⟩] none [0, 1, 5, 6, 7, 8, 9, 24, 100000])
 (.block 0 l0_limbs_long))
 k12_limbs_long)))))
def a_limbs_long : AFunc := ⟨194, [.tmp 4], b_limbs_long⟩

def j0_limbs_down : IR :=
 (.reg 12 [⟨some 46, .move (.t 5), none, []⟩,
  ⟨some 47, .move (.t 6), none, [6]⟩,
  ⟨some 48, .move (.t 7), none, [7]⟩,
  ⟨some 49, .move (.t 1), none, []⟩,
  ⟨some 50, .bin .rem 3 (.t 49) (.c (Value.int IntKind.i64 32)) 3, none, [49]⟩,
  ⟨some 51, .bin .shr 31 (.t 48) (.t 50) 3, none, [48, 50]⟩,
  ⟨some 52, .call n_limbs_low [(.t 51)] [31], none, [51]⟩,
  ⟨some 53, .iaddr 38 (.sl 1) (.t 46) (.t 47), none, []⟩,
  ⟨none, .store 49 none (.t 53) (.t 52), none, [46, 47, 52, 53]⟩] none [0, 1, 5, 9, 15, 17, 18, 21, 23, 24])
def k0_limbs_down : IR := .tail [0, 1, 5, 6, 7, 9, 15, 17, 18, 21, 23, 24] j0_limbs_down
def j1_limbs_down : IR :=
 (.reg 13 [⟨some 54, .bin .add 3 (.t 24) (.c (Value.int IntKind.i64 1)) 3, none, []⟩,
  ⟨some 24, .move (.t 54), none, [54]⟩] none [0, 1, 5, 9, 15, 17, 18, 21, 23, 24])
def k1_limbs_down : IR := .tail [0, 1, 5, 9, 15, 17, 18, 21, 23, 24] j1_limbs_down
def j2_limbs_down : IR :=
 (.seq (.block 1 (.seq (.reg 8 [⟨some 26, .move (.t 24), none, []⟩,
  ⟨some 6, .assign (.t 26), none, [26]⟩] none [0, 1, 5, 6, 9, 15, 17, 18, 21, 23, 24])
 (.seq (.reg 9 [⟨some 27, .move (.t 0), none, []⟩,
  ⟨some 28, .move (.t 6), none, []⟩,
  ⟨some 29, .iaddr 38 (.sl 1) (.t 27) (.t 28), none, []⟩,
  ⟨some 30, .load 49 none (.t 29), none, [27, 28, 29]⟩,
  ⟨some 31, .conv 49 31 (.int .u64) (.t 30), none, [30]⟩,
  ⟨some 7, .assign (.t 31), none, [31]⟩] none [0, 1, 5, 6, 7, 9, 15, 17, 18, 21, 23, 24])
 (.seq (.seq (.reg 10 [⟨some 32, .move (.t 6), none, []⟩,
  ⟨some 33, .bin .add 3 (.t 32) (.c (Value.int IntKind.i64 1)) 3, none, [32]⟩,
  ⟨some 34, .move (.t 0), none, []⟩,
  ⟨some 35, .len 38 false (.t 34), none, [34]⟩,
  ⟨some 36, .bin .lss 3 (.t 33) (.t 35) 3, none, [33, 35]⟩] none [0, 1, 5, 6, 7, 9, 15, 17, 18, 21, 23, 24, 36])
 (.cond [0, 1, 5, 6, 7, 9, 15, 17, 18, 21, 23, 24] (.t 36) (.reg 11 [⟨some 37, .move (.t 7), none, []⟩,
  ⟨some 38, .move (.t 0), none, []⟩,
  ⟨some 39, .move (.t 6), none, []⟩,
  ⟨some 40, .bin .add 3 (.t 39) (.c (Value.int IntKind.i64 1)) 3, none, [39]⟩,
  ⟨some 41, .iaddr 38 (.sl 1) (.t 38) (.t 40), none, []⟩,
  ⟨some 42, .load 49 none (.t 41), none, [38, 40, 41]⟩,
  ⟨some 43, .conv 49 31 (.int .u64) (.t 42), none, [42]⟩,
  ⟨some 44, .bin .shl 31 (.t 43) (.c (Value.int IntKind.u64 32)) 53, none, [43]⟩,
  ⟨some 45, .bin .or 31 (.t 37) (.t 44) 31, none, [37, 44]⟩,
  ⟨some 7, .assign (.t 45), none, [45]⟩] none [0, 1, 5, 6, 7, 9, 15, 17, 18, 21, 23, 24]) .skip))
 k0_limbs_down))))
 k1_limbs_down)
def k2_limbs_down : IR := .tail [0, 1, 5, 9, 15, 17, 18, 21, 23, 24] j2_limbs_down
def w0_limbs_down : IR :=
 (.seq (.reg 7 [⟨some 25, .bin .lss 3 (.t 24) (.t 23) 3, none, []⟩] none [0, 1, 5, 9, 15, 17, 18, 21, 23, 24, 25])
 (.seq (.cond [0, 1, 5, 9, 15, 17, 18, 21, 23, 24] (.t 25) .skip (.exit 0))
 k2_limbs_down))
def l0_limbs_down : IR := .loop [0, 1, 5, 9, 15, 17, 18, 21, 23, 24] w0_limbs_down
def j3_limbs_down : IR :=
 (.seq (.reg 14 [⟨some 55, .move (.t 5), none, []⟩,
  ⟨some 56, .call n_limbs_trim [(.t 55)] [38], none, [5, 21, 55]⟩,
  ⟨some 4, .assign (.t 56), none, []⟩] none [4, 56])
 .ret)
def k3_limbs_down : IR := .tail [5, 21] j3_limbs_down
def j4_limbs_down : IR :=
 (.seq (.reg 4 [⟨some 15, .move (.t 0), none, []⟩,
  ⟨some 16, .move (.t 1), none, []⟩,
  ⟨some 17, .bin .quo 3 (.t 16) (.c (Value.int IntKind.i64 32)) 3, none, [16]⟩,
  ⟨some 18, .slice 38 (.sl 1) (.t 15) (some (.t 17)) none none, none, []⟩,
  ⟨some 0, .assign (.t 18), none, []⟩] none [0, 1, 9, 15, 17, 18])
 (.seq (.reg 5 [⟨some 19, .move (.t 0), none, []⟩,
  ⟨some 20, .len 38 false (.t 19), none, [19]⟩,
  ⟨some 21, .mk 38 1 4 (.v (.int .u32 0)) (.t 20) (.t 20), none, [20]⟩,
  ⟨some 5, .assign (.t 21), none, []⟩] none [0, 1, 5, 9, 15, 17, 18, 21])
 (.seq (.seq (.reg 6 [⟨some 22, .move (.t 0), none, []⟩,
  ⟨some 23, .len 38 false (.t 22), none, [22]⟩,
  ⟨some 24, .move (.c (Value.int IntKind.i64 0)), none, []⟩] none [0, 1, 5, 9, 15, 17, 18, 21, 23, 24])
 (.block 0 l0_limbs_down))
 k3_limbs_down)))
def k4_limbs_down : IR := .tail [0, 1, 9, 15, 17, 18] j4_limbs_down
def b_limbs_down : IR :=
 (.seq (.reg 0 [⟨some 4, .assign (.nilS 1), none, [4]⟩] none [0, 1, 9, 15, 17, 18])
 (.seq (.reg 1 [⟨some 8, .move (.t 0), none, []⟩,
  ⟨some 9, .call n_limbs_trim [(.t 8)] [38], none, [8]⟩,
  ⟨some 0, .assign (.t 9), none, []⟩] none [0, 1, 9, 15, 17, 18])
 (.seq (.seq (.reg 2 [⟨some 10, .move (.t 1), none, []⟩,
  ⟨some 11, .bin .quo 3 (.t 10) (.c (Value.int IntKind.i64 32)) 3, none, [10]⟩,
  ⟨some 12, .move (.t 0), none, []⟩,
  ⟨some 13, .len 38 false (.t 12), none, [12]⟩,
  ⟨some 14, .bin .geq 3 (.t 11) (.t 13) 3, none, [11, 13]⟩] none [0, 1, 9, 14, 15, 17, 18])
 (.cond [0, 1, 9, 15, 17, 18] (.t 14) (.seq (.reg 3 [⟨some 4, .assign (.nilS 1), none, []⟩] none [4, 56])
 .ret) .skip))
 k4_limbs_down)))
def a_limbs_down : AFunc := ⟨57, [.tmp 4], b_limbs_down⟩

def j0_limbs_DivMod : IR :=
 (.reg 11 [⟨some 38, .move (.t 9), none, []⟩,
  ⟨some 39, .bin .sub 3 (.t 38) (.c (Value.int IntKind.i64 1)) 3, none, [38]⟩,
  ⟨some 9, .assign (.t 39), none, [39]⟩] none [0, 1, 7, 8, 9, 15, 17, 32])
def k0_limbs_DivMod : IR := .tail [0, 1, 7, 8, 9, 15, 17, 32] j0_limbs_DivMod
def j1_limbs_DivMod : IR :=
 (.seq (.block 1 (.seq (.reg 12 [⟨some 40, .move (.t 8), none, []⟩,
  ⟨some 41, .bin .shl 31 (.t 40) (.c (Value.int IntKind.u64 32)) 53, none, [40]⟩,
  ⟨some 42, .move (.t 0), none, []⟩,
  ⟨some 43, .move (.t 9), none, []⟩,
  ⟨some 44, .iaddr 38 (.sl 1) (.t 42) (.t 43), none, []⟩,
  ⟨some 45, .load 49 none (.t 44), none, [42, 43, 44]⟩,
  ⟨some 46, .conv 49 31 (.int .u64) (.t 45), none, [45]⟩,
  ⟨some 47, .bin .or 31 (.t 41) (.t 46) 31, none, [41, 46]⟩,
  ⟨some 8, .assign (.t 47), none, [47]⟩] none [0, 1, 7, 8, 9, 15, 17, 32])
 (.seq (.reg 13 [⟨some 48, .move (.t 7), none, []⟩,
  ⟨some 49, .move (.t 9), none, []⟩,
  ⟨some 50, .move (.t 8), none, []⟩,
  ⟨some 51, .move (.t 1), none, []⟩,
  ⟨some 52, .iaddr 38 (.sl 1) (.t 51) (.c (Value.int IntKind.i64 0)), none, []⟩,
  ⟨some 53, .load 49 none (.t 52), none, [51, 52]⟩,
  ⟨some 54, .conv 49 31 (.int .u64) (.t 53), none, [53]⟩,
  ⟨some 55, .bin .quo 31 (.t 50) (.t 54) 31, none, [50, 54]⟩,
  ⟨some 56, .conv 31 49 (.int .u32) (.t 55), none, [55]⟩,
  ⟨some 57, .iaddr 38 (.sl 1) (.t 48) (.t 49), none, []⟩,
  ⟨none, .store 49 none (.t 57) (.t 56), none, [48, 49, 56, 57]⟩] none [0, 1, 7, 8, 9, 15, 17, 32])
 (.reg 14 [⟨some 58, .move (.t 8), none, []⟩,
  ⟨some 59, .move (.t 1), none, []⟩,
  ⟨some 60, .iaddr 38 (.sl 1) (.t 59) (.c (Value.int IntKind.i64 0)), none, []⟩,
  ⟨some 61, .load 49 none (.t 60), none, [59, 60]⟩,
  ⟨some 62, .conv 49 31 (.int .u64) (.t 61), none, [61]⟩,
  ⟨some 63, .bin .rem 31 (.t 58) (.t 62) 31, none, [58, 62]⟩,
  ⟨some 8, .assign (.t 63), none, [63]⟩] none [0, 1, 7, 8, 9, 15, 17, 32]))))
 k0_limbs_DivMod)
def k1_limbs_DivMod : IR := .tail [0, 1, 7, 8, 9, 15, 17, 32] j1_limbs_DivMod
def w0_limbs_DivMod : IR :=
 (.seq (.seq (.reg 10 [⟨some 36, .move (.t 9), none, []⟩,
  ⟨some 37, .bin .geq 3 (.t 36) (.c (Value.int IntKind.i64 0)) 3, none, [36]⟩] none [0, 1, 7, 8, 9, 15, 17, 32, 37])
 (.cond [0, 1, 7, 8, 9, 15, 17, 32] (.t 37) .skip (.exit 0)))
 k1_limbs_DivMod)
def l0_limbs_DivMod : IR := .loop [0, 1, 7, 8, 9, 15, 17, 32] w0_limbs_DivMod
def j2_limbs_DivMod : IR :=
 (.seq (.reg 15 [⟨some 64, .move (.t 7), none, []⟩,
  ⟨some 65, .call n_limbs_trim [(.t 64)] [38], none, [7, 32, 64]⟩,
  ⟨some 66, .move (.t 8), none, [8]⟩,
  ⟨some 67, .call n_limbs_From [(.t 66)] [31], none, [66]⟩,
  ⟨some 4, .assign (.t 65), none, []⟩,
  ⟨some 5, .assign (.t 67), none, []⟩,
  ⟨some 6, .assign (.c (Value.int IntKind.i64 0)), none, []⟩] none [4, 5, 6, 26, 65, 67, 93, 100])
 .ret)
def k2_limbs_DivMod : IR := .tail [7, 8, 32] j2_limbs_DivMod
def j3_limbs_DivMod : IR :=
 (.block 3 (.reg 19 [⟨some 86, .move (.t 11), none, []⟩,
  ⟨some 87, .lit 38 1 [(.c (Value.int IntKind.u32 0))], none, []⟩,
  ⟨some 88, .append 38 38 false 1 4 (.t 86) (.t 87), none, [86, 87]⟩,
  ⟨some 11, .assign (.t 88), none, []⟩] none [0, 10, 11, 12, 15, 77, 80, 88]))
def k3_limbs_DivMod : IR := .tail [0, 10, 11, 12, 15, 77, 80, 88] j3_limbs_DivMod
def w1_limbs_DivMod : IR :=
 (.seq (.seq (.reg 18 [⟨some 81, .move (.t 11), none, []⟩,
  ⟨some 82, .len 38 false (.t 81), none, [81]⟩,
  ⟨some 83, .move (.t 0), none, []⟩,
  ⟨some 84, .len 38 false (.t 83), none, [83]⟩,
  ⟨some 85, .bin .leq 3 (.t 82) (.t 84) 3, none, [82, 84]⟩] none [0, 10, 11, 12, 15, 77, 80, 85, 88])
 (.cond [0, 10, 11, 12, 15, 77, 80, 88] (.t 85) .skip (.exit 2)))
 k3_limbs_DivMod)
def l1_limbs_DivMod : IR := .loop [0, 10, 11, 12, 15, 77, 80, 88] w1_limbs_DivMod
def j4_limbs_DivMod : IR :=
 (.seq (.reg 20 [⟨some 89, .move (.t 11), none, []⟩,
  ⟨some 90, .move (.t 12), none, []⟩,
  ⟨some 91, .call n_limbs_long [(.t 89), (.t 90)] [38, 38], none, [89, 90]⟩,
  ⟨some 13, .assign (.t 91), none, []⟩] none [10, 11, 12, 13, 77, 80, 88, 91])
 (.seq (.reg 21 [⟨some 92, .move (.t 13), none, []⟩,
  ⟨some 93, .call n_limbs_trim [(.t 92)] [38], none, [13, 91, 92]⟩,
  ⟨some 94, .move (.t 11), none, []⟩,
  ⟨some 95, .move (.t 12), none, []⟩,
  ⟨some 96, .len 38 false (.t 95), none, [12, 80, 95]⟩,
  ⟨some 97, .slice 38 (.sl 1) (.t 94) none (some (.t 96)) none, none, []⟩,
  ⟨some 98, .call n_limbs_trim [(.t 97)] [38], none, [11, 77, 88, 94, 96, 97]⟩,
  ⟨some 99, .move (.t 10), none, [10]⟩,
  ⟨some 100, .call n_limbs_down [(.t 98), (.t 99)] [38, 3], none, [98, 99]⟩,
  ⟨some 4, .assign (.t 93), none, []⟩,
  ⟨some 5, .assign (.t 100), none, []⟩,
  ⟨some 6, .assign (.c (Value.int IntKind.i64 0)), none, []⟩] (some [⟨0, []⟩, ⟨2, []⟩, ⟨3, []⟩, ⟨4, []⟩, ⟨5, []⟩, ⟨7, []⟩, ⟨1, []⟩, ⟨6, []⟩, ⟨8, []⟩, ⟨9, []⟩, ⟨10, []⟩, ⟨11, []⟩]) [4, 5, 6, 26, 65, 67, 93, 100])
 .ret))
def k4_limbs_DivMod : IR := .tail [10, 11, 12, 77, 80, 88] j4_limbs_DivMod
def j5_limbs_DivMod : IR :=
 (.seq (.reg 16 [⟨some 68, .move (.t 1), none, []⟩,
  ⟨some 69, .move (.t 1), none, []⟩,
  ⟨some 70, .len 38 false (.t 69), none, [69]⟩,
  ⟨some 71, .bin .sub 3 (.t 70) (.c (Value.int IntKind.i64 1)) 3, none, [70]⟩,
  ⟨some 72, .iaddr 38 (.sl 1) (.t 68) (.t 71), none, []⟩,
  ⟨some 73, .load 49 none (.t 72), none, [68, 71, 72]⟩,
  ⟨some 74, .call n_bits_LeadingZeros32 [(.t 73)] [49], none, [73]⟩,
  ⟨some 10, .assign (.t 74), none, [74]⟩] none [0, 1, 10, 15, 17])
 (.seq (.reg 17 [⟨some 75, .move (.t 0), none, []⟩,
  ⟨some 76, .move (.t 10), none, []⟩,
  ⟨some 77, .call n_limbs_up [(.t 75), (.t 76)] [38, 3], none, [75, 76]⟩,
  ⟨some 78, .move (.t 1), none, []⟩,
  ⟨some 79, .move (.t 10), none, []⟩,
  ⟨some 80, .call n_limbs_up [(.t 78), (.t 79)] [38, 3], none, [1, 17, 78, 79]⟩,
  ⟨some 11, .assign (.t 77), none, []⟩,
  ⟨some 12, .assign (.t 80), none, []⟩] none [0, 10, 11, 12, 15, 77, 80, 88])
 (.seq (.block 2 l1_limbs_DivMod)
 k4_limbs_DivMod)))
def k5_limbs_DivMod : IR := .tail [0, 1, 15, 17] j5_limbs_DivMod
def j6_limbs_DivMod : IR :=
 (.seq (.seq (.reg 6 [⟨some 27, .move (.t 1), none, []⟩,
  ⟨some 28, .len 38 false (.t 27), none, [27]⟩,
  ⟨some 29, .bin .eql 3 (.t 28) (.c (Value.int IntKind.i64 1)) 3, none, [28]⟩] none [0, 1, 15, 17, 29])
 (.cond [0, 1, 15, 17] (.t 29) (.seq (.reg 7 [⟨some 30, .move (.t 0), none, []⟩,
  ⟨some 31, .len 38 false (.t 30), none, [30]⟩,
  ⟨some 32, .mk 38 1 4 (.v (.int .u32 0)) (.t 31) (.t 31), none, [31]⟩,
  ⟨some 7, .assign (.t 32), none, []⟩] none [0, 1, 7, 15, 17, 32])
 (.seq (.reg 8 [⟨some 8, .assign (.c (Value.int IntKind.u64 0)), none, []⟩] none [0, 1, 7, 8, 15, 17, 32])
 (.seq (.seq (.reg 9 [⟨some 33, .move (.t 0), none, []⟩,
  ⟨some 34, .len 38 false (.t 33), none, [33]⟩,
  ⟨some 35, .bin .sub 3 (.t 34) (.c (Value.int IntKind.i64 1)) 3, none, [34]⟩,
  ⟨some 9, .assign (.t 35), none, [35]⟩] none [0, 1, 7, 8, 9, 15, 17, 32])
 (.block 0 l0_limbs_DivMod))
 k2_limbs_DivMod))) .skip))
 k5_limbs_DivMod)
def k6_limbs_DivMod : IR := .tail [0, 1, 15, 17] j6_limbs_DivMod
def j7_limbs_DivMod : IR :=
 (.seq (.seq (.reg 4 [⟨some 21, .move (.t 0), none, []⟩,
  ⟨some 22, .move (.t 1), none, []⟩,
  ⟨some 23, .call n_limbs_Cmp [(.t 21), (.t 22)] [38, 38], none, [21, 22]⟩,
  ⟨some 24, .bin .lss 3 (.t 23) (.c (Value.int IntKind.i64 0)) 3, none, [23]⟩] none [0, 1, 15, 17, 24])
 (.cond [0, 1, 15, 17] (.t 24) (.seq (.reg 5 [⟨some 25, .move (.t 0), none, []⟩,
  ⟨some 26, .call n_limbs_Norm [(.t 25)] [38], none, [0, 15, 25]⟩,
  ⟨some 4, .assign (.nilS 1), none, []⟩,
  ⟨some 5, .assign (.t 26), none, []⟩,
  ⟨some 6, .assign (.c (Value.int IntKind.i64 0)), none, []⟩] none [4, 5, 6, 26, 65, 67, 93, 100])
 .ret) .skip))
 k6_limbs_DivMod)
def k7_limbs_DivMod : IR := .tail [0, 1, 15, 17] j7_limbs_DivMod
def b_limbs_DivMod : IR :=
 (.seq (.reg 0 [⟨some 4, .assign (.nilS 1), none, [4]⟩,
  ⟨some 5, .assign (.nilS 1), none, [5]⟩,
  ⟨some 6, .assign (.c (Value.int IntKind.i64 0)), none, [6]⟩] none [0, 1, 15, 17])
 (.seq (.reg 1 [⟨some 14, .move (.t 0), none, []⟩,
  ⟨some 15, .call n_limbs_trim [(.t 14)] [38], none, [14]⟩,
  ⟨some 16, .move (.t 1), none, []⟩,
  ⟨some 17, .call n_limbs_trim [(.t 16)] [38], none, [16]⟩,
  ⟨some 0, .assign (.t 15), none, []⟩,
  ⟨some 1, .assign (.t 17), none, []⟩] none [0, 1, 15, 17])
 (.seq (.seq (.reg 2 [⟨some 18, .move (.t 1), none, []⟩,
  ⟨some 19, .len 38 false (.t 18), none, [18]⟩,
  ⟨some 20, .bin .eql 3 (.t 19) (.c (Value.int IntKind.i64 0)) 3, none, [19]⟩] none [0, 1, 15, 17, 20])
 (.cond [0, 1, 15, 17] (.t 20) (.seq (.reg 3 [⟨some 4, .assign (.nilS 1), none, []⟩,
  ⟨some 5, .assign (.nilS 1), none, []⟩,
  ⟨some 6, .assign (.c (Value.int IntKind.i64 11)), none, []⟩] none [4, 5, 6, 26, 65, 67, 93, 100])
 .ret) .skip))
 k7_limbs_DivMod)))
def a_limbs_DivMod : AFunc := ⟨101, [.tmp 4, .tmp 5, .tmp 6], b_limbs_DivMod⟩

def j0_limbs_Add : IR :=
 (.seq (.reg 11 [⟨some 42, .move (.t 5), none, []⟩,
  ⟨some 43, .move (.t 6), none, []⟩,
  ⟨some 44, .call n_limbs_low [(.t 43)] [31], none, [43]⟩,
  ⟨some 45, .lit 38 1 [(.t 44)], none, [44]⟩,
  ⟨some 46, .append 38 38 false 1 4 (.t 42) (.t 45), none, [42, 45]⟩,
  ⟨some 5, .assign (.t 46), none, []⟩] none [0, 1, 5, 6, 13, 14, 18, 20, 21, 46])
 (.reg 12 [⟨some 47, .move (.t 6), none, []⟩,
  ⟨some 48, .call n_limbs_high [(.t 47)] [31], none, [47]⟩,
  ⟨some 6, .assign (.t 48), none, [48]⟩] none [0, 1, 5, 6, 13, 14, 18, 20, 21, 46]))
def k0_limbs_Add : IR := .tail [0, 1, 5, 6, 13, 14, 18, 20, 21, 46] j0_limbs_Add
def j1_limbs_Add : IR :=
 (.reg 13 [⟨some 49, .bin .add 3 (.t 21) (.c (Value.int IntKind.i64 1)) 3, none, []⟩,
  ⟨some 21, .move (.t 49), none, [49]⟩] none [0, 1, 5, 6, 13, 14, 18, 20, 21, 46])
def k1_limbs_Add : IR := .tail [0, 1, 5, 6, 13, 14, 18, 20, 21, 46] j1_limbs_Add
def j2_limbs_Add : IR :=
 (.seq (.block 1 (.seq (.reg 7 [⟨some 23, .move (.t 21), none, []⟩,
  ⟨some 7, .assign (.t 23), none, [23]⟩] none [0, 1, 5, 6, 7, 13, 14, 18, 20, 21, 46])
 (.seq (.reg 8 [⟨some 24, .move (.t 6), none, []⟩,
  ⟨some 25, .move (.t 0), none, []⟩,
  ⟨some 26, .move (.t 7), none, []⟩,
  ⟨some 27, .iaddr 38 (.sl 1) (.t 25) (.t 26), none, []⟩,
  ⟨some 28, .load 49 none (.t 27), none, [25, 26, 27]⟩,
  ⟨some 29, .conv 49 31 (.int .u64) (.t 28), none, [28]⟩,
  ⟨some 30, .bin .add 31 (.t 24) (.t 29) 31, none, [24, 29]⟩,
  ⟨some 6, .assign (.t 30), none, [30]⟩] none [0, 1, 5, 6, 7, 13, 14, 18, 20, 21, 46])
 (.seq (.seq (.reg 9 [⟨some 31, .move (.t 7), none, []⟩,
  ⟨some 32, .move (.t 1), none, []⟩,
  ⟨some 33, .len 38 false (.t 32), none, [32]⟩,
  ⟨some 34, .bin .lss 3 (.t 31) (.t 33) 3, none, [31, 33]⟩] none [0, 1, 5, 6, 7, 13, 14, 18, 20, 21, 34, 46])
 (.cond [0, 1, 5, 6, 7, 13, 14, 18, 20, 21, 46] (.t 34) (.reg 10 [⟨some 35, .move (.t 6), none, []⟩,
  ⟨some 36, .move (.t 1), none, []⟩,
  ⟨some 37, .move (.t 7), none, [7]⟩,
  ⟨some 38, .iaddr 38 (.sl 1) (.t 36) (.t 37), none, []⟩,
  ⟨some 39, .load 49 none (.t 38), none, [36, 37, 38]⟩,
  ⟨some 40, .conv 49 31 (.int .u64) (.t 39), none, [39]⟩,
  ⟨some 41, .bin .add 31 (.t 35) (.t 40) 31, none, [35, 40]⟩,
  ⟨some 6, .assign (.t 41), none, [41]⟩] none [0, 1, 5, 6, 13, 14, 18, 20, 21, 46]) .skip))
 k0_limbs_Add))))
 k1_limbs_Add)
def k2_limbs_Add : IR := .tail [0, 1, 5, 6, 13, 14, 18, 20, 21, 46] j2_limbs_Add
def w0_limbs_Add : IR :=
 (.seq (.reg 6 [⟨some 22, .bin .lss 3 (.t 21) (.t 20) 3, none, []⟩] none [0, 1, 5, 6, 13, 14, 18, 20, 21, 22, 46])
 (.seq (.cond [0, 1, 5, 6, 13, 14, 18, 20, 21, 46] (.t 22) .skip (.exit 0))
 k2_limbs_Add))
def l0_limbs_Add : IR := .loop [0, 1, 5, 6, 13, 14, 18, 20, 21, 46] w0_limbs_Add
def j3_limbs_Add : IR :=
 (.seq (.reg 14 [⟨some 50, .move (.t 5), none, []⟩,
  ⟨some 51, .move (.t 6), none, [6]⟩,
  ⟨some 52, .conv 31 49 (.int .u32) (.t 51), none, [51]⟩,
  ⟨some 53, .lit 38 1 [(.t 52)], none, [52]⟩,
  ⟨some 54, .append 38 38 false 1 4 (.t 50) (.t 53), none, [5, 18, 46, 50, 53]⟩,
  ⟨some 55, .call n_limbs_trim [(.t 54)] [38], none, [54]⟩,
  ⟨some 4, .assign (.t 55), none, []⟩] none [4, 55])
 .ret)
def k3_limbs_Add : IR := .tail [5, 6, 18, 46] j3_limbs_Add
def j4_limbs_Add : IR :=
 (.seq (.reg 3 [⟨some 15, .move (.t 0), none, []⟩,
  ⟨some 16, .len 38 false (.t 15), none, [15]⟩,
  ⟨some 17, .bin .add 3 (.t 16) (.c (Value.int IntKind.i64 1)) 3, none, [16]⟩,
  ⟨some 18, .mk 38 1 4 (.v (.int .u32 0)) (.c (Value.int IntKind.i64 0)) (.t 17), none, [17]⟩,
  ⟨some 5, .assign (.t 18), none, []⟩] none [0, 1, 5, 13, 14, 18, 46])
 (.seq (.reg 4 [⟨some 6, .assign (.c (Value.int IntKind.u64 0)), none, []⟩] none [0, 1, 5, 6, 13, 14, 18, 46])
 (.seq (.seq (.reg 5 [⟨some 19, .move (.t 0), none, []⟩,
  ⟨some 20, .len 38 false (.t 19), none, [19]⟩,
  ⟨some 21, .move (.c (Value.int IntKind.i64 0)), none, []⟩] none [0, 1, 5, 6, 13, 14, 18, 20, 21, 46])
 (.block 0 l0_limbs_Add))
 k3_limbs_Add)))
def k4_limbs_Add : IR := .tail [0, 1, 13, 14] j4_limbs_Add
def b_limbs_Add : IR :=
 (.seq (.reg 0 [⟨some 4, .assign (.nilS 1), none, [4]⟩] none [0, 1, 13, 14])
 (.seq (.seq (.reg 1 [⟨some 8, .move (.t 0), none, []⟩,
  ⟨some 9, .len 38 false (.t 8), none, [8]⟩,
  ⟨some 10, .move (.t 1), none, []⟩,
  ⟨some 11, .len 38 false (.t 10), none, [10]⟩,
  ⟨some 12, .bin .lss 3 (.t 9) (.t 11) 3, none, [9, 11]⟩] none [0, 1, 12, 13, 14])
 (.cond [0, 1, 13, 14] (.t 12) (.reg 2 [⟨some 13, .move (.t 1), none, []⟩,
  ⟨some 14, .move (.t 0), none, []⟩,
  ⟨some 0, .assign (.t 13), none, []⟩,
  ⟨some 1, .assign (.t 14), none, []⟩] none [0, 1, 13, 14]) .skip))
 k4_limbs_Add))
def a_limbs_Add : AFunc := ⟨56, [.tmp 4], b_limbs_Add⟩

def b_limbs_Bit : IR :=
 (.seq (.reg 0 [⟨some 4, .assign (.c (Value.bool false)), none, [4]⟩] none [0, 1])
 (.seq (.reg 1 [⟨some 5, .move (.t 1), none, []⟩,
  ⟨some 6, .bin .geq 3 (.t 5) (.c (Value.int IntKind.i64 0)) 3, none, [5]⟩,
  ⟨some 7, .move (.t 6), none, [6]⟩,
  ⟨some 8, .move (.t 1), some (2, true), []⟩,
  ⟨some 9, .bin .quo 3 (.t 8) (.c (Value.int IntKind.i64 32)) 3, some (2, true), [8]⟩,
  ⟨some 10, .move (.t 0), some (2, true), []⟩,
  ⟨some 11, .len 38 false (.t 10), some (2, true), [10]⟩,
  ⟨some 12, .bin .lss 3 (.t 9) (.t 11) 3, some (2, true), [9, 11]⟩,
  ⟨some 13, .pick (.t 7) (.t 12) (.c (Value.bool false)), none, [7, 12]⟩,
  ⟨some 14, .move (.t 13), none, [13]⟩,
  ⟨some 15, .move (.t 0), some (9, true), []⟩,
  ⟨some 16, .move (.t 1), some (9, true), []⟩,
  ⟨some 17, .bin .quo 3 (.t 16) (.c (Value.int IntKind.i64 32)) 3, some (9, true), [16]⟩,
  ⟨some 18, .iaddr 38 (.sl 1) (.t 15) (.t 17), some (9, true), []⟩,
  ⟨some 19, .load 49 none (.t 18), some (9, true), [0, 15, 17, 18]⟩,
  ⟨some 20, .move (.t 1), some (9, true), [1]⟩,
  ⟨some 21, .bin .rem 3 (.t 20) (.c (Value.int IntKind.i64 32)) 3, some (9, true), [20]⟩,
  ⟨some 22, .bin .shr 49 (.t 19) (.t 21) 3, some (9, true), [19, 21]⟩,
  ⟨some 23, .bin .and 49 (.t 22) (.c (Value.int IntKind.u32 1)) 49, some (9, true), [22]⟩,
  ⟨some 24, .bin .eql 49 (.t 23) (.c (Value.int IntKind.u32 1)) 49, some (9, true), [23]⟩,
  ⟨some 25, .pick (.t 14) (.t 24) (.c (Value.bool false)), none, [14, 24]⟩,
  ⟨some 4, .assign (.t 25), none, [25]⟩] none [4])
 .ret))
def a_limbs_Bit : AFunc := ⟨26, [.tmp 4], b_limbs_Bit⟩

def j0_fixed_rounded : IR :=
 (.seq (.reg 5 [⟨some 34, .move (.t 5), none, []⟩,
  ⟨some 4, .assign (.t 34), none, []⟩] none [4, 5, 9, 12, 13, 33, 34])
 .ret)
def k0_fixed_rounded : IR := .tail [5, 9, 12, 13] j0_fixed_rounded
def b_fixed_rounded : IR :=
 (.seq (.reg 0 [⟨some 4, .assign (.nilS 1), none, [4]⟩] none [0, 1])
 (.seq (.reg 1 [⟨some 10, .move (.t 0), none, []⟩,
  ⟨some 11, .move (.t 1), none, []⟩,
  ⟨some 12, .call n_limbs_DivMod [(.t 10), (.t 11)] [38, 38], none, [0, 10, 11]⟩,
  ⟨some 9, .move (.t 12), none, []⟩,
  ⟨some 13, .extr (.t 9) 0, none, []⟩,
  ⟨some 14, .extr (.t 9) 1, none, []⟩,
  ⟨some 15, .extr (.t 9) 2, none, []⟩,
  ⟨some 5, .assign (.t 13), none, []⟩,
  ⟨some 6, .assign (.t 14), none, []⟩,
  ⟨some 7, .assign (.t 15), none, [7, 15]⟩] none [1, 5, 6, 9, 12, 13, 14])
 (.seq (.reg 2 [⟨some 16, .move (.t 6), none, []⟩,
  ⟨some 17, .move (.t 6), none, []⟩,
  ⟨some 18, .call n_limbs_Add [(.t 16), (.t 17)] [38, 38], none, [6, 14, 16, 17]⟩,
  ⟨some 19, .move (.t 1), none, []⟩,
  ⟨some 20, .call n_limbs_Cmp [(.t 18), (.t 19)] [38, 38], none, [1, 18, 19]⟩,
  ⟨some 8, .assign (.t 20), none, [20]⟩] none [5, 8, 9, 12, 13])
 (.seq (.seq (.reg 3 [⟨some 21, .move (.t 8), none, []⟩,
  ⟨some 22, .bin .gtr 3 (.t 21) (.c (Value.int IntKind.i64 0)) 3, none, [21]⟩,
  ⟨some 23, .move (.t 22), none, [22]⟩,
  ⟨some 24, .move (.t 8), some (2, false), [8]⟩,
  ⟨some 25, .bin .eql 3 (.t 24) (.c (Value.int IntKind.i64 0)) 3, some (2, false), [24]⟩,
  ⟨some 26, .move (.t 25), some (2, false), [25]⟩,
  ⟨some 27, .move (.t 5), some (5, true), []⟩,
  ⟨some 28, .call n_limbs_Bit [(.t 27), (.c (Value.int IntKind.i64 0))] [38, 3], some (5, true), [27]⟩,
  ⟨some 29, .pick (.t 26) (.t 28) (.c (Value.bool false)), some (2, false), [26, 28]⟩,
  ⟨some 30, .pick (.t 23) (.c (Value.bool true)) (.t 29), none, [23, 29]⟩] none [5, 9, 12, 13, 30])
 (.cond [5, 9, 12, 13] (.t 30) (.seq (.reg 4 [⟨some 31, .move (.t 5), none, []⟩,
  ⟨some 32, .call n_limbs_From [(.c (Value.int IntKind.u64 1))] [31], none, []⟩,
  ⟨some 33, .call n_limbs_Add [(.t 31), (.t 32)] [38, 38], none, [31, 32]⟩,
  ⟨some 4, .assign (.t 33), none, []⟩] none [4, 5, 9, 12, 13, 33, 34])
 .ret) .skip))
 k0_fixed_rounded))))
def a_fixed_rounded : AFunc := ⟨35, [.tmp 4], b_fixed_rounded⟩

def j0_limbs_Mul : IR :=
 (.reg 13 [⟨some 59, .bin .add 3 (.t 26) (.c (Value.int IntKind.i64 1)) 3, none, []⟩,
  ⟨some 26, .move (.t 59), none, [59]⟩] none [0, 1, 5, 6, 7, 10, 12, 18, 20, 21, 25, 26])
def k0_limbs_Mul : IR := .tail [0, 1, 5, 6, 7, 10, 12, 18, 20, 21, 25, 26] j0_limbs_Mul
def j1_limbs_Mul : IR :=
 (.seq (.block 3 (.seq (.reg 9 [⟨some 28, .move (.t 26), none, []⟩,
  ⟨some 8, .assign (.t 28), none, [28]⟩] none [0, 1, 5, 6, 7, 8, 10, 12, 18, 20, 21, 25, 26])
 (.seq (.reg 10 [⟨some 29, .move (.t 7), none, []⟩,
  ⟨some 30, .move (.t 0), none, []⟩,
  ⟨some 31, .move (.t 6), none, []⟩,
  ⟨some 32, .iaddr 38 (.sl 1) (.t 30) (.t 31), none, []⟩,
  ⟨some 33, .load 49 none (.t 32), none, [30, 31, 32]⟩,
  ⟨some 34, .conv 49 31 (.int .u64) (.t 33), none, [33]⟩,
  ⟨some 35, .move (.t 1), none, []⟩,
  ⟨some 36, .move (.t 8), none, []⟩,
  ⟨some 37, .iaddr 38 (.sl 1) (.t 35) (.t 36), none, []⟩,
  ⟨some 38, .load 49 none (.t 37), none, [35, 36, 37]⟩,
  ⟨some 39, .conv 49 31 (.int .u64) (.t 38), none, [38]⟩,
  ⟨some 40, .bin .mul 31 (.t 34) (.t 39) 31, none, [34, 39]⟩,
  ⟨some 41, .move (.t 5), none, []⟩,
  ⟨some 42, .move (.t 6), none, []⟩,
  ⟨some 43, .move (.t 8), none, []⟩,
  ⟨some 44, .bin .add 3 (.t 42) (.t 43) 3, none, [42, 43]⟩,
  ⟨some 45, .iaddr 38 (.sl 1) (.t 41) (.t 44), none, []⟩,
  ⟨some 46, .load 49 none (.t 45), none, [41, 44, 45]⟩,
  ⟨some 47, .conv 49 31 (.int .u64) (.t 46), none, [46]⟩,
  ⟨some 48, .bin .add 31 (.t 40) (.t 47) 31, none, [40, 47]⟩,
  ⟨some 49, .bin .add 31 (.t 29) (.t 48) 31, none, [29, 48]⟩,
  ⟨some 7, .assign (.t 49), none, [49]⟩] (some [⟨0, []⟩, ⟨1, []⟩, ⟨2, []⟩, ⟨3, []⟩, ⟨6, []⟩, ⟨7, []⟩, ⟨8, []⟩, ⟨12, []⟩, ⟨13, []⟩, ⟨14, []⟩, ⟨15, []⟩, ⟨16, []⟩, ⟨4, []⟩, ⟨5, []⟩, ⟨9, []⟩, ⟨10, []⟩, ⟨11, []⟩, ⟨17, []⟩, ⟨18, []⟩, ⟨19, []⟩, ⟨20, []⟩, ⟨21, []⟩]) [0, 1, 5, 6, 7, 8, 10, 12, 18, 20, 21, 25, 26])
 (.seq (.reg 11 [⟨some 50, .move (.t 5), none, []⟩,
  ⟨some 51, .move (.t 6), none, []⟩,
  ⟨some 52, .move (.t 8), none, [8]⟩,
  ⟨some 53, .bin .add 3 (.t 51) (.t 52) 3, none, [51, 52]⟩,
  ⟨some 54, .move (.t 7), none, []⟩,
  ⟨some 55, .call n_limbs_low [(.t 54)] [31], none, [54]⟩,
  ⟨some 56, .iaddr 38 (.sl 1) (.t 50) (.t 53), none, []⟩,
  ⟨none, .store 49 none (.t 56) (.t 55), none, [50, 53, 55, 56]⟩] none [0, 1, 5, 6, 7, 10, 12, 18, 20, 21, 25, 26])
 (.reg 12 [⟨some 57, .move (.t 7), none, []⟩,
  ⟨some 58, .call n_limbs_high [(.t 57)] [31], none, [57]⟩,
  ⟨some 7, .assign (.t 58), none, [58]⟩] none [0, 1, 5, 6, 7, 10, 12, 18, 20, 21, 25, 26])))))
 k0_limbs_Mul)
def k1_limbs_Mul : IR := .tail [0, 1, 5, 6, 7, 10, 12, 18, 20, 21, 25, 26] j1_limbs_Mul
def w1_limbs_Mul : IR :=
 (.seq (.reg 8 [⟨some 27, .bin .lss 3 (.t 26) (.t 25) 3, none, []⟩] none [0, 1, 5, 6, 7, 10, 12, 18, 20, 21, 25, 26, 27])
 (.seq (.cond [0, 1, 5, 6, 7, 10, 12, 18, 20, 21, 25, 26] (.t 27) .skip (.exit 2))
 k1_limbs_Mul))
def l1_limbs_Mul : IR := .loop [0, 1, 5, 6, 7, 10, 12, 18, 20, 21, 25, 26] w1_limbs_Mul
def j2_limbs_Mul : IR :=
 (.reg 14 [⟨some 60, .move (.t 5), none, []⟩,
  ⟨some 61, .move (.t 6), none, [6]⟩,
  ⟨some 62, .move (.t 1), none, []⟩,
  ⟨some 63, .len 38 false (.t 62), none, [62]⟩,
  ⟨some 64, .bin .add 3 (.t 61) (.t 63) 3, none, [61, 63]⟩,
  ⟨some 65, .move (.t 7), none, [7]⟩,
  ⟨some 66, .conv 31 49 (.int .u32) (.t 65), none, [65]⟩,
  ⟨some 67, .iaddr 38 (.sl 1) (.t 60) (.t 64), none, []⟩,
  ⟨none, .store 49 none (.t 67) (.t 66), none, [60, 64, 66, 67]⟩] none [0, 1, 5, 10, 12, 18, 20, 21])
def k2_limbs_Mul : IR := .tail [0, 1, 5, 6, 7, 10, 12, 18, 20, 21] j2_limbs_Mul
def j3_limbs_Mul : IR :=
 (.reg 15 [⟨some 68, .bin .add 3 (.t 21) (.c (Value.int IntKind.i64 1)) 3, none, []⟩,
  ⟨some 21, .move (.t 68), none, [68]⟩] none [0, 1, 5, 10, 12, 18, 20, 21])
def k3_limbs_Mul : IR := .tail [0, 1, 5, 10, 12, 18, 20, 21] j3_limbs_Mul
def j4_limbs_Mul : IR :=
 (.seq (.block 1 (.seq (.reg 5 [⟨some 23, .move (.t 21), none, []⟩,
  ⟨some 6, .assign (.t 23), none, [23]⟩] none [0, 1, 5, 6, 10, 12, 18, 20, 21])
 (.seq (.reg 6 [⟨some 7, .assign (.c (Value.int IntKind.u64 0)), none, []⟩] none [0, 1, 5, 6, 7, 10, 12, 18, 20, 21])
 (.seq (.seq (.reg 7 [⟨some 24, .move (.t 1), none, []⟩,
  ⟨some 25, .len 38 false (.t 24), none, [24]⟩,
  ⟨some 26, .move (.c (Value.int IntKind.i64 0)), none, []⟩] none [0, 1, 5, 6, 7, 10, 12, 18, 20, 21, 25, 26])
 (.block 2 l1_limbs_Mul))
 k2_limbs_Mul))))
 k3_limbs_Mul)
def k4_limbs_Mul : IR := .tail [0, 1, 5, 10, 12, 18, 20, 21] j4_limbs_Mul
def w0_limbs_Mul : IR :=
 (.seq (.reg 4 [⟨some 22, .bin .lss 3 (.t 21) (.t 20) 3, none, []⟩] none [0, 1, 5, 10, 12, 18, 20, 21, 22])
 (.seq (.cond [0, 1, 5, 10, 12, 18, 20, 21] (.t 22) .skip (.exit 0))
 k4_limbs_Mul))
def l0_limbs_Mul : IR := .loop [0, 1, 5, 10, 12, 18, 20, 21] w0_limbs_Mul
def j5_limbs_Mul : IR :=
 (.seq (.reg 16 [⟨some 69, .move (.t 5), none, []⟩,
  ⟨some 70, .call n_limbs_trim [(.t 69)] [38], none, [5, 18, 69]⟩,
  ⟨some 4, .assign (.t 70), none, []⟩] none [4, 70])
 .ret)
def k5_limbs_Mul : IR := .tail [5, 18] j5_limbs_Mul
def b_limbs_Mul : IR :=
 (.seq (.reg 0 [⟨some 4, .assign (.nilS 1), none, [4]⟩] none [0, 1, 10, 12])
 (.seq (.reg 1 [⟨some 9, .move (.t 0), none, []⟩,
  ⟨some 10, .call n_limbs_trim [(.t 9)] [38], none, [9]⟩,
  ⟨some 11, .move (.t 1), none, []⟩,
  ⟨some 12, .call n_limbs_trim [(.t 11)] [38], none, [11]⟩,
  ⟨some 0, .assign (.t 10), none, []⟩,
  ⟨some 1, .assign (.t 12), none, []⟩] none [0, 1, 10, 12])
 (.seq (.reg 2 [⟨some 13, .move (.t 0), none, []⟩,
  ⟨some 14, .len 38 false (.t 13), none, [13]⟩,
  ⟨some 15, .move (.t 1), none, []⟩,
  ⟨some 16, .len 38 false (.t 15), none, [15]⟩,
  ⟨some 17, .bin .add 3 (.t 14) (.t 16) 3, none, [14, 16]⟩,
  ⟨some 18, .mk 38 1 4 (.v (.int .u32 0)) (.t 17) (.t 17), none, [17]⟩,
  ⟨some 5, .assign (.t 18), none, []⟩] none [0, 1, 5, 10, 12, 18])
 (.seq (.seq (.reg 3 [⟨some 19, .move (.t 0), none, []⟩,
  ⟨some 20, .len 38 false (.t 19), none, [19]⟩,
  ⟨some 21, .move (.c (Value.int IntKind.i64 0)), none, []⟩] none [0, 1, 5, 10, 12, 18, 20, 21])
 (.block 0 l0_limbs_Mul))
 k5_limbs_Mul))))
def a_limbs_Mul : AFunc := ⟨71, [.tmp 4], b_limbs_Mul⟩

def j0_fixed_amount : IR :=
 (.seq (.reg 3 [⟨some 8, .move (.t 0), none, [0]⟩,
  ⟨some 9, .conv 2 31 (.int .u64) (.t 8), none, [8]⟩,
  ⟨some 2, .assign (.t 9), none, [9]⟩] none [2])
 .ret)
def k0_fixed_amount : IR := .tail [0] j0_fixed_amount
def b_fixed_amount : IR :=
 (.seq (.reg 0 [⟨some 2, .assign (.c (Value.int IntKind.u64 0)), none, [2]⟩] none [0])
 (.seq (.seq (.reg 1 [⟨some 3, .move (.t 0), none, []⟩,
  ⟨some 4, .bin .lss 2 (.t 3) (.c (Value.int IntKind.i64 0)) 2, none, [3]⟩] none [0, 4])
 (.cond [0] (.t 4) (.seq (.reg 2 [⟨some 5, .move (.t 0), none, [0]⟩,
  ⟨some 6, .conv 2 31 (.int .u64) (.t 5), none, [5]⟩,
  ⟨some 7, .un .neg 31 (.t 6), none, [6]⟩,
  ⟨some 2, .assign (.t 7), none, [7]⟩] none [2])
 .ret) .skip))
 k0_fixed_amount))
def a_fixed_amount : AFunc := ⟨10, [.tmp 2], b_fixed_amount⟩

def j0_limbs_Small : IR :=
 (.reg 9 [⟨some 26, .bin .add 3 (.t 13) (.c (Value.int IntKind.i64 1)) 3, none, []⟩,
  ⟨some 13, .move (.t 26), none, [26]⟩] none [0, 4, 7, 12, 13])
def k0_limbs_Small : IR := .tail [0, 4, 7, 12, 13] j0_limbs_Small
def j1_limbs_Small : IR :=
 (.seq (.block 1 (.seq (.reg 7 [⟨some 15, .move (.t 13), none, []⟩,
  ⟨some 5, .assign (.t 15), none, [15]⟩] none [0, 4, 5, 7, 12, 13])
 (.reg 8 [⟨some 16, .move (.t 4), none, []⟩,
  ⟨some 17, .move (.t 0), none, []⟩,
  ⟨some 18, .move (.t 5), none, []⟩,
  ⟨some 19, .iaddr 38 (.sl 1) (.t 17) (.t 18), none, []⟩,
  ⟨some 20, .load 49 none (.t 19), none, [17, 18, 19]⟩,
  ⟨some 21, .conv 49 31 (.int .u64) (.t 20), none, [20]⟩,
  ⟨some 22, .move (.t 5), none, [5]⟩,
  ⟨some 23, .bin .mul 3 (.c (Value.int IntKind.i64 32)) (.t 22) 3, none, [22]⟩,
  ⟨some 24, .bin .shl 31 (.t 21) (.t 23) 3, none, [21, 23]⟩,
  ⟨some 25, .bin .or 31 (.t 16) (.t 24) 31, none, [16, 24]⟩,
  ⟨some 4, .assign (.t 25), none, [25]⟩] none [0, 4, 7, 12, 13])))
 k0_limbs_Small)
def k1_limbs_Small : IR := .tail [0, 4, 7, 12, 13] j1_limbs_Small
def w0_limbs_Small : IR :=
 (.seq (.reg 6 [⟨some 14, .bin .lss 3 (.t 13) (.t 12) 3, none, []⟩] none [0, 4, 7, 12, 13, 14])
 (.seq (.cond [0, 4, 7, 12, 13] (.t 14) .skip (.exit 0))
 k1_limbs_Small))
def l0_limbs_Small : IR := .loop [0, 4, 7, 12, 13] w0_limbs_Small
def j2_limbs_Small : IR :=
 (.seq (.reg 10 [⟨some 27, .move (.t 4), none, [4]⟩,
  ⟨some 2, .assign (.t 27), none, [27]⟩,
  ⟨some 3, .assign (.c (Value.bool true)), none, []⟩] none [2, 3])
 .ret)
def k2_limbs_Small : IR := .tail [4] j2_limbs_Small
def j3_limbs_Small : IR :=
 (.seq (.seq (.reg 5 [⟨some 11, .move (.t 0), none, []⟩,
  ⟨some 12, .len 38 false (.t 11), none, [11]⟩,
  ⟨some 13, .move (.c (Value.int IntKind.i64 0)), none, []⟩] none [0, 4, 7, 12, 13])
 (.block 0 l0_limbs_Small))
 k2_limbs_Small)
def k3_limbs_Small : IR := .tail [0, 4, 7] j3_limbs_Small
def b_limbs_Small : IR :=
 (.seq (.reg 0 [⟨some 2, .assign (.c (Value.int IntKind.u64 0)), none, [2]⟩,
  ⟨some 3, .assign (.c (Value.bool false)), none, [3]⟩] none [0, 7])
 (.seq (.reg 1 [⟨some 6, .move (.t 0), none, []⟩,
  ⟨some 7, .call n_limbs_trim [(.t 6)] [38], none, [6]⟩,
  ⟨some 0, .assign (.t 7), none, []⟩] none [0, 7])
 (.seq (.reg 2 [⟨some 4, .assign (.c (Value.int IntKind.u64 0)), none, []⟩] none [0, 4, 7])
 (.seq (.seq (.reg 3 [⟨some 8, .move (.t 0), none, []⟩,
  ⟨some 9, .len 38 false (.t 8), none, [8]⟩,
  ⟨some 10, .bin .gtr 3 (.t 9) (.c (Value.int IntKind.i64 2)) 3, none, [9]⟩] none [0, 4, 7, 10])
 (.cond [0, 4, 7] (.t 10) (.seq (.reg 4 [⟨some 2, .assign (.c (Value.int IntKind.u64 0)), none, []⟩,
  ⟨some 3, .assign (.c (Value.bool false)), none, []⟩] none [2, 3])
 .ret) .skip))
 k3_limbs_Small))))
def a_limbs_Small : AFunc := ⟨28, [.tmp 2, .tmp 3], b_limbs_Small⟩

def j0_fixed_signed : IR :=
 (.seq (.reg 6 [⟨some 33, .move (.t 6), none, [6]⟩,
  ⟨some 34, .conv 31 2 (.int .i64) (.t 33), none, [33]⟩,
  ⟨some 4, .assign (.t 34), none, [34]⟩,
  ⟨some 5, .assign (.c (Value.bool true)), none, []⟩] none [4, 5])
 .ret)
def k0_fixed_signed : IR := .tail [6] j0_fixed_signed
def b_fixed_signed : IR :=
 (.seq (.reg 0 [⟨some 4, .assign (.c (Value.int IntKind.i64 0)), none, [4]⟩,
  ⟨some 5, .assign (.c (Value.bool false)), none, [5]⟩] none [0, 1])
 (.seq (.reg 1 [⟨some 9, .move (.t 1), none, []⟩,
  ⟨some 10, .call n_limbs_Small [(.t 9)] [38], none, [1, 9]⟩,
  ⟨some 8, .move (.t 10), none, [10]⟩,
  ⟨some 11, .extr (.t 8) 0, none, []⟩,
  ⟨some 12, .extr (.t 8) 1, none, [8]⟩,
  ⟨some 6, .assign (.t 11), none, [11]⟩,
  ⟨some 7, .assign (.t 12), none, [12]⟩] none [0, 6, 7])
 (.seq (.block 0 (.seq (.reg 2 [⟨some 14, .move (.t 7), none, [7]⟩,
  ⟨some 15, .un .not 4 (.t 14), none, [14]⟩,
  ⟨some 16, .move (.t 15), none, [15]⟩,
  ⟨some 17, .move (.t 6), some (2, false), []⟩,
  ⟨some 18, .bin .gtr 31 (.t 17) (.c (Value.int IntKind.u64 9223372036854775808)) 31, some (2, false), [17]⟩,
  ⟨some 19, .pick (.t 16) (.c (Value.bool true)) (.t 18), none, [16, 18]⟩,
  ⟨some 20, .move (.t 19), none, [19]⟩,
  ⟨some 21, .move (.t 6), some (6, false), []⟩,
  ⟨some 22, .bin .eql 31 (.t 21) (.c (Value.int IntKind.u64 9223372036854775808)) 31, some (6, false), [21]⟩,
  ⟨some 23, .move (.t 22), some (6, false), [22]⟩,
  ⟨some 24, .move (.t 0), some (9, true), []⟩,
  ⟨some 25, .un .not 4 (.t 24), some (9, true), [24]⟩,
  ⟨some 26, .pick (.t 23) (.t 25) (.c (Value.bool false)), some (6, false), [23, 25]⟩,
  ⟨some 27, .pick (.t 20) (.c (Value.bool true)) (.t 26), none, [20, 26]⟩,
  ⟨some 13, .assign (.t 27), none, [27]⟩] none [0, 6, 13])
 (.cond [0, 6] (.t 13) (.seq (.reg 3 [⟨some 4, .assign (.c (Value.int IntKind.i64 0)), none, []⟩,
  ⟨some 5, .assign (.c (Value.bool false)), none, []⟩] none [4, 5])
 .ret) (.seq (.reg 4 [⟨some 29, .move (.t 0), none, [0]⟩,
  ⟨some 28, .assign (.t 29), none, [29]⟩] none [6, 28])
 (.cond [6] (.t 28) (.seq (.reg 5 [⟨some 30, .move (.t 6), none, [6]⟩,
  ⟨some 31, .conv 31 2 (.int .i64) (.t 30), none, [30]⟩,
  ⟨some 32, .un .neg 2 (.t 31), none, [31]⟩,
  ⟨some 4, .assign (.t 32), none, [32]⟩,
  ⟨some 5, .assign (.c (Value.bool true)), none, []⟩] none [4, 5])
 .ret) .skip)))))
 k0_fixed_signed)))
def a_fixed_signed : AFunc := ⟨35, [.tmp 4, .tmp 5], b_fixed_signed⟩

def j0_fixed_Scale : IR :=
 (.seq (.reg 8 [⟨some 41, .move (.t 10), none, [10]⟩,
  ⟨some 6, .assign (.t 41), none, [41]⟩,
  ⟨some 7, .assign (.c (Value.int IntKind.i64 0)), none, []⟩] none [6, 7])
 .ret)
def k0_fixed_Scale : IR := .tail [10] j0_fixed_Scale
def j1_fixed_Scale : IR :=
 (.seq (.reg 3 [⟨some 14, .move (.t 0), none, []⟩,
  ⟨some 15, .call n_fixed_amount [(.t 14)] [2], none, [14]⟩,
  ⟨some 16, .call n_limbs_From [(.t 15)] [31], none, [15]⟩,
  ⟨some 17, .move (.t 1), none, []⟩,
  ⟨some 18, .call n_fixed_amount [(.t 17)] [2], none, [17]⟩,
  ⟨some 19, .call n_limbs_From [(.t 18)] [31], none, [18]⟩,
  ⟨some 20, .call n_limbs_Mul [(.t 16), (.t 19)] [38, 38], none, [16, 19]⟩,
  ⟨some 21, .move (.t 2), none, []⟩,
  ⟨some 22, .call n_fixed_amount [(.t 21)] [2], none, [21]⟩,
  ⟨some 23, .call n_limbs_From [(.t 22)] [31], none, [22]⟩,
  ⟨some 24, .call n_fixed_rounded [(.t 20), (.t 23)] [38, 38], none, [20, 23]⟩,
  ⟨some 8, .assign (.t 24), none, []⟩] none [0, 1, 2, 8, 24])
 (.seq (.reg 4 [⟨some 25, .move (.t 0), none, [0]⟩,
  ⟨some 26, .bin .lss 2 (.t 25) (.c (Value.int IntKind.i64 0)) 2, none, [25]⟩,
  ⟨some 27, .move (.t 1), none, [1]⟩,
  ⟨some 28, .bin .lss 2 (.t 27) (.c (Value.int IntKind.i64 0)) 2, none, [27]⟩,
  ⟨some 29, .eqs true 4 (.one .bool) (.t 26) (.t 28) 4, none, [26, 28]⟩,
  ⟨some 30, .move (.t 2), none, [2]⟩,
  ⟨some 31, .bin .lss 2 (.t 30) (.c (Value.int IntKind.i64 0)) 2, none, [30]⟩,
  ⟨some 32, .eqs true 4 (.one .bool) (.t 29) (.t 31) 4, none, [29, 31]⟩,
  ⟨some 9, .assign (.t 32), none, [32]⟩] none [8, 9, 24])
 (.seq (.reg 5 [⟨some 34, .move (.t 9), none, [9]⟩,
  ⟨some 35, .move (.t 8), none, []⟩,
  ⟨some 36, .call n_fixed_signed [(.t 34), (.t 35)] [4, 38], none, [8, 24, 34, 35]⟩,
  ⟨some 33, .move (.t 36), none, [36]⟩,
  ⟨some 37, .extr (.t 33) 0, none, []⟩,
  ⟨some 38, .extr (.t 33) 1, none, [33]⟩,
  ⟨some 10, .assign (.t 37), none, [37]⟩,
  ⟨some 11, .assign (.t 38), none, [38]⟩] none [10, 11])
 (.seq (.seq (.reg 6 [⟨some 39, .move (.t 11), none, [11]⟩,
  ⟨some 40, .un .not 4 (.t 39), none, [39]⟩] none [10, 40])
 (.cond [10] (.t 40) (.seq (.reg 7 [⟨some 6, .assign (.c (Value.int IntKind.i64 0)), none, []⟩,
  ⟨some 7, .assign (.c (Value.int IntKind.i64 41)), none, []⟩] none [6, 7])
 .ret) .skip))
 k0_fixed_Scale))))
def k1_fixed_Scale : IR := .tail [0, 1, 2] j1_fixed_Scale
def b_fixed_Scale : IR :=
 (.seq (.reg 0 [⟨some 6, .assign (.c (Value.int IntKind.i64 0)), none, [6]⟩,
  ⟨some 7, .assign (.c (Value.int IntKind.i64 0)), none, [7]⟩] none [0, 1, 2])
 (.seq (.seq (.reg 1 [⟨some 12, .move (.t 2), none, []⟩,
  ⟨some 13, .bin .eql 2 (.t 12) (.c (Value.int IntKind.i64 0)) 2, none, [12]⟩] none [0, 1, 2, 13])
 (.cond [0, 1, 2] (.t 13) (.seq (.reg 2 [⟨some 6, .assign (.c (Value.int IntKind.i64 0)), none, []⟩,
  ⟨some 7, .assign (.c (Value.int IntKind.i64 2)), none, []⟩] none [6, 7])
 .ret) .skip))
 k1_fixed_Scale))
def a_fixed_Scale : AFunc := ⟨42, [.tmp 6, .tmp 7], b_fixed_Scale⟩

def j0_thicketref04_amount : IR :=
 (.seq (.reg 3 [⟨some 8, .move (.t 0), none, [0]⟩,
  ⟨some 9, .conv 2 31 (.int .u64) (.t 8), none, [8]⟩,
  ⟨some 2, .assign (.t 9), none, [9]⟩] none [2])
 .ret)
def k0_thicketref04_amount : IR := .tail [0] j0_thicketref04_amount
def b_thicketref04_amount : IR :=
 (.seq (.reg 0 [⟨some 2, .assign (.c (Value.int IntKind.u64 0)), none, [2]⟩] none [0])
 (.seq (.seq (.reg 1 [⟨some 3, .move (.t 0), none, []⟩,
  ⟨some 4, .bin .lss 2 (.t 3) (.c (Value.int IntKind.i64 0)) 2, none, [3]⟩] none [0, 4])
 (.cond [0] (.t 4) (.seq (.reg 2 [⟨some 5, .move (.t 0), none, [0]⟩,
  ⟨some 6, .conv 2 31 (.int .u64) (.t 5), none, [5]⟩,
  ⟨some 7, .un .neg 31 (.t 6), none, [6]⟩,
  ⟨some 2, .assign (.t 7), none, [7]⟩] none [2])
 .ret) .skip))
 k0_thicketref04_amount))
def a_thicketref04_amount : AFunc := ⟨10, [.tmp 2], b_thicketref04_amount⟩

def j0_thicketref04_signed : IR :=
 (.seq (.reg 3 [⟨some 14, .move (.t 1), none, []⟩,
  ⟨some 15, .conv 31 2 (.int .i64) (.t 14), none, [14]⟩,
  ⟨some 16, .move (.t 1), none, [1]⟩,
  ⟨some 17, .bin .lss 31 (.t 16) (.c (Value.int IntKind.u64 9223372036854775808)) 31, none, [16]⟩,
  ⟨some 4, .assign (.t 15), none, [15]⟩,
  ⟨some 5, .assign (.t 17), none, [17]⟩] none [4, 5])
 .ret)
def k0_thicketref04_signed : IR := .tail [1] j0_thicketref04_signed
def b_thicketref04_signed : IR :=
 (.seq (.reg 0 [⟨some 4, .assign (.c (Value.int IntKind.i64 0)), none, [4]⟩,
  ⟨some 5, .assign (.c (Value.bool false)), none, [5]⟩] none [0, 1])
 (.seq (.seq (.reg 1 [⟨some 6, .move (.t 0), none, [0]⟩,
  ⟨some 7, .move (.t 6), none, [6]⟩,
  ⟨some 8, .move (.t 1), some (1, true), []⟩,
  ⟨some 9, .bin .leq 31 (.t 8) (.c (Value.int IntKind.u64 9223372036854775808)) 31, some (1, true), [8]⟩,
  ⟨some 10, .pick (.t 7) (.t 9) (.c (Value.bool false)), none, [7, 9]⟩] none [1, 10])
 (.cond [1] (.t 10) (.seq (.reg 2 [⟨some 11, .move (.t 1), none, [1]⟩,
  ⟨some 12, .conv 31 2 (.int .i64) (.t 11), none, [11]⟩,
  ⟨some 13, .un .neg 2 (.t 12), none, [12]⟩,
  ⟨some 4, .assign (.t 13), none, [13]⟩,
  ⟨some 5, .assign (.c (Value.bool true)), none, []⟩] none [4, 5])
 .ret) .skip))
 k0_thicketref04_signed))
def a_thicketref04_signed : AFunc := ⟨18, [.tmp 4, .tmp 5], b_thicketref04_signed⟩

def j0_thicketref02_norm : IR :=
 (.block 1 (.reg 3 [⟨some 16, .move (.t 3), none, []⟩,
  ⟨some 17, .bin .sub 3 (.t 16) (.c (Value.int IntKind.i64 1)) 3, none, [16]⟩,
  ⟨some 3, .assign (.t 17), none, [17]⟩] none [0, 3, 100000]))
def k0_thicketref02_norm : IR := .tail [0, 3, 100000] j0_thicketref02_norm
def w0_thicketref02_norm : IR :=
 (.seq (.seq (.reg 2 [⟨some 6, .move (.t 3), none, []⟩,
  ⟨some 7, .bin .gtr 3 (.t 6) (.c (Value.int IntKind.i64 0)) 3, none, [6]⟩,
  ⟨some 8, .move (.t 7), none, [7]⟩,
  ⟨some 9, .move (.t 0), some (2, true), []⟩,
  ⟨some 10, .move (.t 3), some (2, true), []⟩,
  ⟨some 11, .bin .sub 3 (.t 10) (.c (Value.int IntKind.i64 1)) 3, some (2, true), [10]⟩,
  ⟨some 12, .iaddr 38 (.sl 1) (.t 9) (.t 11), some (2, true), []⟩,
  ⟨some 13, .load 49 none (.t 12), some (2, true), [9, 11, 12]⟩,
  ⟨some 14, .bin .eql 49 (.t 13) (.c (Value.int IntKind.u32 0)) 49, some (2, true), [13]⟩,
  ⟨some 15, .pick (.t 8) (.t 14) (.c (Value.bool false)), none, [8, 14]⟩] none [0, 3, 15, 100000])
 (.cond [0, 3, 100000] (.t 15) .skip (.exit 0)))
 k0_thicketref02_norm)
def l0_thicketref02_norm : IR := .loop [0, 3, 100000] w0_thicketref02_norm
def j1_thicketref02_norm : IR :=
 (.seq (.reg 4 [⟨some 18, .move (.t 0), none, []⟩,
  ⟨some 19, .move (.t 3), none, [3]⟩,
  ⟨some 20, .slice 38 (.sl 1) (.t 18) none (some (.t 19)) none, none, []⟩,
  ⟨some 2, .assign (.t 20), none, []⟩] none [0, 2, 18, 19, 20, 100000])
 .ret)
def k1_thicketref02_norm : IR := .tail [0, 3, 100000] j1_thicketref02_norm
def b_thicketref02_norm : IR :=
 (.seq (.reg 0 [⟨some 2, .assign (.nilS 1), none, [2]⟩] none [0, 100000])
 (.seq (.reg 1 [⟨some 4, .move (.t 0), none, []⟩,
  ⟨some 5, .len 38 false (.t 4), none, [4]⟩,
  ⟨some 3, .assign (.t 5), none, [5]⟩] none [0, 3, 100000])
 (.seq (.block 0 l0_thicketref02_norm)
 k1_thicketref02_norm)))
def a_thicketref02_norm : AFunc := ⟨21, [.tmp 2], b_thicketref02_norm⟩

def j0_thicketref02_Product : IR :=
 (.reg 8 [⟨some 25, .move (.t 8), none, []⟩,
  ⟨some 26, .bin .add 3 (.t 25) (.c (Value.int IntKind.i64 1)) 3, none, [25]⟩,
  ⟨some 8, .assign (.t 26), none, [26]⟩] none [0, 1, 5, 6, 7, 8, 14])
def k0_thicketref02_Product : IR := .tail [0, 1, 5, 6, 7, 8, 14] j0_thicketref02_Product
def j1_thicketref02_Product : IR :=
 (.seq (.block 3 (.seq (.reg 9 [⟨some 27, .move (.t 7), none, []⟩,
  ⟨some 28, .move (.t 0), none, []⟩,
  ⟨some 29, .move (.t 6), none, []⟩,
  ⟨some 30, .iaddr 38 (.sl 1) (.t 28) (.t 29), none, []⟩,
  ⟨some 31, .load 49 none (.t 30), none, [28, 29, 30]⟩,
  ⟨some 32, .conv 49 31 (.int .u64) (.t 31), none, [31]⟩,
  ⟨some 33, .move (.t 1), none, []⟩,
  ⟨some 34, .move (.t 8), none, []⟩,
  ⟨some 35, .iaddr 38 (.sl 1) (.t 33) (.t 34), none, []⟩,
  ⟨some 36, .load 49 none (.t 35), none, [33, 34, 35]⟩,
  ⟨some 37, .conv 49 31 (.int .u64) (.t 36), none, [36]⟩,
  ⟨some 38, .bin .mul 31 (.t 32) (.t 37) 31, none, [32, 37]⟩,
  ⟨some 39, .bin .add 31 (.t 27) (.t 38) 31, none, [27, 38]⟩,
  ⟨some 40, .move (.t 5), none, []⟩,
  ⟨some 41, .move (.t 6), none, []⟩,
  ⟨some 42, .move (.t 8), none, []⟩,
  ⟨some 43, .bin .add 3 (.t 41) (.t 42) 3, none, [41, 42]⟩,
  ⟨some 44, .iaddr 38 (.sl 1) (.t 40) (.t 43), none, []⟩,
  ⟨some 45, .load 49 none (.t 44), none, [40, 43, 44]⟩,
  ⟨some 46, .conv 49 31 (.int .u64) (.t 45), none, [45]⟩,
  ⟨some 47, .bin .add 31 (.t 39) (.t 46) 31, none, [39, 46]⟩,
  ⟨some 7, .assign (.t 47), none, [47]⟩] (some [⟨0, []⟩, ⟨1, []⟩, ⟨2, []⟩, ⟨3, []⟩, ⟨6, []⟩, ⟨7, []⟩, ⟨8, []⟩, ⟨13, []⟩, ⟨14, []⟩, ⟨15, []⟩, ⟨16, []⟩, ⟨17, []⟩, ⟨4, []⟩, ⟨5, []⟩, ⟨9, []⟩, ⟨10, []⟩, ⟨11, []⟩, ⟨12, []⟩, ⟨18, []⟩, ⟨19, []⟩, ⟨20, []⟩, ⟨21, []⟩]) [0, 1, 5, 6, 7, 8, 14])
 (.seq (.reg 10 [⟨some 48, .move (.t 5), none, []⟩,
  ⟨some 49, .move (.t 6), none, []⟩,
  ⟨some 50, .move (.t 8), none, []⟩,
  ⟨some 51, .bin .add 3 (.t 49) (.t 50) 3, none, [49, 50]⟩,
  ⟨some 52, .move (.t 7), none, []⟩,
  ⟨some 53, .conv 31 49 (.int .u32) (.t 52), none, [52]⟩,
  ⟨some 54, .iaddr 38 (.sl 1) (.t 48) (.t 51), none, []⟩,
  ⟨none, .store 49 none (.t 54) (.t 53), none, [48, 51, 53, 54]⟩] none [0, 1, 5, 6, 7, 8, 14])
 (.reg 11 [⟨some 55, .move (.t 7), none, []⟩,
  ⟨some 56, .bin .shr 31 (.t 55) (.c (Value.int IntKind.u64 32)) 53, none, [55]⟩,
  ⟨some 7, .assign (.t 56), none, [56]⟩] none [0, 1, 5, 6, 7, 8, 14]))))
 k0_thicketref02_Product)
def k1_thicketref02_Product : IR := .tail [0, 1, 5, 6, 7, 8, 14] j1_thicketref02_Product
def w1_thicketref02_Product : IR :=
 (.seq (.seq (.reg 7 [⟨some 21, .move (.t 8), none, []⟩,
  ⟨some 22, .move (.t 1), none, []⟩,
  ⟨some 23, .len 38 false (.t 22), none, [22]⟩,
  ⟨some 24, .bin .lss 3 (.t 21) (.t 23) 3, none, [21, 23]⟩] none [0, 1, 5, 6, 7, 8, 14, 24])
 (.cond [0, 1, 5, 6, 7, 8, 14] (.t 24) .skip (.exit 2)))
 k1_thicketref02_Product)
def l1_thicketref02_Product : IR := .loop [0, 1, 5, 6, 7, 8, 14] w1_thicketref02_Product
def j2_thicketref02_Product : IR :=
 (.reg 12 [⟨some 57, .move (.t 5), none, []⟩,
  ⟨some 58, .move (.t 6), none, []⟩,
  ⟨some 59, .move (.t 1), none, []⟩,
  ⟨some 60, .len 38 false (.t 59), none, [59]⟩,
  ⟨some 61, .bin .add 3 (.t 58) (.t 60) 3, none, [58, 60]⟩,
  ⟨some 62, .move (.t 7), none, [7]⟩,
  ⟨some 63, .conv 31 49 (.int .u32) (.t 62), none, [62]⟩,
  ⟨some 64, .iaddr 38 (.sl 1) (.t 57) (.t 61), none, []⟩,
  ⟨none, .store 49 none (.t 64) (.t 63), none, [57, 61, 63, 64]⟩] none [0, 1, 5, 6, 14])
def k2_thicketref02_Product : IR := .tail [0, 1, 5, 6, 7, 14] j2_thicketref02_Product
def j3_thicketref02_Product : IR :=
 (.reg 4 [⟨some 19, .move (.t 6), none, []⟩,
  ⟨some 20, .bin .add 3 (.t 19) (.c (Value.int IntKind.i64 1)) 3, none, [19]⟩,
  ⟨some 6, .assign (.t 20), none, [20]⟩] none [0, 1, 5, 6, 14])
def k3_thicketref02_Product : IR := .tail [0, 1, 5, 6, 14] j3_thicketref02_Product
def j4_thicketref02_Product : IR :=
 (.seq (.block 1 (.seq (.reg 5 [⟨some 7, .assign (.c (Value.int IntKind.u64 0)), none, []⟩] none [0, 1, 5, 6, 7, 14])
 (.seq (.seq (.reg 6 [⟨some 8, .assign (.c (Value.int IntKind.i64 0)), none, []⟩] none [0, 1, 5, 6, 7, 8, 14])
 (.block 2 l1_thicketref02_Product))
 k2_thicketref02_Product)))
 k3_thicketref02_Product)
def k4_thicketref02_Product : IR := .tail [0, 1, 5, 6, 14] j4_thicketref02_Product
def w0_thicketref02_Product : IR :=
 (.seq (.seq (.reg 3 [⟨some 15, .move (.t 6), none, []⟩,
  ⟨some 16, .move (.t 0), none, []⟩,
  ⟨some 17, .len 38 false (.t 16), none, [16]⟩,
  ⟨some 18, .bin .lss 3 (.t 15) (.t 17) 3, none, [15, 17]⟩] none [0, 1, 5, 6, 14, 18])
 (.cond [0, 1, 5, 6, 14] (.t 18) .skip (.exit 0)))
 k4_thicketref02_Product)
def l0_thicketref02_Product : IR := .loop [0, 1, 5, 6, 14] w0_thicketref02_Product
def j5_thicketref02_Product : IR :=
 (.seq (.reg 13 [⟨some 65, .move (.t 5), none, []⟩,
  ⟨some 66, .call n_thicketref02_norm [(.t 65)] [38], none, [5, 14, 65]⟩,
  ⟨some 4, .assign (.t 66), none, []⟩] none [4, 66])
 .ret)
def k5_thicketref02_Product : IR := .tail [5, 14] j5_thicketref02_Product
def b_thicketref02_Product : IR :=
 (.seq (.reg 0 [⟨some 4, .assign (.nilS 1), none, [4]⟩] none [0, 1])
 (.seq (.reg 1 [⟨some 9, .move (.t 0), none, []⟩,
  ⟨some 10, .len 38 false (.t 9), none, [9]⟩,
  ⟨some 11, .move (.t 1), none, []⟩,
  ⟨some 12, .len 38 false (.t 11), none, [11]⟩,
  ⟨some 13, .bin .add 3 (.t 10) (.t 12) 3, none, [10, 12]⟩,
  ⟨some 14, .mk 38 1 4 (.v (.int .u32 0)) (.t 13) (.t 13), none, [13]⟩,
  ⟨some 5, .assign (.t 14), none, []⟩] none [0, 1, 5, 14])
 (.seq (.seq (.reg 2 [⟨some 6, .assign (.c (Value.int IntKind.i64 0)), none, []⟩] none [0, 1, 5, 6, 14])
 (.block 0 l0_thicketref02_Product))
 k5_thicketref02_Product)))
def a_thicketref02_Product : AFunc := ⟨67, [.tmp 4], b_thicketref02_Product⟩

def b_thicketref02_from : IR :=
 (.seq (.reg 0 [⟨some 2, .assign (.nilS 1), none, [2]⟩] none [0])
 (.seq (.reg 1 [⟨some 3, .move (.t 0), none, []⟩,
  ⟨some 4, .conv 31 49 (.int .u32) (.t 3), none, [3]⟩,
  ⟨some 5, .move (.t 0), none, [0]⟩,
  ⟨some 6, .bin .shr 31 (.t 5) (.c (Value.int IntKind.u64 32)) 53, none, [5]⟩,
  ⟨some 7, .conv 31 49 (.int .u32) (.t 6), none, [6]⟩,
  ⟨some 8, .lit 38 1 [(.t 4), (.t 7)], none, [4, 7]⟩,
  ⟨some 9, .call n_thicketref02_norm [(.t 8)] [38], none, [8]⟩,
  ⟨some 2, .assign (.t 9), none, []⟩] none [2, 9])
 .ret))
def a_thicketref02_from : AFunc := ⟨10, [.tmp 2], b_thicketref02_from⟩

def b_thicketref02_From : IR :=
 (.seq (.reg 0 [⟨some 2, .assign (.nilS 1), none, [2]⟩] none [0])
 (.seq (.reg 1 [⟨some 3, .move (.t 0), none, [0]⟩,
  ⟨some 4, .call n_thicketref02_from [(.t 3)] [31], none, [3]⟩,
  ⟨some 2, .assign (.t 4), none, []⟩] none [2, 4])
 .ret))
def a_thicketref02_From : AFunc := ⟨5, [.tmp 2], b_thicketref02_From⟩

def j0_thicketref02_size : IR :=
 (.reg 6 [⟨some 20, .move (.t 4), none, []⟩,
  ⟨some 21, .bin .shr 49 (.t 20) (.c (Value.int IntKind.u64 1)) 53, none, [20]⟩,
  ⟨some 4, .assign (.t 21), none, [21]⟩] none [3, 4])
def k0_thicketref02_size : IR := .tail [3, 4] j0_thicketref02_size
def j1_thicketref02_size : IR :=
 (.seq (.block 1 (.reg 7 [⟨some 22, .move (.t 3), none, []⟩,
  ⟨some 23, .bin .add 3 (.t 22) (.c (Value.int IntKind.i64 1)) 3, none, [22]⟩,
  ⟨some 3, .assign (.t 23), none, [23]⟩] none [3, 4]))
 k0_thicketref02_size)
def k1_thicketref02_size : IR := .tail [3, 4] j1_thicketref02_size
def w0_thicketref02_size : IR :=
 (.seq (.seq (.reg 5 [⟨some 18, .move (.t 4), none, []⟩,
  ⟨some 19, .bin .gtr 49 (.t 18) (.c (Value.int IntKind.u32 0)) 49, none, [18]⟩] none [3, 4, 19])
 (.cond [3, 4] (.t 19) .skip (.exit 0)))
 k1_thicketref02_size)
def l0_thicketref02_size : IR := .loop [3, 4] w0_thicketref02_size
def j2_thicketref02_size : IR :=
 (.seq (.reg 8 [⟨some 24, .move (.t 3), none, [3]⟩,
  ⟨some 2, .assign (.t 24), none, [24]⟩] none [2])
 .ret)
def k2_thicketref02_size : IR := .tail [3] j2_thicketref02_size
def j3_thicketref02_size : IR :=
 (.seq (.reg 3 [⟨some 8, .move (.t 0), none, []⟩,
  ⟨some 9, .len 38 false (.t 8), none, [8]⟩,
  ⟨some 10, .bin .sub 3 (.t 9) (.c (Value.int IntKind.i64 1)) 3, none, [9]⟩,
  ⟨some 11, .bin .mul 3 (.c (Value.int IntKind.i64 32)) (.t 10) 3, none, [10]⟩,
  ⟨some 3, .assign (.t 11), none, [11]⟩] none [0, 3])
 (.seq (.seq (.reg 4 [⟨some 12, .move (.t 0), none, []⟩,
  ⟨some 13, .move (.t 0), none, []⟩,
  ⟨some 14, .len 38 false (.t 13), none, [13]⟩,
  ⟨some 15, .bin .sub 3 (.t 14) (.c (Value.int IntKind.i64 1)) 3, none, [14]⟩,
  ⟨some 16, .iaddr 38 (.sl 1) (.t 12) (.t 15), none, []⟩,
  ⟨some 17, .load 49 none (.t 16), none, [0, 12, 15, 16]⟩,
  ⟨some 4, .assign (.t 17), none, [17]⟩] none [3, 4])
 (.block 0 l0_thicketref02_size))
 k2_thicketref02_size))
def k3_thicketref02_size : IR := .tail [0] j3_thicketref02_size
def b_thicketref02_size : IR :=
 (.seq (.reg 0 [⟨some 2, .assign (.c (Value.int IntKind.i64 0)), none, [2]⟩] none [0])
 (.seq (.seq (.reg 1 [⟨some 5, .move (.t 0), none, []⟩,
  ⟨some 6, .len 38 false (.t 5), none, [5]⟩,
  ⟨some 7, .bin .eql 3 (.t 6) (.c (Value.int IntKind.i64 0)) 3, none, [6]⟩] none [0, 7])
 (.cond [0] (.t 7) (.seq (.reg 2 [⟨some 2, .assign (.c (Value.int IntKind.i64 0)), none, []⟩] none [2])
 .ret) .skip))
 k3_thicketref02_size))
def a_thicketref02_size : AFunc := ⟨25, [.tmp 2], b_thicketref02_size⟩

def b_thicketref02_Size : IR :=
 (.seq (.reg 0 [⟨some 2, .assign (.c (Value.int IntKind.i64 0)), none, [2]⟩] none [0])
 (.seq (.reg 1 [⟨some 3, .move (.t 0), none, []⟩,
  ⟨some 4, .call n_thicketref02_size [(.t 3)] [38], none, [0, 3]⟩,
  ⟨some 2, .assign (.t 4), none, [4]⟩] none [2])
 .ret))
def a_thicketref02_Size : AFunc := ⟨5, [.tmp 2], b_thicketref02_Size⟩

def j0_thicketref02_cmp : IR :=
 (.seq (.reg 4 [⟨some 4, .assign (.c (Value.int IntKind.i64 1)), none, []⟩] none [4])
 .ret)
def k0_thicketref02_cmp : IR := .tail [] j0_thicketref02_cmp
def j1_thicketref02_cmp : IR :=
 (.seq (.reg 11 [⟨some 4, .assign (.c (Value.int IntKind.i64 1)), none, []⟩] none [4])
 .ret)
def k1_thicketref02_cmp : IR := .tail [] j1_thicketref02_cmp
def j2_thicketref02_cmp : IR :=
 (.reg 7 [⟨some 21, .move (.t 5), none, []⟩,
  ⟨some 22, .bin .sub 3 (.t 21) (.c (Value.int IntKind.i64 1)) 3, none, [21]⟩,
  ⟨some 5, .assign (.t 22), none, [22]⟩] none [0, 1, 5])
def k2_thicketref02_cmp : IR := .tail [0, 1, 5] j2_thicketref02_cmp
def j3_thicketref02_cmp : IR :=
 (.seq (.block 1 (.seq (.reg 8 [⟨some 23, .move (.t 0), none, []⟩,
  ⟨some 24, .move (.t 5), none, []⟩,
  ⟨some 25, .iaddr 38 (.sl 1) (.t 23) (.t 24), none, []⟩,
  ⟨some 26, .load 49 none (.t 25), none, [23, 24, 25]⟩,
  ⟨some 27, .move (.t 1), none, []⟩,
  ⟨some 28, .move (.t 5), none, []⟩,
  ⟨some 29, .iaddr 38 (.sl 1) (.t 27) (.t 28), none, []⟩,
  ⟨some 30, .load 49 none (.t 29), none, [27, 28, 29]⟩,
  ⟨some 31, .bin .neq 49 (.t 26) (.t 30) 49, none, [26, 30]⟩] (some [⟨0, []⟩, ⟨1, []⟩, ⟨2, []⟩, ⟨4, []⟩, ⟨5, []⟩, ⟨6, []⟩, ⟨3, []⟩, ⟨7, []⟩, ⟨8, []⟩]) [0, 1, 5, 31])
 (.cond [0, 1, 5] (.t 31) (.seq (.seq (.reg 9 [⟨some 32, .move (.t 0), none, []⟩,
  ⟨some 33, .move (.t 5), none, []⟩,
  ⟨some 34, .iaddr 38 (.sl 1) (.t 32) (.t 33), none, []⟩,
  ⟨some 35, .load 49 none (.t 34), none, [0, 32, 33, 34]⟩,
  ⟨some 36, .move (.t 1), none, []⟩,
  ⟨some 37, .move (.t 5), none, [5]⟩,
  ⟨some 38, .iaddr 38 (.sl 1) (.t 36) (.t 37), none, []⟩,
  ⟨some 39, .load 49 none (.t 38), none, [1, 36, 37, 38]⟩,
  ⟨some 40, .bin .lss 49 (.t 35) (.t 39) 49, none, [35, 39]⟩] (some [⟨0, []⟩, ⟨1, []⟩, ⟨2, []⟩, ⟨4, []⟩, ⟨5, []⟩, ⟨6, []⟩, ⟨3, []⟩, ⟨7, []⟩, ⟨8, []⟩]) [40])
 (.cond [] (.t 40) (.seq (.reg 10 [⟨some 4, .assign (.c (Value.int IntKind.i64 (-1))), none, []⟩] none [4])
 .ret) .skip))
 k1_thicketref02_cmp) .skip)))
 k2_thicketref02_cmp)
def k3_thicketref02_cmp : IR := .tail [0, 1, 5] j3_thicketref02_cmp
def w0_thicketref02_cmp : IR :=
 (.seq (.seq (.reg 6 [⟨some 19, .move (.t 5), none, []⟩,
  ⟨some 20, .bin .geq 3 (.t 19) (.c (Value.int IntKind.i64 0)) 3, none, [19]⟩] none [0, 1, 5, 20])
 (.cond [0, 1, 5] (.t 20) .skip (.exit 0)))
 k3_thicketref02_cmp)
def l0_thicketref02_cmp : IR := .loop [0, 1, 5] w0_thicketref02_cmp
def j4_thicketref02_cmp : IR :=
 (.seq (.reg 12 [⟨some 4, .assign (.c (Value.int IntKind.i64 0)), none, []⟩] none [4])
 .ret)
def k4_thicketref02_cmp : IR := .tail [] j4_thicketref02_cmp
def j5_thicketref02_cmp : IR :=
 (.seq (.seq (.reg 5 [⟨some 16, .move (.t 0), none, []⟩,
  ⟨some 17, .len 38 false (.t 16), none, [16]⟩,
  ⟨some 18, .bin .sub 3 (.t 17) (.c (Value.int IntKind.i64 1)) 3, none, [17]⟩,
  ⟨some 5, .assign (.t 18), none, [18]⟩] none [0, 1, 5])
 (.block 0 l0_thicketref02_cmp))
 k4_thicketref02_cmp)
def k5_thicketref02_cmp : IR := .tail [0, 1] j5_thicketref02_cmp
def b_thicketref02_cmp : IR :=
 (.seq (.reg 0 [⟨some 4, .assign (.c (Value.int IntKind.i64 0)), none, [4]⟩] none [0, 1])
 (.seq (.seq (.reg 1 [⟨some 6, .move (.t 0), none, []⟩,
  ⟨some 7, .len 38 false (.t 6), none, [6]⟩,
  ⟨some 8, .move (.t 1), none, []⟩,
  ⟨some 9, .len 38 false (.t 8), none, [8]⟩,
  ⟨some 10, .bin .neq 3 (.t 7) (.t 9) 3, none, [7, 9]⟩] none [0, 1, 10])
 (.cond [0, 1] (.t 10) (.seq (.seq (.reg 2 [⟨some 11, .move (.t 0), none, []⟩,
  ⟨some 12, .len 38 false (.t 11), none, [0, 11]⟩,
  ⟨some 13, .move (.t 1), none, []⟩,
  ⟨some 14, .len 38 false (.t 13), none, [1, 13]⟩,
  ⟨some 15, .bin .lss 3 (.t 12) (.t 14) 3, none, [12, 14]⟩] none [15])
 (.cond [] (.t 15) (.seq (.reg 3 [⟨some 4, .assign (.c (Value.int IntKind.i64 (-1))), none, []⟩] none [4])
 .ret) .skip))
 k0_thicketref02_cmp) .skip))
 k5_thicketref02_cmp))
def a_thicketref02_cmp : AFunc := ⟨41, [.tmp 4], b_thicketref02_cmp⟩

def j0_thicketref02_up : IR :=
 (.reg 6 [⟨some 17, .move (.t 6), none, []⟩,
  ⟨some 18, .bin .add 3 (.t 17) (.c (Value.int IntKind.i64 1)) 3, none, [17]⟩,
  ⟨some 6, .assign (.t 18), none, [18]⟩] none [0, 1, 5, 6, 21, 44, 51])
def k0_thicketref02_up : IR := .tail [0, 1, 5, 6, 21, 44, 51] j0_thicketref02_up
def j1_thicketref02_up : IR :=
 (.seq (.block 1 (.reg 7 [⟨some 19, .move (.t 5), none, []⟩,
  ⟨some 20, .lit 38 1 [(.c (Value.int IntKind.u32 0))], none, []⟩,
  ⟨some 21, .append 38 38 false 1 4 (.t 19) (.t 20), none, [19, 20]⟩,
  ⟨some 5, .assign (.t 21), none, []⟩] none [0, 1, 5, 6, 21, 44, 51]))
 k0_thicketref02_up)
def k1_thicketref02_up : IR := .tail [0, 1, 5, 6, 21, 44, 51] j1_thicketref02_up
def w0_thicketref02_up : IR :=
 (.seq (.seq (.reg 5 [⟨some 13, .move (.t 6), none, []⟩,
  ⟨some 14, .move (.t 1), none, []⟩,
  ⟨some 15, .bin .quo 3 (.t 14) (.c (Value.int IntKind.i64 32)) 3, none, [14]⟩,
  ⟨some 16, .bin .lss 3 (.t 13) (.t 15) 3, none, [13, 15]⟩] none [0, 1, 5, 6, 16, 21, 44, 51])
 (.cond [0, 1, 5, 6, 21, 44, 51] (.t 16) .skip (.exit 0)))
 k1_thicketref02_up)
def l0_thicketref02_up : IR := .loop [0, 1, 5, 6, 21, 44, 51] w0_thicketref02_up
def j2_thicketref02_up : IR :=
 (.reg 12 [⟨some 29, .move (.t 9), none, []⟩,
  ⟨some 30, .bin .add 3 (.t 29) (.c (Value.int IntKind.i64 1)) 3, none, [29]⟩,
  ⟨some 9, .assign (.t 30), none, [30]⟩] none [0, 5, 7, 8, 9, 21, 44, 51])
def k2_thicketref02_up : IR := .tail [0, 5, 7, 8, 9, 21, 44, 51] j2_thicketref02_up
def j3_thicketref02_up : IR :=
 (.seq (.block 3 (.seq (.reg 13 [⟨some 31, .move (.t 8), none, []⟩,
  ⟨some 32, .move (.t 0), none, []⟩,
  ⟨some 33, .move (.t 9), none, []⟩,
  ⟨some 34, .iaddr 38 (.sl 1) (.t 32) (.t 33), none, []⟩,
  ⟨some 35, .load 49 none (.t 34), none, [32, 33, 34]⟩,
  ⟨some 36, .conv 49 31 (.int .u64) (.t 35), none, [35]⟩,
  ⟨some 37, .move (.t 7), none, []⟩,
  ⟨some 38, .bin .shl 31 (.t 36) (.t 37) 53, none, [36, 37]⟩,
  ⟨some 39, .bin .or 31 (.t 31) (.t 38) 31, none, [31, 38]⟩,
  ⟨some 8, .assign (.t 39), none, [39]⟩] none [0, 5, 7, 8, 9, 21, 44, 51])
 (.seq (.reg 14 [⟨some 40, .move (.t 5), none, []⟩,
  ⟨some 41, .move (.t 8), none, []⟩,
  ⟨some 42, .conv 31 49 (.int .u32) (.t 41), none, [41]⟩,
  ⟨some 43, .lit 38 1 [(.t 42)], none, [42]⟩,
  ⟨some 44, .append 38 38 false 1 4 (.t 40) (.t 43), none, [40, 43]⟩,
  ⟨some 5, .assign (.t 44), none, []⟩] none [0, 5, 7, 8, 9, 21, 44, 51])
 (.reg 15 [⟨some 45, .move (.t 8), none, []⟩,
  ⟨some 46, .bin .shr 31 (.t 45) (.c (Value.int IntKind.u64 32)) 53, none, [45]⟩,
  ⟨some 8, .assign (.t 46), none, [46]⟩] none [0, 5, 7, 8, 9, 21, 44, 51]))))
 k2_thicketref02_up)
def k3_thicketref02_up : IR := .tail [0, 5, 7, 8, 9, 21, 44, 51] j3_thicketref02_up
def w1_thicketref02_up : IR :=
 (.seq (.seq (.reg 11 [⟨some 25, .move (.t 9), none, []⟩,
  ⟨some 26, .move (.t 0), none, []⟩,
  ⟨some 27, .len 38 false (.t 26), none, [26]⟩,
  ⟨some 28, .bin .lss 3 (.t 25) (.t 27) 3, none, [25, 27]⟩] none [0, 5, 7, 8, 9, 21, 28, 44, 51])
 (.cond [0, 5, 7, 8, 9, 21, 44, 51] (.t 28) .skip (.exit 2)))
 k3_thicketref02_up)
def l1_thicketref02_up : IR := .loop [0, 5, 7, 8, 9, 21, 44, 51] w1_thicketref02_up
def j4_thicketref02_up : IR :=
 (.seq (.reg 16 [⟨some 47, .move (.t 5), none, []⟩,
  ⟨some 48, .move (.t 8), none, [8]⟩,
  ⟨some 49, .conv 31 49 (.int .u32) (.t 48), none, [48]⟩,
  ⟨some 50, .lit 38 1 [(.t 49)], none, [49]⟩,
  ⟨some 51, .append 38 38 false 1 4 (.t 47) (.t 50), none, [47, 50]⟩,
  ⟨some 5, .assign (.t 51), none, []⟩] none [5, 21, 44, 51])
 (.seq (.reg 17 [⟨some 52, .move (.t 5), none, []⟩,
  ⟨some 53, .call n_thicketref02_norm [(.t 52)] [38], none, [5, 21, 44, 51, 52]⟩,
  ⟨some 4, .assign (.t 53), none, []⟩] none [4, 53])
 .ret))
def k4_thicketref02_up : IR := .tail [5, 8, 21, 44, 51] j4_thicketref02_up
def j5_thicketref02_up : IR :=
 (.seq (.reg 8 [⟨some 22, .move (.t 1), none, [1]⟩,
  ⟨some 23, .bin .rem 3 (.t 22) (.c (Value.int IntKind.i64 32)) 3, none, [22]⟩,
  ⟨some 24, .conv 3 53 (.int .u64) (.t 23), none, [23]⟩,
  ⟨some 7, .assign (.t 24), none, [24]⟩] none [0, 5, 7, 21, 44, 51])
 (.seq (.reg 9 [⟨some 8, .assign (.c (Value.int IntKind.u64 0)), none, []⟩] none [0, 5, 7, 8, 21, 44, 51])
 (.seq (.seq (.reg 10 [⟨some 9, .assign (.c (Value.int IntKind.i64 0)), none, []⟩] none [0, 5, 7, 8, 9, 21, 44, 51])
 (.block 2 l1_thicketref02_up))
 k4_thicketref02_up)))
def k5_thicketref02_up : IR := .tail [0, 1, 5, 21, 44, 51] j5_thicketref02_up
def j6_thicketref02_up : IR :=
 (.seq (.seq (.reg 4 [⟨some 6, .assign (.c (Value.int IntKind.i64 0)), none, []⟩] none [0, 1, 5, 6, 21, 44, 51])
 (.block 0 l0_thicketref02_up))
 k5_thicketref02_up)
def k6_thicketref02_up : IR := .tail [0, 1, 5, 21, 44, 51] j6_thicketref02_up
def b_thicketref02_up : IR :=
 (.seq (.reg 0 [⟨some 4, .assign (.nilS 1), none, [4]⟩] none [0, 1])
 (.seq (.reg 1 [⟨some 5, .assign (.nilS 1), none, []⟩] none [0, 1, 5, 21, 44, 51])
 (.seq (.seq (.reg 2 [⟨some 10, .move (.t 0), none, []⟩,
  ⟨some 11, .len 38 false (.t 10), none, [10]⟩,
  ⟨some 12, .bin .eql 3 (.t 11) (.c (Value.int IntKind.i64 0)) 3, none, [11]⟩] none [0, 1, 5, 12, 21, 44, 51])
 (.cond [0, 1, 5, 21, 44, 51] (.t 12) (.seq (.reg 3 [⟨some 4, .assign (.nilS 1), none, []⟩] none [4, 53])
 .ret) .skip))
 k6_thicketref02_up)))
def a_thicketref02_up : AFunc := ⟨54, [.tmp 4], b_thicketref02_up⟩

def j0_thicketref02_minus : IR :=
 (.seq (.reg 9 [⟨some 32, .move (.t 5), none, []⟩,
  ⟨some 33, .move (.t 6), none, []⟩,
  ⟨some 34, .conv 2 49 (.int .u32) (.t 33), none, [33]⟩,
  ⟨some 35, .lit 38 1 [(.t 34)], none, [34]⟩,
  ⟨some 36, .append 38 38 false 1 4 (.t 32) (.t 35), none, [32, 35]⟩,
  ⟨some 5, .assign (.t 36), none, []⟩] none [0, 1, 5, 6, 7, 36])
 (.reg 10 [⟨some 37, .move (.t 6), none, []⟩,
  ⟨some 38, .bin .shr 2 (.t 37) (.c (Value.int IntKind.u64 32)) 53, none, [37]⟩,
  ⟨some 6, .assign (.t 38), none, [38]⟩] none [0, 1, 5, 6, 7, 36]))
def k0_thicketref02_minus : IR := .tail [0, 1, 5, 6, 7, 36] j0_thicketref02_minus
def j1_thicketref02_minus : IR :=
 (.reg 5 [⟨some 12, .move (.t 7), none, []⟩,
  ⟨some 13, .bin .add 3 (.t 12) (.c (Value.int IntKind.i64 1)) 3, none, [12]⟩,
  ⟨some 7, .assign (.t 13), none, [13]⟩] none [0, 1, 5, 6, 7, 36])
def k1_thicketref02_minus : IR := .tail [0, 1, 5, 6, 7, 36] j1_thicketref02_minus
def j2_thicketref02_minus : IR :=
 (.seq (.block 1 (.seq (.reg 6 [⟨some 14, .move (.t 6), none, []⟩,
  ⟨some 15, .move (.t 0), none, []⟩,
  ⟨some 16, .move (.t 7), none, []⟩,
  ⟨some 17, .iaddr 38 (.sl 1) (.t 15) (.t 16), none, []⟩,
  ⟨some 18, .load 49 none (.t 17), none, [15, 16, 17]⟩,
  ⟨some 19, .conv 49 2 (.int .i64) (.t 18), none, [18]⟩,
  ⟨some 20, .bin .add 2 (.t 14) (.t 19) 2, none, [14, 19]⟩,
  ⟨some 6, .assign (.t 20), none, [20]⟩] none [0, 1, 5, 6, 7, 36])
 (.seq (.seq (.reg 7 [⟨some 21, .move (.t 7), none, []⟩,
  ⟨some 22, .move (.t 1), none, []⟩,
  ⟨some 23, .len 38 false (.t 22), none, [22]⟩,
  ⟨some 24, .bin .lss 3 (.t 21) (.t 23) 3, none, [21, 23]⟩] none [0, 1, 5, 6, 7, 24, 36])
 (.cond [0, 1, 5, 6, 7, 36] (.t 24) (.reg 8 [⟨some 25, .move (.t 6), none, []⟩,
  ⟨some 26, .move (.t 1), none, []⟩,
  ⟨some 27, .move (.t 7), none, []⟩,
  ⟨some 28, .iaddr 38 (.sl 1) (.t 26) (.t 27), none, []⟩,
  ⟨some 29, .load 49 none (.t 28), none, [26, 27, 28]⟩,
  ⟨some 30, .conv 49 2 (.int .i64) (.t 29), none, [29]⟩,
  ⟨some 31, .bin .sub 2 (.t 25) (.t 30) 2, none, [25, 30]⟩,
  ⟨some 6, .assign (.t 31), none, [31]⟩] none [0, 1, 5, 6, 7, 36]) .skip))
 k0_thicketref02_minus)))
 k1_thicketref02_minus)
def k2_thicketref02_minus : IR := .tail [0, 1, 5, 6, 7, 36] j2_thicketref02_minus
def w0_thicketref02_minus : IR :=
 (.seq (.seq (.reg 4 [⟨some 8, .move (.t 7), none, []⟩,
  ⟨some 9, .move (.t 0), none, []⟩,
  ⟨some 10, .len 38 false (.t 9), none, [9]⟩,
  ⟨some 11, .bin .lss 3 (.t 8) (.t 10) 3, none, [8, 10]⟩] none [0, 1, 5, 6, 7, 11, 36])
 (.cond [0, 1, 5, 6, 7, 36] (.t 11) .skip (.exit 0)))
 k2_thicketref02_minus)
def l0_thicketref02_minus : IR := .loop [0, 1, 5, 6, 7, 36] w0_thicketref02_minus
def j3_thicketref02_minus : IR :=
 (.seq (.reg 11 [⟨some 39, .move (.t 5), none, []⟩,
  ⟨some 40, .call n_thicketref02_norm [(.t 39)] [38], none, [5, 36, 39]⟩,
  ⟨some 4, .assign (.t 40), none, []⟩] none [4, 40])
 .ret)
def k3_thicketref02_minus : IR := .tail [5, 36] j3_thicketref02_minus
def b_thicketref02_minus : IR :=
 (.seq (.reg 0 [⟨some 4, .assign (.nilS 1), none, [4]⟩] none [0, 1])
 (.seq (.reg 1 [⟨some 5, .assign (.nilS 1), none, []⟩] none [0, 1, 5, 36])
 (.seq (.reg 2 [⟨some 6, .assign (.c (Value.int IntKind.i64 0)), none, []⟩] none [0, 1, 5, 6, 36])
 (.seq (.seq (.reg 3 [⟨some 7, .assign (.c (Value.int IntKind.i64 0)), none, []⟩] none [0, 1, 5, 6, 7, 36])
 (.block 0 l0_thicketref02_minus))
 k3_thicketref02_minus))))
def a_thicketref02_minus : AFunc := ⟨41, [.tmp 4], b_thicketref02_minus⟩

def j0_thicketref02_divide : IR :=
 (.reg 5 [⟨some 18, .move (.t 8), none, []⟩,
  ⟨some 19, .bin .sub 3 (.t 18) (.c (Value.int IntKind.i64 1)) 3, none, [18]⟩,
  ⟨some 8, .assign (.t 19), none, [19]⟩] none [0, 1, 6, 8, 29])
def k0_thicketref02_divide : IR := .tail [0, 1, 6, 8, 29] j0_thicketref02_divide
def j1_thicketref02_divide : IR :=
 (.seq (.block 1 (.seq (.reg 6 [⟨some 20, .move (.t 1), none, []⟩,
  ⟨some 21, .move (.t 8), none, []⟩,
  ⟨some 22, .call n_thicketref02_up [(.t 20), (.t 21)] [38, 3], none, [20, 21]⟩,
  ⟨some 9, .assign (.t 22), none, []⟩] none [0, 1, 6, 8, 9, 22, 29])
 (.seq (.reg 7 [⟨some 23, .move (.t 0), none, []⟩,
  ⟨some 24, .move (.t 9), none, []⟩,
  ⟨some 25, .call n_thicketref02_cmp [(.t 23), (.t 24)] [38, 38], none, [23, 24]⟩,
  ⟨some 26, .bin .geq 3 (.t 25) (.c (Value.int IntKind.i64 0)) 3, none, [25]⟩] none [0, 1, 6, 8, 9, 22, 26, 29])
 (.cond [0, 1, 6, 8, 9, 22, 29] (.t 26) (.seq (.reg 8 [⟨some 27, .move (.t 0), none, []⟩,
  ⟨some 28, .move (.t 9), none, []⟩,
  ⟨some 29, .call n_thicketref02_minus [(.t 27), (.t 28)] [38, 38], none, [9, 22, 27, 28]⟩,
  ⟨some 0, .assign (.t 29), none, []⟩] none [0, 1, 6, 8, 29])
 (.frz [(0, [])] (.reg 9 [⟨some 30, .move (.t 6), none, []⟩,
  ⟨some 31, .move (.t 8), none, []⟩,
  ⟨some 32, .conv 3 53 (.int .u64) (.t 31), none, [31]⟩,
  ⟨some 33, .bin .shl 31 (.c (Value.int IntKind.u64 1)) (.t 32) 53, none, [32]⟩,
  ⟨some 34, .bin .or 31 (.t 30) (.t 33) 31, none, [30, 33]⟩,
  ⟨some 6, .assign (.t 34), none, [34]⟩] none [0, 1, 6, 8, 29]))) .skip))))
 k0_thicketref02_divide)
def k1_thicketref02_divide : IR := .tail [0, 1, 6, 8, 29] j1_thicketref02_divide
def w0_thicketref02_divide : IR :=
 (.seq (.seq (.reg 4 [⟨some 16, .move (.t 8), none, []⟩,
  ⟨some 17, .bin .geq 3 (.t 16) (.c (Value.int IntKind.i64 0)) 3, none, [16]⟩] none [0, 1, 6, 8, 17, 29])
 (.cond [0, 1, 6, 8, 29] (.t 17) .skip (.exit 0)))
 k1_thicketref02_divide)
def l0_thicketref02_divide : IR := .loop [0, 1, 6, 8, 29] w0_thicketref02_divide
def j2_thicketref02_divide : IR :=
 (.seq (.reg 10 [⟨some 35, .move (.t 6), none, [6]⟩,
  ⟨some 36, .move (.t 0), none, []⟩,
  ⟨some 4, .assign (.t 35), none, [35]⟩,
  ⟨some 5, .assign (.t 36), none, []⟩] none [0, 4, 5, 29, 36])
 .ret)
def k2_thicketref02_divide : IR := .tail [0, 6, 29] j2_thicketref02_divide
def b_thicketref02_divide : IR :=
 (.seq (.reg 0 [⟨some 4, .assign (.c (Value.int IntKind.u64 0)), none, [4]⟩,
  ⟨some 5, .assign (.nilS 1), none, [5]⟩] none [0, 1, 29])
 (.seq (.reg 1 [⟨some 6, .assign (.c (Value.int IntKind.u64 0)), none, []⟩] none [0, 1, 6, 29])
 (.seq (.reg 2 [⟨some 10, .move (.t 0), none, []⟩,
  ⟨some 11, .call n_thicketref02_size [(.t 10)] [38], none, [10]⟩,
  ⟨some 12, .move (.t 1), none, []⟩,
  ⟨some 13, .call n_thicketref02_size [(.t 12)] [38], none, [12]⟩,
  ⟨some 14, .bin .sub 3 (.t 11) (.t 13) 3, none, [11, 13]⟩,
  ⟨some 7, .assign (.t 14), none, [14]⟩] none [0, 1, 6, 7, 29])
 (.seq (.seq (.reg 3 [⟨some 15, .move (.t 7), none, [7]⟩,
  ⟨some 8, .assign (.t 15), none, [15]⟩] none [0, 1, 6, 8, 29])
 (.block 0 l0_thicketref02_divide))
 k2_thicketref02_divide))))
def a_thicketref02_divide : AFunc := ⟨37, [.tmp 4, .tmp 5], b_thicketref02_divide⟩

def b_thicketref02_Divide : IR :=
 (.seq (.reg 0 [⟨some 4, .assign (.c (Value.int IntKind.u64 0)), none, [4]⟩,
  ⟨some 5, .assign (.nilS 1), none, [5]⟩] none [0, 1])
 (.seq (.reg 1 [⟨some 6, .move (.t 0), none, []⟩,
  ⟨some 7, .move (.t 1), none, []⟩,
  ⟨some 8, .call n_thicketref02_divide [(.t 6), (.t 7)] [38, 38], none, [0, 1, 6, 7]⟩,
  ⟨some 9, .extr (.t 8) 0, none, []⟩,
  ⟨some 10, .extr (.t 8) 1, none, []⟩,
  ⟨some 4, .assign (.t 9), none, [9]⟩,
  ⟨some 5, .assign (.t 10), none, []⟩] none [4, 5, 8, 10])
 .ret))
def a_thicketref02_Divide : AFunc := ⟨11, [.tmp 4, .tmp 5], b_thicketref02_Divide⟩

def b_thicketref02_Cmp : IR :=
 (.seq (.reg 0 [⟨some 4, .assign (.c (Value.int IntKind.i64 0)), none, [4]⟩] none [0, 1])
 (.seq (.reg 1 [⟨some 5, .move (.t 0), none, []⟩,
  ⟨some 6, .move (.t 1), none, []⟩,
  ⟨some 7, .call n_thicketref02_cmp [(.t 5), (.t 6)] [38, 38], none, [0, 1, 5, 6]⟩,
  ⟨some 4, .assign (.t 7), none, [7]⟩] none [4])
 .ret))
def a_thicketref02_Cmp : AFunc := ⟨8, [.tmp 4], b_thicketref02_Cmp⟩

def b_thicketref02_Up : IR :=
 (.seq (.reg 0 [⟨some 4, .assign (.nilS 1), none, [4]⟩] none [0, 1])
 (.seq (.reg 1 [⟨some 5, .move (.t 0), none, []⟩,
  ⟨some 6, .move (.t 1), none, [1]⟩,
  ⟨some 7, .call n_thicketref02_up [(.t 5), (.t 6)] [38, 3], none, [0, 5, 6]⟩,
  ⟨some 4, .assign (.t 7), none, []⟩] none [4, 7])
 .ret))
def a_thicketref02_Up : AFunc := ⟨8, [.tmp 4], b_thicketref02_Up⟩

def j0_thicketref04_Rounded : IR :=
 (.seq (.reg 9 [⟨some 48, .move (.t 6), none, [6]⟩,
  ⟨some 4, .assign (.t 48), none, [48]⟩,
  ⟨some 5, .assign (.c (Value.bool true)), none, []⟩] none [4, 5])
 .ret)
def k0_thicketref04_Rounded : IR := .tail [6] j0_thicketref04_Rounded
def j1_thicketref04_Rounded : IR :=
 (.seq (.reg 6 [⟨some 31, .move (.t 7), none, []⟩,
  ⟨some 32, .call n_thicketref02_Up [(.t 31), (.c (Value.int IntKind.i64 1))] [38, 3], none, [7, 15, 18, 20, 31]⟩,
  ⟨some 33, .move (.t 1), none, []⟩,
  ⟨some 34, .call n_thicketref02_Cmp [(.t 32), (.t 33)] [38, 38], none, [1, 32, 33]⟩,
  ⟨some 8, .assign (.t 34), none, [34]⟩] none [6, 8])
 (.seq (.seq (.reg 7 [⟨some 35, .move (.t 8), none, []⟩,
  ⟨some 36, .bin .gtr 3 (.t 35) (.c (Value.int IntKind.i64 0)) 3, none, [35]⟩,
  ⟨some 37, .move (.t 36), none, [36]⟩,
  ⟨some 38, .move (.t 8), some (2, false), [8]⟩,
  ⟨some 39, .bin .eql 3 (.t 38) (.c (Value.int IntKind.i64 0)) 3, some (2, false), [38]⟩,
  ⟨some 40, .move (.t 39), some (2, false), [39]⟩,
  ⟨some 41, .move (.t 6), some (5, true), []⟩,
  ⟨some 42, .bin .rem 31 (.t 41) (.c (Value.int IntKind.u64 2)) 31, some (5, true), [41]⟩,
  ⟨some 43, .bin .eql 31 (.t 42) (.c (Value.int IntKind.u64 1)) 31, some (5, true), [42]⟩,
  ⟨some 44, .pick (.t 40) (.t 43) (.c (Value.bool false)), some (2, false), [40, 43]⟩,
  ⟨some 45, .pick (.t 37) (.c (Value.bool true)) (.t 44), none, [37, 44]⟩] none [6, 45])
 (.cond [6] (.t 45) (.reg 8 [⟨some 46, .move (.t 6), none, []⟩,
  ⟨some 47, .bin .add 31 (.t 46) (.c (Value.int IntKind.u64 1)) 31, none, [46]⟩,
  ⟨some 6, .assign (.t 47), none, [47]⟩] none [6]) .skip))
 k0_thicketref04_Rounded))
def k1_thicketref04_Rounded : IR := .tail [1, 6, 7, 15, 18, 20] j1_thicketref04_Rounded
def j2_thicketref04_Rounded : IR :=
 (.seq (.reg 3 [⟨some 16, .move (.t 0), none, []⟩,
  ⟨some 17, .move (.t 1), none, []⟩,
  ⟨some 18, .call n_thicketref02_Divide [(.t 16), (.t 17)] [38, 38], none, [16, 17]⟩,
  ⟨some 15, .move (.t 18), none, []⟩,
  ⟨some 19, .extr (.t 15) 0, none, []⟩,
  ⟨some 20, .extr (.t 15) 1, none, []⟩,
  ⟨some 6, .assign (.t 19), none, [19]⟩,
  ⟨some 7, .assign (.t 20), none, []⟩] none [0, 1, 6, 7, 15, 18, 20])
 (.seq (.seq (.reg 4 [⟨some 21, .move (.t 6), none, []⟩,
  ⟨some 22, .bin .gtr 31 (.t 21) (.c (Value.int IntKind.u64 9223372036854775808)) 31, none, [21]⟩,
  ⟨some 23, .move (.t 22), none, [22]⟩,
  ⟨some 24, .move (.t 0), some (2, false), []⟩,
  ⟨some 25, .call n_thicketref02_Size [(.t 24)] [38], some (2, false), [0, 24]⟩,
  ⟨some 26, .move (.t 1), some (2, false), []⟩,
  ⟨some 27, .call n_thicketref02_Size [(.t 26)] [38], some (2, false), [26]⟩,
  ⟨some 28, .bin .sub 3 (.t 25) (.t 27) 3, some (2, false), [25, 27]⟩,
  ⟨some 29, .bin .eql 3 (.t 28) (.c (Value.int IntKind.i64 64)) 3, some (2, false), [28]⟩,
  ⟨some 30, .pick (.t 23) (.c (Value.bool true)) (.t 29), none, [23, 29]⟩] none [1, 6, 7, 15, 18, 20, 30])
 (.cond [1, 6, 7, 15, 18, 20] (.t 30) (.seq (.reg 5 [⟨some 4, .assign (.c (Value.int IntKind.u64 0)), none, []⟩,
  ⟨some 5, .assign (.c (Value.bool false)), none, []⟩] none [4, 5])
 .ret) .skip))
 k1_thicketref04_Rounded))
def k2_thicketref04_Rounded : IR := .tail [0, 1] j2_thicketref04_Rounded
def b_thicketref04_Rounded : IR :=
 (.seq (.reg 0 [⟨some 4, .assign (.c (Value.int IntKind.u64 0)), none, [4]⟩,
  ⟨some 5, .assign (.c (Value.bool false)), none, [5]⟩] none [0, 1])
 (.seq (.seq (.reg 1 [⟨some 9, .move (.t 0), none, []⟩,
  ⟨some 10, .call n_thicketref02_Size [(.t 9)] [38], none, [9]⟩,
  ⟨some 11, .move (.t 1), none, []⟩,
  ⟨some 12, .call n_thicketref02_Size [(.t 11)] [38], none, [11]⟩,
  ⟨some 13, .bin .sub 3 (.t 10) (.t 12) 3, none, [10, 12]⟩,
  ⟨some 14, .bin .gtr 3 (.t 13) (.c (Value.int IntKind.i64 64)) 3, none, [13]⟩] none [0, 1, 14])
 (.cond [0, 1] (.t 14) (.seq (.reg 2 [⟨some 4, .assign (.c (Value.int IntKind.u64 0)), none, []⟩,
  ⟨some 5, .assign (.c (Value.bool false)), none, []⟩] none [4, 5])
 .ret) .skip))
 k2_thicketref04_Rounded))
def a_thicketref04_Rounded : AFunc := ⟨49, [.tmp 4, .tmp 5], b_thicketref04_Rounded⟩

def j0_thicketref04_Scale : IR :=
 (.seq (.reg 8 [⟨some 49, .move (.t 11), none, [11]⟩,
  ⟨some 6, .assign (.t 49), none, [49]⟩,
  ⟨some 7, .assign (.c (Value.int IntKind.i64 0)), none, []⟩] none [6, 7])
 .ret)
def k0_thicketref04_Scale : IR := .tail [11] j0_thicketref04_Scale
def j1_thicketref04_Scale : IR :=
 (.seq (.reg 3 [⟨some 15, .move (.t 0), none, []⟩,
  ⟨some 16, .call n_thicketref04_amount [(.t 15)] [2], none, [15]⟩,
  ⟨some 17, .call n_thicketref02_From [(.t 16)] [31], none, [16]⟩,
  ⟨some 18, .move (.t 1), none, []⟩,
  ⟨some 19, .call n_thicketref04_amount [(.t 18)] [2], none, [18]⟩,
  ⟨some 20, .call n_thicketref02_From [(.t 19)] [31], none, [19]⟩,
  ⟨some 21, .call n_thicketref02_Product [(.t 17), (.t 20)] [38, 38], none, [17, 20]⟩,
  ⟨some 8, .assign (.t 21), none, []⟩] none [0, 1, 2, 8, 21])
 (.seq (.reg 4 [⟨some 23, .move (.t 8), none, []⟩,
  ⟨some 24, .move (.t 2), none, []⟩,
  ⟨some 25, .call n_thicketref04_amount [(.t 24)] [2], none, [24]⟩,
  ⟨some 26, .call n_thicketref02_From [(.t 25)] [31], none, [25]⟩,
  ⟨some 27, .call n_thicketref04_Rounded [(.t 23), (.t 26)] [38, 38], none, [8, 21, 23, 26]⟩,
  ⟨some 22, .move (.t 27), none, [27]⟩,
  ⟨some 28, .extr (.t 22) 0, none, []⟩,
  ⟨some 29, .extr (.t 22) 1, none, [22]⟩,
  ⟨some 9, .assign (.t 28), none, [28]⟩,
  ⟨some 10, .assign (.t 29), none, [29]⟩] none [0, 1, 2, 9, 10])
 (.seq (.reg 5 [⟨some 31, .move (.t 0), none, [0]⟩,
  ⟨some 32, .bin .lss 2 (.t 31) (.c (Value.int IntKind.i64 0)) 2, none, [31]⟩,
  ⟨some 33, .move (.t 1), none, [1]⟩,
  ⟨some 34, .bin .lss 2 (.t 33) (.c (Value.int IntKind.i64 0)) 2, none, [33]⟩,
  ⟨some 35, .eqs true 4 (.one .bool) (.t 32) (.t 34) 4, none, [32, 34]⟩,
  ⟨some 36, .move (.t 2), none, [2]⟩,
  ⟨some 37, .bin .lss 2 (.t 36) (.c (Value.int IntKind.i64 0)) 2, none, [36]⟩,
  ⟨some 38, .eqs true 4 (.one .bool) (.t 35) (.t 37) 4, none, [35, 37]⟩,
  ⟨some 39, .move (.t 9), none, [9]⟩,
  ⟨some 40, .call n_thicketref04_signed [(.t 38), (.t 39)] [4, 31], none, [38, 39]⟩,
  ⟨some 30, .move (.t 40), none, [40]⟩,
  ⟨some 41, .extr (.t 30) 0, none, []⟩,
  ⟨some 42, .extr (.t 30) 1, none, [30]⟩,
  ⟨some 11, .assign (.t 41), none, [41]⟩,
  ⟨some 12, .assign (.t 42), none, [42]⟩] none [10, 11, 12])
 (.seq (.seq (.reg 6 [⟨some 43, .move (.t 10), none, [10]⟩,
  ⟨some 44, .un .not 4 (.t 43), none, [43]⟩,
  ⟨some 45, .move (.t 44), none, [44]⟩,
  ⟨some 46, .move (.t 12), some (2, false), [12]⟩,
  ⟨some 47, .un .not 4 (.t 46), some (2, false), [46]⟩,
  ⟨some 48, .pick (.t 45) (.c (Value.bool true)) (.t 47), none, [45, 47]⟩] none [11, 48])
 (.cond [11] (.t 48) (.seq (.reg 7 [⟨some 6, .assign (.c (Value.int IntKind.i64 0)), none, []⟩,
  ⟨some 7, .assign (.c (Value.int IntKind.i64 41)), none, []⟩] none [6, 7])
 .ret) .skip))
 k0_thicketref04_Scale))))
def k1_thicketref04_Scale : IR := .tail [0, 1, 2] j1_thicketref04_Scale
def b_thicketref04_Scale : IR :=
 (.seq (.reg 0 [⟨some 6, .assign (.c (Value.int IntKind.i64 0)), none, [6]⟩,
  ⟨some 7, .assign (.c (Value.int IntKind.i64 0)), none, [7]⟩] none [0, 1, 2])
 (.seq (.seq (.reg 1 [⟨some 13, .move (.t 2), none, []⟩,
  ⟨some 14, .bin .eql 2 (.t 13) (.c (Value.int IntKind.i64 0)) 2, none, [13]⟩] none [0, 1, 2, 14])
 (.cond [0, 1, 2] (.t 14) (.seq (.reg 2 [⟨some 6, .assign (.c (Value.int IntKind.i64 0)), none, []⟩,
  ⟨some 7, .assign (.c (Value.int IntKind.i64 2)), none, []⟩] none [6, 7])
 .ret) .skip))
 k1_thicketref04_Scale))
def a_thicketref04_Scale : AFunc := ⟨50, [.tmp 6, .tmp 7], b_thicketref04_Scale⟩

def b_thicketlaw04_FixedScales : IR :=
 (.seq (.reg 0 [⟨some 6, .assign (.c (Value.bool false)), none, [6]⟩] none [0, 1, 2])
 (.seq (.reg 1 [⟨some 12, .move (.t 0), none, []⟩,
  ⟨some 13, .move (.t 1), none, []⟩,
  ⟨some 14, .move (.t 2), none, []⟩,
  ⟨some 15, .call n_fixed_Scale [(.t 12), (.t 13), (.t 14)] [2, 2, 2], none, [12, 13, 14]⟩,
  ⟨some 11, .move (.t 15), none, [15]⟩,
  ⟨some 16, .extr (.t 11) 0, none, []⟩,
  ⟨some 17, .extr (.t 11) 1, none, [11]⟩,
  ⟨some 7, .assign (.t 16), none, [16]⟩,
  ⟨some 8, .assign (.t 17), none, [17]⟩] none [0, 1, 2, 7, 8])
 (.seq (.reg 2 [⟨some 19, .move (.t 0), none, [0]⟩,
  ⟨some 20, .move (.t 1), none, [1]⟩,
  ⟨some 21, .move (.t 2), none, [2]⟩,
  ⟨some 22, .call n_thicketref04_Scale [(.t 19), (.t 20), (.t 21)] [2, 2, 2], none, [19, 20, 21]⟩,
  ⟨some 18, .move (.t 22), none, [22]⟩,
  ⟨some 23, .extr (.t 18) 0, none, []⟩,
  ⟨some 24, .extr (.t 18) 1, none, [18]⟩,
  ⟨some 9, .assign (.t 23), none, [23]⟩,
  ⟨some 10, .assign (.t 24), none, [24]⟩] none [7, 8, 9, 10])
 (.seq (.reg 3 [⟨some 25, .move (.t 7), none, [7]⟩,
  ⟨some 26, .move (.t 9), none, [9]⟩,
  ⟨some 27, .bin .eql 2 (.t 25) (.t 26) 2, none, [25, 26]⟩,
  ⟨some 28, .move (.t 27), none, [27]⟩,
  ⟨some 29, .move (.t 8), some (3, true), [8]⟩,
  ⟨some 30, .move (.t 10), some (3, true), [10]⟩,
  ⟨some 31, .bin .eql 23 (.t 29) (.t 30) 23, some (3, true), [29, 30]⟩,
  ⟨some 32, .pick (.t 28) (.t 31) (.c (Value.bool false)), none, [28, 31]⟩,
  ⟨some 6, .assign (.t 32), none, [32]⟩] none [6])
 .ret))))
def a_thicketlaw04_FixedScales : AFunc := ⟨33, [.tmp 6], b_thicketlaw04_FixedScales⟩

def fnTab : List (FuncId × AFunc) := [(n_limbs_trim, a_limbs_trim), (n_limbs_low, a_limbs_low), (n_limbs_high, a_limbs_high), (n_limbs_From, a_limbs_From), (n_limbs_Cmp, a_limbs_Cmp), (n_limbs_Norm, a_limbs_Norm), (n_bits_Len32, a_bits_Len32), (n_bits_LeadingZeros32, a_bits_LeadingZeros32), (n_limbs_up, a_limbs_up), (n_bits_Sub32, a_bits_Sub32), (n_bits_Add32, a_bits_Add32), (n_limbs_long, a_limbs_long), (n_limbs_down, a_limbs_down), (n_limbs_DivMod, a_limbs_DivMod), (n_limbs_Add, a_limbs_Add), (n_limbs_Bit, a_limbs_Bit), (n_fixed_rounded, a_fixed_rounded), (n_limbs_Mul, a_limbs_Mul), (n_fixed_amount, a_fixed_amount), (n_limbs_Small, a_limbs_Small), (n_fixed_signed, a_fixed_signed), (n_fixed_Scale, a_fixed_Scale), (n_thicketref04_amount, a_thicketref04_amount), (n_thicketref04_signed, a_thicketref04_signed), (n_thicketref02_norm, a_thicketref02_norm), (n_thicketref02_Product, a_thicketref02_Product), (n_thicketref02_from, a_thicketref02_from), (n_thicketref02_From, a_thicketref02_From), (n_thicketref02_size, a_thicketref02_size), (n_thicketref02_Size, a_thicketref02_Size), (n_thicketref02_cmp, a_thicketref02_cmp), (n_thicketref02_up, a_thicketref02_up), (n_thicketref02_minus, a_thicketref02_minus), (n_thicketref02_divide, a_thicketref02_divide), (n_thicketref02_Divide, a_thicketref02_Divide), (n_thicketref02_Cmp, a_thicketref02_Cmp), (n_thicketref02_Up, a_thicketref02_Up), (n_thicketref04_Rounded, a_thicketref04_Rounded), (n_thicketref04_Scale, a_thicketref04_Scale), (n_thicketlaw04_FixedScales, a_thicketlaw04_FixedScales)]
def modeTab : List (FuncId × List Bool) := [(n_limbs_trim, [true]), (n_limbs_long, [true, false]), (n_thicketref02_norm, [true])]
def G (n : Nat) : List PV := match n with  | _ => []
def extT : Oracle := fun _ _ => none
def T : Tab := { fns := fun f => fnTab.lookup f, ext := extT, modes := fun f => (modeTab.lookup f).getD [], glob := G }
theorem fn_limbs_trim : T.fns n_limbs_trim = some a_limbs_trim := rfl
@[simp] theorem tl0_limbs_trim (e : Env) : Exec T k0_limbs_trim e = Exec T j0_limbs_trim (e.keep [0, 3, 100000]) := Exec_tail _ _ _
@[simp] theorem tl1_limbs_trim (e : Env) : Exec T k1_limbs_trim e = Exec T j1_limbs_trim (e.keep [0, 3, 100000]) := Exec_tail _ _ _
theorem ex0_limbs_trim (e : Env) : Exec T l0_limbs_trim e = andThen (Exec T w0_limbs_trim (e.keep [0, 3, 100000])) (Exec T l0_limbs_trim) := Exec_loop _ _ _
theorem run_limbs_trim (xs : List PV) : Cinf T n_limbs_trim xs = Run T a_limbs_trim xs := Cinf_eq rfl fn_limbs_trim
@[simp] theorem md_limbs_trim : T.modes n_limbs_trim = [true] := rfl
@[simp] theorem call_limbs_trim (C : Oracle) (e : Env) (xs : List PV) : call T C e n_limbs_trim xs = callK1 C n_limbs_trim xs (moves e [] [true] xs) := call_modes md_limbs_trim
theorem fn_limbs_low : T.fns n_limbs_low = some a_limbs_low := rfl
theorem run_limbs_low (xs : List PV) : Cinf T n_limbs_low xs = Run T a_limbs_low xs := Cinf_eq rfl fn_limbs_low
@[simp] theorem md_limbs_low : T.modes n_limbs_low = [] := rfl
@[simp] theorem call_limbs_low (C : Oracle) (e : Env) (xs : List PV) : call T C e n_limbs_low xs = callK1 C n_limbs_low xs (moves e [] [] xs) := call_modes md_limbs_low
theorem fn_limbs_high : T.fns n_limbs_high = some a_limbs_high := rfl
theorem run_limbs_high (xs : List PV) : Cinf T n_limbs_high xs = Run T a_limbs_high xs := Cinf_eq rfl fn_limbs_high
@[simp] theorem md_limbs_high : T.modes n_limbs_high = [] := rfl
@[simp] theorem call_limbs_high (C : Oracle) (e : Env) (xs : List PV) : call T C e n_limbs_high xs = callK1 C n_limbs_high xs (moves e [] [] xs) := call_modes md_limbs_high
theorem fn_limbs_From : T.fns n_limbs_From = some a_limbs_From := rfl
theorem run_limbs_From (xs : List PV) : Cinf T n_limbs_From xs = Run T a_limbs_From xs := Cinf_eq rfl fn_limbs_From
@[simp] theorem md_limbs_From : T.modes n_limbs_From = [] := rfl
@[simp] theorem call_limbs_From (C : Oracle) (e : Env) (xs : List PV) : call T C e n_limbs_From xs = callK1 C n_limbs_From xs (moves e [] [] xs) := call_modes md_limbs_From
theorem fn_limbs_Cmp : T.fns n_limbs_Cmp = some a_limbs_Cmp := rfl
@[simp] theorem tl0_limbs_Cmp (e : Env) : Exec T k0_limbs_Cmp e = Exec T j0_limbs_Cmp (e.keep []) := Exec_tail _ _ _
@[simp] theorem tl1_limbs_Cmp (e : Env) : Exec T k1_limbs_Cmp e = Exec T j1_limbs_Cmp (e.keep [0, 1, 5, 7, 9]) := Exec_tail _ _ _
@[simp] theorem tl2_limbs_Cmp (e : Env) : Exec T k2_limbs_Cmp e = Exec T j2_limbs_Cmp (e.keep [0, 1, 5, 7, 9]) := Exec_tail _ _ _
@[simp] theorem tl3_limbs_Cmp (e : Env) : Exec T k3_limbs_Cmp e = Exec T j3_limbs_Cmp (e.keep []) := Exec_tail _ _ _
@[simp] theorem tl4_limbs_Cmp (e : Env) : Exec T k4_limbs_Cmp e = Exec T j4_limbs_Cmp (e.keep [0, 1, 7, 9]) := Exec_tail _ _ _
theorem ex0_limbs_Cmp (e : Env) : Exec T l0_limbs_Cmp e = andThen (Exec T w0_limbs_Cmp (e.keep [0, 1, 5, 7, 9])) (Exec T l0_limbs_Cmp) := Exec_loop _ _ _
theorem run_limbs_Cmp (xs : List PV) : Cinf T n_limbs_Cmp xs = Run T a_limbs_Cmp xs := Cinf_eq rfl fn_limbs_Cmp
@[simp] theorem md_limbs_Cmp : T.modes n_limbs_Cmp = [] := rfl
@[simp] theorem call_limbs_Cmp (C : Oracle) (e : Env) (xs : List PV) : call T C e n_limbs_Cmp xs = callK1 C n_limbs_Cmp xs (moves e [] [] xs) := call_modes md_limbs_Cmp
theorem fn_limbs_Norm : T.fns n_limbs_Norm = some a_limbs_Norm := rfl
theorem run_limbs_Norm (xs : List PV) : Cinf T n_limbs_Norm xs = Run T a_limbs_Norm xs := Cinf_eq rfl fn_limbs_Norm
@[simp] theorem md_limbs_Norm : T.modes n_limbs_Norm = [] := rfl
@[simp] theorem call_limbs_Norm (C : Oracle) (e : Env) (xs : List PV) : call T C e n_limbs_Norm xs = callK1 C n_limbs_Norm xs (moves e [] [] xs) := call_modes md_limbs_Norm
theorem fn_bits_Len32 : T.fns n_bits_Len32 = some a_bits_Len32 := rfl
@[simp] theorem tl0_bits_Len32 (e : Env) : Exec T k0_bits_Len32 e = Exec T j0_bits_Len32 (e.keep [0, 2]) := Exec_tail _ _ _
@[simp] theorem tl1_bits_Len32 (e : Env) : Exec T k1_bits_Len32 e = Exec T j1_bits_Len32 (e.keep [0, 2]) := Exec_tail _ _ _
theorem run_bits_Len32 (xs : List PV) : Cinf T n_bits_Len32 xs = Run T a_bits_Len32 xs := Cinf_eq rfl fn_bits_Len32
@[simp] theorem md_bits_Len32 : T.modes n_bits_Len32 = [] := rfl
@[simp] theorem call_bits_Len32 (C : Oracle) (e : Env) (xs : List PV) : call T C e n_bits_Len32 xs = callK1 C n_bits_Len32 xs (moves e [] [] xs) := call_modes md_bits_Len32
theorem fn_bits_LeadingZeros32 : T.fns n_bits_LeadingZeros32 = some a_bits_LeadingZeros32 := rfl
theorem run_bits_LeadingZeros32 (xs : List PV) : Cinf T n_bits_LeadingZeros32 xs = Run T a_bits_LeadingZeros32 xs := Cinf_eq rfl fn_bits_LeadingZeros32
@[simp] theorem md_bits_LeadingZeros32 : T.modes n_bits_LeadingZeros32 = [] := rfl
@[simp] theorem call_bits_LeadingZeros32 (C : Oracle) (e : Env) (xs : List PV) : call T C e n_bits_LeadingZeros32 xs = callK1 C n_bits_LeadingZeros32 xs (moves e [] [] xs) := call_modes md_bits_LeadingZeros32
theorem fn_limbs_up : T.fns n_limbs_up = some a_limbs_up := rfl
@[simp] theorem tl0_limbs_up (e : Env) : Exec T k0_limbs_up e = Exec T j0_limbs_up (e.keep [0, 1, 5, 6, 10, 22, 23, 24, 25, 40]) := Exec_tail _ _ _
@[simp] theorem tl1_limbs_up (e : Env) : Exec T k1_limbs_up e = Exec T j1_limbs_up (e.keep [0, 1, 5, 6, 10, 22, 23, 24, 25, 40]) := Exec_tail _ _ _
@[simp] theorem tl2_limbs_up (e : Env) : Exec T k2_limbs_up e = Exec T j2_limbs_up (e.keep [5, 6, 22, 40]) := Exec_tail _ _ _
@[simp] theorem tl3_limbs_up (e : Env) : Exec T k3_limbs_up e = Exec T j3_limbs_up (e.keep [0, 1, 10]) := Exec_tail _ _ _
theorem ex0_limbs_up (e : Env) : Exec T l0_limbs_up e = andThen (Exec T w0_limbs_up (e.keep [0, 1, 5, 6, 10, 22, 23, 24, 25, 40])) (Exec T l0_limbs_up) := Exec_loop _ _ _
theorem run_limbs_up (xs : List PV) : Cinf T n_limbs_up xs = Run T a_limbs_up xs := Cinf_eq rfl fn_limbs_up
@[simp] theorem md_limbs_up : T.modes n_limbs_up = [] := rfl
@[simp] theorem call_limbs_up (C : Oracle) (e : Env) (xs : List PV) : call T C e n_limbs_up xs = callK1 C n_limbs_up xs (moves e [] [] xs) := call_modes md_limbs_up
theorem fn_bits_Sub32 : T.fns n_bits_Sub32 = some a_bits_Sub32 := rfl
theorem run_bits_Sub32 (xs : List PV) : Cinf T n_bits_Sub32 xs = Run T a_bits_Sub32 xs := Cinf_eq rfl fn_bits_Sub32
@[simp] theorem md_bits_Sub32 : T.modes n_bits_Sub32 = [] := rfl
@[simp] theorem call_bits_Sub32 (C : Oracle) (e : Env) (xs : List PV) : call T C e n_bits_Sub32 xs = callK1 C n_bits_Sub32 xs (moves e [] [] xs) := call_modes md_bits_Sub32
theorem fn_bits_Add32 : T.fns n_bits_Add32 = some a_bits_Add32 := rfl
theorem run_bits_Add32 (xs : List PV) : Cinf T n_bits_Add32 xs = Run T a_bits_Add32 xs := Cinf_eq rfl fn_bits_Add32
@[simp] theorem md_bits_Add32 : T.modes n_bits_Add32 = [] := rfl
@[simp] theorem call_bits_Add32 (C : Oracle) (e : Env) (xs : List PV) : call T C e n_bits_Add32 xs = callK1 C n_bits_Add32 xs (moves e [] [] xs) := call_modes md_bits_Add32
theorem fn_limbs_long : T.fns n_limbs_long = some a_limbs_long := rfl
@[simp] theorem tl0_limbs_long (e : Env) : Exec T k0_limbs_long e = Exec T j0_limbs_long (e.keep [0, 1, 5, 6, 7, 8, 9, 11, 12, 24, 71, 100000]) := Exec_tail _ _ _
@[simp] theorem tl1_limbs_long (e : Env) : Exec T k1_limbs_long e = Exec T j1_limbs_long (e.keep [0, 1, 5, 6, 7, 8, 9, 11, 12, 24, 100000]) := Exec_tail _ _ _
@[simp] theorem tl2_limbs_long (e : Env) : Exec T k2_limbs_long e = Exec T j2_limbs_long (e.keep [0, 1, 5, 6, 7, 8, 9, 11, 13, 14, 24, 94, 95, 100000]) := Exec_tail _ _ _
@[simp] theorem tl3_limbs_long (e : Env) : Exec T k3_limbs_long e = Exec T j3_limbs_long (e.keep [0, 1, 5, 6, 7, 8, 9, 11, 13, 14, 24, 94, 95, 100000]) := Exec_tail _ _ _
@[simp] theorem tl4_limbs_long (e : Env) : Exec T k4_limbs_long e = Exec T j4_limbs_long (e.keep [0, 1, 5, 6, 7, 8, 9, 16, 24, 159, 160, 100000]) := Exec_tail _ _ _
@[simp] theorem tl5_limbs_long (e : Env) : Exec T k5_limbs_long e = Exec T j5_limbs_long (e.keep [0, 1, 5, 6, 7, 8, 9, 16, 24, 159, 160, 100000]) := Exec_tail _ _ _
@[simp] theorem tl6_limbs_long (e : Env) : Exec T k6_limbs_long e = Exec T j6_limbs_long (e.keep [0, 1, 5, 6, 7, 8, 9, 16, 24, 100000]) := Exec_tail _ _ _
@[simp] theorem tl7_limbs_long (e : Env) : Exec T k7_limbs_long e = Exec T j7_limbs_long (e.keep [0, 1, 5, 6, 7, 8, 9, 24, 100000]) := Exec_tail _ _ _
@[simp] theorem tl8_limbs_long (e : Env) : Exec T k8_limbs_long e = Exec T j8_limbs_long (e.keep [0, 1, 5, 6, 7, 8, 9, 11, 13, 14, 24, 100000]) := Exec_tail _ _ _
@[simp] theorem tl9_limbs_long (e : Env) : Exec T k9_limbs_long e = Exec T j9_limbs_long (e.keep [0, 1, 5, 6, 7, 8, 9, 11, 24, 100000]) := Exec_tail _ _ _
@[simp] theorem tl10_limbs_long (e : Env) : Exec T k10_limbs_long e = Exec T j10_limbs_long (e.keep [0, 1, 5, 6, 7, 8, 9, 24, 100000]) := Exec_tail _ _ _
@[simp] theorem tl11_limbs_long (e : Env) : Exec T k11_limbs_long e = Exec T j11_limbs_long (e.keep [0, 1, 5, 6, 7, 8, 9, 24, 100000]) := Exec_tail _ _ _
@[simp] theorem tl12_limbs_long (e : Env) : Exec T k12_limbs_long e = Exec T j12_limbs_long (e.keep [6, 24, 100000]) := Exec_tail _ _ _
theorem ex1_limbs_long (e : Env) : Exec T l1_limbs_long e = andThen (Exec T w1_limbs_long (e.keep [0, 1, 5, 6, 7, 8, 9, 11, 12, 24, 100000])) (Exec T l1_limbs_long) := Exec_loop _ _ _
theorem ex2_limbs_long (e : Env) : Exec T l2_limbs_long e = andThen (Exec T w2_limbs_long (e.keep [0, 1, 5, 6, 7, 8, 9, 11, 13, 14, 24, 94, 95, 100000])) (Exec T l2_limbs_long) := Exec_loop _ _ _
theorem ex3_limbs_long (e : Env) : Exec T l3_limbs_long e = andThen (Exec T w3_limbs_long (e.keep [0, 1, 5, 6, 7, 8, 9, 16, 24, 159, 160, 100000])) (Exec T l3_limbs_long) := Exec_loop _ _ _
theorem ex0_limbs_long (e : Env) : Exec T l0_limbs_long e = andThen (Exec T w0_limbs_long (e.keep [0, 1, 5, 6, 7, 8, 9, 24, 100000])) (Exec T l0_limbs_long) := Exec_loop _ _ _
theorem run_limbs_long (xs : List PV) : Cinf T n_limbs_long xs = Run T a_limbs_long xs := Cinf_eq rfl fn_limbs_long
@[simp] theorem md_limbs_long : T.modes n_limbs_long = [true, false] := rfl
@[simp] theorem call_limbs_long (C : Oracle) (e : Env) (xs : List PV) : call T C e n_limbs_long xs = callK1 C n_limbs_long xs (moves e [] [true, false] xs) := call_modes md_limbs_long
theorem fn_limbs_down : T.fns n_limbs_down = some a_limbs_down := rfl
@[simp] theorem tl0_limbs_down (e : Env) : Exec T k0_limbs_down e = Exec T j0_limbs_down (e.keep [0, 1, 5, 6, 7, 9, 15, 17, 18, 21, 23, 24]) := Exec_tail _ _ _
@[simp] theorem tl1_limbs_down (e : Env) : Exec T k1_limbs_down e = Exec T j1_limbs_down (e.keep [0, 1, 5, 9, 15, 17, 18, 21, 23, 24]) := Exec_tail _ _ _
@[simp] theorem tl2_limbs_down (e : Env) : Exec T k2_limbs_down e = Exec T j2_limbs_down (e.keep [0, 1, 5, 9, 15, 17, 18, 21, 23, 24]) := Exec_tail _ _ _
@[simp] theorem tl3_limbs_down (e : Env) : Exec T k3_limbs_down e = Exec T j3_limbs_down (e.keep [5, 21]) := Exec_tail _ _ _
@[simp] theorem tl4_limbs_down (e : Env) : Exec T k4_limbs_down e = Exec T j4_limbs_down (e.keep [0, 1, 9, 15, 17, 18]) := Exec_tail _ _ _
theorem ex0_limbs_down (e : Env) : Exec T l0_limbs_down e = andThen (Exec T w0_limbs_down (e.keep [0, 1, 5, 9, 15, 17, 18, 21, 23, 24])) (Exec T l0_limbs_down) := Exec_loop _ _ _
theorem run_limbs_down (xs : List PV) : Cinf T n_limbs_down xs = Run T a_limbs_down xs := Cinf_eq rfl fn_limbs_down
@[simp] theorem md_limbs_down : T.modes n_limbs_down = [] := rfl
@[simp] theorem call_limbs_down (C : Oracle) (e : Env) (xs : List PV) : call T C e n_limbs_down xs = callK1 C n_limbs_down xs (moves e [] [] xs) := call_modes md_limbs_down
theorem fn_limbs_DivMod : T.fns n_limbs_DivMod = some a_limbs_DivMod := rfl
@[simp] theorem tl0_limbs_DivMod (e : Env) : Exec T k0_limbs_DivMod e = Exec T j0_limbs_DivMod (e.keep [0, 1, 7, 8, 9, 15, 17, 32]) := Exec_tail _ _ _
@[simp] theorem tl1_limbs_DivMod (e : Env) : Exec T k1_limbs_DivMod e = Exec T j1_limbs_DivMod (e.keep [0, 1, 7, 8, 9, 15, 17, 32]) := Exec_tail _ _ _
@[simp] theorem tl2_limbs_DivMod (e : Env) : Exec T k2_limbs_DivMod e = Exec T j2_limbs_DivMod (e.keep [7, 8, 32]) := Exec_tail _ _ _
@[simp] theorem tl3_limbs_DivMod (e : Env) : Exec T k3_limbs_DivMod e = Exec T j3_limbs_DivMod (e.keep [0, 10, 11, 12, 15, 77, 80, 88]) := Exec_tail _ _ _
@[simp] theorem tl4_limbs_DivMod (e : Env) : Exec T k4_limbs_DivMod e = Exec T j4_limbs_DivMod (e.keep [10, 11, 12, 77, 80, 88]) := Exec_tail _ _ _
@[simp] theorem tl5_limbs_DivMod (e : Env) : Exec T k5_limbs_DivMod e = Exec T j5_limbs_DivMod (e.keep [0, 1, 15, 17]) := Exec_tail _ _ _
@[simp] theorem tl6_limbs_DivMod (e : Env) : Exec T k6_limbs_DivMod e = Exec T j6_limbs_DivMod (e.keep [0, 1, 15, 17]) := Exec_tail _ _ _
@[simp] theorem tl7_limbs_DivMod (e : Env) : Exec T k7_limbs_DivMod e = Exec T j7_limbs_DivMod (e.keep [0, 1, 15, 17]) := Exec_tail _ _ _
theorem ex0_limbs_DivMod (e : Env) : Exec T l0_limbs_DivMod e = andThen (Exec T w0_limbs_DivMod (e.keep [0, 1, 7, 8, 9, 15, 17, 32])) (Exec T l0_limbs_DivMod) := Exec_loop _ _ _
theorem ex1_limbs_DivMod (e : Env) : Exec T l1_limbs_DivMod e = andThen (Exec T w1_limbs_DivMod (e.keep [0, 10, 11, 12, 15, 77, 80, 88])) (Exec T l1_limbs_DivMod) := Exec_loop _ _ _
theorem run_limbs_DivMod (xs : List PV) : Cinf T n_limbs_DivMod xs = Run T a_limbs_DivMod xs := Cinf_eq rfl fn_limbs_DivMod
@[simp] theorem md_limbs_DivMod : T.modes n_limbs_DivMod = [] := rfl
@[simp] theorem call_limbs_DivMod (C : Oracle) (e : Env) (xs : List PV) : call T C e n_limbs_DivMod xs = callK1 C n_limbs_DivMod xs (moves e [] [] xs) := call_modes md_limbs_DivMod
theorem fn_limbs_Add : T.fns n_limbs_Add = some a_limbs_Add := rfl
@[simp] theorem tl0_limbs_Add (e : Env) : Exec T k0_limbs_Add e = Exec T j0_limbs_Add (e.keep [0, 1, 5, 6, 13, 14, 18, 20, 21, 46]) := Exec_tail _ _ _
@[simp] theorem tl1_limbs_Add (e : Env) : Exec T k1_limbs_Add e = Exec T j1_limbs_Add (e.keep [0, 1, 5, 6, 13, 14, 18, 20, 21, 46]) := Exec_tail _ _ _
@[simp] theorem tl2_limbs_Add (e : Env) : Exec T k2_limbs_Add e = Exec T j2_limbs_Add (e.keep [0, 1, 5, 6, 13, 14, 18, 20, 21, 46]) := Exec_tail _ _ _
@[simp] theorem tl3_limbs_Add (e : Env) : Exec T k3_limbs_Add e = Exec T j3_limbs_Add (e.keep [5, 6, 18, 46]) := Exec_tail _ _ _
@[simp] theorem tl4_limbs_Add (e : Env) : Exec T k4_limbs_Add e = Exec T j4_limbs_Add (e.keep [0, 1, 13, 14]) := Exec_tail _ _ _
theorem ex0_limbs_Add (e : Env) : Exec T l0_limbs_Add e = andThen (Exec T w0_limbs_Add (e.keep [0, 1, 5, 6, 13, 14, 18, 20, 21, 46])) (Exec T l0_limbs_Add) := Exec_loop _ _ _
theorem run_limbs_Add (xs : List PV) : Cinf T n_limbs_Add xs = Run T a_limbs_Add xs := Cinf_eq rfl fn_limbs_Add
@[simp] theorem md_limbs_Add : T.modes n_limbs_Add = [] := rfl
@[simp] theorem call_limbs_Add (C : Oracle) (e : Env) (xs : List PV) : call T C e n_limbs_Add xs = callK1 C n_limbs_Add xs (moves e [] [] xs) := call_modes md_limbs_Add
theorem fn_limbs_Bit : T.fns n_limbs_Bit = some a_limbs_Bit := rfl
theorem run_limbs_Bit (xs : List PV) : Cinf T n_limbs_Bit xs = Run T a_limbs_Bit xs := Cinf_eq rfl fn_limbs_Bit
@[simp] theorem md_limbs_Bit : T.modes n_limbs_Bit = [] := rfl
@[simp] theorem call_limbs_Bit (C : Oracle) (e : Env) (xs : List PV) : call T C e n_limbs_Bit xs = callK1 C n_limbs_Bit xs (moves e [] [] xs) := call_modes md_limbs_Bit
theorem fn_fixed_rounded : T.fns n_fixed_rounded = some a_fixed_rounded := rfl
@[simp] theorem tl0_fixed_rounded (e : Env) : Exec T k0_fixed_rounded e = Exec T j0_fixed_rounded (e.keep [5, 9, 12, 13]) := Exec_tail _ _ _
theorem run_fixed_rounded (xs : List PV) : Cinf T n_fixed_rounded xs = Run T a_fixed_rounded xs := Cinf_eq rfl fn_fixed_rounded
@[simp] theorem md_fixed_rounded : T.modes n_fixed_rounded = [] := rfl
@[simp] theorem call_fixed_rounded (C : Oracle) (e : Env) (xs : List PV) : call T C e n_fixed_rounded xs = callK1 C n_fixed_rounded xs (moves e [] [] xs) := call_modes md_fixed_rounded
theorem fn_limbs_Mul : T.fns n_limbs_Mul = some a_limbs_Mul := rfl
@[simp] theorem tl0_limbs_Mul (e : Env) : Exec T k0_limbs_Mul e = Exec T j0_limbs_Mul (e.keep [0, 1, 5, 6, 7, 10, 12, 18, 20, 21, 25, 26]) := Exec_tail _ _ _
@[simp] theorem tl1_limbs_Mul (e : Env) : Exec T k1_limbs_Mul e = Exec T j1_limbs_Mul (e.keep [0, 1, 5, 6, 7, 10, 12, 18, 20, 21, 25, 26]) := Exec_tail _ _ _
@[simp] theorem tl2_limbs_Mul (e : Env) : Exec T k2_limbs_Mul e = Exec T j2_limbs_Mul (e.keep [0, 1, 5, 6, 7, 10, 12, 18, 20, 21]) := Exec_tail _ _ _
@[simp] theorem tl3_limbs_Mul (e : Env) : Exec T k3_limbs_Mul e = Exec T j3_limbs_Mul (e.keep [0, 1, 5, 10, 12, 18, 20, 21]) := Exec_tail _ _ _
@[simp] theorem tl4_limbs_Mul (e : Env) : Exec T k4_limbs_Mul e = Exec T j4_limbs_Mul (e.keep [0, 1, 5, 10, 12, 18, 20, 21]) := Exec_tail _ _ _
@[simp] theorem tl5_limbs_Mul (e : Env) : Exec T k5_limbs_Mul e = Exec T j5_limbs_Mul (e.keep [5, 18]) := Exec_tail _ _ _
theorem ex1_limbs_Mul (e : Env) : Exec T l1_limbs_Mul e = andThen (Exec T w1_limbs_Mul (e.keep [0, 1, 5, 6, 7, 10, 12, 18, 20, 21, 25, 26])) (Exec T l1_limbs_Mul) := Exec_loop _ _ _
theorem ex0_limbs_Mul (e : Env) : Exec T l0_limbs_Mul e = andThen (Exec T w0_limbs_Mul (e.keep [0, 1, 5, 10, 12, 18, 20, 21])) (Exec T l0_limbs_Mul) := Exec_loop _ _ _
theorem run_limbs_Mul (xs : List PV) : Cinf T n_limbs_Mul xs = Run T a_limbs_Mul xs := Cinf_eq rfl fn_limbs_Mul
@[simp] theorem md_limbs_Mul : T.modes n_limbs_Mul = [] := rfl
@[simp] theorem call_limbs_Mul (C : Oracle) (e : Env) (xs : List PV) : call T C e n_limbs_Mul xs = callK1 C n_limbs_Mul xs (moves e [] [] xs) := call_modes md_limbs_Mul
theorem fn_fixed_amount : T.fns n_fixed_amount = some a_fixed_amount := rfl
@[simp] theorem tl0_fixed_amount (e : Env) : Exec T k0_fixed_amount e = Exec T j0_fixed_amount (e.keep [0]) := Exec_tail _ _ _
theorem run_fixed_amount (xs : List PV) : Cinf T n_fixed_amount xs = Run T a_fixed_amount xs := Cinf_eq rfl fn_fixed_amount
@[simp] theorem md_fixed_amount : T.modes n_fixed_amount = [] := rfl
@[simp] theorem call_fixed_amount (C : Oracle) (e : Env) (xs : List PV) : call T C e n_fixed_amount xs = callK1 C n_fixed_amount xs (moves e [] [] xs) := call_modes md_fixed_amount
theorem fn_limbs_Small : T.fns n_limbs_Small = some a_limbs_Small := rfl
@[simp] theorem tl0_limbs_Small (e : Env) : Exec T k0_limbs_Small e = Exec T j0_limbs_Small (e.keep [0, 4, 7, 12, 13]) := Exec_tail _ _ _
@[simp] theorem tl1_limbs_Small (e : Env) : Exec T k1_limbs_Small e = Exec T j1_limbs_Small (e.keep [0, 4, 7, 12, 13]) := Exec_tail _ _ _
@[simp] theorem tl2_limbs_Small (e : Env) : Exec T k2_limbs_Small e = Exec T j2_limbs_Small (e.keep [4]) := Exec_tail _ _ _
@[simp] theorem tl3_limbs_Small (e : Env) : Exec T k3_limbs_Small e = Exec T j3_limbs_Small (e.keep [0, 4, 7]) := Exec_tail _ _ _
theorem ex0_limbs_Small (e : Env) : Exec T l0_limbs_Small e = andThen (Exec T w0_limbs_Small (e.keep [0, 4, 7, 12, 13])) (Exec T l0_limbs_Small) := Exec_loop _ _ _
theorem run_limbs_Small (xs : List PV) : Cinf T n_limbs_Small xs = Run T a_limbs_Small xs := Cinf_eq rfl fn_limbs_Small
@[simp] theorem md_limbs_Small : T.modes n_limbs_Small = [] := rfl
@[simp] theorem call_limbs_Small (C : Oracle) (e : Env) (xs : List PV) : call T C e n_limbs_Small xs = callK1 C n_limbs_Small xs (moves e [] [] xs) := call_modes md_limbs_Small
theorem fn_fixed_signed : T.fns n_fixed_signed = some a_fixed_signed := rfl
@[simp] theorem tl0_fixed_signed (e : Env) : Exec T k0_fixed_signed e = Exec T j0_fixed_signed (e.keep [6]) := Exec_tail _ _ _
theorem run_fixed_signed (xs : List PV) : Cinf T n_fixed_signed xs = Run T a_fixed_signed xs := Cinf_eq rfl fn_fixed_signed
@[simp] theorem md_fixed_signed : T.modes n_fixed_signed = [] := rfl
@[simp] theorem call_fixed_signed (C : Oracle) (e : Env) (xs : List PV) : call T C e n_fixed_signed xs = callK1 C n_fixed_signed xs (moves e [] [] xs) := call_modes md_fixed_signed
theorem fn_fixed_Scale : T.fns n_fixed_Scale = some a_fixed_Scale := rfl
@[simp] theorem tl0_fixed_Scale (e : Env) : Exec T k0_fixed_Scale e = Exec T j0_fixed_Scale (e.keep [10]) := Exec_tail _ _ _
@[simp] theorem tl1_fixed_Scale (e : Env) : Exec T k1_fixed_Scale e = Exec T j1_fixed_Scale (e.keep [0, 1, 2]) := Exec_tail _ _ _
theorem run_fixed_Scale (xs : List PV) : Cinf T n_fixed_Scale xs = Run T a_fixed_Scale xs := Cinf_eq rfl fn_fixed_Scale
@[simp] theorem md_fixed_Scale : T.modes n_fixed_Scale = [] := rfl
@[simp] theorem call_fixed_Scale (C : Oracle) (e : Env) (xs : List PV) : call T C e n_fixed_Scale xs = callK1 C n_fixed_Scale xs (moves e [] [] xs) := call_modes md_fixed_Scale
theorem fn_thicketref04_amount : T.fns n_thicketref04_amount = some a_thicketref04_amount := rfl
@[simp] theorem tl0_thicketref04_amount (e : Env) : Exec T k0_thicketref04_amount e = Exec T j0_thicketref04_amount (e.keep [0]) := Exec_tail _ _ _
theorem run_thicketref04_amount (xs : List PV) : Cinf T n_thicketref04_amount xs = Run T a_thicketref04_amount xs := Cinf_eq rfl fn_thicketref04_amount
@[simp] theorem md_thicketref04_amount : T.modes n_thicketref04_amount = [] := rfl
@[simp] theorem call_thicketref04_amount (C : Oracle) (e : Env) (xs : List PV) : call T C e n_thicketref04_amount xs = callK1 C n_thicketref04_amount xs (moves e [] [] xs) := call_modes md_thicketref04_amount
theorem fn_thicketref04_signed : T.fns n_thicketref04_signed = some a_thicketref04_signed := rfl
@[simp] theorem tl0_thicketref04_signed (e : Env) : Exec T k0_thicketref04_signed e = Exec T j0_thicketref04_signed (e.keep [1]) := Exec_tail _ _ _
theorem run_thicketref04_signed (xs : List PV) : Cinf T n_thicketref04_signed xs = Run T a_thicketref04_signed xs := Cinf_eq rfl fn_thicketref04_signed
@[simp] theorem md_thicketref04_signed : T.modes n_thicketref04_signed = [] := rfl
@[simp] theorem call_thicketref04_signed (C : Oracle) (e : Env) (xs : List PV) : call T C e n_thicketref04_signed xs = callK1 C n_thicketref04_signed xs (moves e [] [] xs) := call_modes md_thicketref04_signed
theorem fn_thicketref02_norm : T.fns n_thicketref02_norm = some a_thicketref02_norm := rfl
@[simp] theorem tl0_thicketref02_norm (e : Env) : Exec T k0_thicketref02_norm e = Exec T j0_thicketref02_norm (e.keep [0, 3, 100000]) := Exec_tail _ _ _
@[simp] theorem tl1_thicketref02_norm (e : Env) : Exec T k1_thicketref02_norm e = Exec T j1_thicketref02_norm (e.keep [0, 3, 100000]) := Exec_tail _ _ _
theorem ex0_thicketref02_norm (e : Env) : Exec T l0_thicketref02_norm e = andThen (Exec T w0_thicketref02_norm (e.keep [0, 3, 100000])) (Exec T l0_thicketref02_norm) := Exec_loop _ _ _
theorem run_thicketref02_norm (xs : List PV) : Cinf T n_thicketref02_norm xs = Run T a_thicketref02_norm xs := Cinf_eq rfl fn_thicketref02_norm
@[simp] theorem md_thicketref02_norm : T.modes n_thicketref02_norm = [true] := rfl
@[simp] theorem call_thicketref02_norm (C : Oracle) (e : Env) (xs : List PV) : call T C e n_thicketref02_norm xs = callK1 C n_thicketref02_norm xs (moves e [] [true] xs) := call_modes md_thicketref02_norm
theorem fn_thicketref02_Product : T.fns n_thicketref02_Product = some a_thicketref02_Product := rfl
@[simp] theorem tl0_thicketref02_Product (e : Env) : Exec T k0_thicketref02_Product e = Exec T j0_thicketref02_Product (e.keep [0, 1, 5, 6, 7, 8, 14]) := Exec_tail _ _ _
@[simp] theorem tl1_thicketref02_Product (e : Env) : Exec T k1_thicketref02_Product e = Exec T j1_thicketref02_Product (e.keep [0, 1, 5, 6, 7, 8, 14]) := Exec_tail _ _ _
@[simp] theorem tl2_thicketref02_Product (e : Env) : Exec T k2_thicketref02_Product e = Exec T j2_thicketref02_Product (e.keep [0, 1, 5, 6, 7, 14]) := Exec_tail _ _ _
@[simp] theorem tl3_thicketref02_Product (e : Env) : Exec T k3_thicketref02_Product e = Exec T j3_thicketref02_Product (e.keep [0, 1, 5, 6, 14]) := Exec_tail _ _ _
@[simp] theorem tl4_thicketref02_Product (e : Env) : Exec T k4_thicketref02_Product e = Exec T j4_thicketref02_Product (e.keep [0, 1, 5, 6, 14]) := Exec_tail _ _ _
@[simp] theorem tl5_thicketref02_Product (e : Env) : Exec T k5_thicketref02_Product e = Exec T j5_thicketref02_Product (e.keep [5, 14]) := Exec_tail _ _ _
theorem ex1_thicketref02_Product (e : Env) : Exec T l1_thicketref02_Product e = andThen (Exec T w1_thicketref02_Product (e.keep [0, 1, 5, 6, 7, 8, 14])) (Exec T l1_thicketref02_Product) := Exec_loop _ _ _
theorem ex0_thicketref02_Product (e : Env) : Exec T l0_thicketref02_Product e = andThen (Exec T w0_thicketref02_Product (e.keep [0, 1, 5, 6, 14])) (Exec T l0_thicketref02_Product) := Exec_loop _ _ _
theorem run_thicketref02_Product (xs : List PV) : Cinf T n_thicketref02_Product xs = Run T a_thicketref02_Product xs := Cinf_eq rfl fn_thicketref02_Product
@[simp] theorem md_thicketref02_Product : T.modes n_thicketref02_Product = [] := rfl
@[simp] theorem call_thicketref02_Product (C : Oracle) (e : Env) (xs : List PV) : call T C e n_thicketref02_Product xs = callK1 C n_thicketref02_Product xs (moves e [] [] xs) := call_modes md_thicketref02_Product
theorem fn_thicketref02_from : T.fns n_thicketref02_from = some a_thicketref02_from := rfl
theorem run_thicketref02_from (xs : List PV) : Cinf T n_thicketref02_from xs = Run T a_thicketref02_from xs := Cinf_eq rfl fn_thicketref02_from
@[simp] theorem md_thicketref02_from : T.modes n_thicketref02_from = [] := rfl
@[simp] theorem call_thicketref02_from (C : Oracle) (e : Env) (xs : List PV) : call T C e n_thicketref02_from xs = callK1 C n_thicketref02_from xs (moves e [] [] xs) := call_modes md_thicketref02_from
theorem fn_thicketref02_From : T.fns n_thicketref02_From = some a_thicketref02_From := rfl
theorem run_thicketref02_From (xs : List PV) : Cinf T n_thicketref02_From xs = Run T a_thicketref02_From xs := Cinf_eq rfl fn_thicketref02_From
@[simp] theorem md_thicketref02_From : T.modes n_thicketref02_From = [] := rfl
@[simp] theorem call_thicketref02_From (C : Oracle) (e : Env) (xs : List PV) : call T C e n_thicketref02_From xs = callK1 C n_thicketref02_From xs (moves e [] [] xs) := call_modes md_thicketref02_From
theorem fn_thicketref02_size : T.fns n_thicketref02_size = some a_thicketref02_size := rfl
@[simp] theorem tl0_thicketref02_size (e : Env) : Exec T k0_thicketref02_size e = Exec T j0_thicketref02_size (e.keep [3, 4]) := Exec_tail _ _ _
@[simp] theorem tl1_thicketref02_size (e : Env) : Exec T k1_thicketref02_size e = Exec T j1_thicketref02_size (e.keep [3, 4]) := Exec_tail _ _ _
@[simp] theorem tl2_thicketref02_size (e : Env) : Exec T k2_thicketref02_size e = Exec T j2_thicketref02_size (e.keep [3]) := Exec_tail _ _ _
@[simp] theorem tl3_thicketref02_size (e : Env) : Exec T k3_thicketref02_size e = Exec T j3_thicketref02_size (e.keep [0]) := Exec_tail _ _ _
theorem ex0_thicketref02_size (e : Env) : Exec T l0_thicketref02_size e = andThen (Exec T w0_thicketref02_size (e.keep [3, 4])) (Exec T l0_thicketref02_size) := Exec_loop _ _ _
theorem run_thicketref02_size (xs : List PV) : Cinf T n_thicketref02_size xs = Run T a_thicketref02_size xs := Cinf_eq rfl fn_thicketref02_size
@[simp] theorem md_thicketref02_size : T.modes n_thicketref02_size = [] := rfl
@[simp] theorem call_thicketref02_size (C : Oracle) (e : Env) (xs : List PV) : call T C e n_thicketref02_size xs = callK1 C n_thicketref02_size xs (moves e [] [] xs) := call_modes md_thicketref02_size
theorem fn_thicketref02_Size : T.fns n_thicketref02_Size = some a_thicketref02_Size := rfl
theorem run_thicketref02_Size (xs : List PV) : Cinf T n_thicketref02_Size xs = Run T a_thicketref02_Size xs := Cinf_eq rfl fn_thicketref02_Size
@[simp] theorem md_thicketref02_Size : T.modes n_thicketref02_Size = [] := rfl
@[simp] theorem call_thicketref02_Size (C : Oracle) (e : Env) (xs : List PV) : call T C e n_thicketref02_Size xs = callK1 C n_thicketref02_Size xs (moves e [] [] xs) := call_modes md_thicketref02_Size
theorem fn_thicketref02_cmp : T.fns n_thicketref02_cmp = some a_thicketref02_cmp := rfl
@[simp] theorem tl0_thicketref02_cmp (e : Env) : Exec T k0_thicketref02_cmp e = Exec T j0_thicketref02_cmp (e.keep []) := Exec_tail _ _ _
@[simp] theorem tl1_thicketref02_cmp (e : Env) : Exec T k1_thicketref02_cmp e = Exec T j1_thicketref02_cmp (e.keep []) := Exec_tail _ _ _
@[simp] theorem tl2_thicketref02_cmp (e : Env) : Exec T k2_thicketref02_cmp e = Exec T j2_thicketref02_cmp (e.keep [0, 1, 5]) := Exec_tail _ _ _
@[simp] theorem tl3_thicketref02_cmp (e : Env) : Exec T k3_thicketref02_cmp e = Exec T j3_thicketref02_cmp (e.keep [0, 1, 5]) := Exec_tail _ _ _
@[simp] theorem tl4_thicketref02_cmp (e : Env) : Exec T k4_thicketref02_cmp e = Exec T j4_thicketref02_cmp (e.keep []) := Exec_tail _ _ _
@[simp] theorem tl5_thicketref02_cmp (e : Env) : Exec T k5_thicketref02_cmp e = Exec T j5_thicketref02_cmp (e.keep [0, 1]) := Exec_tail _ _ _
theorem ex0_thicketref02_cmp (e : Env) : Exec T l0_thicketref02_cmp e = andThen (Exec T w0_thicketref02_cmp (e.keep [0, 1, 5])) (Exec T l0_thicketref02_cmp) := Exec_loop _ _ _
theorem run_thicketref02_cmp (xs : List PV) : Cinf T n_thicketref02_cmp xs = Run T a_thicketref02_cmp xs := Cinf_eq rfl fn_thicketref02_cmp
@[simp] theorem md_thicketref02_cmp : T.modes n_thicketref02_cmp = [] := rfl
@[simp] theorem call_thicketref02_cmp (C : Oracle) (e : Env) (xs : List PV) : call T C e n_thicketref02_cmp xs = callK1 C n_thicketref02_cmp xs (moves e [] [] xs) := call_modes md_thicketref02_cmp
theorem fn_thicketref02_up : T.fns n_thicketref02_up = some a_thicketref02_up := rfl
@[simp] theorem tl0_thicketref02_up (e : Env) : Exec T k0_thicketref02_up e = Exec T j0_thicketref02_up (e.keep [0, 1, 5, 6, 21, 44, 51]) := Exec_tail _ _ _
@[simp] theorem tl1_thicketref02_up (e : Env) : Exec T k1_thicketref02_up e = Exec T j1_thicketref02_up (e.keep [0, 1, 5, 6, 21, 44, 51]) := Exec_tail _ _ _
@[simp] theorem tl2_thicketref02_up (e : Env) : Exec T k2_thicketref02_up e = Exec T j2_thicketref02_up (e.keep [0, 5, 7, 8, 9, 21, 44, 51]) := Exec_tail _ _ _
@[simp] theorem tl3_thicketref02_up (e : Env) : Exec T k3_thicketref02_up e = Exec T j3_thicketref02_up (e.keep [0, 5, 7, 8, 9, 21, 44, 51]) := Exec_tail _ _ _
@[simp] theorem tl4_thicketref02_up (e : Env) : Exec T k4_thicketref02_up e = Exec T j4_thicketref02_up (e.keep [5, 8, 21, 44, 51]) := Exec_tail _ _ _
@[simp] theorem tl5_thicketref02_up (e : Env) : Exec T k5_thicketref02_up e = Exec T j5_thicketref02_up (e.keep [0, 1, 5, 21, 44, 51]) := Exec_tail _ _ _
@[simp] theorem tl6_thicketref02_up (e : Env) : Exec T k6_thicketref02_up e = Exec T j6_thicketref02_up (e.keep [0, 1, 5, 21, 44, 51]) := Exec_tail _ _ _
theorem ex0_thicketref02_up (e : Env) : Exec T l0_thicketref02_up e = andThen (Exec T w0_thicketref02_up (e.keep [0, 1, 5, 6, 21, 44, 51])) (Exec T l0_thicketref02_up) := Exec_loop _ _ _
theorem ex1_thicketref02_up (e : Env) : Exec T l1_thicketref02_up e = andThen (Exec T w1_thicketref02_up (e.keep [0, 5, 7, 8, 9, 21, 44, 51])) (Exec T l1_thicketref02_up) := Exec_loop _ _ _
theorem run_thicketref02_up (xs : List PV) : Cinf T n_thicketref02_up xs = Run T a_thicketref02_up xs := Cinf_eq rfl fn_thicketref02_up
@[simp] theorem md_thicketref02_up : T.modes n_thicketref02_up = [] := rfl
@[simp] theorem call_thicketref02_up (C : Oracle) (e : Env) (xs : List PV) : call T C e n_thicketref02_up xs = callK1 C n_thicketref02_up xs (moves e [] [] xs) := call_modes md_thicketref02_up
theorem fn_thicketref02_minus : T.fns n_thicketref02_minus = some a_thicketref02_minus := rfl
@[simp] theorem tl0_thicketref02_minus (e : Env) : Exec T k0_thicketref02_minus e = Exec T j0_thicketref02_minus (e.keep [0, 1, 5, 6, 7, 36]) := Exec_tail _ _ _
@[simp] theorem tl1_thicketref02_minus (e : Env) : Exec T k1_thicketref02_minus e = Exec T j1_thicketref02_minus (e.keep [0, 1, 5, 6, 7, 36]) := Exec_tail _ _ _
@[simp] theorem tl2_thicketref02_minus (e : Env) : Exec T k2_thicketref02_minus e = Exec T j2_thicketref02_minus (e.keep [0, 1, 5, 6, 7, 36]) := Exec_tail _ _ _
@[simp] theorem tl3_thicketref02_minus (e : Env) : Exec T k3_thicketref02_minus e = Exec T j3_thicketref02_minus (e.keep [5, 36]) := Exec_tail _ _ _
theorem ex0_thicketref02_minus (e : Env) : Exec T l0_thicketref02_minus e = andThen (Exec T w0_thicketref02_minus (e.keep [0, 1, 5, 6, 7, 36])) (Exec T l0_thicketref02_minus) := Exec_loop _ _ _
theorem run_thicketref02_minus (xs : List PV) : Cinf T n_thicketref02_minus xs = Run T a_thicketref02_minus xs := Cinf_eq rfl fn_thicketref02_minus
@[simp] theorem md_thicketref02_minus : T.modes n_thicketref02_minus = [] := rfl
@[simp] theorem call_thicketref02_minus (C : Oracle) (e : Env) (xs : List PV) : call T C e n_thicketref02_minus xs = callK1 C n_thicketref02_minus xs (moves e [] [] xs) := call_modes md_thicketref02_minus
theorem fn_thicketref02_divide : T.fns n_thicketref02_divide = some a_thicketref02_divide := rfl
@[simp] theorem tl0_thicketref02_divide (e : Env) : Exec T k0_thicketref02_divide e = Exec T j0_thicketref02_divide (e.keep [0, 1, 6, 8, 29]) := Exec_tail _ _ _
@[simp] theorem tl1_thicketref02_divide (e : Env) : Exec T k1_thicketref02_divide e = Exec T j1_thicketref02_divide (e.keep [0, 1, 6, 8, 29]) := Exec_tail _ _ _
@[simp] theorem tl2_thicketref02_divide (e : Env) : Exec T k2_thicketref02_divide e = Exec T j2_thicketref02_divide (e.keep [0, 6, 29]) := Exec_tail _ _ _
theorem ex0_thicketref02_divide (e : Env) : Exec T l0_thicketref02_divide e = andThen (Exec T w0_thicketref02_divide (e.keep [0, 1, 6, 8, 29])) (Exec T l0_thicketref02_divide) := Exec_loop _ _ _
theorem run_thicketref02_divide (xs : List PV) : Cinf T n_thicketref02_divide xs = Run T a_thicketref02_divide xs := Cinf_eq rfl fn_thicketref02_divide
@[simp] theorem md_thicketref02_divide : T.modes n_thicketref02_divide = [] := rfl
@[simp] theorem call_thicketref02_divide (C : Oracle) (e : Env) (xs : List PV) : call T C e n_thicketref02_divide xs = callK1 C n_thicketref02_divide xs (moves e [] [] xs) := call_modes md_thicketref02_divide
theorem fn_thicketref02_Divide : T.fns n_thicketref02_Divide = some a_thicketref02_Divide := rfl
theorem run_thicketref02_Divide (xs : List PV) : Cinf T n_thicketref02_Divide xs = Run T a_thicketref02_Divide xs := Cinf_eq rfl fn_thicketref02_Divide
@[simp] theorem md_thicketref02_Divide : T.modes n_thicketref02_Divide = [] := rfl
@[simp] theorem call_thicketref02_Divide (C : Oracle) (e : Env) (xs : List PV) : call T C e n_thicketref02_Divide xs = callK1 C n_thicketref02_Divide xs (moves e [] [] xs) := call_modes md_thicketref02_Divide
theorem fn_thicketref02_Cmp : T.fns n_thicketref02_Cmp = some a_thicketref02_Cmp := rfl
theorem run_thicketref02_Cmp (xs : List PV) : Cinf T n_thicketref02_Cmp xs = Run T a_thicketref02_Cmp xs := Cinf_eq rfl fn_thicketref02_Cmp
@[simp] theorem md_thicketref02_Cmp : T.modes n_thicketref02_Cmp = [] := rfl
@[simp] theorem call_thicketref02_Cmp (C : Oracle) (e : Env) (xs : List PV) : call T C e n_thicketref02_Cmp xs = callK1 C n_thicketref02_Cmp xs (moves e [] [] xs) := call_modes md_thicketref02_Cmp
theorem fn_thicketref02_Up : T.fns n_thicketref02_Up = some a_thicketref02_Up := rfl
theorem run_thicketref02_Up (xs : List PV) : Cinf T n_thicketref02_Up xs = Run T a_thicketref02_Up xs := Cinf_eq rfl fn_thicketref02_Up
@[simp] theorem md_thicketref02_Up : T.modes n_thicketref02_Up = [] := rfl
@[simp] theorem call_thicketref02_Up (C : Oracle) (e : Env) (xs : List PV) : call T C e n_thicketref02_Up xs = callK1 C n_thicketref02_Up xs (moves e [] [] xs) := call_modes md_thicketref02_Up
theorem fn_thicketref04_Rounded : T.fns n_thicketref04_Rounded = some a_thicketref04_Rounded := rfl
@[simp] theorem tl0_thicketref04_Rounded (e : Env) : Exec T k0_thicketref04_Rounded e = Exec T j0_thicketref04_Rounded (e.keep [6]) := Exec_tail _ _ _
@[simp] theorem tl1_thicketref04_Rounded (e : Env) : Exec T k1_thicketref04_Rounded e = Exec T j1_thicketref04_Rounded (e.keep [1, 6, 7, 15, 18, 20]) := Exec_tail _ _ _
@[simp] theorem tl2_thicketref04_Rounded (e : Env) : Exec T k2_thicketref04_Rounded e = Exec T j2_thicketref04_Rounded (e.keep [0, 1]) := Exec_tail _ _ _
theorem run_thicketref04_Rounded (xs : List PV) : Cinf T n_thicketref04_Rounded xs = Run T a_thicketref04_Rounded xs := Cinf_eq rfl fn_thicketref04_Rounded
@[simp] theorem md_thicketref04_Rounded : T.modes n_thicketref04_Rounded = [] := rfl
@[simp] theorem call_thicketref04_Rounded (C : Oracle) (e : Env) (xs : List PV) : call T C e n_thicketref04_Rounded xs = callK1 C n_thicketref04_Rounded xs (moves e [] [] xs) := call_modes md_thicketref04_Rounded
theorem fn_thicketref04_Scale : T.fns n_thicketref04_Scale = some a_thicketref04_Scale := rfl
@[simp] theorem tl0_thicketref04_Scale (e : Env) : Exec T k0_thicketref04_Scale e = Exec T j0_thicketref04_Scale (e.keep [11]) := Exec_tail _ _ _
@[simp] theorem tl1_thicketref04_Scale (e : Env) : Exec T k1_thicketref04_Scale e = Exec T j1_thicketref04_Scale (e.keep [0, 1, 2]) := Exec_tail _ _ _
theorem run_thicketref04_Scale (xs : List PV) : Cinf T n_thicketref04_Scale xs = Run T a_thicketref04_Scale xs := Cinf_eq rfl fn_thicketref04_Scale
@[simp] theorem md_thicketref04_Scale : T.modes n_thicketref04_Scale = [] := rfl
@[simp] theorem call_thicketref04_Scale (C : Oracle) (e : Env) (xs : List PV) : call T C e n_thicketref04_Scale xs = callK1 C n_thicketref04_Scale xs (moves e [] [] xs) := call_modes md_thicketref04_Scale
theorem fn_thicketlaw04_FixedScales : T.fns n_thicketlaw04_FixedScales = some a_thicketlaw04_FixedScales := rfl
theorem run_thicketlaw04_FixedScales (xs : List PV) : Cinf T n_thicketlaw04_FixedScales xs = Run T a_thicketlaw04_FixedScales xs := Cinf_eq rfl fn_thicketlaw04_FixedScales
@[simp] theorem md_thicketlaw04_FixedScales : T.modes n_thicketlaw04_FixedScales = [] := rfl
@[simp] theorem call_thicketlaw04_FixedScales (C : Oracle) (e : Env) (xs : List PV) : call T C e n_thicketlaw04_FixedScales xs = callK1 C n_thicketlaw04_FixedScales xs (moves e [] [] xs) := call_modes md_thicketlaw04_FixedScales
end Go.AM.F
