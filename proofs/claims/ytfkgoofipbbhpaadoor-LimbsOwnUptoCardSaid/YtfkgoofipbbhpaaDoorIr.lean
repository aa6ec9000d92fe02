/- The functions of the program in the abstract machine's form, printed by a program of the session's own (ir.py); Lean checks them against the program. No conditions. -/
import Derived.Test.YtfkgoofipbbhpaaDoorIrA
namespace Go.AM.F
open Go Go.AM
set_option maxRecDepth 100000

def j0_thicketlaw01_LimbsOwn : IR :=
 (.reg 19 [⟨some 107, .bin .add 3 (.t 98) (.c (Value.int IntKind.i64 1)) 3, none, []⟩,
  ⟨some 98, .move (.t 107), none, [107]⟩] none [0, 1, 5, 7, 8, 24, 25, 45, 47, 98])
def k0_thicketlaw01_LimbsOwn : IR := .tail [0, 1, 5, 7, 8, 24, 25, 45, 47, 98] j0_thicketlaw01_LimbsOwn
def j1_thicketlaw01_LimbsOwn : IR :=
 (.seq (.block 1 (.seq (.reg 17 [⟨some 100, .move (.t 98), none, []⟩,
  ⟨some 26, .assign (.t 100), none, [100]⟩] none [0, 1, 5, 7, 8, 24, 25, 26, 45, 47, 98])
 (.reg 18 [⟨some 101, .move (.t 26), none, []⟩,
  ⟨some 102, .move (.t 26), none, [26]⟩,
  ⟨some 103, .iaddr 50 (.arr 10 1) (.t 24) (.t 102), none, []⟩,
  ⟨some 104, .load 22 none (.t 103), none, []⟩,
  ⟨some 105, .call n_thicketlaw01_copied [(.t 104)] [22], none, [102, 103, 104]⟩,
  ⟨some 106, .iaddr 50 (.arr 10 1) (.t 25) (.t 101), none, []⟩,
  ⟨none, .store 22 none (.t 106) (.t 105), none, [101, 105, 106]⟩] none [0, 1, 5, 7, 8, 24, 25, 45, 47, 98])))
 k0_thicketlaw01_LimbsOwn)
def k1_thicketlaw01_LimbsOwn : IR := .tail [0, 1, 5, 7, 8, 24, 25, 45, 47, 98] j1_thicketlaw01_LimbsOwn
def w0_thicketlaw01_LimbsOwn : IR :=
 (.seq (.reg 16 [⟨some 99, .bin .lss 3 (.t 98) (.c (Value.int IntKind.i64 10)) 3, none, []⟩] none [0, 1, 5, 7, 8, 24, 25, 45, 47, 98, 99])
 (.seq (.cond [0, 1, 5, 7, 8, 24, 25, 45, 47, 98] (.t 99) .skip (.exit 0))
 k1_thicketlaw01_LimbsOwn))
def l0_thicketlaw01_LimbsOwn : IR := .loop [0, 1, 5, 7, 8, 24, 25, 45, 47, 98] w0_thicketlaw01_LimbsOwn
def j2_thicketlaw01_LimbsOwn : IR :=
 (.reg 27 [⟨some 130, .bin .add 3 (.t 115) (.c (Value.int IntKind.i64 1)) 3, none, []⟩,
  ⟨some 115, .move (.t 130), none, [130]⟩] none [0, 1, 5, 7, 8, 24, 25, 27, 45, 47, 108, 114, 115])
def k2_thicketlaw01_LimbsOwn : IR := .tail [0, 1, 5, 7, 8, 24, 25, 27, 45, 47, 108, 114, 115] j2_thicketlaw01_LimbsOwn
def j3_thicketlaw01_LimbsOwn : IR :=
 (.seq (.block 5 (.seq (.reg 25 [⟨some 117, .move (.t 115), none, []⟩,
  ⟨some 28, .assign (.t 117), none, [117]⟩] none [0, 1, 5, 7, 8, 24, 25, 27, 28, 45, 47, 108, 114, 115])
 (.reg 26 [⟨some 118, .move (.t 27), none, []⟩,
  ⟨some 119, .iaddr 50 (.arr 10 1) (.t 24) (.t 118), none, []⟩,
  ⟨some 120, .load 22 none (.t 119), none, []⟩,
  ⟨some 121, .move (.t 28), none, []⟩,
  ⟨some 122, .move (.t 27), none, []⟩,
  ⟨some 123, .iaddr 50 (.arr 10 1) (.t 24) (.t 122), none, []⟩,
  ⟨some 124, .load 22 none (.t 123), none, []⟩,
  ⟨some 125, .move (.t 28), none, [28]⟩,
  ⟨some 126, .iaddr 22 (.sl 1) (.t 124) (.t 125), none, []⟩,
  ⟨some 127, .load 49 none (.t 126), none, [122, 123, 124, 125, 126]⟩,
  ⟨some 128, .bin .xor 49 (.t 127) (.c (Value.int IntKind.u32 85)) 49, none, [127]⟩,
  ⟨some 129, .iaddr 22 (.sl 1) (.t 120) (.t 121), none, []⟩,
  ⟨none, .store 49 none (.t 129) (.t 128), none, [118, 119, 120, 121, 128, 129]⟩] (some [⟨0, []⟩, ⟨1, []⟩, ⟨3, []⟩, ⟨4, []⟩, ⟨5, []⟩, ⟨7, []⟩, ⟨2, []⟩, ⟨6, []⟩, ⟨8, []⟩, ⟨9, []⟩, ⟨10, []⟩, ⟨11, []⟩, ⟨12, []⟩]) [0, 1, 5, 7, 8, 24, 25, 27, 45, 47, 108, 114, 115])))
 k2_thicketlaw01_LimbsOwn)
def k3_thicketlaw01_LimbsOwn : IR := .tail [0, 1, 5, 7, 8, 24, 25, 27, 45, 47, 108, 114, 115] j3_thicketlaw01_LimbsOwn
def w2_thicketlaw01_LimbsOwn : IR :=
 (.seq (.reg 24 [⟨some 116, .bin .lss 3 (.t 115) (.t 114) 3, none, []⟩] none [0, 1, 5, 7, 8, 24, 25, 27, 45, 47, 108, 114, 115, 116])
 (.seq (.cond [0, 1, 5, 7, 8, 24, 25, 27, 45, 47, 108, 114, 115] (.t 116) .skip (.exit 4))
 k3_thicketlaw01_LimbsOwn))
def l2_thicketlaw01_LimbsOwn : IR := .loop [0, 1, 5, 7, 8, 24, 25, 27, 45, 47, 108, 114, 115] w2_thicketlaw01_LimbsOwn
def j4_thicketlaw01_LimbsOwn : IR :=
 (.reg 28 [⟨some 131, .bin .add 3 (.t 108) (.c (Value.int IntKind.i64 1)) 3, none, []⟩,
  ⟨some 108, .move (.t 131), none, [131]⟩] none [0, 1, 5, 7, 8, 24, 25, 45, 47, 108])
def k4_thicketlaw01_LimbsOwn : IR := .tail [0, 1, 5, 7, 8, 24, 25, 45, 47, 108] j4_thicketlaw01_LimbsOwn
def j5_thicketlaw01_LimbsOwn : IR :=
 (.seq (.block 3 (.seq (.reg 22 [⟨some 110, .move (.t 108), none, []⟩,
  ⟨some 27, .assign (.t 110), none, [110]⟩] none [0, 1, 5, 7, 8, 24, 25, 27, 45, 47, 108])
 (.seq (.reg 23 [⟨some 111, .move (.t 27), none, []⟩,
  ⟨some 112, .iaddr 50 (.arr 10 1) (.t 24) (.t 111), none, []⟩,
  ⟨some 113, .load 22 none (.t 112), none, []⟩,
  ⟨some 114, .len 22 false (.t 113), none, [111, 112, 113]⟩,
  ⟨some 115, .move (.c (Value.int IntKind.i64 0)), none, []⟩] none [0, 1, 5, 7, 8, 24, 25, 27, 45, 47, 108, 114, 115])
 (.block 4 l2_thicketlaw01_LimbsOwn))))
 k4_thicketlaw01_LimbsOwn)
def k5_thicketlaw01_LimbsOwn : IR := .tail [0, 1, 5, 7, 8, 24, 25, 45, 47, 108] j5_thicketlaw01_LimbsOwn
def w1_thicketlaw01_LimbsOwn : IR :=
 (.seq (.reg 21 [⟨some 109, .bin .lss 3 (.t 108) (.c (Value.int IntKind.i64 10)) 3, none, []⟩] none [0, 1, 5, 7, 8, 24, 25, 45, 47, 108, 109])
 (.seq (.cond [0, 1, 5, 7, 8, 24, 25, 45, 47, 108] (.t 109) .skip (.exit 2))
 k5_thicketlaw01_LimbsOwn))
def l1_thicketlaw01_LimbsOwn : IR := .loop [0, 1, 5, 7, 8, 24, 25, 45, 47, 108] w1_thicketlaw01_LimbsOwn
def j6_thicketlaw01_LimbsOwn : IR :=
 (.reg 34 [⟨some 137, .move (.t 30), none, []⟩,
  ⟨some 138, .bin .add 3 (.t 137) (.c (Value.int IntKind.i64 1)) 3, none, [137]⟩,
  ⟨some 30, .assign (.t 138), none, [138]⟩] none [0, 1, 5, 7, 8, 24, 25, 29, 30, 45, 47, 132])
def k6_thicketlaw01_LimbsOwn : IR := .tail [0, 1, 5, 7, 8, 24, 25, 29, 30, 45, 47, 132] j6_thicketlaw01_LimbsOwn
def j7_thicketlaw01_LimbsOwn : IR :=
 (.seq (.block 9 (.reg 35 [⟨some 139, .move (.t 29), none, []⟩,
  ⟨some 140, .move (.t 29), none, []⟩,
  ⟨some 141, .iaddr 50 (.arr 10 1) (.t 24) (.t 140), none, []⟩,
  ⟨some 142, .load 22 none (.t 141), none, []⟩,
  ⟨some 143, .lit 22 1 [(.c (Value.int IntKind.u32 77))], none, []⟩,
  ⟨some 144, .append 22 22 false 1 4 (.t 142) (.t 143), none, [140, 141, 142, 143]⟩,
  ⟨some 145, .iaddr 50 (.arr 10 1) (.t 24) (.t 139), none, []⟩,
  ⟨none, .store 22 none (.t 145) (.t 144), none, [139, 144, 145]⟩] none [0, 1, 5, 7, 8, 24, 25, 29, 30, 45, 47, 132]))
 k6_thicketlaw01_LimbsOwn)
def k7_thicketlaw01_LimbsOwn : IR := .tail [0, 1, 5, 7, 8, 24, 25, 29, 30, 45, 47, 132] j7_thicketlaw01_LimbsOwn
def w4_thicketlaw01_LimbsOwn : IR :=
 (.seq (.seq (.reg 33 [⟨some 135, .move (.t 30), none, []⟩,
  ⟨some 136, .bin .lss 3 (.t 135) (.c (Value.int IntKind.i64 5)) 3, none, [135]⟩] none [0, 1, 5, 7, 8, 24, 25, 29, 30, 45, 47, 132, 136])
 (.cond [0, 1, 5, 7, 8, 24, 25, 29, 30, 45, 47, 132] (.t 136) .skip (.exit 8)))
 k7_thicketlaw01_LimbsOwn)
def l4_thicketlaw01_LimbsOwn : IR := .loop [0, 1, 5, 7, 8, 24, 25, 29, 30, 45, 47, 132] w4_thicketlaw01_LimbsOwn
def j8_thicketlaw01_LimbsOwn : IR :=
 (.reg 36 [⟨some 146, .bin .add 3 (.t 132) (.c (Value.int IntKind.i64 1)) 3, none, []⟩,
  ⟨some 132, .move (.t 146), none, [146]⟩] none [0, 1, 5, 7, 8, 24, 25, 45, 47, 132])
def k8_thicketlaw01_LimbsOwn : IR := .tail [0, 1, 5, 7, 8, 24, 25, 45, 47, 132] j8_thicketlaw01_LimbsOwn
def j9_thicketlaw01_LimbsOwn : IR :=
 (.seq (.block 7 (.seq (.reg 31 [⟨some 134, .move (.t 132), none, []⟩,
  ⟨some 29, .assign (.t 134), none, [134]⟩] none [0, 1, 5, 7, 8, 24, 25, 29, 45, 47, 132])
 (.seq (.reg 32 [⟨some 30, .assign (.c (Value.int IntKind.i64 0)), none, []⟩] none [0, 1, 5, 7, 8, 24, 25, 29, 30, 45, 47, 132])
 (.block 8 l4_thicketlaw01_LimbsOwn))))
 k8_thicketlaw01_LimbsOwn)
def k9_thicketlaw01_LimbsOwn : IR := .tail [0, 1, 5, 7, 8, 24, 25, 45, 47, 132] j9_thicketlaw01_LimbsOwn
def w3_thicketlaw01_LimbsOwn : IR :=
 (.seq (.reg 30 [⟨some 133, .bin .lss 3 (.t 132) (.c (Value.int IntKind.i64 10)) 3, none, []⟩] none [0, 1, 5, 7, 8, 24, 25, 45, 47, 132, 133])
 (.seq (.cond [0, 1, 5, 7, 8, 24, 25, 45, 47, 132] (.t 133) .skip (.exit 6))
 k9_thicketlaw01_LimbsOwn))
def l3_thicketlaw01_LimbsOwn : IR := .loop [0, 1, 5, 7, 8, 24, 25, 45, 47, 132] w3_thicketlaw01_LimbsOwn
def j10_thicketlaw01_LimbsOwn : IR :=
 (.reg 45 [⟨some 171, .bin .add 3 (.t 154) (.c (Value.int IntKind.i64 1)) 3, none, []⟩,
  ⟨some 154, .move (.t 171), none, [171]⟩] none [0, 1, 5, 7, 8, 24, 25, 31, 45, 47, 147, 153, 154])
def k10_thicketlaw01_LimbsOwn : IR := .tail [0, 1, 5, 7, 8, 24, 25, 31, 45, 47, 147, 153, 154] j10_thicketlaw01_LimbsOwn
def j11_thicketlaw01_LimbsOwn : IR :=
 (.seq (.block 13 (.seq (.reg 42 [⟨some 156, .move (.t 154), none, []⟩,
  ⟨some 32, .assign (.t 156), none, [156]⟩] none [0, 1, 5, 7, 8, 24, 25, 31, 32, 45, 47, 147, 153, 154])
 (.seq (.reg 43 [⟨some 157, .move (.t 31), none, []⟩,
  ⟨some 158, .iaddr 50 (.arr 10 1) (.t 24) (.t 157), none, []⟩,
  ⟨some 159, .load 22 none (.t 158), none, []⟩,
  ⟨some 160, .move (.t 32), none, []⟩,
  ⟨some 161, .iaddr 22 (.sl 1) (.t 159) (.t 160), none, []⟩,
  ⟨some 162, .load 49 none (.t 161), none, [157, 158, 159, 160, 161]⟩,
  ⟨some 163, .move (.t 31), none, []⟩,
  ⟨some 164, .iaddr 50 (.arr 10 1) (.t 25) (.t 163), none, []⟩,
  ⟨some 165, .load 22 none (.t 164), none, []⟩,
  ⟨some 166, .move (.t 32), none, [32]⟩,
  ⟨some 167, .iaddr 22 (.sl 1) (.t 165) (.t 166), none, []⟩,
  ⟨some 168, .load 49 none (.t 167), none, [163, 164, 165, 166, 167]⟩,
  ⟨some 169, .bin .xor 49 (.t 168) (.c (Value.int IntKind.u32 85)) 49, none, [168]⟩,
  ⟨some 170, .bin .neq 49 (.t 162) (.t 169) 49, none, [162, 169]⟩] (some [⟨0, []⟩, ⟨1, []⟩, ⟨3, []⟩, ⟨6, []⟩, ⟨7, []⟩, ⟨9, []⟩, ⟨2, []⟩, ⟨4, []⟩, ⟨5, []⟩, ⟨8, []⟩, ⟨10, []⟩, ⟨11, []⟩, ⟨12, []⟩, ⟨13, []⟩]) [0, 1, 5, 7, 8, 24, 25, 31, 45, 47, 147, 153, 154, 170])
 (.cond [0, 1, 5, 7, 8, 24, 25, 31, 45, 47, 147, 153, 154] (.t 170) (.seq (.reg 44 [⟨some 6, .assign (.c (Value.bool false)), none, []⟩] none [6])
 .ret) .skip))))
 k10_thicketlaw01_LimbsOwn)
def k11_thicketlaw01_LimbsOwn : IR := .tail [0, 1, 5, 7, 8, 24, 25, 31, 45, 47, 147, 153, 154] j11_thicketlaw01_LimbsOwn
def w6_thicketlaw01_LimbsOwn : IR :=
 (.seq (.reg 41 [⟨some 155, .bin .lss 3 (.t 154) (.t 153) 3, none, []⟩] none [0, 1, 5, 7, 8, 24, 25, 31, 45, 47, 147, 153, 154, 155])
 (.seq (.cond [0, 1, 5, 7, 8, 24, 25, 31, 45, 47, 147, 153, 154] (.t 155) .skip (.exit 12))
 k11_thicketlaw01_LimbsOwn))
def l6_thicketlaw01_LimbsOwn : IR := .loop [0, 1, 5, 7, 8, 24, 25, 31, 45, 47, 147, 153, 154] w6_thicketlaw01_LimbsOwn
def j12_thicketlaw01_LimbsOwn : IR :=
 (.reg 46 [⟨some 172, .bin .add 3 (.t 147) (.c (Value.int IntKind.i64 1)) 3, none, []⟩,
  ⟨some 147, .move (.t 172), none, [172]⟩] none [0, 1, 5, 7, 8, 24, 25, 45, 47, 147])
def k12_thicketlaw01_LimbsOwn : IR := .tail [0, 1, 5, 7, 8, 24, 25, 45, 47, 147] j12_thicketlaw01_LimbsOwn
def j13_thicketlaw01_LimbsOwn : IR :=
 (.seq (.block 11 (.seq (.reg 39 [⟨some 149, .move (.t 147), none, []⟩,
  ⟨some 31, .assign (.t 149), none, [149]⟩] none [0, 1, 5, 7, 8, 24, 25, 31, 45, 47, 147])
 (.seq (.reg 40 [⟨some 150, .move (.t 31), none, []⟩,
  ⟨some 151, .iaddr 50 (.arr 10 1) (.t 25) (.t 150), none, []⟩,
  ⟨some 152, .load 22 none (.t 151), none, []⟩,
  ⟨some 153, .len 22 false (.t 152), none, [150, 151, 152]⟩,
  ⟨some 154, .move (.c (Value.int IntKind.i64 0)), none, []⟩] none [0, 1, 5, 7, 8, 24, 25, 31, 45, 47, 147, 153, 154])
 (.block 12 l6_thicketlaw01_LimbsOwn))))
 k12_thicketlaw01_LimbsOwn)
def k13_thicketlaw01_LimbsOwn : IR := .tail [0, 1, 5, 7, 8, 24, 25, 45, 47, 147] j13_thicketlaw01_LimbsOwn
def w5_thicketlaw01_LimbsOwn : IR :=
 (.seq (.reg 38 [⟨some 148, .bin .lss 3 (.t 147) (.c (Value.int IntKind.i64 10)) 3, none, []⟩] none [0, 1, 5, 7, 8, 24, 25, 45, 47, 147, 148])
 (.seq (.cond [0, 1, 5, 7, 8, 24, 25, 45, 47, 147] (.t 148) .skip (.exit 10))
 k13_thicketlaw01_LimbsOwn))
def l5_thicketlaw01_LimbsOwn : IR := .loop [0, 1, 5, 7, 8, 24, 25, 45, 47, 147] w5_thicketlaw01_LimbsOwn
def j14_thicketlaw01_LimbsOwn : IR :=
 (.reg 57 [⟨some 215, .bin .add 3 (.t 208) (.c (Value.int IntKind.i64 1)) 3, none, []⟩,
  ⟨some 208, .move (.t 215), none, [215]⟩] none [5, 33, 34, 207, 208])
def k14_thicketlaw01_LimbsOwn : IR := .tail [5, 33, 34, 207, 208] j14_thicketlaw01_LimbsOwn
def j15_thicketlaw01_LimbsOwn : IR :=
 (.seq (.block 15 (.seq (.reg 55 [⟨some 210, .move (.t 208), none, []⟩,
  ⟨some 36, .assign (.t 210), none, [210]⟩] none [5, 33, 34, 36, 207, 208])
 (.reg 56 [⟨some 211, .faddr 48 (.t 34) 1 1, none, []⟩,
  ⟨some 212, .load 22 none (.t 211), none, []⟩,
  ⟨some 213, .move (.t 36), none, [36]⟩,
  ⟨some 214, .iaddr 22 (.sl 1) (.t 212) (.t 213), none, []⟩,
  ⟨none, .store 49 none (.t 214) (.c (Value.int IntKind.u32 5)), none, [211, 212, 213, 214]⟩] none [5, 33, 34, 207, 208])))
 k14_thicketlaw01_LimbsOwn)
def k15_thicketlaw01_LimbsOwn : IR := .tail [5, 33, 34, 207, 208] j15_thicketlaw01_LimbsOwn
def w7_thicketlaw01_LimbsOwn : IR :=
 (.seq (.reg 54 [⟨some 209, .bin .lss 3 (.t 208) (.t 207) 3, none, []⟩] none [5, 33, 34, 207, 208, 209])
 (.seq (.cond [5, 33, 34, 207, 208] (.t 209) .skip (.exit 14))
 k15_thicketlaw01_LimbsOwn))
def l7_thicketlaw01_LimbsOwn : IR := .loop [5, 33, 34, 207, 208] w7_thicketlaw01_LimbsOwn
def j16_thicketlaw01_LimbsOwn : IR :=
 (.reg 62 [⟨some 226, .bin .add 3 (.t 219) (.c (Value.int IntKind.i64 1)) 3, none, []⟩,
  ⟨some 219, .move (.t 226), none, [226]⟩] none [5, 33, 34, 218, 219])
def k16_thicketlaw01_LimbsOwn : IR := .tail [5, 33, 34, 218, 219] j16_thicketlaw01_LimbsOwn
def j17_thicketlaw01_LimbsOwn : IR :=
 (.seq (.block 17 (.seq (.reg 60 [⟨some 221, .move (.t 219), none, []⟩,
  ⟨some 37, .assign (.t 221), none, [221]⟩] none [5, 33, 34, 37, 218, 219])
 (.reg 61 [⟨some 222, .faddr 48 (.t 34) 2 2, none, []⟩,
  ⟨some 223, .load 22 none (.t 222), none, []⟩,
  ⟨some 224, .move (.t 37), none, [37]⟩,
  ⟨some 225, .iaddr 22 (.sl 1) (.t 223) (.t 224), none, []⟩,
  ⟨none, .store 49 none (.t 225) (.c (Value.int IntKind.u32 6)), none, [222, 223, 224, 225]⟩] none [5, 33, 34, 218, 219])))
 k16_thicketlaw01_LimbsOwn)
def k17_thicketlaw01_LimbsOwn : IR := .tail [5, 33, 34, 218, 219] j17_thicketlaw01_LimbsOwn
def w8_thicketlaw01_LimbsOwn : IR :=
 (.seq (.reg 59 [⟨some 220, .bin .lss 3 (.t 219) (.t 218) 3, none, []⟩] none [5, 33, 34, 218, 219, 220])
 (.seq (.cond [5, 33, 34, 218, 219] (.t 220) .skip (.exit 16))
 k17_thicketlaw01_LimbsOwn))
def l8_thicketlaw01_LimbsOwn : IR := .loop [5, 33, 34, 218, 219] w8_thicketlaw01_LimbsOwn
def j18_thicketlaw01_LimbsOwn : IR :=
 (.seq (.reg 63 [⟨some 227, .faddr 48 (.t 34) 1 1, none, []⟩,
  ⟨some 228, .load 22 none (.t 227), none, []⟩,
  ⟨some 229, .lit 22 1 [(.c (Value.int IntKind.u32 1)), (.c (Value.int IntKind.u32 2)), (.c (Value.int IntKind.u32 3)), (.c (Value.int IntKind.u32 4))], none, []⟩,
  ⟨some 230, .append 22 22 false 1 4 (.t 228) (.t 229), none, [227, 228, 229]⟩,
  ⟨some 231, .faddr 48 (.t 34) 1 1, none, []⟩,
  ⟨none, .store 22 none (.t 231) (.t 230), none, [230, 231]⟩] none [5, 33, 34])
 (.seq (.reg 64 [⟨some 232, .faddr 48 (.t 34) 2 2, none, []⟩,
  ⟨some 233, .load 22 none (.t 232), none, []⟩,
  ⟨some 234, .lit 22 1 [(.c (Value.int IntKind.u32 1)), (.c (Value.int IntKind.u32 2)), (.c (Value.int IntKind.u32 3)), (.c (Value.int IntKind.u32 4))], none, []⟩,
  ⟨some 235, .append 22 22 false 1 4 (.t 233) (.t 234), none, [232, 233, 234]⟩,
  ⟨some 236, .faddr 48 (.t 34) 2 2, none, []⟩,
  ⟨none, .store 22 none (.t 236) (.t 235), none, [34, 235, 236]⟩] none [5, 33])
 (.seq (.reg 65 [⟨some 238, .faddr 48 (.t 33) 0 0, none, []⟩,
  ⟨some 239, .load 4 none (.t 238), none, [238]⟩,
  ⟨some 240, .faddr 48 (.t 33) 1 1, none, []⟩,
  ⟨some 241, .load 22 none (.t 240), none, []⟩,
  ⟨some 242, .faddr 48 (.t 33) 2 2, none, []⟩,
  ⟨some 243, .load 22 none (.t 242), none, []⟩,
  ⟨some 244, .call n_limbs_Over [(.t 239), (.t 241), (.t 243)] [4, 22, 22], none, [239, 240, 241, 242, 243]⟩,
  ⟨some 237, .move (.t 244), none, []⟩,
  ⟨some 245, .extr (.t 237) 0, none, []⟩,
  ⟨some 246, .extr (.t 237) 1, none, []⟩,
  ⟨some 38, .alloc 48 [.v (.bool false), .nil 1, .nil 1], none, []⟩,
  ⟨none, .store 48 (some 3) (.t 38) (.t 245), none, [237, 244, 245]⟩,
  ⟨some 39, .assign (.t 246), none, [39, 246]⟩] none [5, 33, 38])
 (.seq (.reg 66 [⟨some 248, .faddr 48 (.t 5) 0 0, none, []⟩,
  ⟨some 249, .load 4 none (.t 248), none, [248]⟩,
  ⟨some 250, .faddr 48 (.t 5) 1 1, none, []⟩,
  ⟨some 251, .load 22 none (.t 250), none, []⟩,
  ⟨some 252, .faddr 48 (.t 5) 2 2, none, []⟩,
  ⟨some 253, .load 22 none (.t 252), none, []⟩,
  ⟨some 254, .call n_thicketref01_Over [(.t 249), (.t 251), (.t 253)] [4, 22, 22], none, [249, 250, 251, 252, 253]⟩,
  ⟨some 247, .move (.t 254), none, []⟩,
  ⟨some 255, .extr (.t 247) 0, none, []⟩,
  ⟨some 256, .extr (.t 247) 1, none, []⟩,
  ⟨some 40, .alloc 48 [.v (.bool false), .nil 1, .nil 1], none, []⟩,
  ⟨none, .store 48 (some 3) (.t 40) (.t 255), none, [247, 254, 255]⟩,
  ⟨some 41, .assign (.t 256), none, [41, 256]⟩] none [5, 33, 38, 40])
 (.seq (.reg 67 [⟨some 257, .load 48 (some 3) (.t 38), none, []⟩,
  ⟨some 258, .load 48 (some 3) (.t 40), none, []⟩,
  ⟨some 259, .call n_thicketref01_Alike [(.t 257), (.t 258)] [48, 48], none, [38, 40, 257, 258]⟩,
  ⟨some 260, .move (.t 259), none, [259]⟩,
  ⟨some 261, .faddr 48 (.t 33) 1 1, some (3, true), []⟩,
  ⟨some 262, .load 22 none (.t 261), some (3, true), []⟩,
  ⟨some 263, .faddr 48 (.t 5) 1 1, some (3, true), []⟩,
  ⟨some 264, .load 22 none (.t 263), some (3, true), []⟩,
  ⟨some 265, .call n_thicketref01_Same [(.t 262), (.t 264)] [22, 22], some (3, true), [261, 262, 263, 264]⟩,
  ⟨some 266, .pick (.t 260) (.t 265) (.c (Value.bool false)), none, [260, 265]⟩,
  ⟨some 267, .move (.t 266), none, [266]⟩,
  ⟨some 268, .faddr 48 (.t 33) 2 2, some (10, true), []⟩,
  ⟨some 269, .load 22 none (.t 268), some (10, true), []⟩,
  ⟨some 270, .faddr 48 (.t 5) 2 2, some (10, true), []⟩,
  ⟨some 271, .load 22 none (.t 270), some (10, true), []⟩,
  ⟨some 272, .call n_thicketref01_Same [(.t 269), (.t 271)] [22, 22], some (10, true), [5, 33, 268, 269, 270, 271]⟩,
  ⟨some 273, .pick (.t 267) (.t 272) (.c (Value.bool false)), none, [267, 272]⟩,
  ⟨some 6, .assign (.t 273), none, [273]⟩] none [6])
 .ret)))))
def k18_thicketlaw01_LimbsOwn : IR := .tail [5, 33, 34] j18_thicketlaw01_LimbsOwn
def j19_thicketlaw01_LimbsOwn : IR :=
 (.seq (.seq (.reg 58 [⟨some 216, .faddr 48 (.t 34) 2 2, none, []⟩,
  ⟨some 217, .load 22 none (.t 216), none, []⟩,
  ⟨some 218, .len 22 false (.t 217), none, [216, 217]⟩,
  ⟨some 219, .move (.c (Value.int IntKind.i64 0)), none, []⟩] none [5, 33, 34, 218, 219])
 (.block 16 l8_thicketlaw01_LimbsOwn))
 k18_thicketlaw01_LimbsOwn)
def k19_thicketlaw01_LimbsOwn : IR := .tail [5, 33, 34] j19_thicketlaw01_LimbsOwn
def j20_thicketlaw01_LimbsOwn : IR :=
 (.seq (.seq (.reg 53 [⟨some 205, .faddr 48 (.t 34) 1 1, none, []⟩,
  ⟨some 206, .load 22 none (.t 205), none, []⟩,
  ⟨some 207, .len 22 false (.t 206), none, [205, 206]⟩,
  ⟨some 208, .move (.c (Value.int IntKind.i64 0)), none, []⟩] none [5, 33, 34, 207, 208])
 (.block 14 l7_thicketlaw01_LimbsOwn))
 k19_thicketlaw01_LimbsOwn)
def k20_thicketlaw01_LimbsOwn : IR := .tail [5, 33, 34] j20_thicketlaw01_LimbsOwn
def j21_thicketlaw01_LimbsOwn : IR :=
 (.seq (.reg 49 [⟨some 191, .load 48 (some 3) (.t 5), none, []⟩,
  ⟨some 192, .call n_thicketlaw01_ratio [(.t 191)] [48], none, [191]⟩,
  ⟨some 33, .alloc 48 [.v (.bool false), .nil 1, .nil 1], none, []⟩,
  ⟨none, .store 48 (some 3) (.t 33) (.t 192), none, [192]⟩] none [5, 33])
 (.seq (.reg 50 [⟨some 194, .faddr 48 (.t 33) 0 0, none, []⟩,
  ⟨some 195, .load 4 none (.t 194), none, [194]⟩,
  ⟨some 196, .faddr 48 (.t 33) 1 1, none, []⟩,
  ⟨some 197, .load 22 none (.t 196), none, []⟩,
  ⟨some 198, .faddr 48 (.t 33) 2 2, none, []⟩,
  ⟨some 199, .load 22 none (.t 198), none, []⟩,
  ⟨some 200, .call n_limbs_Over [(.t 195), (.t 197), (.t 199)] [4, 22, 22], none, [195, 196, 197, 198, 199]⟩,
  ⟨some 193, .move (.t 200), none, []⟩,
  ⟨some 201, .extr (.t 193) 0, none, []⟩,
  ⟨some 202, .extr (.t 193) 1, none, []⟩,
  ⟨some 34, .alloc 48 [.v (.bool false), .nil 1, .nil 1], none, []⟩,
  ⟨none, .store 48 (some 3) (.t 34) (.t 201), none, [193, 200, 201]⟩,
  ⟨some 35, .assign (.t 202), none, [202]⟩] none [5, 33, 34, 35])
 (.seq (.seq (.reg 51 [⟨some 203, .move (.t 35), none, [35]⟩,
  ⟨some 204, .bin .neq 23 (.t 203) (.c (Value.int IntKind.i64 0)) 23, none, [203]⟩] none [5, 33, 34, 204])
 (.cond [5, 33, 34] (.t 204) (.seq (.reg 52 [⟨some 6, .assign (.c (Value.bool true)), none, []⟩] none [6])
 .ret) .skip))
 k20_thicketlaw01_LimbsOwn)))
def k21_thicketlaw01_LimbsOwn : IR := .tail [5] j21_thicketlaw01_LimbsOwn
def j22_thicketlaw01_LimbsOwn : IR :=
 (.seq (.seq (.reg 47 [⟨some 173, .move (.t 7), none, []⟩,
  ⟨some 174, .move (.t 0), none, []⟩,
  ⟨some 175, .call n_thicketref01_Same [(.t 173), (.t 174)] [22, 22], none, [173, 174]⟩,
  ⟨some 176, .un .not 4 (.t 175), none, [175]⟩,
  ⟨some 177, .move (.t 176), none, [176]⟩,
  ⟨some 178, .move (.t 8), some (4, false), []⟩,
  ⟨some 179, .move (.t 1), some (4, false), []⟩,
  ⟨some 180, .call n_thicketref01_Same [(.t 178), (.t 179)] [22, 22], some (4, false), [1, 8, 47, 178, 179]⟩,
  ⟨some 181, .un .not 4 (.t 180), some (4, false), [180]⟩,
  ⟨some 182, .pick (.t 177) (.c (Value.bool true)) (.t 181), none, [177, 181]⟩,
  ⟨some 183, .move (.t 182), none, [182]⟩,
  ⟨some 184, .move (.t 7), some (10, false), []⟩,
  ⟨some 185, .call n_limbs_Norm [(.t 184)] [22], some (10, false), [7, 45, 184]⟩,
  ⟨some 186, .move (.t 0), some (10, false), []⟩,
  ⟨some 187, .call n_thicketref01_Norm [(.t 186)] [22], some (10, false), [0, 186]⟩,
  ⟨some 188, .call n_thicketref01_Same [(.t 185), (.t 187)] [22, 22], some (10, false), [185, 187]⟩,
  ⟨some 189, .un .not 4 (.t 188), some (10, false), [188]⟩,
  ⟨some 190, .pick (.t 183) (.c (Value.bool true)) (.t 189), none, [183, 189]⟩] none [5, 190])
 (.cond [5] (.t 190) (.seq (.reg 48 [⟨some 6, .assign (.c (Value.bool false)), none, []⟩] none [6])
 .ret) .skip))
 k21_thicketlaw01_LimbsOwn)
def k22_thicketlaw01_LimbsOwn : IR := .tail [0, 1, 5, 7, 8, 45, 47] j22_thicketlaw01_LimbsOwn
def j23_thicketlaw01_LimbsOwn : IR :=
 (.seq (.seq (.reg 37 [⟨some 147, .move (.c (Value.int IntKind.i64 0)), none, []⟩] none [0, 1, 5, 7, 8, 24, 25, 45, 47, 147])
 (.block 10 l5_thicketlaw01_LimbsOwn))
 k22_thicketlaw01_LimbsOwn)
def k23_thicketlaw01_LimbsOwn : IR := .tail [0, 1, 5, 7, 8, 24, 25, 45, 47] j23_thicketlaw01_LimbsOwn
def j24_thicketlaw01_LimbsOwn : IR :=
 (.seq (.seq (.reg 29 [⟨some 132, .move (.c (Value.int IntKind.i64 0)), none, []⟩] none [0, 1, 5, 7, 8, 24, 25, 45, 47, 132])
 (.block 6 l3_thicketlaw01_LimbsOwn))
 k23_thicketlaw01_LimbsOwn)
def k24_thicketlaw01_LimbsOwn : IR := .tail [0, 1, 5, 7, 8, 24, 25, 45, 47] j24_thicketlaw01_LimbsOwn
def j25_thicketlaw01_LimbsOwn : IR :=
 (.seq (.seq (.reg 20 [⟨some 108, .move (.c (Value.int IntKind.i64 0)), none, []⟩] none [0, 1, 5, 7, 8, 24, 25, 45, 47, 108])
 (.block 2 l1_thicketlaw01_LimbsOwn))
 k24_thicketlaw01_LimbsOwn)
def k25_thicketlaw01_LimbsOwn : IR := .tail [0, 1, 5, 7, 8, 24, 25, 45, 47] j25_thicketlaw01_LimbsOwn
def j26_thicketlaw01_LimbsOwn : IR :=
 (.seq (.reg 3 [⟨some 44, .move (.t 0), none, []⟩,
  ⟨some 45, .call n_thicketlaw01_copied [(.t 44)] [22], none, [44]⟩,
  ⟨some 46, .move (.t 1), none, []⟩,
  ⟨some 47, .call n_thicketlaw01_copied [(.t 46)] [22], none, [46]⟩,
  ⟨some 7, .assign (.t 45), none, []⟩,
  ⟨some 8, .assign (.t 47), none, []⟩] none [0, 1, 5, 7, 8, 45, 47])
 (.seq (.reg 4 [⟨some 48, .move (.t 7), none, []⟩,
  ⟨some 49, .call n_limbs_Norm [(.t 48)] [22], none, [48]⟩,
  ⟨some 9, .assign (.t 49), none, []⟩] none [0, 1, 5, 7, 8, 9, 45, 47, 49])
 (.seq (.reg 5 [⟨some 50, .move (.t 7), none, []⟩,
  ⟨some 51, .move (.t 8), none, []⟩,
  ⟨some 52, .call n_limbs_Add [(.t 50), (.t 51)] [22, 22], none, [50, 51]⟩,
  ⟨some 10, .assign (.t 52), none, []⟩] none [0, 1, 5, 7, 8, 9, 10, 45, 47, 49, 52])
 (.seq (.reg 6 [⟨some 54, .move (.t 7), none, []⟩,
  ⟨some 55, .move (.t 8), none, []⟩,
  ⟨some 56, .call n_limbs_DivMod [(.t 54), (.t 55)] [22, 22], none, [54, 55]⟩,
  ⟨some 53, .move (.t 56), none, []⟩,
  ⟨some 57, .extr (.t 53) 0, none, []⟩,
  ⟨some 58, .extr (.t 53) 1, none, []⟩,
  ⟨some 59, .extr (.t 53) 2, none, []⟩,
  ⟨some 11, .assign (.t 57), none, []⟩,
  ⟨some 12, .assign (.t 58), none, []⟩,
  ⟨some 13, .assign (.t 59), none, [13, 59]⟩] none [0, 1, 5, 7, 8, 9, 10, 11, 12, 45, 47, 49, 52, 53, 56, 57, 58])
 (.seq (.reg 7 [⟨some 61, .move (.t 7), none, []⟩,
  ⟨some 62, .call n_limbs_Pow [(.t 61), (.c (Value.int IntKind.i64 1))] [22, 3], none, [61]⟩,
  ⟨some 60, .move (.t 62), none, []⟩,
  ⟨some 63, .extr (.t 60) 0, none, []⟩,
  ⟨some 64, .extr (.t 60) 1, none, []⟩,
  ⟨some 14, .assign (.t 63), none, []⟩,
  ⟨some 15, .assign (.t 64), none, [15, 64]⟩] none [0, 1, 5, 7, 8, 9, 10, 11, 12, 14, 45, 47, 49, 52, 53, 56, 57, 58, 60, 62, 63])
 (.seq (.reg 8 [⟨some 65, .move (.t 7), none, []⟩,
  ⟨some 66, .move (.t 8), none, []⟩,
  ⟨some 67, .call n_limbs_Gcd [(.t 65), (.t 66)] [22, 22], none, [65, 66]⟩,
  ⟨some 16, .assign (.t 67), none, []⟩] none [0, 1, 5, 7, 8, 9, 10, 11, 12, 14, 16, 45, 47, 49, 52, 53, 56, 57, 58, 60, 62, 63, 67])
 (.seq (.reg 9 [⟨some 69, .move (.t 7), none, []⟩,
  ⟨some 70, .call n_limbs_Up [(.t 69), (.c (Value.int IntKind.i64 0))] [22, 3], none, [69]⟩,
  ⟨some 68, .move (.t 70), none, []⟩,
  ⟨some 71, .extr (.t 68) 0, none, []⟩,
  ⟨some 72, .extr (.t 68) 1, none, []⟩,
  ⟨some 17, .assign (.t 71), none, []⟩,
  ⟨some 18, .assign (.t 72), none, [18, 72]⟩] none [0, 1, 5, 7, 8, 9, 10, 11, 12, 14, 16, 17, 45, 47, 49, 52, 53, 56, 57, 58, 60, 62, 63, 67, 68, 70, 71])
 (.seq (.reg 10 [⟨some 74, .move (.t 7), none, []⟩,
  ⟨some 75, .call n_limbs_Down [(.t 74), (.c (Value.int IntKind.i64 0))] [22, 3], none, [74]⟩,
  ⟨some 73, .move (.t 75), none, []⟩,
  ⟨some 76, .extr (.t 73) 0, none, []⟩,
  ⟨some 77, .extr (.t 73) 1, none, []⟩,
  ⟨some 19, .assign (.t 76), none, []⟩,
  ⟨some 20, .assign (.t 77), none, [20, 77]⟩] none [0, 1, 5, 7, 8, 9, 10, 11, 12, 14, 16, 17, 19, 45, 47, 49, 52, 53, 56, 57, 58, 60, 62, 63, 67, 68, 70, 71, 73, 75, 76])
 (.seq (.reg 11 [⟨some 79, .move (.t 7), none, []⟩,
  ⟨some 80, .call n_limbs_Sub [(.t 79), (.nilS 1)] [22, 22], none, [79]⟩,
  ⟨some 78, .move (.t 80), none, []⟩,
  ⟨some 81, .extr (.t 78) 0, none, []⟩,
  ⟨some 82, .extr (.t 78) 1, none, []⟩,
  ⟨some 21, .assign (.t 81), none, []⟩,
  ⟨some 22, .assign (.t 82), none, [22, 82]⟩] none [0, 1, 5, 7, 8, 9, 10, 11, 12, 14, 16, 17, 19, 21, 45, 47, 49, 52, 53, 56, 57, 58, 60, 62, 63, 67, 68, 70, 71, 73, 75, 76, 78, 80, 81])
 (.seq (.reg 12 [⟨some 83, .move (.t 7), none, []⟩,
  ⟨some 84, .lit 22 1 [(.c (Value.int IntKind.u32 1))], none, []⟩,
  ⟨some 85, .call n_limbs_Mul [(.t 83), (.t 84)] [22, 22], none, [83, 84]⟩,
  ⟨some 23, .assign (.t 85), none, []⟩] none [0, 1, 5, 7, 8, 9, 10, 11, 12, 14, 16, 17, 19, 21, 23, 45, 47, 49, 52, 53, 56, 57, 58, 60, 62, 63, 67, 68, 70, 71, 73, 75, 76, 78, 80, 81, 85])
 (.seq (.reg 13 [⟨some 86, .move (.t 9), none, []⟩,
  ⟨some 87, .move (.t 10), none, []⟩,
  ⟨some 88, .move (.t 11), none, []⟩,
  ⟨some 89, .move (.t 12), none, []⟩,
  ⟨some 90, .move (.t 14), none, []⟩,
  ⟨some 91, .move (.t 16), none, []⟩,
  ⟨some 92, .move (.t 17), none, []⟩,
  ⟨some 93, .move (.t 19), none, []⟩,
  ⟨some 94, .move (.t 21), none, []⟩,
  ⟨some 95, .move (.t 23), none, []⟩,
  ⟨some 96, .build 50 [(0, 1), (1, 1), (2, 1), (3, 1), (4, 1), (5, 1), (6, 1), (7, 1), (8, 1), (9, 1)] [.nil 1, .nil 1, .nil 1, .nil 1, .nil 1, .nil 1, .nil 1, .nil 1, .nil 1, .nil 1] [(0, (.t 86)), (1, (.t 87)), (2, (.t 88)), (3, (.t 89)), (4, (.t 90)), (5, (.t 91)), (6, (.t 92)), (7, (.t 93)), (8, (.t 94)), (9, (.t 95))], none, []⟩,
  ⟨some 24, .alloc 50 [.nil 1, .nil 1, .nil 1, .nil 1, .nil 1, .nil 1, .nil 1, .nil 1, .nil 1, .nil 1], none, []⟩,
  ⟨none, .store 50 (some 10) (.t 24) (.t 96), none, [9, 10, 11, 12, 14, 16, 17, 19, 21, 23, 49, 52, 53, 56, 57, 58, 60, 62, 63, 67, 68, 70, 71, 73, 75, 76, 78, 80, 81, 85, 86, 87, 88, 89, 90, 91, 92, 93, 94, 95, 96]⟩] none [0, 1, 5, 7, 8, 24, 45, 47])
 (.seq (.reg 14 [⟨some 97, .build 50 [(0, 1), (1, 1), (2, 1), (3, 1), (4, 1), (5, 1), (6, 1), (7, 1), (8, 1), (9, 1)] [.nil 1, .nil 1, .nil 1, .nil 1, .nil 1, .nil 1, .nil 1, .nil 1, .nil 1, .nil 1] [], none, []⟩,
  ⟨some 25, .alloc 50 [.nil 1, .nil 1, .nil 1, .nil 1, .nil 1, .nil 1, .nil 1, .nil 1, .nil 1, .nil 1], none, []⟩,
  ⟨none, .store 50 (some 10) (.t 25) (.t 97), none, [97]⟩] none [0, 1, 5, 7, 8, 24, 25, 45, 47])
 (.seq (.seq (.reg 15 [⟨some 98, .move (.c (Value.int IntKind.i64 0)), none, []⟩] none [0, 1, 5, 7, 8, 24, 25, 45, 47, 98])
 (.block 0 l0_thicketlaw01_LimbsOwn))
 k25_thicketlaw01_LimbsOwn)))))))))))))
def k26_thicketlaw01_LimbsOwn : IR := .tail [0, 1, 5] j26_thicketlaw01_LimbsOwn
def b_thicketlaw01_LimbsOwn : IR :=
 (.seq (.reg 0 [⟨some 5, .box 48 (.t 2), none, [2]⟩,
  ⟨some 6, .assign (.c (Value.bool false)), none, [6]⟩] none [0, 1, 5])
 (.seq (.seq (.reg 1 [⟨some 42, .call n_thicketlaw01_lives [] [], none, []⟩,
  ⟨some 43, .un .not 4 (.t 42), none, [42]⟩] none [0, 1, 5, 43])
 (.cond [0, 1, 5] (.t 43) (.seq (.reg 2 [⟨some 6, .assign (.c (Value.bool false)), none, []⟩] none [6])
 .ret) .skip))
 k26_thicketlaw01_LimbsOwn))
def a_thicketlaw01_LimbsOwn : AFunc := ⟨274, [.tmp 6], b_thicketlaw01_LimbsOwn⟩

def j0_limbs_Whole : IR :=
 (.seq (.reg 4 [⟨some 10, .move (.t 0), none, [0]⟩,
  ⟨some 11, .bin .lss 2 (.t 10) (.c (Value.int IntKind.i64 0)) 2, none, [10]⟩,
  ⟨some 12, .move (.t 3), none, [3]⟩,
  ⟨some 13, .call n_limbs_From [(.t 12)] [33], none, [12]⟩,
  ⟨some 14, .lit 22 1 [(.c (Value.int IntKind.u32 1))], none, []⟩,
  ⟨some 15, .build 48 [(0, 1), (1, 1), (2, 1)] [.v (.bool false), .nil 1, .nil 1] [(0, (.t 11)), (1, (.t 13)), (2, (.t 14))], none, []⟩,
  ⟨none, .store 48 (some 3) (.t 2) (.t 15), none, [11, 13, 14, 15]⟩] none [2])
 .ret)
def k0_limbs_Whole : IR := .tail [0, 2, 3] j0_limbs_Whole
def b_limbs_Whole : IR :=
 (.seq (.reg 0 [⟨some 2, .alloc 48 [.v (.bool false), .nil 1, .nil 1], none, []⟩] none [0, 2])
 (.seq (.reg 1 [⟨some 4, .move (.t 0), none, []⟩,
  ⟨some 5, .conv 2 33 (.int .u64) (.t 4), none, [4]⟩,
  ⟨some 3, .assign (.t 5), none, [5]⟩] none [0, 2, 3])
 (.seq (.seq (.reg 2 [⟨some 6, .move (.t 0), none, []⟩,
  ⟨some 7, .bin .lss 2 (.t 6) (.c (Value.int IntKind.i64 0)) 2, none, [6]⟩] none [0, 2, 3, 7])
 (.cond [0, 2, 3] (.t 7) (.reg 3 [⟨some 8, .move (.t 3), none, []⟩,
  ⟨some 9, .un .neg 33 (.t 8), none, [8]⟩,
  ⟨some 3, .assign (.t 9), none, [9]⟩] none [0, 2, 3]) .skip))
 k0_limbs_Whole)))
def a_limbs_Whole : AFunc := ⟨16, [.cell 2 48 (some 3)], b_limbs_Whole⟩

def j0_thicketref01_Whole : IR :=
 (.seq (.reg 4 [⟨some 22, .move (.t 0), none, [0]⟩,
  ⟨some 23, .conv 2 33 (.int .u64) (.t 22), none, [22]⟩,
  ⟨some 24, .call n_thicketref01_From [(.t 23)] [33], none, [23]⟩,
  ⟨some 25, .call n_thicketref01_From [(.c (Value.int IntKind.u64 1))] [33], none, []⟩,
  ⟨some 26, .call n_thicketref01_Over [(.c (Value.bool false)), (.t 24), (.t 25)] [4, 22, 22], none, [24, 25]⟩,
  ⟨some 21, .move (.t 26), none, []⟩,
  ⟨some 27, .extr (.t 21) 0, none, []⟩,
  ⟨some 28, .extr (.t 21) 1, none, []⟩,
  ⟨some 5, .alloc 48 [.v (.bool false), .nil 1, .nil 1], none, []⟩,
  ⟨none, .store 48 (some 3) (.t 5) (.t 27), none, [21, 26, 27]⟩,
  ⟨some 6, .assign (.t 28), none, [6, 28]⟩] none [2, 5])
 (.seq (.reg 5 [⟨some 29, .load 48 (some 3) (.t 5), none, []⟩,
  ⟨none, .store 48 (some 3) (.t 2) (.t 29), none, [5, 29]⟩] none [2])
 .ret))
def k0_thicketref01_Whole : IR := .tail [0, 2] j0_thicketref01_Whole
def b_thicketref01_Whole : IR :=
 (.seq (.reg 0 [⟨some 2, .alloc 48 [.v (.bool false), .nil 1, .nil 1], none, []⟩] none [0, 2])
 (.seq (.seq (.reg 1 [⟨some 7, .move (.t 0), none, []⟩,
  ⟨some 8, .bin .lss 2 (.t 7) (.c (Value.int IntKind.i64 0)) 2, none, [7]⟩] none [0, 2, 8])
 (.cond [0, 2] (.t 8) (.seq (.reg 2 [⟨some 10, .move (.t 0), none, [0]⟩,
  ⟨some 11, .bin .add 2 (.t 10) (.c (Value.int IntKind.i64 1)) 2, none, [10]⟩,
  ⟨some 12, .un .neg 2 (.t 11), none, [11]⟩,
  ⟨some 13, .conv 2 33 (.int .u64) (.t 12), none, [12]⟩,
  ⟨some 14, .bin .add 33 (.t 13) (.c (Value.int IntKind.u64 1)) 33, none, [13]⟩,
  ⟨some 15, .call n_thicketref01_From [(.t 14)] [33], none, [14]⟩,
  ⟨some 16, .call n_thicketref01_From [(.c (Value.int IntKind.u64 1))] [33], none, []⟩,
  ⟨some 17, .call n_thicketref01_Over [(.c (Value.bool true)), (.t 15), (.t 16)] [4, 22, 22], none, [15, 16]⟩,
  ⟨some 9, .move (.t 17), none, []⟩,
  ⟨some 18, .extr (.t 9) 0, none, []⟩,
  ⟨some 19, .extr (.t 9) 1, none, []⟩,
  ⟨some 3, .alloc 48 [.v (.bool false), .nil 1, .nil 1], none, []⟩,
  ⟨none, .store 48 (some 3) (.t 3) (.t 18), none, [9, 17, 18]⟩,
  ⟨some 4, .assign (.t 19), none, [4, 19]⟩] none [2, 3])
 (.seq (.reg 3 [⟨some 20, .load 48 (some 3) (.t 3), none, []⟩,
  ⟨none, .store 48 (some 3) (.t 2) (.t 20), none, [3, 20]⟩] none [2])
 .ret)) .skip))
 k0_thicketref01_Whole))
def a_thicketref01_Whole : AFunc := ⟨30, [.cell 2 48 (some 3)], b_thicketref01_Whole⟩

def j0_limbs_both : IR :=
 (.seq (.reg 4 [⟨some 26, .faddr 48 (.t 3) 0 0, none, []⟩,
  ⟨some 27, .load 4 none (.t 26), none, [26]⟩,
  ⟨some 28, .faddr 48 (.t 3) 1 1, none, []⟩,
  ⟨some 29, .load 22 none (.t 28), none, []⟩,
  ⟨some 30, .faddr 48 (.t 3) 2 2, none, []⟩,
  ⟨some 31, .load 22 none (.t 30), none, []⟩,
  ⟨some 32, .call n_limbs_Over [(.t 27), (.t 29), (.t 31)] [4, 22, 22], none, [3, 27, 28, 29, 30, 31]⟩,
  ⟨some 25, .move (.t 32), none, []⟩,
  ⟨some 33, .extr (.t 25) 0, none, []⟩,
  ⟨some 34, .extr (.t 25) 1, none, []⟩,
  ⟨some 9, .alloc 48 [.v (.bool false), .nil 1, .nil 1], none, []⟩,
  ⟨none, .store 48 (some 3) (.t 9) (.t 33), none, [25, 32, 33]⟩,
  ⟨some 8, .assign (.t 34), none, [34]⟩] none [4, 5, 7, 8, 9])
 (.seq (.reg 5 [⟨some 35, .load 48 (some 3) (.t 7), none, []⟩,
  ⟨some 36, .load 48 (some 3) (.t 9), none, []⟩,
  ⟨some 37, .move (.t 8), none, [8]⟩,
  ⟨none, .store 48 (some 3) (.t 4) (.t 35), none, [7, 35]⟩,
  ⟨none, .store 48 (some 3) (.t 5) (.t 36), none, [9, 36]⟩,
  ⟨some 6, .assign (.t 37), none, [37]⟩] (some [⟨2, []⟩, ⟨0, []⟩, ⟨1, []⟩, ⟨3, [1]⟩, ⟨4, []⟩, ⟨5, []⟩]) [4, 5, 6])
 .ret))
def k0_limbs_both : IR := .tail [3, 4, 5, 7] j0_limbs_both
def b_limbs_both : IR :=
 (.seq (.reg 0 [⟨some 2, .box 48 (.t 0), none, [0]⟩,
  ⟨some 3, .box 48 (.t 1), none, [1]⟩,
  ⟨some 4, .alloc 48 [.v (.bool false), .nil 1, .nil 1], none, []⟩,
  ⟨some 5, .alloc 48 [.v (.bool false), .nil 1, .nil 1], none, []⟩,
  ⟨some 6, .assign (.c (Value.int IntKind.i64 0)), none, [6]⟩] none [2, 3, 4, 5])
 (.seq (.reg 1 [⟨some 11, .faddr 48 (.t 2) 0 0, none, []⟩,
  ⟨some 12, .load 4 none (.t 11), none, [11]⟩,
  ⟨some 13, .faddr 48 (.t 2) 1 1, none, []⟩,
  ⟨some 14, .load 22 none (.t 13), none, []⟩,
  ⟨some 15, .faddr 48 (.t 2) 2 2, none, []⟩,
  ⟨some 16, .load 22 none (.t 15), none, []⟩,
  ⟨some 17, .call n_limbs_Over [(.t 12), (.t 14), (.t 16)] [4, 22, 22], none, [2, 12, 13, 14, 15, 16]⟩,
  ⟨some 10, .move (.t 17), none, []⟩,
  ⟨some 18, .extr (.t 10) 0, none, []⟩,
  ⟨some 19, .extr (.t 10) 1, none, []⟩,
  ⟨some 7, .alloc 48 [.v (.bool false), .nil 1, .nil 1], none, []⟩,
  ⟨none, .store 48 (some 3) (.t 7) (.t 18), none, [10, 17, 18]⟩,
  ⟨some 8, .assign (.t 19), none, [19]⟩] none [3, 4, 5, 7, 8])
 (.seq (.seq (.reg 2 [⟨some 20, .move (.t 8), none, []⟩,
  ⟨some 21, .bin .neq 23 (.t 20) (.c (Value.int IntKind.i64 0)) 23, none, [20]⟩] none [3, 4, 5, 7, 8, 21])
 (.cond [3, 4, 5, 7, 8] (.t 21) (.seq (.frz [(7, [1]), (7, [2])] (.reg 3 [⟨some 22, .load 48 (some 3) (.t 7), none, []⟩,
  ⟨some 23, .load 48 (some 3) (.t 7), none, []⟩,
  ⟨some 24, .move (.t 8), none, [8]⟩,
  ⟨none, .store 48 (some 3) (.t 4) (.t 22), none, [22]⟩,
  ⟨none, .store 48 (some 3) (.t 5) (.t 23), none, [7, 23]⟩,
  ⟨some 6, .assign (.t 24), none, [24]⟩] (some [⟨2, []⟩, ⟨0, []⟩, ⟨1, []⟩, ⟨3, [1]⟩, ⟨4, []⟩, ⟨5, []⟩]) [4, 5, 6]))
 .ret) .skip))
 k0_limbs_both)))
def a_limbs_both : AFunc := ⟨38, [.cell 4 48 (some 3), .cell 5 48 (some 3), .tmp 6], b_limbs_both⟩

def j0_limbs_Plus : IR :=
 (.seq (.reg 4 [⟨some 24, .faddr 48 (.t 6) 1 1, none, []⟩,
  ⟨some 25, .load 22 none (.t 24), none, []⟩,
  ⟨some 26, .faddr 48 (.t 7) 2 2, none, []⟩,
  ⟨some 27, .load 22 none (.t 26), none, []⟩,
  ⟨some 28, .call n_limbs_Mul [(.t 25), (.t 27)] [22, 22], none, [24, 25, 26, 27]⟩,
  ⟨some 29, .faddr 48 (.t 7) 1 1, none, []⟩,
  ⟨some 30, .load 22 none (.t 29), none, []⟩,
  ⟨some 31, .faddr 48 (.t 6) 2 2, none, []⟩,
  ⟨some 32, .load 22 none (.t 31), none, []⟩,
  ⟨some 33, .call n_limbs_Mul [(.t 30), (.t 32)] [22, 22], none, [29, 30, 31, 32]⟩,
  ⟨some 9, .assign (.t 28), none, []⟩,
  ⟨some 10, .assign (.t 33), none, []⟩] (some [⟨0, []⟩, ⟨2, []⟩, ⟨5, []⟩, ⟨7, []⟩, ⟨1, []⟩, ⟨3, []⟩, ⟨6, []⟩, ⟨8, []⟩, ⟨4, [6, 8]⟩, ⟨9, []⟩, ⟨10, []⟩, ⟨11, []⟩]) [4, 6, 7, 9, 10, 28, 33])
 (.seq (.reg 5 [⟨some 34, .faddr 48 (.t 6) 2 2, none, []⟩,
  ⟨some 35, .load 22 none (.t 34), none, []⟩,
  ⟨some 36, .faddr 48 (.t 7) 2 2, none, []⟩,
  ⟨some 37, .load 22 none (.t 36), none, []⟩,
  ⟨some 38, .call n_limbs_Mul [(.t 35), (.t 37)] [22, 22], none, [34, 35, 36, 37]⟩,
  ⟨some 11, .assign (.t 38), none, []⟩] none [4, 6, 7, 9, 10, 11, 28, 33, 38])
 (.seq (.reg 6 [⟨some 39, .move (.t 9), none, []⟩,
  ⟨some 40, .move (.t 10), none, []⟩,
  ⟨some 41, .call n_limbs_Cmp [(.t 39), (.t 40)] [22, 22], none, [39, 40]⟩,
  ⟨some 12, .assign (.t 41), none, [41]⟩] none [4, 6, 7, 9, 10, 11, 12, 28, 33, 38])
 (.block 0 (.seq (.reg 8 [⟨some 50, .faddr 48 (.t 6) 0 0, none, []⟩,
  ⟨some 51, .load 4 none (.t 50), none, [50]⟩,
  ⟨some 52, .faddr 48 (.t 7) 0 0, none, []⟩,
  ⟨some 53, .load 4 none (.t 52), none, [52]⟩,
  ⟨some 54, .eqs false 4 (.one .bool) (.t 51) (.t 53) 4, none, [51, 53]⟩,
  ⟨some 49, .assign (.t 54), none, [54]⟩] none [4, 6, 7, 9, 10, 11, 12, 28, 33, 38, 49])
 (.cond [4, 6, 7, 9, 10, 11, 12, 28, 33, 38] (.t 49) (.seq (.reg 9 [⟨some 55, .faddr 48 (.t 6) 0 0, none, []⟩,
  ⟨some 56, .load 4 none (.t 55), none, []⟩,
  ⟨some 57, .move (.t 9), none, []⟩,
  ⟨some 58, .move (.t 10), none, []⟩,
  ⟨some 59, .call n_limbs_Add [(.t 57), (.t 58)] [22, 22], none, [6, 9, 10, 28, 33, 55, 57, 58]⟩,
  ⟨some 60, .move (.t 11), none, []⟩,
  ⟨some 61, .call n_limbs_right [(.t 56), (.t 59), (.t 60)] [4, 22, 22], none, [11, 38, 56, 59, 60]⟩,
  ⟨none, .store 48 (some 3) (.t 4) (.t 61), none, [61]⟩,
  ⟨some 5, .assign (.c (Value.int IntKind.i64 0)), none, []⟩] (some [⟨0, []⟩, ⟨2, []⟩, ⟨3, []⟩, ⟨5, []⟩, ⟨1, []⟩, ⟨4, [1]⟩, ⟨6, []⟩, ⟨7, []⟩, ⟨8, []⟩]) [4, 5])
 .ret) (.seq (.reg 10 [⟨some 63, .move (.t 12), none, [12]⟩,
  ⟨some 64, .bin .lss 3 (.t 63) (.c (Value.int IntKind.i64 0)) 3, none, [63]⟩,
  ⟨some 62, .assign (.t 64), none, [64]⟩] none [4, 6, 7, 9, 10, 11, 28, 33, 38, 62])
 (.cond [4, 6, 7, 9, 10, 11, 28, 33, 38] (.t 62) (.seq (.reg 11 [⟨some 65, .faddr 48 (.t 7) 0 0, none, []⟩,
  ⟨some 66, .load 4 none (.t 65), none, []⟩,
  ⟨some 67, .move (.t 10), none, []⟩,
  ⟨some 68, .move (.t 9), none, []⟩,
  ⟨some 69, .call n_limbs_sub [(.t 67), (.t 68)] [22, 22], none, [7, 9, 10, 28, 33, 65, 67, 68]⟩,
  ⟨some 70, .move (.t 11), none, []⟩,
  ⟨some 71, .call n_limbs_right [(.t 66), (.t 69), (.t 70)] [4, 22, 22], none, [11, 38, 66, 69, 70]⟩,
  ⟨none, .store 48 (some 3) (.t 4) (.t 71), none, [71]⟩,
  ⟨some 5, .assign (.c (Value.int IntKind.i64 0)), none, []⟩] (some [⟨0, []⟩, ⟨2, []⟩, ⟨3, []⟩, ⟨5, []⟩, ⟨1, []⟩, ⟨4, [1]⟩, ⟨6, []⟩, ⟨7, []⟩, ⟨8, []⟩]) [4, 5])
 .ret) (.seq (.reg 7 [⟨some 42, .faddr 48 (.t 6) 0 0, none, []⟩,
  ⟨some 43, .load 4 none (.t 42), none, []⟩,
  ⟨some 44, .move (.t 9), none, []⟩,
  ⟨some 45, .move (.t 10), none, []⟩,
  ⟨some 46, .call n_limbs_sub [(.t 44), (.t 45)] [22, 22], none, [6, 9, 10, 28, 33, 42, 44, 45]⟩,
  ⟨some 47, .move (.t 11), none, []⟩,
  ⟨some 48, .call n_limbs_right [(.t 43), (.t 46), (.t 47)] [4, 22, 22], none, [11, 38, 43, 46, 47]⟩,
  ⟨none, .store 48 (some 3) (.t 4) (.t 48), none, [48]⟩,
  ⟨some 5, .assign (.c (Value.int IntKind.i64 0)), none, []⟩] (some [⟨0, []⟩, ⟨2, []⟩, ⟨3, []⟩, ⟨5, []⟩, ⟨1, []⟩, ⟨4, [1]⟩, ⟨6, []⟩, ⟨7, []⟩, ⟨8, []⟩]) [4, 5])
 .ret)))))))))
def k0_limbs_Plus : IR := .tail [4, 6, 7] j0_limbs_Plus
def b_limbs_Plus : IR :=
 (.seq (.reg 0 [⟨some 2, .box 48 (.t 0), none, [0]⟩,
  ⟨some 3, .box 48 (.t 1), none, [1]⟩,
  ⟨some 4, .alloc 48 [.v (.bool false), .nil 1, .nil 1], none, []⟩,
  ⟨some 5, .assign (.c (Value.int IntKind.i64 0)), none, [5]⟩] none [2, 3, 4])
 (.seq (.reg 1 [⟨some 14, .load 48 (some 3) (.t 2), none, []⟩,
  ⟨some 15, .load 48 (some 3) (.t 3), none, []⟩,
  ⟨some 16, .call n_limbs_both [(.t 14), (.t 15)] [48, 48], none, [2, 3, 14, 15]⟩,
  ⟨some 13, .move (.t 16), none, []⟩,
  ⟨some 17, .extr (.t 13) 0, none, []⟩,
  ⟨some 18, .extr (.t 13) 1, none, []⟩,
  ⟨some 19, .extr (.t 13) 2, none, []⟩,
  ⟨some 6, .alloc 48 [.v (.bool false), .nil 1, .nil 1], none, []⟩,
  ⟨some 7, .alloc 48 [.v (.bool false), .nil 1, .nil 1], none, []⟩,
  ⟨none, .store 48 (some 3) (.t 6) (.t 17), none, [17]⟩,
  ⟨none, .store 48 (some 3) (.t 7) (.t 18), none, [13, 16, 18]⟩,
  ⟨some 8, .assign (.t 19), none, [19]⟩] none [4, 6, 7, 8])
 (.seq (.seq (.reg 2 [⟨some 20, .move (.t 8), none, []⟩,
  ⟨some 21, .bin .neq 23 (.t 20) (.c (Value.int IntKind.i64 0)) 23, none, [20]⟩] none [4, 6, 7, 8, 21])
 (.cond [4, 6, 7, 8] (.t 21) (.seq (.reg 3 [⟨some 22, .build 48 [(0, 1), (1, 1), (2, 1)] [.v (.bool false), .nil 1, .nil 1] [], none, []⟩,
  ⟨some 23, .move (.t 8), none, [8]⟩,
  ⟨none, .store 48 (some 3) (.t 4) (.t 22), none, [22]⟩,
  ⟨some 5, .assign (.t 23), none, [23]⟩] none [4, 5])
 .ret) .skip))
 k0_limbs_Plus)))
def a_limbs_Plus : AFunc := ⟨72, [.cell 4 48 (some 3), .tmp 5], b_limbs_Plus⟩

def b_limbs_Minus : IR :=
 (.seq (.reg 0 [⟨some 2, .box 48 (.t 0), none, [0]⟩,
  ⟨some 3, .box 48 (.t 1), none, [1]⟩,
  ⟨some 4, .alloc 48 [.v (.bool false), .nil 1, .nil 1], none, []⟩,
  ⟨some 5, .assign (.c (Value.int IntKind.i64 0)), none, [5]⟩] none [2, 3, 4])
 (.seq (.reg 1 [⟨some 6, .faddr 48 (.t 3) 0 0, none, []⟩,
  ⟨some 7, .load 4 none (.t 6), none, [6]⟩,
  ⟨some 8, .un .not 4 (.t 7), none, [7]⟩,
  ⟨some 9, .faddr 48 (.t 3) 0 0, none, []⟩,
  ⟨none, .store 4 none (.t 9) (.t 8), none, [8, 9]⟩] none [2, 3, 4])
 (.seq (.reg 2 [⟨some 10, .load 48 (some 3) (.t 2), none, []⟩,
  ⟨some 11, .load 48 (some 3) (.t 3), none, []⟩,
  ⟨some 12, .call n_limbs_Plus [(.t 10), (.t 11)] [48, 48], none, [2, 3, 10, 11]⟩,
  ⟨some 13, .extr (.t 12) 0, none, []⟩,
  ⟨some 14, .extr (.t 12) 1, none, []⟩,
  ⟨none, .store 48 (some 3) (.t 4) (.t 13), none, [12, 13]⟩,
  ⟨some 5, .assign (.t 14), none, [14]⟩] none [4, 5])
 .ret)))
def a_limbs_Minus : AFunc := ⟨15, [.cell 4 48 (some 3), .tmp 5], b_limbs_Minus⟩

def j0_limbs_Times : IR :=
 (.seq (.reg 4 [⟨some 20, .faddr 48 (.t 6) 0 0, none, []⟩,
  ⟨some 21, .load 4 none (.t 20), none, []⟩,
  ⟨some 22, .faddr 48 (.t 7) 0 0, none, []⟩,
  ⟨some 23, .load 4 none (.t 22), none, []⟩,
  ⟨some 24, .eqs true 4 (.one .bool) (.t 21) (.t 23) 4, none, [21, 23]⟩,
  ⟨some 25, .faddr 48 (.t 6) 1 1, none, []⟩,
  ⟨some 26, .load 22 none (.t 25), none, []⟩,
  ⟨some 27, .faddr 48 (.t 7) 1 1, none, []⟩,
  ⟨some 28, .load 22 none (.t 27), none, []⟩,
  ⟨some 29, .call n_limbs_Mul [(.t 26), (.t 28)] [22, 22], none, [25, 26, 27, 28]⟩,
  ⟨some 30, .faddr 48 (.t 6) 2 2, none, []⟩,
  ⟨some 31, .load 22 none (.t 30), none, []⟩,
  ⟨some 32, .faddr 48 (.t 7) 2 2, none, []⟩,
  ⟨some 33, .load 22 none (.t 32), none, []⟩,
  ⟨some 34, .call n_limbs_Mul [(.t 31), (.t 33)] [22, 22], none, [6, 7, 20, 22, 30, 31, 32, 33]⟩,
  ⟨some 35, .call n_limbs_right [(.t 24), (.t 29), (.t 34)] [4, 22, 22], none, [24, 29, 34]⟩,
  ⟨none, .store 48 (some 3) (.t 4) (.t 35), none, [35]⟩,
  ⟨some 5, .assign (.c (Value.int IntKind.i64 0)), none, []⟩] (some [⟨0, []⟩, ⟨2, []⟩, ⟨5, []⟩, ⟨7, []⟩, ⟨10, []⟩, ⟨12, []⟩, ⟨1, []⟩, ⟨3, []⟩, ⟨4, []⟩, ⟨6, []⟩, ⟨8, []⟩, ⟨11, []⟩, ⟨13, []⟩, ⟨9, [1, 3, 11, 13]⟩, ⟨14, [1, 3]⟩, ⟨15, []⟩, ⟨16, []⟩, ⟨17, []⟩]) [4, 5])
 .ret)
def k0_limbs_Times : IR := .tail [4, 6, 7] j0_limbs_Times
def b_limbs_Times : IR :=
 (.seq (.reg 0 [⟨some 2, .box 48 (.t 0), none, [0]⟩,
  ⟨some 3, .box 48 (.t 1), none, [1]⟩,
  ⟨some 4, .alloc 48 [.v (.bool false), .nil 1, .nil 1], none, []⟩,
  ⟨some 5, .assign (.c (Value.int IntKind.i64 0)), none, [5]⟩] none [2, 3, 4])
 (.seq (.reg 1 [⟨some 10, .load 48 (some 3) (.t 2), none, []⟩,
  ⟨some 11, .load 48 (some 3) (.t 3), none, []⟩,
  ⟨some 12, .call n_limbs_both [(.t 10), (.t 11)] [48, 48], none, [2, 3, 10, 11]⟩,
  ⟨some 9, .move (.t 12), none, []⟩,
  ⟨some 13, .extr (.t 9) 0, none, []⟩,
  ⟨some 14, .extr (.t 9) 1, none, []⟩,
  ⟨some 15, .extr (.t 9) 2, none, []⟩,
  ⟨some 6, .alloc 48 [.v (.bool false), .nil 1, .nil 1], none, []⟩,
  ⟨some 7, .alloc 48 [.v (.bool false), .nil 1, .nil 1], none, []⟩,
  ⟨none, .store 48 (some 3) (.t 6) (.t 13), none, [13]⟩,
  ⟨none, .store 48 (some 3) (.t 7) (.t 14), none, [9, 12, 14]⟩,
  ⟨some 8, .assign (.t 15), none, [15]⟩] none [4, 6, 7, 8])
 (.seq (.seq (.reg 2 [⟨some 16, .move (.t 8), none, []⟩,
  ⟨some 17, .bin .neq 23 (.t 16) (.c (Value.int IntKind.i64 0)) 23, none, [16]⟩] none [4, 6, 7, 8, 17])
 (.cond [4, 6, 7, 8] (.t 17) (.seq (.reg 3 [⟨some 18, .build 48 [(0, 1), (1, 1), (2, 1)] [.v (.bool false), .nil 1, .nil 1] [], none, []⟩,
  ⟨some 19, .move (.t 8), none, [8]⟩,
  ⟨none, .store 48 (some 3) (.t 4) (.t 18), none, [18]⟩,
  ⟨some 5, .assign (.t 19), none, [19]⟩] none [4, 5])
 .ret) .skip))
 k0_limbs_Times)))
def a_limbs_Times : AFunc := ⟨36, [.cell 4 48 (some 3), .tmp 5], b_limbs_Times⟩

def j0_limbs_By : IR :=
 (.seq (.reg 4 [⟨some 25, .faddr 48 (.t 6) 0 0, none, []⟩,
  ⟨some 26, .load 4 none (.t 25), none, []⟩,
  ⟨some 27, .faddr 48 (.t 7) 0 0, none, []⟩,
  ⟨some 28, .load 4 none (.t 27), none, []⟩,
  ⟨some 29, .eqs true 4 (.one .bool) (.t 26) (.t 28) 4, none, [26, 28]⟩,
  ⟨some 30, .faddr 48 (.t 6) 1 1, none, []⟩,
  ⟨some 31, .load 22 none (.t 30), none, []⟩,
  ⟨some 32, .faddr 48 (.t 7) 2 2, none, []⟩,
  ⟨some 33, .load 22 none (.t 32), none, []⟩,
  ⟨some 34, .call n_limbs_Mul [(.t 31), (.t 33)] [22, 22], none, [30, 31, 32, 33]⟩,
  ⟨some 35, .faddr 48 (.t 6) 2 2, none, []⟩,
  ⟨some 36, .load 22 none (.t 35), none, []⟩,
  ⟨some 37, .faddr 48 (.t 7) 1 1, none, []⟩,
  ⟨some 38, .load 22 none (.t 37), none, []⟩,
  ⟨some 39, .call n_limbs_Mul [(.t 36), (.t 38)] [22, 22], none, [6, 7, 25, 27, 35, 36, 37, 38]⟩,
  ⟨some 40, .call n_limbs_right [(.t 29), (.t 34), (.t 39)] [4, 22, 22], none, [29, 34, 39]⟩,
  ⟨none, .store 48 (some 3) (.t 4) (.t 40), none, [40]⟩,
  ⟨some 5, .assign (.c (Value.int IntKind.i64 0)), none, []⟩] (some [⟨0, []⟩, ⟨2, []⟩, ⟨5, []⟩, ⟨7, []⟩, ⟨10, []⟩, ⟨12, []⟩, ⟨1, []⟩, ⟨3, []⟩, ⟨4, []⟩, ⟨6, []⟩, ⟨8, []⟩, ⟨11, []⟩, ⟨13, []⟩, ⟨9, [1, 3, 11, 13]⟩, ⟨14, [1, 3]⟩, ⟨15, []⟩, ⟨16, []⟩, ⟨17, []⟩]) [4, 5])
 .ret)
def k0_limbs_By : IR := .tail [4, 6, 7] j0_limbs_By
def b_limbs_By : IR :=
 (.seq (.reg 0 [⟨some 2, .box 48 (.t 0), none, [0]⟩,
  ⟨some 3, .box 48 (.t 1), none, [1]⟩,
  ⟨some 4, .alloc 48 [.v (.bool false), .nil 1, .nil 1], none, []⟩,
  ⟨some 5, .assign (.c (Value.int IntKind.i64 0)), none, [5]⟩] none [2, 3, 4])
 (.seq (.reg 1 [⟨some 10, .load 48 (some 3) (.t 2), none, []⟩,
  ⟨some 11, .load 48 (some 3) (.t 3), none, []⟩,
  ⟨some 12, .call n_limbs_both [(.t 10), (.t 11)] [48, 48], none, [2, 3, 10, 11]⟩,
  ⟨some 9, .move (.t 12), none, []⟩,
  ⟨some 13, .extr (.t 9) 0, none, []⟩,
  ⟨some 14, .extr (.t 9) 1, none, []⟩,
  ⟨some 15, .extr (.t 9) 2, none, []⟩,
  ⟨some 6, .alloc 48 [.v (.bool false), .nil 1, .nil 1], none, []⟩,
  ⟨some 7, .alloc 48 [.v (.bool false), .nil 1, .nil 1], none, []⟩,
  ⟨none, .store 48 (some 3) (.t 6) (.t 13), none, [13]⟩,
  ⟨none, .store 48 (some 3) (.t 7) (.t 14), none, [9, 12, 14]⟩,
  ⟨some 8, .assign (.t 15), none, [15]⟩] none [4, 6, 7, 8])
 (.seq (.seq (.reg 2 [⟨some 16, .move (.t 8), none, [8]⟩,
  ⟨some 17, .bin .neq 23 (.t 16) (.c (Value.int IntKind.i64 0)) 23, none, [16]⟩,
  ⟨some 18, .move (.t 17), none, [17]⟩,
  ⟨some 19, .faddr 48 (.t 7) 1 1, some (2, false), []⟩,
  ⟨some 20, .load 22 none (.t 19), some (2, false), []⟩,
  ⟨some 21, .len 22 false (.t 20), some (2, false), [19, 20]⟩,
  ⟨some 22, .bin .eql 3 (.t 21) (.c (Value.int IntKind.i64 0)) 3, some (2, false), [21]⟩,
  ⟨some 23, .pick (.t 18) (.c (Value.bool true)) (.t 22), none, [18, 22]⟩] none [4, 6, 7, 23])
 (.cond [4, 6, 7] (.t 23) (.seq (.reg 3 [⟨some 24, .build 48 [(0, 1), (1, 1), (2, 1)] [.v (.bool false), .nil 1, .nil 1] [], none, []⟩,
  ⟨none, .store 48 (some 3) (.t 4) (.t 24), none, [24]⟩,
  ⟨some 5, .assign (.c (Value.int IntKind.i64 11)), none, []⟩] none [4, 5])
 .ret) .skip))
 k0_limbs_By)))
def a_limbs_By : AFunc := ⟨41, [.cell 4 48 (some 3), .tmp 5], b_limbs_By⟩

def j0_thicketref01_Plus : IR :=
 (.seq (.reg 9 [⟨some 71, .move (.t 7), none, []⟩,
  ⟨some 72, .move (.t 6), none, []⟩,
  ⟨some 73, .call n_thicketref01_Sub [(.t 71), (.t 72)] [22, 22], none, [6, 7, 28, 33, 71, 72]⟩,
  ⟨some 70, .move (.t 73), none, []⟩,
  ⟨some 74, .extr (.t 70) 0, none, []⟩,
  ⟨some 75, .extr (.t 70) 1, none, []⟩,
  ⟨some 11, .assign (.t 74), none, []⟩,
  ⟨some 12, .assign (.t 75), none, [12, 75]⟩] none [3, 4, 8, 11, 38, 70, 73, 74])
 (.seq (.reg 10 [⟨some 76, .faddr 48 (.t 3) 0 0, none, []⟩,
  ⟨some 77, .load 4 none (.t 76), none, [3, 76]⟩,
  ⟨some 78, .move (.t 11), none, []⟩,
  ⟨some 79, .move (.t 8), none, []⟩,
  ⟨some 80, .call n_thicketref01_Over [(.t 77), (.t 78), (.t 79)] [4, 22, 22], none, [8, 11, 38, 70, 73, 74, 77, 78, 79]⟩,
  ⟨some 81, .extr (.t 80) 0, none, []⟩,
  ⟨some 82, .extr (.t 80) 1, none, []⟩,
  ⟨none, .store 48 (some 3) (.t 4) (.t 81), none, [80, 81]⟩,
  ⟨some 5, .assign (.t 82), none, [82]⟩] none [4, 5])
 .ret))
def k0_thicketref01_Plus : IR := .tail [3, 4, 6, 7, 8, 28, 33, 38] j0_thicketref01_Plus
def j1_thicketref01_Plus : IR :=
 (.seq (.seq (.reg 6 [⟨some 53, .move (.t 6), none, []⟩,
  ⟨some 54, .move (.t 7), none, []⟩,
  ⟨some 55, .call n_thicketref01_Cmp [(.t 53), (.t 54)] [22, 22], none, [53, 54]⟩,
  ⟨some 56, .bin .geq 3 (.t 55) (.c (Value.int IntKind.i64 0)) 3, none, [55]⟩] none [2, 3, 4, 6, 7, 8, 28, 33, 38, 56])
 (.cond [2, 3, 4, 6, 7, 8, 28, 33, 38] (.t 56) (.seq (.reg 7 [⟨some 58, .move (.t 6), none, []⟩,
  ⟨some 59, .move (.t 7), none, []⟩,
  ⟨some 60, .call n_thicketref01_Sub [(.t 58), (.t 59)] [22, 22], none, [6, 7, 28, 33, 58, 59]⟩,
  ⟨some 57, .move (.t 60), none, []⟩,
  ⟨some 61, .extr (.t 57) 0, none, []⟩,
  ⟨some 62, .extr (.t 57) 1, none, []⟩,
  ⟨some 9, .assign (.t 61), none, []⟩,
  ⟨some 10, .assign (.t 62), none, [10, 62]⟩] none [2, 4, 8, 9, 38, 57, 60, 61])
 (.seq (.reg 8 [⟨some 63, .faddr 48 (.t 2) 0 0, none, []⟩,
  ⟨some 64, .load 4 none (.t 63), none, [2, 63]⟩,
  ⟨some 65, .move (.t 9), none, []⟩,
  ⟨some 66, .move (.t 8), none, []⟩,
  ⟨some 67, .call n_thicketref01_Over [(.t 64), (.t 65), (.t 66)] [4, 22, 22], none, [8, 9, 38, 57, 60, 61, 64, 65, 66]⟩,
  ⟨some 68, .extr (.t 67) 0, none, []⟩,
  ⟨some 69, .extr (.t 67) 1, none, []⟩,
  ⟨none, .store 48 (some 3) (.t 4) (.t 68), none, [67, 68]⟩,
  ⟨some 5, .assign (.t 69), none, [69]⟩] none [4, 5])
 .ret)) .skip))
 k0_thicketref01_Plus)
def k1_thicketref01_Plus : IR := .tail [2, 3, 4, 6, 7, 8, 28, 33, 38] j1_thicketref01_Plus
def j2_thicketref01_Plus : IR :=
 (.seq (.reg 3 [⟨some 24, .faddr 48 (.t 2) 1 1, none, []⟩,
  ⟨some 25, .load 22 none (.t 24), none, []⟩,
  ⟨some 26, .faddr 48 (.t 3) 2 2, none, []⟩,
  ⟨some 27, .load 22 none (.t 26), none, []⟩,
  ⟨some 28, .call n_thicketref01_Mul [(.t 25), (.t 27)] [22, 22], none, [24, 25, 26, 27]⟩,
  ⟨some 29, .faddr 48 (.t 3) 1 1, none, []⟩,
  ⟨some 30, .load 22 none (.t 29), none, []⟩,
  ⟨some 31, .faddr 48 (.t 2) 2 2, none, []⟩,
  ⟨some 32, .load 22 none (.t 31), none, []⟩,
  ⟨some 33, .call n_thicketref01_Mul [(.t 30), (.t 32)] [22, 22], none, [29, 30, 31, 32]⟩,
  ⟨some 34, .faddr 48 (.t 2) 2 2, none, []⟩,
  ⟨some 35, .load 22 none (.t 34), none, []⟩,
  ⟨some 36, .faddr 48 (.t 3) 2 2, none, []⟩,
  ⟨some 37, .load 22 none (.t 36), none, []⟩,
  ⟨some 38, .call n_thicketref01_Mul [(.t 35), (.t 37)] [22, 22], none, [34, 35, 36, 37]⟩,
  ⟨some 6, .assign (.t 28), none, []⟩,
  ⟨some 7, .assign (.t 33), none, []⟩,
  ⟨some 8, .assign (.t 38), none, []⟩] (some [⟨0, []⟩, ⟨2, []⟩, ⟨5, []⟩, ⟨7, []⟩, ⟨10, []⟩, ⟨12, []⟩, ⟨1, []⟩, ⟨3, []⟩, ⟨6, []⟩, ⟨8, []⟩, ⟨11, []⟩, ⟨13, []⟩, ⟨4, [6, 8, 11, 13]⟩, ⟨9, [11, 13]⟩, ⟨14, []⟩, ⟨15, []⟩, ⟨16, []⟩, ⟨17, []⟩]) [2, 3, 4, 6, 7, 8, 28, 33, 38])
 (.seq (.seq (.reg 4 [⟨some 39, .faddr 48 (.t 2) 0 0, none, []⟩,
  ⟨some 40, .load 4 none (.t 39), none, [39]⟩,
  ⟨some 41, .faddr 48 (.t 3) 0 0, none, []⟩,
  ⟨some 42, .load 4 none (.t 41), none, [41]⟩,
  ⟨some 43, .eqs false 4 (.one .bool) (.t 40) (.t 42) 4, none, [40, 42]⟩] none [2, 3, 4, 6, 7, 8, 28, 33, 38, 43])
 (.cond [2, 3, 4, 6, 7, 8, 28, 33, 38] (.t 43) (.seq (.reg 5 [⟨some 44, .faddr 48 (.t 2) 0 0, none, []⟩,
  ⟨some 45, .load 4 none (.t 44), none, []⟩,
  ⟨some 46, .move (.t 6), none, []⟩,
  ⟨some 47, .move (.t 7), none, []⟩,
  ⟨some 48, .call n_thicketref01_Add [(.t 46), (.t 47)] [22, 22], none, [2, 6, 7, 28, 33, 44, 46, 47]⟩,
  ⟨some 49, .move (.t 8), none, []⟩,
  ⟨some 50, .call n_thicketref01_Over [(.t 45), (.t 48), (.t 49)] [4, 22, 22], none, [8, 38, 45, 48, 49]⟩,
  ⟨some 51, .extr (.t 50) 0, none, []⟩,
  ⟨some 52, .extr (.t 50) 1, none, []⟩,
  ⟨none, .store 48 (some 3) (.t 4) (.t 51), none, [50, 51]⟩,
  ⟨some 5, .assign (.t 52), none, [52]⟩] (some [⟨0, []⟩, ⟨2, []⟩, ⟨3, []⟩, ⟨5, []⟩, ⟨1, []⟩, ⟨4, [1]⟩, ⟨6, []⟩, ⟨7, []⟩, ⟨8, []⟩, ⟨9, []⟩, ⟨10, []⟩]) [4, 5])
 .ret) .skip))
 k1_thicketref01_Plus))
def k2_thicketref01_Plus : IR := .tail [2, 3, 4] j2_thicketref01_Plus
def b_thicketref01_Plus : IR :=
 (.seq (.reg 0 [⟨some 2, .box 48 (.t 0), none, [0]⟩,
  ⟨some 3, .box 48 (.t 1), none, [1]⟩,
  ⟨some 4, .alloc 48 [.v (.bool false), .nil 1, .nil 1], none, []⟩,
  ⟨some 5, .assign (.c (Value.int IntKind.i64 0)), none, [5]⟩] none [2, 3, 4])
 (.seq (.seq (.reg 1 [⟨some 13, .faddr 48 (.t 2) 2 2, none, []⟩,
  ⟨some 14, .load 22 none (.t 13), none, []⟩,
  ⟨some 15, .call n_thicketref01_Len [(.t 14)] [22], none, [13, 14]⟩,
  ⟨some 16, .bin .eql 3 (.t 15) (.c (Value.int IntKind.i64 0)) 3, none, [15]⟩,
  ⟨some 17, .move (.t 16), none, [16]⟩,
  ⟨some 18, .faddr 48 (.t 3) 2 2, some (4, false), []⟩,
  ⟨some 19, .load 22 none (.t 18), some (4, false), []⟩,
  ⟨some 20, .call n_thicketref01_Len [(.t 19)] [22], some (4, false), [18, 19]⟩,
  ⟨some 21, .bin .eql 3 (.t 20) (.c (Value.int IntKind.i64 0)) 3, some (4, false), [20]⟩,
  ⟨some 22, .pick (.t 17) (.c (Value.bool true)) (.t 21), none, [17, 21]⟩] none [2, 3, 4, 22])
 (.cond [2, 3, 4] (.t 22) (.seq (.reg 2 [⟨some 23, .build 48 [(0, 1), (1, 1), (2, 1)] [.v (.bool false), .nil 1, .nil 1] [], none, []⟩,
  ⟨none, .store 48 (some 3) (.t 4) (.t 23), none, [23]⟩,
  ⟨some 5, .assign (.c (Value.int IntKind.i64 11)), none, []⟩] none [4, 5])
 .ret) .skip))
 k2_thicketref01_Plus))
def a_thicketref01_Plus : AFunc := ⟨83, [.cell 4 48 (some 3), .tmp 5], b_thicketref01_Plus⟩

def b_thicketref01_Minus : IR :=
 (.seq (.reg 0 [⟨some 2, .box 48 (.t 0), none, [0]⟩,
  ⟨some 3, .box 48 (.t 1), none, [1]⟩,
  ⟨some 4, .alloc 48 [.v (.bool false), .nil 1, .nil 1], none, []⟩,
  ⟨some 5, .assign (.c (Value.int IntKind.i64 0)), none, [5]⟩] none [2, 3, 4])
 (.seq (.reg 1 [⟨some 6, .faddr 48 (.t 3) 0 0, none, []⟩,
  ⟨some 7, .load 4 none (.t 6), none, [6]⟩,
  ⟨some 8, .un .not 4 (.t 7), none, [7]⟩,
  ⟨some 9, .faddr 48 (.t 3) 0 0, none, []⟩,
  ⟨none, .store 4 none (.t 9) (.t 8), none, [8, 9]⟩] none [2, 3, 4])
 (.seq (.reg 2 [⟨some 10, .load 48 (some 3) (.t 2), none, []⟩,
  ⟨some 11, .load 48 (some 3) (.t 3), none, []⟩,
  ⟨some 12, .call n_thicketref01_Plus [(.t 10), (.t 11)] [48, 48], none, [2, 3, 10, 11]⟩,
  ⟨some 13, .extr (.t 12) 0, none, []⟩,
  ⟨some 14, .extr (.t 12) 1, none, []⟩,
  ⟨none, .store 48 (some 3) (.t 4) (.t 13), none, [12, 13]⟩,
  ⟨some 5, .assign (.t 14), none, [14]⟩] none [4, 5])
 .ret)))
def a_thicketref01_Minus : AFunc := ⟨15, [.cell 4 48 (some 3), .tmp 5], b_thicketref01_Minus⟩

def j0_thicketref01_Times : IR :=
 (.seq (.reg 3 [⟨some 17, .faddr 48 (.t 2) 0 0, none, []⟩,
  ⟨some 18, .load 4 none (.t 17), none, []⟩,
  ⟨some 19, .faddr 48 (.t 3) 0 0, none, []⟩,
  ⟨some 20, .load 4 none (.t 19), none, []⟩,
  ⟨some 21, .eqs true 4 (.one .bool) (.t 18) (.t 20) 4, none, [18, 20]⟩,
  ⟨some 22, .faddr 48 (.t 2) 1 1, none, []⟩,
  ⟨some 23, .load 22 none (.t 22), none, []⟩,
  ⟨some 24, .faddr 48 (.t 3) 1 1, none, []⟩,
  ⟨some 25, .load 22 none (.t 24), none, []⟩,
  ⟨some 26, .call n_thicketref01_Mul [(.t 23), (.t 25)] [22, 22], none, [22, 23, 24, 25]⟩,
  ⟨some 27, .faddr 48 (.t 2) 2 2, none, []⟩,
  ⟨some 28, .load 22 none (.t 27), none, []⟩,
  ⟨some 29, .faddr 48 (.t 3) 2 2, none, []⟩,
  ⟨some 30, .load 22 none (.t 29), none, []⟩,
  ⟨some 31, .call n_thicketref01_Mul [(.t 28), (.t 30)] [22, 22], none, [2, 3, 17, 19, 27, 28, 29, 30]⟩,
  ⟨some 32, .call n_thicketref01_Over [(.t 21), (.t 26), (.t 31)] [4, 22, 22], none, [21, 26, 31]⟩,
  ⟨some 33, .extr (.t 32) 0, none, []⟩,
  ⟨some 34, .extr (.t 32) 1, none, []⟩,
  ⟨none, .store 48 (some 3) (.t 4) (.t 33), none, [32, 33]⟩,
  ⟨some 5, .assign (.t 34), none, [34]⟩] (some [⟨0, []⟩, ⟨2, []⟩, ⟨5, []⟩, ⟨7, []⟩, ⟨10, []⟩, ⟨12, []⟩, ⟨1, []⟩, ⟨3, []⟩, ⟨4, []⟩, ⟨6, []⟩, ⟨8, []⟩, ⟨11, []⟩, ⟨13, []⟩, ⟨9, [1, 3, 11, 13]⟩, ⟨14, [1, 3]⟩, ⟨15, []⟩, ⟨16, []⟩, ⟨17, []⟩, ⟨18, []⟩, ⟨19, []⟩]) [4, 5])
 .ret)
def k0_thicketref01_Times : IR := .tail [2, 3, 4] j0_thicketref01_Times
def b_thicketref01_Times : IR :=
 (.seq (.reg 0 [⟨some 2, .box 48 (.t 0), none, [0]⟩,
  ⟨some 3, .box 48 (.t 1), none, [1]⟩,
  ⟨some 4, .alloc 48 [.v (.bool false), .nil 1, .nil 1], none, []⟩,
  ⟨some 5, .assign (.c (Value.int IntKind.i64 0)), none, [5]⟩] none [2, 3, 4])
 (.seq (.seq (.reg 1 [⟨some 6, .faddr 48 (.t 2) 2 2, none, []⟩,
  ⟨some 7, .load 22 none (.t 6), none, []⟩,
  ⟨some 8, .call n_thicketref01_Len [(.t 7)] [22], none, [6, 7]⟩,
  ⟨some 9, .bin .eql 3 (.t 8) (.c (Value.int IntKind.i64 0)) 3, none, [8]⟩,
  ⟨some 10, .move (.t 9), none, [9]⟩,
  ⟨some 11, .faddr 48 (.t 3) 2 2, some (4, false), []⟩,
  ⟨some 12, .load 22 none (.t 11), some (4, false), []⟩,
  ⟨some 13, .call n_thicketref01_Len [(.t 12)] [22], some (4, false), [11, 12]⟩,
  ⟨some 14, .bin .eql 3 (.t 13) (.c (Value.int IntKind.i64 0)) 3, some (4, false), [13]⟩,
  ⟨some 15, .pick (.t 10) (.c (Value.bool true)) (.t 14), none, [10, 14]⟩] none [2, 3, 4, 15])
 (.cond [2, 3, 4] (.t 15) (.seq (.reg 2 [⟨some 16, .build 48 [(0, 1), (1, 1), (2, 1)] [.v (.bool false), .nil 1, .nil 1] [], none, []⟩,
  ⟨none, .store 48 (some 3) (.t 4) (.t 16), none, [16]⟩,
  ⟨some 5, .assign (.c (Value.int IntKind.i64 11)), none, []⟩] none [4, 5])
 .ret) .skip))
 k0_thicketref01_Times))
def a_thicketref01_Times : AFunc := ⟨35, [.cell 4 48 (some 3), .tmp 5], b_thicketref01_Times⟩

def j0_thicketref01_By : IR :=
 (.seq (.reg 3 [⟨some 23, .faddr 48 (.t 2) 0 0, none, []⟩,
  ⟨some 24, .load 4 none (.t 23), none, []⟩,
  ⟨some 25, .faddr 48 (.t 3) 0 0, none, []⟩,
  ⟨some 26, .load 4 none (.t 25), none, []⟩,
  ⟨some 27, .eqs true 4 (.one .bool) (.t 24) (.t 26) 4, none, [24, 26]⟩,
  ⟨some 28, .faddr 48 (.t 2) 1 1, none, []⟩,
  ⟨some 29, .load 22 none (.t 28), none, []⟩,
  ⟨some 30, .faddr 48 (.t 3) 2 2, none, []⟩,
  ⟨some 31, .load 22 none (.t 30), none, []⟩,
  ⟨some 32, .call n_thicketref01_Mul [(.t 29), (.t 31)] [22, 22], none, [28, 29, 30, 31]⟩,
  ⟨some 33, .faddr 48 (.t 2) 2 2, none, []⟩,
  ⟨some 34, .load 22 none (.t 33), none, []⟩,
  ⟨some 35, .faddr 48 (.t 3) 1 1, none, []⟩,
  ⟨some 36, .load 22 none (.t 35), none, []⟩,
  ⟨some 37, .call n_thicketref01_Mul [(.t 34), (.t 36)] [22, 22], none, [2, 3, 23, 25, 33, 34, 35, 36]⟩,
  ⟨some 38, .call n_thicketref01_Over [(.t 27), (.t 32), (.t 37)] [4, 22, 22], none, [27, 32, 37]⟩,
  ⟨some 39, .extr (.t 38) 0, none, []⟩,
  ⟨some 40, .extr (.t 38) 1, none, []⟩,
  ⟨none, .store 48 (some 3) (.t 4) (.t 39), none, [38, 39]⟩,
  ⟨some 5, .assign (.t 40), none, [40]⟩] (some [⟨0, []⟩, ⟨2, []⟩, ⟨5, []⟩, ⟨7, []⟩, ⟨10, []⟩, ⟨12, []⟩, ⟨1, []⟩, ⟨3, []⟩, ⟨4, []⟩, ⟨6, []⟩, ⟨8, []⟩, ⟨11, []⟩, ⟨13, []⟩, ⟨9, [1, 3, 11, 13]⟩, ⟨14, [1, 3]⟩, ⟨15, []⟩, ⟨16, []⟩, ⟨17, []⟩, ⟨18, []⟩, ⟨19, []⟩]) [4, 5])
 .ret)
def k0_thicketref01_By : IR := .tail [2, 3, 4] j0_thicketref01_By
def b_thicketref01_By : IR :=
 (.seq (.reg 0 [⟨some 2, .box 48 (.t 0), none, [0]⟩,
  ⟨some 3, .box 48 (.t 1), none, [1]⟩,
  ⟨some 4, .alloc 48 [.v (.bool false), .nil 1, .nil 1], none, []⟩,
  ⟨some 5, .assign (.c (Value.int IntKind.i64 0)), none, [5]⟩] none [2, 3, 4])
 (.seq (.seq (.reg 1 [⟨some 6, .faddr 48 (.t 2) 2 2, none, []⟩,
  ⟨some 7, .load 22 none (.t 6), none, []⟩,
  ⟨some 8, .call n_thicketref01_Len [(.t 7)] [22], none, [6, 7]⟩,
  ⟨some 9, .bin .eql 3 (.t 8) (.c (Value.int IntKind.i64 0)) 3, none, [8]⟩,
  ⟨some 10, .move (.t 9), none, [9]⟩,
  ⟨some 11, .faddr 48 (.t 3) 2 2, some (4, false), []⟩,
  ⟨some 12, .load 22 none (.t 11), some (4, false), []⟩,
  ⟨some 13, .call n_thicketref01_Len [(.t 12)] [22], some (4, false), [11, 12]⟩,
  ⟨some 14, .bin .eql 3 (.t 13) (.c (Value.int IntKind.i64 0)) 3, some (4, false), [13]⟩,
  ⟨some 15, .pick (.t 10) (.c (Value.bool true)) (.t 14), none, [10, 14]⟩,
  ⟨some 16, .move (.t 15), none, [15]⟩,
  ⟨some 17, .faddr 48 (.t 3) 1 1, some (10, false), []⟩,
  ⟨some 18, .load 22 none (.t 17), some (10, false), []⟩,
  ⟨some 19, .call n_thicketref01_Len [(.t 18)] [22], some (10, false), [17, 18]⟩,
  ⟨some 20, .bin .eql 3 (.t 19) (.c (Value.int IntKind.i64 0)) 3, some (10, false), [19]⟩,
  ⟨some 21, .pick (.t 16) (.c (Value.bool true)) (.t 20), none, [16, 20]⟩] none [2, 3, 4, 21])
 (.cond [2, 3, 4] (.t 21) (.seq (.reg 2 [⟨some 22, .build 48 [(0, 1), (1, 1), (2, 1)] [.v (.bool false), .nil 1, .nil 1] [], none, []⟩,
  ⟨none, .store 48 (some 3) (.t 4) (.t 22), none, [22]⟩,
  ⟨some 5, .assign (.c (Value.int IntKind.i64 11)), none, []⟩] none [4, 5])
 .ret) .skip))
 k0_thicketref01_By))
def a_thicketref01_By : AFunc := ⟨41, [.cell 4 48 (some 3), .tmp 5], b_thicketref01_By⟩

def j0_limbs_Order : IR :=
 (.seq (.reg 6 [⟨some 4, .assign (.c (Value.int IntKind.i64 1)), none, []⟩,
  ⟨some 5, .assign (.c (Value.int IntKind.i64 0)), none, []⟩] none [4, 5])
 .ret)
def k0_limbs_Order : IR := .tail [] j0_limbs_Order
def b_limbs_Order : IR :=
 (.seq (.reg 0 [⟨some 2, .box 48 (.t 0), none, [0]⟩,
  ⟨some 3, .box 48 (.t 1), none, [1]⟩,
  ⟨some 4, .assign (.c (Value.int IntKind.i64 0)), none, [4]⟩,
  ⟨some 5, .assign (.c (Value.int IntKind.i64 0)), none, [5]⟩] none [2, 3])
 (.seq (.reg 1 [⟨some 9, .load 48 (some 3) (.t 2), none, []⟩,
  ⟨some 10, .load 48 (some 3) (.t 3), none, []⟩,
  ⟨some 11, .call n_limbs_Minus [(.t 9), (.t 10)] [48, 48], none, [2, 3, 9, 10]⟩,
  ⟨some 8, .move (.t 11), none, []⟩,
  ⟨some 12, .extr (.t 8) 0, none, []⟩,
  ⟨some 13, .extr (.t 8) 1, none, []⟩,
  ⟨some 6, .alloc 48 [.v (.bool false), .nil 1, .nil 1], none, []⟩,
  ⟨none, .store 48 (some 3) (.t 6) (.t 12), none, [8, 11, 12]⟩,
  ⟨some 7, .assign (.t 13), none, [13]⟩] none [6, 7])
 (.seq (.block 0 (.seq (.reg 2 [⟨some 15, .move (.t 7), none, []⟩,
  ⟨some 16, .bin .neq 23 (.t 15) (.c (Value.int IntKind.i64 0)) 23, none, [15]⟩,
  ⟨some 17, .move (.t 16), none, [16]⟩,
  ⟨some 18, .faddr 48 (.t 6) 1 1, some (2, false), []⟩,
  ⟨some 19, .load 22 none (.t 18), some (2, false), []⟩,
  ⟨some 20, .len 22 false (.t 19), some (2, false), [18, 19]⟩,
  ⟨some 21, .bin .eql 3 (.t 20) (.c (Value.int IntKind.i64 0)) 3, some (2, false), [20]⟩,
  ⟨some 22, .pick (.t 17) (.c (Value.bool true)) (.t 21), none, [17, 21]⟩,
  ⟨some 14, .assign (.t 22), none, [22]⟩] none [6, 7, 14])
 (.cond [6, 7] (.t 14) (.seq (.reg 3 [⟨some 23, .move (.t 7), none, [7]⟩,
  ⟨some 4, .assign (.c (Value.int IntKind.i64 0)), none, []⟩,
  ⟨some 5, .assign (.t 23), none, [23]⟩] none [4, 5])
 .ret) (.seq (.reg 4 [⟨some 25, .faddr 48 (.t 6) 0 0, none, []⟩,
  ⟨some 26, .load 4 none (.t 25), none, [6, 25]⟩,
  ⟨some 24, .assign (.t 26), none, [26]⟩] none [24])
 (.cond [] (.t 24) (.seq (.reg 5 [⟨some 4, .assign (.c (Value.int IntKind.i64 (-1))), none, []⟩,
  ⟨some 5, .assign (.c (Value.int IntKind.i64 0)), none, []⟩] none [4, 5])
 .ret) .skip)))))
 k0_limbs_Order)))
def a_limbs_Order : AFunc := ⟨27, [.tmp 4, .tmp 5], b_limbs_Order⟩

def j0_thicketref01_Order : IR :=
 (.seq (.reg 8 [⟨some 4, .assign (.c (Value.int IntKind.i64 1)), none, []⟩,
  ⟨some 5, .assign (.c (Value.int IntKind.i64 0)), none, []⟩] none [4, 5])
 .ret)
def k0_thicketref01_Order : IR := .tail [] j0_thicketref01_Order
def j1_thicketref01_Order : IR :=
 (.seq (.block 0 (.seq (.reg 4 [⟨some 18, .faddr 48 (.t 6) 1 1, none, []⟩,
  ⟨some 19, .load 22 none (.t 18), none, []⟩,
  ⟨some 20, .len 22 false (.t 19), none, [18, 19]⟩,
  ⟨some 21, .bin .eql 3 (.t 20) (.c (Value.int IntKind.i64 0)) 3, none, [20]⟩,
  ⟨some 17, .assign (.t 21), none, [21]⟩] none [6, 17])
 (.cond [6] (.t 17) (.seq (.reg 5 [⟨some 4, .assign (.c (Value.int IntKind.i64 0)), none, []⟩,
  ⟨some 5, .assign (.c (Value.int IntKind.i64 0)), none, []⟩] none [4, 5])
 .ret) (.seq (.reg 6 [⟨some 23, .faddr 48 (.t 6) 0 0, none, []⟩,
  ⟨some 24, .load 4 none (.t 23), none, [6, 23]⟩,
  ⟨some 22, .assign (.t 24), none, [24]⟩] none [22])
 (.cond [] (.t 22) (.seq (.reg 7 [⟨some 4, .assign (.c (Value.int IntKind.i64 (-1))), none, []⟩,
  ⟨some 5, .assign (.c (Value.int IntKind.i64 0)), none, []⟩] none [4, 5])
 .ret) .skip)))))
 k0_thicketref01_Order)
def k1_thicketref01_Order : IR := .tail [6] j1_thicketref01_Order
def b_thicketref01_Order : IR :=
 (.seq (.reg 0 [⟨some 2, .box 48 (.t 0), none, [0]⟩,
  ⟨some 3, .box 48 (.t 1), none, [1]⟩,
  ⟨some 4, .assign (.c (Value.int IntKind.i64 0)), none, [4]⟩,
  ⟨some 5, .assign (.c (Value.int IntKind.i64 0)), none, [5]⟩] none [2, 3])
 (.seq (.reg 1 [⟨some 9, .load 48 (some 3) (.t 2), none, []⟩,
  ⟨some 10, .load 48 (some 3) (.t 3), none, []⟩,
  ⟨some 11, .call n_thicketref01_Minus [(.t 9), (.t 10)] [48, 48], none, [2, 3, 9, 10]⟩,
  ⟨some 8, .move (.t 11), none, []⟩,
  ⟨some 12, .extr (.t 8) 0, none, []⟩,
  ⟨some 13, .extr (.t 8) 1, none, []⟩,
  ⟨some 6, .alloc 48 [.v (.bool false), .nil 1, .nil 1], none, []⟩,
  ⟨none, .store 48 (some 3) (.t 6) (.t 12), none, [8, 11, 12]⟩,
  ⟨some 7, .assign (.t 13), none, [13]⟩] none [6, 7])
 (.seq (.seq (.reg 2 [⟨some 14, .move (.t 7), none, []⟩,
  ⟨some 15, .bin .neq 23 (.t 14) (.c (Value.int IntKind.i64 0)) 23, none, [14]⟩] none [6, 7, 15])
 (.cond [6, 7] (.t 15) (.seq (.reg 3 [⟨some 16, .move (.t 7), none, [7]⟩,
  ⟨some 4, .assign (.c (Value.int IntKind.i64 0)), none, []⟩,
  ⟨some 5, .assign (.t 16), none, [16]⟩] none [4, 5])
 .ret) .skip))
 k1_thicketref01_Order)))
def a_thicketref01_Order : AFunc := ⟨25, [.tmp 4, .tmp 5], b_thicketref01_Order⟩

def j0_thicketlaw01_LimbsRatios : IR :=
 (.seq (.reg 17 [⟨some 159, .load 48 (some 3) (.t 3), none, []⟩,
  ⟨some 160, .load 48 (some 3) (.t 4), none, []⟩,
  ⟨some 161, .call n_limbs_Order [(.t 159), (.t 160)] [48, 48], none, [159, 160]⟩,
  ⟨some 158, .move (.t 161), none, [161]⟩,
  ⟨some 162, .extr (.t 158) 0, none, []⟩,
  ⟨some 163, .extr (.t 158) 1, none, [158]⟩,
  ⟨some 27, .assign (.t 162), none, [162]⟩,
  ⟨some 8, .assign (.t 163), none, [163]⟩] none [3, 4, 8, 27])
 (.seq (.reg 18 [⟨some 165, .load 48 (some 3) (.t 3), none, []⟩,
  ⟨some 166, .load 48 (some 3) (.t 4), none, []⟩,
  ⟨some 167, .call n_thicketref01_Order [(.t 165), (.t 166)] [48, 48], none, [3, 4, 165, 166]⟩,
  ⟨some 164, .move (.t 167), none, [167]⟩,
  ⟨some 168, .extr (.t 164) 0, none, []⟩,
  ⟨some 169, .extr (.t 164) 1, none, [164]⟩,
  ⟨some 28, .assign (.t 168), none, [168]⟩,
  ⟨some 10, .assign (.t 169), none, [169]⟩] none [8, 10, 27, 28])
 (.seq (.reg 19 [⟨some 170, .move (.t 27), none, [27]⟩,
  ⟨some 171, .move (.t 28), none, [28]⟩,
  ⟨some 172, .bin .eql 3 (.t 170) (.t 171) 3, none, [170, 171]⟩,
  ⟨some 173, .move (.t 172), none, [172]⟩,
  ⟨some 174, .move (.t 8), some (3, true), [8]⟩,
  ⟨some 175, .move (.t 10), some (3, true), [10]⟩,
  ⟨some 176, .bin .eql 23 (.t 174) (.t 175) 23, some (3, true), [174, 175]⟩,
  ⟨some 177, .pick (.t 173) (.t 176) (.c (Value.bool false)), none, [173, 176]⟩,
  ⟨some 6, .assign (.t 177), none, [177]⟩] none [6])
 .ret)))
def k0_thicketlaw01_LimbsRatios : IR := .tail [3, 4] j0_thicketlaw01_LimbsRatios
def j1_thicketlaw01_LimbsRatios : IR :=
 (.seq (.reg 7 [⟨some 69, .load 48 (some 3) (.t 3), none, []⟩,
  ⟨some 70, .load 48 (some 3) (.t 4), none, []⟩,
  ⟨some 71, .call n_limbs_Plus [(.t 69), (.t 70)] [48, 48], none, [69, 70]⟩,
  ⟨some 68, .move (.t 71), none, []⟩,
  ⟨some 72, .extr (.t 68) 0, none, []⟩,
  ⟨some 73, .extr (.t 68) 1, none, []⟩,
  ⟨some 11, .alloc 48 [.v (.bool false), .nil 1, .nil 1], none, []⟩,
  ⟨none, .store 48 (some 3) (.t 11) (.t 72), none, [68, 71, 72]⟩,
  ⟨some 12, .assign (.t 73), none, [73]⟩] none [3, 4, 11, 12])
 (.seq (.reg 8 [⟨some 75, .load 48 (some 3) (.t 3), none, []⟩,
  ⟨some 76, .load 48 (some 3) (.t 4), none, []⟩,
  ⟨some 77, .call n_limbs_Minus [(.t 75), (.t 76)] [48, 48], none, [75, 76]⟩,
  ⟨some 74, .move (.t 77), none, []⟩,
  ⟨some 78, .extr (.t 74) 0, none, []⟩,
  ⟨some 79, .extr (.t 74) 1, none, []⟩,
  ⟨some 13, .alloc 48 [.v (.bool false), .nil 1, .nil 1], none, []⟩,
  ⟨none, .store 48 (some 3) (.t 13) (.t 78), none, [74, 77, 78]⟩,
  ⟨some 14, .assign (.t 79), none, [79]⟩] none [3, 4, 11, 12, 13, 14])
 (.seq (.reg 9 [⟨some 81, .load 48 (some 3) (.t 3), none, []⟩,
  ⟨some 82, .load 48 (some 3) (.t 4), none, []⟩,
  ⟨some 83, .call n_limbs_Times [(.t 81), (.t 82)] [48, 48], none, [81, 82]⟩,
  ⟨some 80, .move (.t 83), none, []⟩,
  ⟨some 84, .extr (.t 80) 0, none, []⟩,
  ⟨some 85, .extr (.t 80) 1, none, []⟩,
  ⟨some 15, .alloc 48 [.v (.bool false), .nil 1, .nil 1], none, []⟩,
  ⟨none, .store 48 (some 3) (.t 15) (.t 84), none, [80, 83, 84]⟩,
  ⟨some 16, .assign (.t 85), none, [85]⟩] none [3, 4, 11, 12, 13, 14, 15, 16])
 (.seq (.reg 10 [⟨some 87, .load 48 (some 3) (.t 3), none, []⟩,
  ⟨some 88, .load 48 (some 3) (.t 4), none, []⟩,
  ⟨some 89, .call n_limbs_By [(.t 87), (.t 88)] [48, 48], none, [87, 88]⟩,
  ⟨some 86, .move (.t 89), none, []⟩,
  ⟨some 90, .extr (.t 86) 0, none, []⟩,
  ⟨some 91, .extr (.t 86) 1, none, []⟩,
  ⟨some 17, .alloc 48 [.v (.bool false), .nil 1, .nil 1], none, []⟩,
  ⟨none, .store 48 (some 3) (.t 17) (.t 90), none, [86, 89, 90]⟩,
  ⟨some 18, .assign (.t 91), none, [91]⟩] none [3, 4, 11, 12, 13, 14, 15, 16, 17, 18])
 (.seq (.reg 11 [⟨some 93, .load 48 (some 3) (.t 3), none, []⟩,
  ⟨some 94, .load 48 (some 3) (.t 4), none, []⟩,
  ⟨some 95, .call n_thicketref01_Plus [(.t 93), (.t 94)] [48, 48], none, [93, 94]⟩,
  ⟨some 92, .move (.t 95), none, []⟩,
  ⟨some 96, .extr (.t 92) 0, none, []⟩,
  ⟨some 97, .extr (.t 92) 1, none, []⟩,
  ⟨some 19, .alloc 48 [.v (.bool false), .nil 1, .nil 1], none, []⟩,
  ⟨none, .store 48 (some 3) (.t 19) (.t 96), none, [92, 95, 96]⟩,
  ⟨some 20, .assign (.t 97), none, [97]⟩] none [3, 4, 11, 12, 13, 14, 15, 16, 17, 18, 19, 20])
 (.seq (.reg 12 [⟨some 99, .load 48 (some 3) (.t 3), none, []⟩,
  ⟨some 100, .load 48 (some 3) (.t 4), none, []⟩,
  ⟨some 101, .call n_thicketref01_Minus [(.t 99), (.t 100)] [48, 48], none, [99, 100]⟩,
  ⟨some 98, .move (.t 101), none, []⟩,
  ⟨some 102, .extr (.t 98) 0, none, []⟩,
  ⟨some 103, .extr (.t 98) 1, none, []⟩,
  ⟨some 21, .alloc 48 [.v (.bool false), .nil 1, .nil 1], none, []⟩,
  ⟨none, .store 48 (some 3) (.t 21) (.t 102), none, [98, 101, 102]⟩,
  ⟨some 22, .assign (.t 103), none, [103]⟩] none [3, 4, 11, 12, 13, 14, 15, 16, 17, 18, 19, 20, 21, 22])
 (.seq (.reg 13 [⟨some 105, .load 48 (some 3) (.t 3), none, []⟩,
  ⟨some 106, .load 48 (some 3) (.t 4), none, []⟩,
  ⟨some 107, .call n_thicketref01_Times [(.t 105), (.t 106)] [48, 48], none, [105, 106]⟩,
  ⟨some 104, .move (.t 107), none, []⟩,
  ⟨some 108, .extr (.t 104) 0, none, []⟩,
  ⟨some 109, .extr (.t 104) 1, none, []⟩,
  ⟨some 23, .alloc 48 [.v (.bool false), .nil 1, .nil 1], none, []⟩,
  ⟨none, .store 48 (some 3) (.t 23) (.t 108), none, [104, 107, 108]⟩,
  ⟨some 24, .assign (.t 109), none, [109]⟩] none [3, 4, 11, 12, 13, 14, 15, 16, 17, 18, 19, 20, 21, 22, 23, 24])
 (.seq (.reg 14 [⟨some 111, .load 48 (some 3) (.t 3), none, []⟩,
  ⟨some 112, .load 48 (some 3) (.t 4), none, []⟩,
  ⟨some 113, .call n_thicketref01_By [(.t 111), (.t 112)] [48, 48], none, [111, 112]⟩,
  ⟨some 110, .move (.t 113), none, []⟩,
  ⟨some 114, .extr (.t 110) 0, none, []⟩,
  ⟨some 115, .extr (.t 110) 1, none, []⟩,
  ⟨some 25, .alloc 48 [.v (.bool false), .nil 1, .nil 1], none, []⟩,
  ⟨none, .store 48 (some 3) (.t 25) (.t 114), none, [110, 113, 114]⟩,
  ⟨some 26, .assign (.t 115), none, [115]⟩] none [3, 4, 11, 12, 13, 14, 15, 16, 17, 18, 19, 20, 21, 22, 23, 24, 25, 26])
 (.seq (.seq (.reg 15 [⟨some 116, .load 48 (some 3) (.t 11), none, []⟩,
  ⟨some 117, .load 48 (some 3) (.t 19), none, []⟩,
  ⟨some 118, .call n_thicketref01_Alike [(.t 116), (.t 117)] [48, 48], none, [11, 19, 116, 117]⟩,
  ⟨some 119, .un .not 4 (.t 118), none, [118]⟩,
  ⟨some 120, .move (.t 119), none, [119]⟩,
  ⟨some 121, .load 48 (some 3) (.t 13), some (4, false), []⟩,
  ⟨some 122, .load 48 (some 3) (.t 21), some (4, false), []⟩,
  ⟨some 123, .call n_thicketref01_Alike [(.t 121), (.t 122)] [48, 48], some (4, false), [13, 21, 121, 122]⟩,
  ⟨some 124, .un .not 4 (.t 123), some (4, false), [123]⟩,
  ⟨some 125, .pick (.t 120) (.c (Value.bool true)) (.t 124), none, [120, 124]⟩,
  ⟨some 126, .move (.t 125), none, [125]⟩,
  ⟨some 127, .load 48 (some 3) (.t 15), some (10, false), []⟩,
  ⟨some 128, .load 48 (some 3) (.t 23), some (10, false), []⟩,
  ⟨some 129, .call n_thicketref01_Alike [(.t 127), (.t 128)] [48, 48], some (10, false), [15, 23, 127, 128]⟩,
  ⟨some 130, .un .not 4 (.t 129), some (10, false), [129]⟩,
  ⟨some 131, .pick (.t 126) (.c (Value.bool true)) (.t 130), none, [126, 130]⟩,
  ⟨some 132, .move (.t 131), none, [131]⟩,
  ⟨some 133, .load 48 (some 3) (.t 17), some (16, false), []⟩,
  ⟨some 134, .load 48 (some 3) (.t 25), some (16, false), []⟩,
  ⟨some 135, .call n_thicketref01_Alike [(.t 133), (.t 134)] [48, 48], some (16, false), [17, 25, 133, 134]⟩,
  ⟨some 136, .un .not 4 (.t 135), some (16, false), [135]⟩,
  ⟨some 137, .pick (.t 132) (.c (Value.bool true)) (.t 136), none, [132, 136]⟩,
  ⟨some 138, .move (.t 137), none, [137]⟩,
  ⟨some 139, .move (.t 12), some (22, false), [12]⟩,
  ⟨some 140, .move (.t 20), some (22, false), [20]⟩,
  ⟨some 141, .bin .neq 23 (.t 139) (.t 140) 23, some (22, false), [139, 140]⟩,
  ⟨some 142, .pick (.t 138) (.c (Value.bool true)) (.t 141), none, [138, 141]⟩,
  ⟨some 143, .move (.t 142), none, [142]⟩,
  ⟨some 144, .move (.t 14), some (27, false), [14]⟩,
  ⟨some 145, .move (.t 22), some (27, false), [22]⟩,
  ⟨some 146, .bin .neq 23 (.t 144) (.t 145) 23, some (27, false), [144, 145]⟩,
  ⟨some 147, .pick (.t 143) (.c (Value.bool true)) (.t 146), none, [143, 146]⟩,
  ⟨some 148, .move (.t 147), none, [147]⟩,
  ⟨some 149, .move (.t 16), some (32, false), [16]⟩,
  ⟨some 150, .move (.t 24), some (32, false), [24]⟩,
  ⟨some 151, .bin .neq 23 (.t 149) (.t 150) 23, some (32, false), [149, 150]⟩,
  ⟨some 152, .pick (.t 148) (.c (Value.bool true)) (.t 151), none, [148, 151]⟩,
  ⟨some 153, .move (.t 152), none, [152]⟩,
  ⟨some 154, .move (.t 18), some (37, false), [18]⟩,
  ⟨some 155, .move (.t 26), some (37, false), [26]⟩,
  ⟨some 156, .bin .neq 23 (.t 154) (.t 155) 23, some (37, false), [154, 155]⟩,
  ⟨some 157, .pick (.t 153) (.c (Value.bool true)) (.t 156), none, [153, 156]⟩] none [3, 4, 157])
 (.cond [3, 4] (.t 157) (.seq (.reg 16 [⟨some 6, .assign (.c (Value.bool false)), none, []⟩] none [6])
 .ret) .skip))
 k0_thicketlaw01_LimbsRatios)))))))))
def k1_thicketlaw01_LimbsRatios : IR := .tail [3, 4] j1_thicketlaw01_LimbsRatios
def j2_thicketlaw01_LimbsRatios : IR :=
 (.seq (.reg 3 [⟨some 40, .faddr 48 (.t 3) 0 0, none, []⟩,
  ⟨some 41, .load 4 none (.t 40), none, [40]⟩,
  ⟨some 42, .faddr 48 (.t 3) 1 1, none, []⟩,
  ⟨some 43, .load 22 none (.t 42), none, []⟩,
  ⟨some 44, .faddr 48 (.t 3) 2 2, none, []⟩,
  ⟨some 45, .load 22 none (.t 44), none, []⟩,
  ⟨some 46, .call n_limbs_Over [(.t 41), (.t 43), (.t 45)] [4, 22, 22], none, [41, 42, 43, 44, 45]⟩,
  ⟨some 39, .move (.t 46), none, []⟩,
  ⟨some 47, .extr (.t 39) 0, none, []⟩,
  ⟨some 48, .extr (.t 39) 1, none, []⟩,
  ⟨some 7, .alloc 48 [.v (.bool false), .nil 1, .nil 1], none, []⟩,
  ⟨none, .store 48 (some 3) (.t 7) (.t 47), none, [39, 46, 47]⟩,
  ⟨some 8, .assign (.t 48), none, [48]⟩] none [3, 4, 7, 8])
 (.seq (.reg 4 [⟨some 50, .faddr 48 (.t 3) 0 0, none, []⟩,
  ⟨some 51, .load 4 none (.t 50), none, [50]⟩,
  ⟨some 52, .faddr 48 (.t 3) 1 1, none, []⟩,
  ⟨some 53, .load 22 none (.t 52), none, []⟩,
  ⟨some 54, .faddr 48 (.t 3) 2 2, none, []⟩,
  ⟨some 55, .load 22 none (.t 54), none, []⟩,
  ⟨some 56, .call n_thicketref01_Over [(.t 51), (.t 53), (.t 55)] [4, 22, 22], none, [51, 52, 53, 54, 55]⟩,
  ⟨some 49, .move (.t 56), none, []⟩,
  ⟨some 57, .extr (.t 49) 0, none, []⟩,
  ⟨some 58, .extr (.t 49) 1, none, []⟩,
  ⟨some 9, .alloc 48 [.v (.bool false), .nil 1, .nil 1], none, []⟩,
  ⟨none, .store 48 (some 3) (.t 9) (.t 57), none, [49, 56, 57]⟩,
  ⟨some 10, .assign (.t 58), none, [58]⟩] none [3, 4, 7, 8, 9, 10])
 (.seq (.seq (.reg 5 [⟨some 59, .load 48 (some 3) (.t 7), none, []⟩,
  ⟨some 60, .load 48 (some 3) (.t 9), none, []⟩,
  ⟨some 61, .call n_thicketref01_Alike [(.t 59), (.t 60)] [48, 48], none, [7, 9, 59, 60]⟩,
  ⟨some 62, .un .not 4 (.t 61), none, [61]⟩,
  ⟨some 63, .move (.t 62), none, [62]⟩,
  ⟨some 64, .move (.t 8), some (4, false), [8]⟩,
  ⟨some 65, .move (.t 10), some (4, false), [10]⟩,
  ⟨some 66, .bin .neq 23 (.t 64) (.t 65) 23, some (4, false), [64, 65]⟩,
  ⟨some 67, .pick (.t 63) (.c (Value.bool true)) (.t 66), none, [63, 66]⟩] none [3, 4, 67])
 (.cond [3, 4] (.t 67) (.seq (.reg 6 [⟨some 6, .assign (.c (Value.bool false)), none, []⟩] none [6])
 .ret) .skip))
 k1_thicketlaw01_LimbsRatios)))
def k2_thicketlaw01_LimbsRatios : IR := .tail [3, 4] j2_thicketlaw01_LimbsRatios
def b_thicketlaw01_LimbsRatios : IR :=
 (.seq (.reg 0 [⟨some 3, .box 48 (.t 0), none, [0]⟩,
  ⟨some 4, .box 48 (.t 1), none, [1]⟩,
  ⟨some 6, .assign (.c (Value.bool false)), none, [6]⟩] none [2, 3, 4])
 (.seq (.seq (.reg 1 [⟨some 29, .call n_thicketlaw01_lives [] [], none, []⟩,
  ⟨some 30, .un .not 4 (.t 29), none, [29]⟩,
  ⟨some 31, .move (.t 30), none, [30]⟩,
  ⟨some 32, .move (.t 2), some (2, false), []⟩,
  ⟨some 33, .call n_limbs_Whole [(.t 32)] [2], some (2, false), [32]⟩,
  ⟨some 34, .move (.t 2), some (2, false), [2]⟩,
  ⟨some 35, .call n_thicketref01_Whole [(.t 34)] [2], some (2, false), [34]⟩,
  ⟨some 36, .call n_thicketref01_Alike [(.t 33), (.t 35)] [48, 48], some (2, false), [33, 35]⟩,
  ⟨some 37, .un .not 4 (.t 36), some (2, false), [36]⟩,
  ⟨some 38, .pick (.t 31) (.c (Value.bool true)) (.t 37), none, [31, 37]⟩] none [3, 4, 38])
 (.cond [3, 4] (.t 38) (.seq (.reg 2 [⟨some 6, .assign (.c (Value.bool false)), none, []⟩] none [6])
 .ret) .skip))
 k2_thicketlaw01_LimbsRatios))
def a_thicketlaw01_LimbsRatios : AFunc := ⟨178, [.tmp 6], b_thicketlaw01_LimbsRatios⟩

def j0_thicketlaw01_LimbsField : IR :=
 (.seq (.reg 22 [⟨some 156, .load 48 (some 3) (.t 27), none, []⟩,
  ⟨some 157, .load 48 (some 3) (.t 9), none, []⟩,
  ⟨some 158, .call n_limbs_Times [(.t 156), (.t 157)] [48, 48], none, [27, 156, 157]⟩,
  ⟨some 155, .move (.t 158), none, []⟩,
  ⟨some 159, .extr (.t 155) 0, none, []⟩,
  ⟨some 160, .extr (.t 155) 1, none, []⟩,
  ⟨some 28, .alloc 48 [.v (.bool false), .nil 1, .nil 1], none, []⟩,
  ⟨none, .store 48 (some 3) (.t 28) (.t 159), none, [155, 158, 159]⟩,
  ⟨some 8, .assign (.t 160), none, [160]⟩] none [7, 8, 9, 23, 28])
 (.seq (.reg 23 [⟨some 162, .load 48 (some 3) (.t 23), none, []⟩,
  ⟨some 163, .load 48 (some 3) (.t 7), none, []⟩,
  ⟨some 164, .call n_limbs_Order [(.t 162), (.t 163)] [48, 48], none, [23, 162, 163]⟩,
  ⟨some 161, .move (.t 164), none, [164]⟩,
  ⟨some 165, .extr (.t 161) 0, none, []⟩,
  ⟨some 166, .extr (.t 161) 1, none, [161]⟩,
  ⟨some 29, .assign (.t 165), none, [165]⟩,
  ⟨some 10, .assign (.t 166), none, [166]⟩] none [7, 8, 9, 10, 28, 29])
 (.seq (.reg 24 [⟨some 168, .load 48 (some 3) (.t 9), none, []⟩,
  ⟨some 169, .call n_limbs_Whole [(.c (Value.int IntKind.i64 0))] [2], none, []⟩,
  ⟨some 170, .call n_limbs_Order [(.t 168), (.t 169)] [48, 48], none, [9, 168, 169]⟩,
  ⟨some 167, .move (.t 170), none, [170]⟩,
  ⟨some 171, .extr (.t 167) 0, none, []⟩,
  ⟨some 172, .extr (.t 167) 1, none, [167]⟩,
  ⟨some 30, .assign (.t 171), none, [171]⟩,
  ⟨some 12, .assign (.t 172), none, [172]⟩] (some [⟨0, []⟩, ⟨1, [0]⟩, ⟨2, []⟩, ⟨3, []⟩, ⟨4, []⟩, ⟨5, []⟩, ⟨6, []⟩, ⟨7, []⟩]) [7, 8, 10, 12, 28, 29, 30])
 (.seq (.reg 25 [⟨some 173, .move (.t 8), none, [8]⟩,
  ⟨some 174, .bin .eql 23 (.t 173) (.c (Value.int IntKind.i64 0)) 23, none, [173]⟩,
  ⟨some 175, .move (.t 174), none, [174]⟩,
  ⟨some 176, .load 48 (some 3) (.t 28), some (2, true), []⟩,
  ⟨some 177, .load 48 (some 3) (.t 7), some (2, true), []⟩,
  ⟨some 178, .call n_thicketref01_Alike [(.t 176), (.t 177)] [48, 48], some (2, true), [7, 28, 176, 177]⟩,
  ⟨some 179, .pick (.t 175) (.t 178) (.c (Value.bool false)), none, [175, 178]⟩,
  ⟨some 180, .move (.t 179), none, [179]⟩,
  ⟨some 181, .move (.t 10), some (7, true), [10]⟩,
  ⟨some 182, .bin .eql 23 (.t 181) (.c (Value.int IntKind.i64 0)) 23, some (7, true), [181]⟩,
  ⟨some 183, .pick (.t 180) (.t 182) (.c (Value.bool false)), none, [180, 182]⟩,
  ⟨some 184, .move (.t 183), none, [183]⟩,
  ⟨some 185, .move (.t 12), some (11, true), [12]⟩,
  ⟨some 186, .bin .eql 23 (.t 185) (.c (Value.int IntKind.i64 0)) 23, some (11, true), [185]⟩,
  ⟨some 187, .pick (.t 184) (.t 186) (.c (Value.bool false)), none, [184, 186]⟩,
  ⟨some 188, .move (.t 187), none, [187]⟩,
  ⟨some 189, .move (.t 29), some (15, true), [29]⟩,
  ⟨some 190, .move (.t 30), some (15, true), [30]⟩,
  ⟨some 191, .bin .eql 3 (.t 189) (.t 190) 3, some (15, true), [189, 190]⟩,
  ⟨some 192, .pick (.t 188) (.t 191) (.c (Value.bool false)), none, [188, 191]⟩,
  ⟨some 6, .assign (.t 192), none, [192]⟩] none [6])
 .ret))))
def k0_thicketlaw01_LimbsField : IR := .tail [7, 9, 23, 27] j0_thicketlaw01_LimbsField
def j1_thicketlaw01_LimbsField : IR :=
 (.seq (.reg 19 [⟨some 140, .load 48 (some 3) (.t 7), none, []⟩,
  ⟨some 141, .load 48 (some 3) (.t 9), none, []⟩,
  ⟨some 142, .call n_limbs_By [(.t 140), (.t 141)] [48, 48], none, [140, 141]⟩,
  ⟨some 139, .move (.t 142), none, []⟩,
  ⟨some 143, .extr (.t 139) 0, none, []⟩,
  ⟨some 144, .extr (.t 139) 1, none, []⟩,
  ⟨some 27, .alloc 48 [.v (.bool false), .nil 1, .nil 1], none, []⟩,
  ⟨none, .store 48 (some 3) (.t 27) (.t 143), none, [139, 142, 143]⟩,
  ⟨some 8, .assign (.t 144), none, [144]⟩] none [7, 8, 9, 23, 27])
 (.seq (.seq (.reg 20 [⟨some 145, .move (.t 8), none, []⟩,
  ⟨some 146, .bin .neq 23 (.t 145) (.c (Value.int IntKind.i64 0)) 23, none, [145]⟩] none [7, 8, 9, 23, 27, 146])
 (.cond [7, 8, 9, 23, 27] (.t 146) (.seq (.reg 21 [⟨some 147, .move (.t 8), none, [8]⟩,
  ⟨some 148, .bin .eql 23 (.t 147) (.c (Value.int IntKind.i64 11)) 23, none, [147]⟩,
  ⟨some 149, .move (.t 148), none, [148]⟩,
  ⟨some 150, .faddr 48 (.t 9) 1 1, some (2, true), []⟩,
  ⟨some 151, .load 22 none (.t 150), some (2, true), []⟩,
  ⟨some 152, .call n_limbs_Len [(.t 151)] [22], some (2, true), [9, 150, 151]⟩,
  ⟨some 153, .bin .eql 3 (.t 152) (.c (Value.int IntKind.i64 0)) 3, some (2, true), [152]⟩,
  ⟨some 154, .pick (.t 149) (.t 153) (.c (Value.bool false)), none, [149, 153]⟩,
  ⟨some 6, .assign (.t 154), none, [154]⟩] none [6])
 .ret) .skip))
 k0_thicketlaw01_LimbsField))
def k1_thicketlaw01_LimbsField : IR := .tail [7, 9, 23] j1_thicketlaw01_LimbsField
def j2_thicketlaw01_LimbsField : IR :=
 (.seq (.reg 15 [⟨some 124, .load 48 (some 3) (.t 7), none, []⟩,
  ⟨some 125, .load 48 (some 3) (.t 9), none, []⟩,
  ⟨some 126, .call n_limbs_Plus [(.t 124), (.t 125)] [48, 48], none, [124, 125]⟩,
  ⟨some 123, .move (.t 126), none, []⟩,
  ⟨some 127, .extr (.t 123) 0, none, []⟩,
  ⟨some 128, .extr (.t 123) 1, none, []⟩,
  ⟨some 23, .alloc 48 [.v (.bool false), .nil 1, .nil 1], none, []⟩,
  ⟨none, .store 48 (some 3) (.t 23) (.t 127), none, [123, 126, 127]⟩,
  ⟨some 24, .assign (.t 128), none, [24, 128]⟩] none [7, 9, 23])
 (.seq (.reg 16 [⟨some 130, .load 48 (some 3) (.t 23), none, []⟩,
  ⟨some 131, .load 48 (some 3) (.t 9), none, []⟩,
  ⟨some 132, .call n_limbs_Minus [(.t 130), (.t 131)] [48, 48], none, [130, 131]⟩,
  ⟨some 129, .move (.t 132), none, []⟩,
  ⟨some 133, .extr (.t 129) 0, none, []⟩,
  ⟨some 134, .extr (.t 129) 1, none, []⟩,
  ⟨some 25, .alloc 48 [.v (.bool false), .nil 1, .nil 1], none, []⟩,
  ⟨none, .store 48 (some 3) (.t 25) (.t 133), none, [129, 132, 133]⟩,
  ⟨some 26, .assign (.t 134), none, [26, 134]⟩] none [7, 9, 23, 25])
 (.seq (.seq (.reg 17 [⟨some 135, .load 48 (some 3) (.t 25), none, []⟩,
  ⟨some 136, .load 48 (some 3) (.t 7), none, []⟩,
  ⟨some 137, .call n_thicketref01_Alike [(.t 135), (.t 136)] [48, 48], none, [25, 135, 136]⟩,
  ⟨some 138, .un .not 4 (.t 137), none, [137]⟩] none [7, 9, 23, 138])
 (.cond [7, 9, 23] (.t 138) (.seq (.reg 18 [⟨some 6, .assign (.c (Value.bool false)), none, []⟩] none [6])
 .ret) .skip))
 k1_thicketlaw01_LimbsField)))
def k2_thicketlaw01_LimbsField : IR := .tail [7, 9] j2_thicketlaw01_LimbsField
def j3_thicketlaw01_LimbsField : IR :=
 (.seq (.reg 8 [⟨some 90, .load 48 (some 3) (.t 9), none, []⟩,
  ⟨some 91, .load 48 (some 3) (.t 11), none, []⟩,
  ⟨some 92, .call n_limbs_Plus [(.t 90), (.t 91)] [48, 48], none, [90, 91]⟩,
  ⟨some 89, .move (.t 92), none, []⟩,
  ⟨some 93, .extr (.t 89) 0, none, []⟩,
  ⟨some 94, .extr (.t 89) 1, none, []⟩,
  ⟨some 13, .alloc 48 [.v (.bool false), .nil 1, .nil 1], none, []⟩,
  ⟨none, .store 48 (some 3) (.t 13) (.t 93), none, [89, 92, 93]⟩,
  ⟨some 14, .assign (.t 94), none, [14, 94]⟩] none [7, 9, 11, 13])
 (.seq (.reg 9 [⟨some 96, .load 48 (some 3) (.t 7), none, []⟩,
  ⟨some 97, .load 48 (some 3) (.t 13), none, []⟩,
  ⟨some 98, .call n_limbs_Times [(.t 96), (.t 97)] [48, 48], none, [13, 96, 97]⟩,
  ⟨some 95, .move (.t 98), none, []⟩,
  ⟨some 99, .extr (.t 95) 0, none, []⟩,
  ⟨some 100, .extr (.t 95) 1, none, []⟩,
  ⟨some 15, .alloc 48 [.v (.bool false), .nil 1, .nil 1], none, []⟩,
  ⟨none, .store 48 (some 3) (.t 15) (.t 99), none, [95, 98, 99]⟩,
  ⟨some 16, .assign (.t 100), none, [16, 100]⟩] none [7, 9, 11, 15])
 (.seq (.reg 10 [⟨some 102, .load 48 (some 3) (.t 7), none, []⟩,
  ⟨some 103, .load 48 (some 3) (.t 9), none, []⟩,
  ⟨some 104, .call n_limbs_Times [(.t 102), (.t 103)] [48, 48], none, [102, 103]⟩,
  ⟨some 101, .move (.t 104), none, []⟩,
  ⟨some 105, .extr (.t 101) 0, none, []⟩,
  ⟨some 106, .extr (.t 101) 1, none, []⟩,
  ⟨some 17, .alloc 48 [.v (.bool false), .nil 1, .nil 1], none, []⟩,
  ⟨none, .store 48 (some 3) (.t 17) (.t 105), none, [101, 104, 105]⟩,
  ⟨some 18, .assign (.t 106), none, [18, 106]⟩] none [7, 9, 11, 15, 17])
 (.seq (.reg 11 [⟨some 108, .load 48 (some 3) (.t 7), none, []⟩,
  ⟨some 109, .load 48 (some 3) (.t 11), none, []⟩,
  ⟨some 110, .call n_limbs_Times [(.t 108), (.t 109)] [48, 48], none, [11, 108, 109]⟩,
  ⟨some 107, .move (.t 110), none, []⟩,
  ⟨some 111, .extr (.t 107) 0, none, []⟩,
  ⟨some 112, .extr (.t 107) 1, none, []⟩,
  ⟨some 19, .alloc 48 [.v (.bool false), .nil 1, .nil 1], none, []⟩,
  ⟨none, .store 48 (some 3) (.t 19) (.t 111), none, [107, 110, 111]⟩,
  ⟨some 20, .assign (.t 112), none, [20, 112]⟩] none [7, 9, 15, 17, 19])
 (.seq (.reg 12 [⟨some 114, .load 48 (some 3) (.t 17), none, []⟩,
  ⟨some 115, .load 48 (some 3) (.t 19), none, []⟩,
  ⟨some 116, .call n_limbs_Plus [(.t 114), (.t 115)] [48, 48], none, [17, 19, 114, 115]⟩,
  ⟨some 113, .move (.t 116), none, []⟩,
  ⟨some 117, .extr (.t 113) 0, none, []⟩,
  ⟨some 118, .extr (.t 113) 1, none, []⟩,
  ⟨some 21, .alloc 48 [.v (.bool false), .nil 1, .nil 1], none, []⟩,
  ⟨none, .store 48 (some 3) (.t 21) (.t 117), none, [113, 116, 117]⟩,
  ⟨some 22, .assign (.t 118), none, [22, 118]⟩] none [7, 9, 15, 21])
 (.seq (.seq (.reg 13 [⟨some 119, .load 48 (some 3) (.t 15), none, []⟩,
  ⟨some 120, .load 48 (some 3) (.t 21), none, []⟩,
  ⟨some 121, .call n_thicketref01_Alike [(.t 119), (.t 120)] [48, 48], none, [15, 21, 119, 120]⟩,
  ⟨some 122, .un .not 4 (.t 121), none, [121]⟩] none [7, 9, 122])
 (.cond [7, 9] (.t 122) (.seq (.reg 14 [⟨some 6, .assign (.c (Value.bool false)), none, []⟩] none [6])
 .ret) .skip))
 k2_thicketlaw01_LimbsField))))))
def k3_thicketlaw01_LimbsField : IR := .tail [7, 9, 11] j3_thicketlaw01_LimbsField
def j4_thicketlaw01_LimbsField : IR :=
 (.seq (.reg 3 [⟨some 34, .faddr 48 (.t 3) 0 0, none, []⟩,
  ⟨some 35, .load 4 none (.t 34), none, [34]⟩,
  ⟨some 36, .faddr 48 (.t 3) 1 1, none, []⟩,
  ⟨some 37, .load 22 none (.t 36), none, []⟩,
  ⟨some 38, .faddr 48 (.t 3) 2 2, none, []⟩,
  ⟨some 39, .load 22 none (.t 38), none, []⟩,
  ⟨some 40, .call n_limbs_Over [(.t 35), (.t 37), (.t 39)] [4, 22, 22], none, [35, 36, 37, 38, 39]⟩,
  ⟨some 33, .move (.t 40), none, []⟩,
  ⟨some 41, .extr (.t 33) 0, none, []⟩,
  ⟨some 42, .extr (.t 33) 1, none, []⟩,
  ⟨some 7, .alloc 48 [.v (.bool false), .nil 1, .nil 1], none, []⟩,
  ⟨none, .store 48 (some 3) (.t 7) (.t 41), none, [33, 40, 41]⟩,
  ⟨some 8, .assign (.t 42), none, [42]⟩] none [3, 4, 5, 7, 8])
 (.seq (.reg 4 [⟨some 44, .faddr 48 (.t 4) 0 0, none, []⟩,
  ⟨some 45, .load 4 none (.t 44), none, [44]⟩,
  ⟨some 46, .faddr 48 (.t 4) 1 1, none, []⟩,
  ⟨some 47, .load 22 none (.t 46), none, []⟩,
  ⟨some 48, .faddr 48 (.t 4) 2 2, none, []⟩,
  ⟨some 49, .load 22 none (.t 48), none, []⟩,
  ⟨some 50, .call n_limbs_Over [(.t 45), (.t 47), (.t 49)] [4, 22, 22], none, [45, 46, 47, 48, 49]⟩,
  ⟨some 43, .move (.t 50), none, []⟩,
  ⟨some 51, .extr (.t 43) 0, none, []⟩,
  ⟨some 52, .extr (.t 43) 1, none, []⟩,
  ⟨some 9, .alloc 48 [.v (.bool false), .nil 1, .nil 1], none, []⟩,
  ⟨none, .store 48 (some 3) (.t 9) (.t 51), none, [43, 50, 51]⟩,
  ⟨some 10, .assign (.t 52), none, [52]⟩] none [3, 4, 5, 7, 8, 9, 10])
 (.seq (.reg 5 [⟨some 54, .faddr 48 (.t 5) 0 0, none, []⟩,
  ⟨some 55, .load 4 none (.t 54), none, [54]⟩,
  ⟨some 56, .faddr 48 (.t 5) 1 1, none, []⟩,
  ⟨some 57, .load 22 none (.t 56), none, []⟩,
  ⟨some 58, .faddr 48 (.t 5) 2 2, none, []⟩,
  ⟨some 59, .load 22 none (.t 58), none, []⟩,
  ⟨some 60, .call n_limbs_Over [(.t 55), (.t 57), (.t 59)] [4, 22, 22], none, [55, 56, 57, 58, 59]⟩,
  ⟨some 53, .move (.t 60), none, []⟩,
  ⟨some 61, .extr (.t 53) 0, none, []⟩,
  ⟨some 62, .extr (.t 53) 1, none, []⟩,
  ⟨some 11, .alloc 48 [.v (.bool false), .nil 1, .nil 1], none, []⟩,
  ⟨none, .store 48 (some 3) (.t 11) (.t 61), none, [53, 60, 61]⟩,
  ⟨some 12, .assign (.t 62), none, [62]⟩] none [3, 4, 5, 7, 8, 9, 10, 11, 12])
 (.seq (.seq (.reg 6 [⟨some 63, .move (.t 8), none, [8]⟩,
  ⟨some 64, .bin .neq 23 (.t 63) (.c (Value.int IntKind.i64 0)) 23, none, [63]⟩,
  ⟨some 65, .move (.t 64), none, [64]⟩,
  ⟨some 66, .move (.t 10), some (2, false), [10]⟩,
  ⟨some 67, .bin .neq 23 (.t 66) (.c (Value.int IntKind.i64 0)) 23, some (2, false), [66]⟩,
  ⟨some 68, .pick (.t 65) (.c (Value.bool true)) (.t 67), none, [65, 67]⟩,
  ⟨some 69, .move (.t 68), none, [68]⟩,
  ⟨some 70, .move (.t 12), some (6, false), [12]⟩,
  ⟨some 71, .bin .neq 23 (.t 70) (.c (Value.int IntKind.i64 0)) 23, some (6, false), [70]⟩,
  ⟨some 72, .pick (.t 69) (.c (Value.bool true)) (.t 71), none, [69, 71]⟩] none [3, 4, 5, 7, 9, 11, 72])
 (.cond [3, 4, 5, 7, 9, 11] (.t 72) (.seq (.reg 7 [⟨some 73, .faddr 48 (.t 3) 2 2, none, []⟩,
  ⟨some 74, .load 22 none (.t 73), none, []⟩,
  ⟨some 75, .call n_limbs_Len [(.t 74)] [22], none, [3, 73, 74]⟩,
  ⟨some 76, .bin .eql 3 (.t 75) (.c (Value.int IntKind.i64 0)) 3, none, [75]⟩,
  ⟨some 77, .move (.t 76), none, [76]⟩,
  ⟨some 78, .faddr 48 (.t 4) 2 2, some (4, false), []⟩,
  ⟨some 79, .load 22 none (.t 78), some (4, false), []⟩,
  ⟨some 80, .call n_limbs_Len [(.t 79)] [22], some (4, false), [4, 78, 79]⟩,
  ⟨some 81, .bin .eql 3 (.t 80) (.c (Value.int IntKind.i64 0)) 3, some (4, false), [80]⟩,
  ⟨some 82, .pick (.t 77) (.c (Value.bool true)) (.t 81), none, [77, 81]⟩,
  ⟨some 83, .move (.t 82), none, [82]⟩,
  ⟨some 84, .faddr 48 (.t 5) 2 2, some (10, false), []⟩,
  ⟨some 85, .load 22 none (.t 84), some (10, false), []⟩,
  ⟨some 86, .call n_limbs_Len [(.t 85)] [22], some (10, false), [5, 84, 85]⟩,
  ⟨some 87, .bin .eql 3 (.t 86) (.c (Value.int IntKind.i64 0)) 3, some (10, false), [86]⟩,
  ⟨some 88, .pick (.t 83) (.c (Value.bool true)) (.t 87), none, [83, 87]⟩,
  ⟨some 6, .assign (.t 88), none, [88]⟩] none [6])
 .ret) .skip))
 k3_thicketlaw01_LimbsField))))
def k4_thicketlaw01_LimbsField : IR := .tail [3, 4, 5] j4_thicketlaw01_LimbsField
def b_thicketlaw01_LimbsField : IR :=
 (.seq (.reg 0 [⟨some 3, .box 48 (.t 0), none, [0]⟩,
  ⟨some 4, .box 48 (.t 1), none, [1]⟩,
  ⟨some 5, .box 48 (.t 2), none, [2]⟩,
  ⟨some 6, .assign (.c (Value.bool false)), none, [6]⟩] none [3, 4, 5])
 (.seq (.seq (.reg 1 [⟨some 31, .call n_thicketlaw01_lives [] [], none, []⟩,
  ⟨some 32, .un .not 4 (.t 31), none, [31]⟩] none [3, 4, 5, 32])
 (.cond [3, 4, 5] (.t 32) (.seq (.reg 2 [⟨some 6, .assign (.c (Value.bool false)), none, []⟩] none [6])
 .ret) .skip))
 k4_thicketlaw01_LimbsField))
def a_thicketlaw01_LimbsField : AFunc := ⟨193, [.tmp 6], b_thicketlaw01_LimbsField⟩

def j0_thicketref01_Write : IR :=
 (.seq (.reg 9 [⟨some 38, .move (.t 6), none, [6]⟩,
  ⟨some 2, .assign (.t 38), none, [38]⟩,
  ⟨some 3, .assign (.c (Value.int IntKind.i64 0)), none, []⟩] none [2, 3])
 .ret)
def k0_thicketref01_Write : IR := .tail [6] j0_thicketref01_Write
def j1_thicketref01_Write : IR :=
 (.seq (.seq (.reg 7 [⟨some 27, .faddr 48 (.t 4) 2 2, none, []⟩,
  ⟨some 28, .load 22 none (.t 27), none, []⟩,
  ⟨some 29, .call n_thicketref01_From [(.c (Value.int IntKind.u64 1))] [33], none, []⟩,
  ⟨some 30, .call n_thicketref01_Cmp [(.t 28), (.t 29)] [22, 22], none, [27, 28, 29]⟩,
  ⟨some 31, .bin .neq 3 (.t 30) (.c (Value.int IntKind.i64 0)) 3, none, [30]⟩] (some [⟨0, []⟩, ⟨1, []⟩, ⟨2, [1]⟩, ⟨3, []⟩, ⟨4, []⟩]) [4, 6, 31])
 (.cond [4, 6] (.t 31) (.reg 8 [⟨some 32, .move (.t 6), none, []⟩,
  ⟨some 33, .bin .add 9 (.t 32) (.c (Value.string { data := #[47] })) 9, none, [32]⟩,
  ⟨some 34, .faddr 48 (.t 4) 2 2, none, []⟩,
  ⟨some 35, .load 22 none (.t 34), none, []⟩,
  ⟨some 36, .call n_thicketref01_Print [(.t 35)] [22], none, [4, 34, 35]⟩,
  ⟨some 37, .bin .add 9 (.t 33) (.t 36) 9, none, [33, 36]⟩,
  ⟨some 6, .assign (.t 37), none, [37]⟩] none [6]) .skip))
 k0_thicketref01_Write)
def k1_thicketref01_Write : IR := .tail [4, 6] j1_thicketref01_Write
def j2_thicketref01_Write : IR :=
 (.seq (.reg 4 [⟨some 20, .faddr 48 (.t 4) 1 1, none, []⟩,
  ⟨some 21, .load 22 none (.t 20), none, []⟩,
  ⟨some 22, .call n_thicketref01_Print [(.t 21)] [22], none, [20, 21]⟩,
  ⟨some 6, .assign (.t 22), none, [22]⟩] none [4, 6])
 (.seq (.seq (.reg 5 [⟨some 23, .faddr 48 (.t 4) 0 0, none, []⟩,
  ⟨some 24, .load 4 none (.t 23), none, [23]⟩] none [4, 6, 24])
 (.cond [4, 6] (.t 24) (.reg 6 [⟨some 25, .move (.t 6), none, []⟩,
  ⟨some 26, .bin .add 9 (.c (Value.string { data := #[45] })) (.t 25) 9, none, [25]⟩,
  ⟨some 6, .assign (.t 26), none, [26]⟩] none [4, 6]) .skip))
 k1_thicketref01_Write))
def k2_thicketref01_Write : IR := .tail [4] j2_thicketref01_Write
def b_thicketref01_Write : IR :=
 (.seq (.reg 0 [⟨some 1, .box 48 (.t 0), none, [0]⟩,
  ⟨some 2, .assign (.c (Value.string { data := #[] })), none, [2]⟩,
  ⟨some 3, .assign (.c (Value.int IntKind.i64 0)), none, [3]⟩] none [1])
 (.seq (.reg 1 [⟨some 8, .faddr 48 (.t 1) 0 0, none, []⟩,
  ⟨some 9, .load 4 none (.t 8), none, [8]⟩,
  ⟨some 10, .faddr 48 (.t 1) 1 1, none, []⟩,
  ⟨some 11, .load 22 none (.t 10), none, []⟩,
  ⟨some 12, .faddr 48 (.t 1) 2 2, none, []⟩,
  ⟨some 13, .load 22 none (.t 12), none, []⟩,
  ⟨some 14, .call n_thicketref01_Over [(.t 9), (.t 11), (.t 13)] [4, 22, 22], none, [1, 9, 10, 11, 12, 13]⟩,
  ⟨some 7, .move (.t 14), none, []⟩,
  ⟨some 15, .extr (.t 7) 0, none, []⟩,
  ⟨some 16, .extr (.t 7) 1, none, []⟩,
  ⟨some 4, .alloc 48 [.v (.bool false), .nil 1, .nil 1], none, []⟩,
  ⟨none, .store 48 (some 3) (.t 4) (.t 15), none, [7, 14, 15]⟩,
  ⟨some 5, .assign (.t 16), none, [16]⟩] none [4, 5])
 (.seq (.seq (.reg 2 [⟨some 17, .move (.t 5), none, []⟩,
  ⟨some 18, .bin .neq 23 (.t 17) (.c (Value.int IntKind.i64 0)) 23, none, [17]⟩] none [4, 5, 18])
 (.cond [4, 5] (.t 18) (.seq (.reg 3 [⟨some 19, .move (.t 5), none, [5]⟩,
  ⟨some 2, .assign (.c (Value.string { data := #[] })), none, []⟩,
  ⟨some 3, .assign (.t 19), none, [19]⟩] none [2, 3])
 .ret) .skip))
 k2_thicketref01_Write)))
def a_thicketref01_Write : AFunc := ⟨39, [.tmp 2, .tmp 3], b_thicketref01_Write⟩

def j0_limbs_Decimal : IR :=
 (.reg 10 [⟨some 39, .bin .add 3 (.t 35) (.c (Value.int IntKind.i64 1)) 3, none, []⟩,
  ⟨some 35, .move (.t 39), none, [39]⟩] none [1, 6, 8, 33, 34, 35, 38])
def k0_limbs_Decimal : IR := .tail [1, 6, 8, 33, 34, 35, 38] j0_limbs_Decimal
def j1_limbs_Decimal : IR :=
 (.seq (.block 1 (.reg 9 [⟨some 37, .move (.t 8), none, []⟩,
  ⟨some 38, .call n_limbs_grow [(.t 37), (.c (Value.int IntKind.u32 10)), (.c (Value.int IntKind.u32 0))] [22, 49, 49], none, [37]⟩,
  ⟨some 8, .assign (.t 38), none, []⟩] none [1, 6, 8, 33, 34, 35, 38]))
 k0_limbs_Decimal)
def k1_limbs_Decimal : IR := .tail [1, 6, 8, 33, 34, 35, 38] j1_limbs_Decimal
def w0_limbs_Decimal : IR :=
 (.seq (.reg 8 [⟨some 36, .bin .lss 3 (.t 35) (.t 34) 3, none, []⟩] none [1, 6, 8, 33, 34, 35, 36, 38])
 (.seq (.cond [1, 6, 8, 33, 34, 35, 38] (.t 36) .skip (.exit 0))
 k1_limbs_Decimal))
def l0_limbs_Decimal : IR := .loop [1, 6, 8, 33, 34, 35, 38] w0_limbs_Decimal
def j2_limbs_Decimal : IR :=
 (.seq (.reg 22 [⟨some 108, .move (.t 13), none, [13]⟩,
  ⟨some 4, .assign (.t 108), none, [108]⟩,
  ⟨some 5, .assign (.c (Value.int IntKind.i64 0)), none, []⟩] none [4, 5])
 .ret)
def k2_limbs_Decimal : IR := .tail [13] j2_limbs_Decimal
def j3_limbs_Decimal : IR :=
 (.seq (.seq (.reg 20 [⟨some 99, .faddr 48 (.t 6) 0 0, none, []⟩,
  ⟨some 100, .load 4 none (.t 99), none, [6, 99]⟩,
  ⟨some 101, .move (.t 100), none, [100]⟩,
  ⟨some 102, .move (.t 9), some (2, true), []⟩,
  ⟨some 103, .len 22 false (.t 102), some (2, true), [9, 40, 47, 48, 68, 102]⟩,
  ⟨some 104, .bin .gtr 3 (.t 103) (.c (Value.int IntKind.i64 0)) 3, some (2, true), [103]⟩,
  ⟨some 105, .pick (.t 101) (.t 104) (.c (Value.bool false)), none, [101, 104]⟩] none [13, 105])
 (.cond [13] (.t 105) (.reg 21 [⟨some 106, .move (.t 13), none, []⟩,
  ⟨some 107, .bin .add 9 (.c (Value.string { data := #[45] })) (.t 106) 9, none, [106]⟩,
  ⟨some 13, .assign (.t 107), none, [107]⟩] none [13]) .skip))
 k2_limbs_Decimal)
def k3_limbs_Decimal : IR := .tail [6, 9, 13, 40, 47, 48, 68] j3_limbs_Decimal
def j4_limbs_Decimal : IR :=
 (.seq (.seq (.reg 18 [⟨some 83, .move (.t 1), none, []⟩,
  ⟨some 84, .bin .gtr 3 (.t 83) (.c (Value.int IntKind.i64 0)) 3, none, [83]⟩] none [1, 6, 9, 13, 40, 47, 48, 68, 84])
 (.cond [1, 6, 9, 13, 40, 47, 48, 68] (.t 84) (.reg 19 [⟨some 85, .move (.t 13), none, []⟩,
  ⟨some 86, .move (.t 13), none, []⟩,
  ⟨some 87, .len 9 true (.t 86), none, [86]⟩,
  ⟨some 88, .move (.t 1), none, []⟩,
  ⟨some 89, .bin .sub 3 (.t 87) (.t 88) 3, none, [87, 88]⟩,
  ⟨some 90, .slice 9 .str (.t 85) none (some (.t 89)) none, none, [85, 89]⟩,
  ⟨some 91, .bin .add 9 (.t 90) (.c (Value.string { data := #[46] })) 9, none, [90]⟩,
  ⟨some 92, .move (.t 13), none, []⟩,
  ⟨some 93, .move (.t 13), none, []⟩,
  ⟨some 94, .len 9 true (.t 93), none, [93]⟩,
  ⟨some 95, .move (.t 1), none, [1]⟩,
  ⟨some 96, .bin .sub 3 (.t 94) (.t 95) 3, none, [94, 95]⟩,
  ⟨some 97, .slice 9 .str (.t 92) (some (.t 96)) none none, none, [92, 96]⟩,
  ⟨some 98, .bin .add 9 (.t 91) (.t 97) 9, none, [91, 97]⟩,
  ⟨some 13, .assign (.t 98), none, [98]⟩] (some [⟨0, []⟩, ⟨1, []⟩, ⟨2, []⟩, ⟨3, []⟩, ⟨4, []⟩, ⟨5, []⟩, ⟨6, []⟩, ⟨7, []⟩, ⟨8, []⟩, ⟨9, []⟩, ⟨10, []⟩, ⟨11, []⟩, ⟨12, []⟩, ⟨13, []⟩, ⟨14, []⟩]) [6, 9, 13, 40, 47, 48, 68]) .skip))
 k3_limbs_Decimal)
def k4_limbs_Decimal : IR := .tail [1, 6, 9, 13, 40, 47, 48, 68] j4_limbs_Decimal
def j5_limbs_Decimal : IR :=
 (.seq (.reg 15 [⟨some 69, .move (.t 9), none, []⟩,
  ⟨some 70, .call n_limbs_Print [(.t 69)] [22], none, [69]⟩,
  ⟨some 13, .assign (.t 70), none, [70]⟩] none [1, 6, 9, 13, 40, 47, 48, 68])
 (.seq (.seq (.reg 16 [⟨some 71, .move (.t 13), none, []⟩,
  ⟨some 72, .len 9 true (.t 71), none, [71]⟩,
  ⟨some 73, .move (.t 1), none, []⟩,
  ⟨some 74, .bin .leq 3 (.t 72) (.t 73) 3, none, [72, 73]⟩] none [1, 6, 9, 13, 40, 47, 48, 68, 74])
 (.cond [1, 6, 9, 13, 40, 47, 48, 68] (.t 74) (.reg 17 [⟨some 75, .move (.t 1), none, []⟩,
  ⟨some 76, .bin .add 3 (.t 75) (.c (Value.int IntKind.i64 1)) 3, none, [75]⟩,
  ⟨some 77, .move (.t 13), none, []⟩,
  ⟨some 78, .len 9 true (.t 77), none, [77]⟩,
  ⟨some 79, .bin .sub 3 (.t 76) (.t 78) 3, none, [76, 78]⟩,
  ⟨some 80, .call n_strings_Repeat [(.c (Value.string { data := #[48] })), (.t 79)] [9, 3], none, [79]⟩,
  ⟨some 81, .move (.t 13), none, []⟩,
  ⟨some 82, .bin .add 9 (.t 80) (.t 81) 9, none, [80, 81]⟩,
  ⟨some 13, .assign (.t 82), none, [82]⟩] none [1, 6, 9, 13, 40, 47, 48, 68]) .skip))
 k4_limbs_Decimal))
def k5_limbs_Decimal : IR := .tail [1, 6, 9, 40, 47, 48, 68] j5_limbs_Decimal
def j6_limbs_Decimal : IR :=
 (.seq (.reg 11 [⟨some 41, .faddr 48 (.t 6) 1 1, none, []⟩,
  ⟨some 42, .load 22 none (.t 41), none, []⟩,
  ⟨some 43, .move (.t 8), none, []⟩,
  ⟨some 44, .call n_limbs_Mul [(.t 42), (.t 43)] [22, 22], none, [8, 33, 38, 41, 42, 43]⟩,
  ⟨some 45, .faddr 48 (.t 6) 2 2, none, []⟩,
  ⟨some 46, .load 22 none (.t 45), none, []⟩,
  ⟨some 47, .call n_limbs_DivMod [(.t 44), (.t 46)] [22, 22], none, [44, 45, 46]⟩,
  ⟨some 40, .move (.t 47), none, []⟩,
  ⟨some 48, .extr (.t 40) 0, none, []⟩,
  ⟨some 49, .extr (.t 40) 1, none, []⟩,
  ⟨some 50, .extr (.t 40) 2, none, []⟩,
  ⟨some 9, .assign (.t 48), none, []⟩,
  ⟨some 10, .assign (.t 49), none, []⟩,
  ⟨some 11, .assign (.t 50), none, [11, 50]⟩] (some [⟨0, []⟩, ⟨2, []⟩, ⟨4, []⟩, ⟨1, []⟩, ⟨5, []⟩, ⟨3, [5]⟩, ⟨6, []⟩, ⟨7, []⟩, ⟨8, []⟩, ⟨9, []⟩, ⟨10, []⟩, ⟨11, []⟩, ⟨12, []⟩, ⟨13, []⟩]) [1, 6, 9, 10, 40, 47, 48, 49, 68])
 (.seq (.seq (.reg 12 [⟨some 51, .move (.t 10), none, []⟩,
  ⟨some 52, .call n_limbs_up [(.t 51), (.c (Value.int IntKind.i64 1))] [22, 3], none, [10, 49, 51]⟩,
  ⟨some 53, .faddr 48 (.t 6) 2 2, none, []⟩,
  ⟨some 54, .load 22 none (.t 53), none, []⟩,
  ⟨some 55, .call n_limbs_Cmp [(.t 52), (.t 54)] [22, 22], none, [52, 53, 54]⟩,
  ⟨some 12, .assign (.t 55), none, [55]⟩] (some [⟨0, []⟩, ⟨2, []⟩, ⟨3, []⟩, ⟨1, [3]⟩, ⟨4, []⟩, ⟨5, []⟩]) [1, 6, 9, 12, 40, 47, 48, 68])
 (.seq (.reg 13 [⟨some 56, .move (.t 12), none, []⟩,
  ⟨some 57, .bin .gtr 3 (.t 56) (.c (Value.int IntKind.i64 0)) 3, none, [56]⟩,
  ⟨some 58, .move (.t 57), none, [57]⟩,
  ⟨some 59, .move (.t 12), some (2, false), [12]⟩,
  ⟨some 60, .bin .eql 3 (.t 59) (.c (Value.int IntKind.i64 0)) 3, some (2, false), [59]⟩,
  ⟨some 61, .move (.t 60), some (2, false), [60]⟩,
  ⟨some 62, .move (.t 9), some (5, true), []⟩,
  ⟨some 63, .call n_limbs_Bit [(.t 62), (.c (Value.int IntKind.i64 0))] [22, 3], some (5, true), [62]⟩,
  ⟨some 64, .pick (.t 61) (.t 63) (.c (Value.bool false)), some (2, false), [61, 63]⟩,
  ⟨some 65, .pick (.t 58) (.c (Value.bool true)) (.t 64), none, [58, 64]⟩] none [1, 6, 9, 40, 47, 48, 65, 68])
 (.cond [1, 6, 9, 40, 47, 48, 68] (.t 65) (.reg 14 [⟨some 66, .move (.t 9), none, []⟩,
  ⟨some 67, .lit 22 1 [(.c (Value.int IntKind.u32 1))], none, []⟩,
  ⟨some 68, .call n_limbs_Add [(.t 66), (.t 67)] [22, 22], none, [66, 67]⟩,
  ⟨some 9, .assign (.t 68), none, []⟩] none [1, 6, 9, 40, 47, 48, 68]) .skip)))
 k5_limbs_Decimal))
def k6_limbs_Decimal : IR := .tail [1, 6, 8, 33, 38] j6_limbs_Decimal
def j7_limbs_Decimal : IR :=
 (.seq (.reg 6 [⟨some 33, .lit 22 1 [(.c (Value.int IntKind.u32 1))], none, []⟩,
  ⟨some 8, .assign (.t 33), none, []⟩] none [1, 6, 8, 33, 38])
 (.seq (.seq (.reg 7 [⟨some 34, .move (.t 1), none, []⟩,
  ⟨some 35, .move (.c (Value.int IntKind.i64 0)), none, []⟩] none [1, 6, 8, 33, 34, 35, 38])
 (.block 0 l0_limbs_Decimal))
 k6_limbs_Decimal))
def k7_limbs_Decimal : IR := .tail [1, 6] j7_limbs_Decimal
def j8_limbs_Decimal : IR :=
 (.seq (.seq (.reg 4 [⟨some 27, .move (.t 1), none, []⟩,
  ⟨some 28, .bin .lss 3 (.t 27) (.c (Value.int IntKind.i64 0)) 3, none, [27]⟩,
  ⟨some 29, .move (.t 28), none, [28]⟩,
  ⟨some 30, .move (.t 1), some (2, false), []⟩,
  ⟨some 31, .bin .gtr 3 (.t 30) (.c (Value.int IntKind.i64 1000)) 3, some (2, false), [30]⟩,
  ⟨some 32, .pick (.t 29) (.c (Value.bool true)) (.t 31), none, [29, 31]⟩] none [1, 6, 32])
 (.cond [1, 6] (.t 32) (.seq (.reg 5 [⟨some 4, .assign (.c (Value.string { data := #[] })), none, []⟩,
  ⟨some 5, .assign (.c (Value.int IntKind.i64 2)), none, []⟩] none [4, 5])
 .ret) .skip))
 k7_limbs_Decimal)
def k8_limbs_Decimal : IR := .tail [1, 6] j8_limbs_Decimal
def b_limbs_Decimal : IR :=
 (.seq (.reg 0 [⟨some 2, .box 48 (.t 0), none, [0]⟩,
  ⟨some 4, .assign (.c (Value.string { data := #[] })), none, [4]⟩,
  ⟨some 5, .assign (.c (Value.int IntKind.i64 0)), none, [5]⟩] none [1, 2])
 (.seq (.reg 1 [⟨some 15, .faddr 48 (.t 2) 0 0, none, []⟩,
  ⟨some 16, .load 4 none (.t 15), none, [15]⟩,
  ⟨some 17, .faddr 48 (.t 2) 1 1, none, []⟩,
  ⟨some 18, .load 22 none (.t 17), none, []⟩,
  ⟨some 19, .faddr 48 (.t 2) 2 2, none, []⟩,
  ⟨some 20, .load 22 none (.t 19), none, []⟩,
  ⟨some 21, .call n_limbs_Over [(.t 16), (.t 18), (.t 20)] [4, 22, 22], none, [2, 16, 17, 18, 19, 20]⟩,
  ⟨some 14, .move (.t 21), none, []⟩,
  ⟨some 22, .extr (.t 14) 0, none, []⟩,
  ⟨some 23, .extr (.t 14) 1, none, []⟩,
  ⟨some 6, .alloc 48 [.v (.bool false), .nil 1, .nil 1], none, []⟩,
  ⟨none, .store 48 (some 3) (.t 6) (.t 22), none, [14, 21, 22]⟩,
  ⟨some 7, .assign (.t 23), none, [23]⟩] none [1, 6, 7])
 (.seq (.seq (.reg 2 [⟨some 24, .move (.t 7), none, []⟩,
  ⟨some 25, .bin .neq 23 (.t 24) (.c (Value.int IntKind.i64 0)) 23, none, [24]⟩] none [1, 6, 7, 25])
 (.cond [1, 6, 7] (.t 25) (.seq (.reg 3 [⟨some 26, .move (.t 7), none, [7]⟩,
  ⟨some 4, .assign (.c (Value.string { data := #[] })), none, []⟩,
  ⟨some 5, .assign (.t 26), none, [26]⟩] none [4, 5])
 .ret) .skip))
 k8_limbs_Decimal)))
def a_limbs_Decimal : AFunc := ⟨109, [.tmp 4, .tmp 5], b_limbs_Decimal⟩

def j0_thicketref01_Decimal : IR :=
 (.reg 8 [⟨some 27, .move (.t 7), none, []⟩,
  ⟨some 28, .bin .add 3 (.t 27) (.c (Value.int IntKind.i64 1)) 3, none, [27]⟩,
  ⟨some 7, .assign (.t 28), none, [28]⟩] none [1, 2, 6, 7, 23, 31])
def k0_thicketref01_Decimal : IR := .tail [1, 2, 6, 7, 23, 31] j0_thicketref01_Decimal
def j1_thicketref01_Decimal : IR :=
 (.seq (.block 1 (.reg 9 [⟨some 29, .move (.t 6), none, []⟩,
  ⟨some 30, .call n_thicketref01_From [(.c (Value.int IntKind.u64 10))] [33], none, []⟩,
  ⟨some 31, .call n_thicketref01_Mul [(.t 29), (.t 30)] [22, 22], none, [29, 30]⟩,
  ⟨some 6, .assign (.t 31), none, []⟩] none [1, 2, 6, 7, 23, 31]))
 k0_thicketref01_Decimal)
def k1_thicketref01_Decimal : IR := .tail [1, 2, 6, 7, 23, 31] j1_thicketref01_Decimal
def w0_thicketref01_Decimal : IR :=
 (.seq (.seq (.reg 7 [⟨some 24, .move (.t 7), none, []⟩,
  ⟨some 25, .move (.t 1), none, []⟩,
  ⟨some 26, .bin .lss 3 (.t 24) (.t 25) 3, none, [24, 25]⟩] none [1, 2, 6, 7, 23, 26, 31])
 (.cond [1, 2, 6, 7, 23, 31] (.t 26) .skip (.exit 0)))
 k1_thicketref01_Decimal)
def l0_thicketref01_Decimal : IR := .loop [1, 2, 6, 7, 23, 31] w0_thicketref01_Decimal
def j2_thicketref01_Decimal : IR :=
 (.block 3 (.reg 16 [⟨some 68, .move (.t 12), none, []⟩,
  ⟨some 69, .bin .add 9 (.c (Value.string { data := #[48] })) (.t 68) 9, none, [68]⟩,
  ⟨some 12, .assign (.t 69), none, [69]⟩] none [1, 2, 8, 12, 32, 39, 40, 61]))
def k2_thicketref01_Decimal : IR := .tail [1, 2, 8, 12, 32, 39, 40, 61] j2_thicketref01_Decimal
def w1_thicketref01_Decimal : IR :=
 (.seq (.seq (.reg 15 [⟨some 64, .move (.t 12), none, []⟩,
  ⟨some 65, .len 9 true (.t 64), none, [64]⟩,
  ⟨some 66, .move (.t 1), none, []⟩,
  ⟨some 67, .bin .leq 3 (.t 65) (.t 66) 3, none, [65, 66]⟩] none [1, 2, 8, 12, 32, 39, 40, 61, 67])
 (.cond [1, 2, 8, 12, 32, 39, 40, 61] (.t 67) .skip (.exit 2)))
 k2_thicketref01_Decimal)
def l1_thicketref01_Decimal : IR := .loop [1, 2, 8, 12, 32, 39, 40, 61] w1_thicketref01_Decimal
def j3_thicketref01_Decimal : IR :=
 (.seq (.reg 21 [⟨some 95, .move (.t 12), none, [12]⟩,
  ⟨some 4, .assign (.t 95), none, [95]⟩,
  ⟨some 5, .assign (.c (Value.int IntKind.i64 0)), none, []⟩] none [4, 5])
 .ret)
def k3_thicketref01_Decimal : IR := .tail [12] j3_thicketref01_Decimal
def j4_thicketref01_Decimal : IR :=
 (.seq (.seq (.reg 19 [⟨some 86, .faddr 48 (.t 2) 0 0, none, []⟩,
  ⟨some 87, .load 4 none (.t 86), none, [2, 86]⟩,
  ⟨some 88, .move (.t 87), none, [87]⟩,
  ⟨some 89, .move (.t 8), some (2, true), []⟩,
  ⟨some 90, .len 22 false (.t 89), some (2, true), [8, 32, 39, 40, 61, 89]⟩,
  ⟨some 91, .bin .gtr 3 (.t 90) (.c (Value.int IntKind.i64 0)) 3, some (2, true), [90]⟩,
  ⟨some 92, .pick (.t 88) (.t 91) (.c (Value.bool false)), none, [88, 91]⟩] none [12, 92])
 (.cond [12] (.t 92) (.reg 20 [⟨some 93, .move (.t 12), none, []⟩,
  ⟨some 94, .bin .add 9 (.c (Value.string { data := #[45] })) (.t 93) 9, none, [93]⟩,
  ⟨some 12, .assign (.t 94), none, [94]⟩] none [12]) .skip))
 k3_thicketref01_Decimal)
def k4_thicketref01_Decimal : IR := .tail [2, 8, 12, 32, 39, 40, 61] j4_thicketref01_Decimal
def j5_thicketref01_Decimal : IR :=
 (.seq (.seq (.reg 17 [⟨some 70, .move (.t 1), none, []⟩,
  ⟨some 71, .bin .gtr 3 (.t 70) (.c (Value.int IntKind.i64 0)) 3, none, [70]⟩] none [1, 2, 8, 12, 32, 39, 40, 61, 71])
 (.cond [1, 2, 8, 12, 32, 39, 40, 61] (.t 71) (.reg 18 [⟨some 72, .move (.t 12), none, []⟩,
  ⟨some 73, .move (.t 12), none, []⟩,
  ⟨some 74, .len 9 true (.t 73), none, [73]⟩,
  ⟨some 75, .move (.t 1), none, []⟩,
  ⟨some 76, .bin .sub 3 (.t 74) (.t 75) 3, none, [74, 75]⟩,
  ⟨some 77, .slice 9 .str (.t 72) none (some (.t 76)) none, none, [72, 76]⟩,
  ⟨some 78, .bin .add 9 (.t 77) (.c (Value.string { data := #[46] })) 9, none, [77]⟩,
  ⟨some 79, .move (.t 12), none, []⟩,
  ⟨some 80, .move (.t 12), none, []⟩,
  ⟨some 81, .len 9 true (.t 80), none, [80]⟩,
  ⟨some 82, .move (.t 1), none, [1]⟩,
  ⟨some 83, .bin .sub 3 (.t 81) (.t 82) 3, none, [81, 82]⟩,
  ⟨some 84, .slice 9 .str (.t 79) (some (.t 83)) none none, none, [79, 83]⟩,
  ⟨some 85, .bin .add 9 (.t 78) (.t 84) 9, none, [78, 84]⟩,
  ⟨some 12, .assign (.t 85), none, [85]⟩] (some [⟨0, []⟩, ⟨1, []⟩, ⟨2, []⟩, ⟨3, []⟩, ⟨4, []⟩, ⟨5, []⟩, ⟨6, []⟩, ⟨7, []⟩, ⟨8, []⟩, ⟨9, []⟩, ⟨10, []⟩, ⟨11, []⟩, ⟨12, []⟩, ⟨13, []⟩, ⟨14, []⟩]) [2, 8, 12, 32, 39, 40, 61]) .skip))
 k4_thicketref01_Decimal)
def k5_thicketref01_Decimal : IR := .tail [1, 2, 8, 12, 32, 39, 40, 61] j5_thicketref01_Decimal
def j6_thicketref01_Decimal : IR :=
 (.seq (.reg 14 [⟨some 62, .move (.t 8), none, []⟩,
  ⟨some 63, .call n_thicketref01_Print [(.t 62)] [22], none, [62]⟩,
  ⟨some 12, .assign (.t 63), none, [63]⟩] none [1, 2, 8, 12, 32, 39, 40, 61])
 (.seq (.block 2 l1_thicketref01_Decimal)
 k5_thicketref01_Decimal))
def k6_thicketref01_Decimal : IR := .tail [1, 2, 8, 32, 39, 40, 61] j6_thicketref01_Decimal
def j7_thicketref01_Decimal : IR :=
 (.seq (.reg 10 [⟨some 33, .faddr 48 (.t 2) 1 1, none, []⟩,
  ⟨some 34, .load 22 none (.t 33), none, []⟩,
  ⟨some 35, .move (.t 6), none, []⟩,
  ⟨some 36, .call n_thicketref01_Mul [(.t 34), (.t 35)] [22, 22], none, [6, 23, 31, 33, 34, 35]⟩,
  ⟨some 37, .faddr 48 (.t 2) 2 2, none, []⟩,
  ⟨some 38, .load 22 none (.t 37), none, []⟩,
  ⟨some 39, .call n_thicketref01_DivMod [(.t 36), (.t 38)] [22, 22], none, [36, 37, 38]⟩,
  ⟨some 32, .move (.t 39), none, []⟩,
  ⟨some 40, .extr (.t 32) 0, none, []⟩,
  ⟨some 41, .extr (.t 32) 1, none, []⟩,
  ⟨some 42, .extr (.t 32) 2, none, []⟩,
  ⟨some 8, .assign (.t 40), none, []⟩,
  ⟨some 9, .assign (.t 41), none, []⟩,
  ⟨some 10, .assign (.t 42), none, [10, 42]⟩] (some [⟨0, []⟩, ⟨2, []⟩, ⟨4, []⟩, ⟨1, []⟩, ⟨5, []⟩, ⟨3, [5]⟩, ⟨6, []⟩, ⟨7, []⟩, ⟨8, []⟩, ⟨9, []⟩, ⟨10, []⟩, ⟨11, []⟩, ⟨12, []⟩, ⟨13, []⟩]) [1, 2, 8, 9, 32, 39, 40, 41, 61])
 (.seq (.reg 11 [⟨some 43, .move (.t 9), none, []⟩,
  ⟨some 44, .move (.t 9), none, []⟩,
  ⟨some 45, .call n_thicketref01_Add [(.t 43), (.t 44)] [22, 22], none, [9, 41, 43, 44]⟩,
  ⟨some 46, .faddr 48 (.t 2) 2 2, none, []⟩,
  ⟨some 47, .load 22 none (.t 46), none, []⟩,
  ⟨some 48, .call n_thicketref01_Cmp [(.t 45), (.t 47)] [22, 22], none, [45, 46, 47]⟩,
  ⟨some 11, .assign (.t 48), none, [48]⟩] (some [⟨0, []⟩, ⟨1, []⟩, ⟨3, []⟩, ⟨4, []⟩, ⟨2, [4]⟩, ⟨5, []⟩, ⟨6, []⟩]) [1, 2, 8, 11, 32, 39, 40, 61])
 (.seq (.seq (.reg 12 [⟨some 49, .move (.t 11), none, []⟩,
  ⟨some 50, .bin .gtr 3 (.t 49) (.c (Value.int IntKind.i64 0)) 3, none, [49]⟩,
  ⟨some 51, .move (.t 50), none, [50]⟩,
  ⟨some 52, .move (.t 11), some (2, false), [11]⟩,
  ⟨some 53, .bin .eql 3 (.t 52) (.c (Value.int IntKind.i64 0)) 3, some (2, false), [52]⟩,
  ⟨some 54, .move (.t 53), some (2, false), [53]⟩,
  ⟨some 55, .move (.t 8), some (5, true), []⟩,
  ⟨some 56, .call n_thicketref01_Bit [(.t 55), (.c (Value.int IntKind.i64 0))] [22, 3], some (5, true), [55]⟩,
  ⟨some 57, .pick (.t 54) (.t 56) (.c (Value.bool false)), some (2, false), [54, 56]⟩,
  ⟨some 58, .pick (.t 51) (.c (Value.bool true)) (.t 57), none, [51, 57]⟩] none [1, 2, 8, 32, 39, 40, 58, 61])
 (.cond [1, 2, 8, 32, 39, 40, 61] (.t 58) (.reg 13 [⟨some 59, .move (.t 8), none, []⟩,
  ⟨some 60, .call n_thicketref01_From [(.c (Value.int IntKind.u64 1))] [33], none, []⟩,
  ⟨some 61, .call n_thicketref01_Add [(.t 59), (.t 60)] [22, 22], none, [59, 60]⟩,
  ⟨some 8, .assign (.t 61), none, []⟩] none [1, 2, 8, 32, 39, 40, 61]) .skip))
 k6_thicketref01_Decimal)))
def k7_thicketref01_Decimal : IR := .tail [1, 2, 6, 23, 31] j7_thicketref01_Decimal
def j8_thicketref01_Decimal : IR :=
 (.seq (.reg 5 [⟨some 23, .call n_thicketref01_From [(.c (Value.int IntKind.u64 1))] [33], none, []⟩,
  ⟨some 6, .assign (.t 23), none, []⟩] none [1, 2, 6, 23, 31])
 (.seq (.seq (.reg 6 [⟨some 7, .assign (.c (Value.int IntKind.i64 0)), none, []⟩] none [1, 2, 6, 7, 23, 31])
 (.block 0 l0_thicketref01_Decimal))
 k7_thicketref01_Decimal))
def k8_thicketref01_Decimal : IR := .tail [1, 2] j8_thicketref01_Decimal
def j9_thicketref01_Decimal : IR :=
 (.seq (.seq (.reg 3 [⟨some 17, .move (.t 1), none, []⟩,
  ⟨some 18, .bin .lss 3 (.t 17) (.c (Value.int IntKind.i64 0)) 3, none, [17]⟩,
  ⟨some 19, .move (.t 18), none, [18]⟩,
  ⟨some 20, .move (.t 1), some (2, false), []⟩,
  ⟨some 21, .bin .gtr 3 (.t 20) (.c (Value.int IntKind.i64 1000)) 3, some (2, false), [20]⟩,
  ⟨some 22, .pick (.t 19) (.c (Value.bool true)) (.t 21), none, [19, 21]⟩] none [1, 2, 22])
 (.cond [1, 2] (.t 22) (.seq (.reg 4 [⟨some 4, .assign (.c (Value.string { data := #[] })), none, []⟩,
  ⟨some 5, .assign (.c (Value.int IntKind.i64 2)), none, []⟩] none [4, 5])
 .ret) .skip))
 k8_thicketref01_Decimal)
def k9_thicketref01_Decimal : IR := .tail [1, 2] j9_thicketref01_Decimal
def b_thicketref01_Decimal : IR :=
 (.seq (.reg 0 [⟨some 2, .box 48 (.t 0), none, [0]⟩,
  ⟨some 4, .assign (.c (Value.string { data := #[] })), none, [4]⟩,
  ⟨some 5, .assign (.c (Value.int IntKind.i64 0)), none, [5]⟩] none [1, 2])
 (.seq (.seq (.reg 1 [⟨some 13, .faddr 48 (.t 2) 2 2, none, []⟩,
  ⟨some 14, .load 22 none (.t 13), none, []⟩,
  ⟨some 15, .call n_thicketref01_Len [(.t 14)] [22], none, [13, 14]⟩,
  ⟨some 16, .bin .eql 3 (.t 15) (.c (Value.int IntKind.i64 0)) 3, none, [15]⟩] none [1, 2, 16])
 (.cond [1, 2] (.t 16) (.seq (.reg 2 [⟨some 4, .assign (.c (Value.string { data := #[] })), none, []⟩,
  ⟨some 5, .assign (.c (Value.int IntKind.i64 11)), none, []⟩] none [4, 5])
 .ret) .skip))
 k9_thicketref01_Decimal))
def a_thicketref01_Decimal : AFunc := ⟨96, [.tmp 4, .tmp 5], b_thicketref01_Decimal⟩

def b_thicketlaw01_LimbsWrites : IR :=
 (.seq (.reg 0 [⟨some 2, .box 48 (.t 0), none, [0]⟩,
  ⟨some 4, .assign (.c (Value.bool false)), none, [4]⟩] none [1, 2])
 (.seq (.reg 1 [⟨some 14, .load 48 (some 3) (.t 2), none, []⟩,
  ⟨some 15, .call n_limbs_Write [(.t 14)] [48], none, [14]⟩,
  ⟨some 13, .move (.t 15), none, [15]⟩,
  ⟨some 16, .extr (.t 13) 0, none, []⟩,
  ⟨some 17, .extr (.t 13) 1, none, [13]⟩,
  ⟨some 5, .assign (.t 16), none, [16]⟩,
  ⟨some 6, .assign (.t 17), none, [17]⟩] none [1, 2, 5, 6])
 (.seq (.reg 2 [⟨some 19, .load 48 (some 3) (.t 2), none, []⟩,
  ⟨some 20, .call n_thicketref01_Write [(.t 19)] [48], none, [19]⟩,
  ⟨some 18, .move (.t 20), none, [20]⟩,
  ⟨some 21, .extr (.t 18) 0, none, []⟩,
  ⟨some 22, .extr (.t 18) 1, none, [18]⟩,
  ⟨some 7, .assign (.t 21), none, [21]⟩,
  ⟨some 8, .assign (.t 22), none, [22]⟩] none [1, 2, 5, 6, 7, 8])
 (.seq (.reg 3 [⟨some 24, .load 48 (some 3) (.t 2), none, []⟩,
  ⟨some 25, .move (.t 1), none, []⟩,
  ⟨some 26, .call n_limbs_Decimal [(.t 24), (.t 25)] [48, 3], none, [24, 25]⟩,
  ⟨some 23, .move (.t 26), none, [26]⟩,
  ⟨some 27, .extr (.t 23) 0, none, []⟩,
  ⟨some 28, .extr (.t 23) 1, none, [23]⟩,
  ⟨some 9, .assign (.t 27), none, [27]⟩,
  ⟨some 10, .assign (.t 28), none, [28]⟩] none [1, 2, 5, 6, 7, 8, 9, 10])
 (.seq (.reg 4 [⟨some 30, .load 48 (some 3) (.t 2), none, []⟩,
  ⟨some 31, .move (.t 1), none, [1]⟩,
  ⟨some 32, .call n_thicketref01_Decimal [(.t 30), (.t 31)] [48, 3], none, [2, 30, 31]⟩,
  ⟨some 29, .move (.t 32), none, [32]⟩,
  ⟨some 33, .extr (.t 29) 0, none, []⟩,
  ⟨some 34, .extr (.t 29) 1, none, [29]⟩,
  ⟨some 11, .assign (.t 33), none, [33]⟩,
  ⟨some 12, .assign (.t 34), none, [34]⟩] none [5, 6, 7, 8, 9, 10, 11, 12])
 (.seq (.reg 5 [⟨some 35, .call n_thicketlaw01_lives [] [], none, []⟩,
  ⟨some 36, .move (.t 35), none, [35]⟩,
  ⟨some 37, .move (.t 5), some (1, true), [5]⟩,
  ⟨some 38, .move (.t 7), some (1, true), [7]⟩,
  ⟨some 39, .bin .eql 9 (.t 37) (.t 38) 9, some (1, true), [37, 38]⟩,
  ⟨some 40, .pick (.t 36) (.t 39) (.c (Value.bool false)), none, [36, 39]⟩,
  ⟨some 41, .move (.t 40), none, [40]⟩,
  ⟨some 42, .move (.t 6), some (6, true), [6]⟩,
  ⟨some 43, .move (.t 8), some (6, true), [8]⟩,
  ⟨some 44, .bin .eql 23 (.t 42) (.t 43) 23, some (6, true), [42, 43]⟩,
  ⟨some 45, .pick (.t 41) (.t 44) (.c (Value.bool false)), none, [41, 44]⟩,
  ⟨some 46, .move (.t 45), none, [45]⟩,
  ⟨some 47, .move (.t 9), some (11, true), [9]⟩,
  ⟨some 48, .move (.t 11), some (11, true), [11]⟩,
  ⟨some 49, .bin .eql 9 (.t 47) (.t 48) 9, some (11, true), [47, 48]⟩,
  ⟨some 50, .pick (.t 46) (.t 49) (.c (Value.bool false)), none, [46, 49]⟩,
  ⟨some 51, .move (.t 50), none, [50]⟩,
  ⟨some 52, .move (.t 10), some (16, true), [10]⟩,
  ⟨some 53, .move (.t 12), some (16, true), [12]⟩,
  ⟨some 54, .bin .eql 23 (.t 52) (.t 53) 23, some (16, true), [52, 53]⟩,
  ⟨some 55, .pick (.t 51) (.t 54) (.c (Value.bool false)), none, [51, 54]⟩,
  ⟨some 4, .assign (.t 55), none, [55]⟩] none [4])
 .ret))))))
def a_thicketlaw01_LimbsWrites : AFunc := ⟨56, [.tmp 4], b_thicketlaw01_LimbsWrites⟩

def fnTab : List (FuncId × AFunc) := [(n_limbs_low, a_limbs_low), (n_limbs_high, a_limbs_high), (n_limbs_grow, a_limbs_grow), (n_limbs_trim, a_limbs_trim), (n_limbs_Read, a_limbs_Read), (n_thicketref01_Norm, a_thicketref01_Norm), (n_thicketref01_From, a_thicketref01_From), (n_thicketref01_Add, a_thicketref01_Add), (n_thicketref01_Mul, a_thicketref01_Mul), (n_thicketref01_Read, a_thicketref01_Read), (n_limbs_Norm, a_limbs_Norm), (n_strings_trimLeftByte, a_strings_trimLeftByte), (n_strings_TrimLeft, a_strings_TrimLeft), (n_limbs_Print, a_limbs_Print), (n_limbs_From, a_limbs_From), (n_limbs_Cmp, a_limbs_Cmp), (n_bits_Len32, a_bits_Len32), (n_bits_LeadingZeros32, a_bits_LeadingZeros32), (n_limbs_up, a_limbs_up), (n_bits_Sub32, a_bits_Sub32), (n_bits_Add32, a_bits_Add32), (n_limbs_long, a_limbs_long), (n_limbs_down, a_limbs_down), (n_limbs_DivMod, a_limbs_DivMod), (n_limbs_Add, a_limbs_Add), (n_limbs_Gcd, a_limbs_Gcd), (n_limbs_right, a_limbs_right), (n_limbs_Over, a_limbs_Over), (n_limbs_Write, a_limbs_Write), (n_thicketlaw01_lives, a_thicketlaw01_lives), (n_thicketref01_Same, a_thicketref01_Same), (n_thicketref01_Cmp, a_thicketref01_Cmp), (n_thicketref01_Bit, a_thicketref01_Bit), (n_thicketref01_Sub, a_thicketref01_Sub), (n_thicketref01_double, a_thicketref01_double), (n_thicketref01_DivMod, a_thicketref01_DivMod), (n_thicketref01_Small, a_thicketref01_Small), (n_thicketref01_Print, a_thicketref01_Print), (n_thicketlaw01_LimbsReads, a_thicketlaw01_LimbsReads), (n_thicketref01_Gcd, a_thicketref01_Gcd), (n_thicketlaw01_LimbsParts, a_thicketlaw01_LimbsParts), (n_limbs_Small, a_limbs_Small), (n_limbs_Len, a_limbs_Len), (n_thicketref01_Len, a_thicketref01_Len), (n_limbs_Bit, a_limbs_Bit), (n_thicketlaw01_LimbsForms, a_thicketlaw01_LimbsForms), (n_limbs_sub, a_limbs_sub), (n_limbs_Sub, a_limbs_Sub), (n_limbs_Mul, a_limbs_Mul), (n_thicketlaw01_LimbsSums, a_thicketlaw01_LimbsSums), (n_thicketlaw01_LimbsLaws, a_thicketlaw01_LimbsLaws), (n_limbs_Pow, a_limbs_Pow), (n_thicketref01_Pow, a_thicketref01_Pow), (n_limbs_Up, a_limbs_Up), (n_thicketref01_Up, a_thicketref01_Up), (n_limbs_Down, a_limbs_Down), (n_thicketref01_Down, a_thicketref01_Down), (n_thicketlaw01_LimbsPowers, a_thicketlaw01_LimbsPowers), (n_thicketlaw01_copied, a_thicketlaw01_copied), (n_thicketlaw01_ratio, a_thicketlaw01_ratio), (n_thicketref01_Over, a_thicketref01_Over), (n_thicketref01_Alike, a_thicketref01_Alike), (n_thicketlaw01_LimbsOwn, a_thicketlaw01_LimbsOwn), (n_limbs_Whole, a_limbs_Whole), (n_thicketref01_Whole, a_thicketref01_Whole), (n_limbs_both, a_limbs_both), (n_limbs_Plus, a_limbs_Plus), (n_limbs_Minus, a_limbs_Minus), (n_limbs_Times, a_limbs_Times), (n_limbs_By, a_limbs_By), (n_thicketref01_Plus, a_thicketref01_Plus), (n_thicketref01_Minus, a_thicketref01_Minus), (n_thicketref01_Times, a_thicketref01_Times), (n_thicketref01_By, a_thicketref01_By), (n_limbs_Order, a_limbs_Order), (n_thicketref01_Order, a_thicketref01_Order), (n_thicketlaw01_LimbsRatios, a_thicketlaw01_LimbsRatios), (n_thicketlaw01_LimbsField, a_thicketlaw01_LimbsField), (n_thicketref01_Write, a_thicketref01_Write), (n_limbs_Decimal, a_limbs_Decimal), (n_thicketref01_Decimal, a_thicketref01_Decimal), (n_thicketlaw01_LimbsWrites, a_thicketlaw01_LimbsWrites)]
def modeTab : List (FuncId × List Bool) := [(n_limbs_grow, [true, false, false]), (n_limbs_trim, [true]), (n_limbs_long, [true, false]), (n_strings_Builder_WriteString, [true, false]), (n_strings_Builder_String, [true])]
def G (n : Nat) : List PV := match n with  | _ => []
def extT : Oracle := fun f xs => if f = n_strings_Builder_WriteString then xWriteString 72 5 xs else if f = n_strings_Builder_String then xString 72 5 xs else none
def T : Tab := { fns := fun f => fnTab.lookup f, ext := extT, modes := fun f => (modeTab.lookup f).getD [], glob := G }
theorem fn_limbs_low : T.fns n_limbs_low = some a_limbs_low := rfl
theorem run_limbs_low (xs : List PV) : Cinf T n_limbs_low xs = Run T a_limbs_low xs := Cinf_eq rfl fn_limbs_low
@[simp] theorem md_limbs_low : T.modes n_limbs_low = [] := rfl
@[simp] theorem call_limbs_low (C : Oracle) (e : Env) (xs : List PV) : call T C e n_limbs_low xs = callK1 C n_limbs_low xs (moves e [] [] xs) := call_modes md_limbs_low
theorem fn_limbs_high : T.fns n_limbs_high = some a_limbs_high := rfl
theorem run_limbs_high (xs : List PV) : Cinf T n_limbs_high xs = Run T a_limbs_high xs := Cinf_eq rfl fn_limbs_high
@[simp] theorem md_limbs_high : T.modes n_limbs_high = [] := rfl
@[simp] theorem call_limbs_high (C : Oracle) (e : Env) (xs : List PV) : call T C e n_limbs_high xs = callK1 C n_limbs_high xs (moves e [] [] xs) := call_modes md_limbs_high
theorem fn_limbs_grow : T.fns n_limbs_grow = some a_limbs_grow := rfl
@[simp] theorem tl0_limbs_grow (e : Env) : Exec T k0_limbs_grow e = Exec T j0_limbs_grow (e.keep [0, 1, 7, 12, 13, 40, 100000]) := Exec_tail _ _ _
@[simp] theorem tl1_limbs_grow (e : Env) : Exec T k1_limbs_grow e = Exec T j1_limbs_grow (e.keep [0, 1, 7, 12, 13, 40, 100000]) := Exec_tail _ _ _
@[simp] theorem tl2_limbs_grow (e : Env) : Exec T k2_limbs_grow e = Exec T j2_limbs_grow (e.keep [0, 40, 100000]) := Exec_tail _ _ _
@[simp] theorem tl3_limbs_grow (e : Env) : Exec T k3_limbs_grow e = Exec T j3_limbs_grow (e.keep [0, 7, 40, 100000]) := Exec_tail _ _ _
theorem ex0_limbs_grow (e : Env) : Exec T l0_limbs_grow e = andThen (Exec T w0_limbs_grow (e.keep [0, 1, 7, 12, 13, 40, 100000])) (Exec T l0_limbs_grow) := Exec_loop _ _ _
theorem run_limbs_grow (xs : List PV) : Cinf T n_limbs_grow xs = Run T a_limbs_grow xs := Cinf_eq rfl fn_limbs_grow
@[simp] theorem md_limbs_grow : T.modes n_limbs_grow = [true, false, false] := rfl
@[simp] theorem call_limbs_grow (C : Oracle) (e : Env) (xs : List PV) : call T C e n_limbs_grow xs = callK1 C n_limbs_grow xs (moves e [] [true, false, false] xs) := call_modes md_limbs_grow
theorem fn_limbs_trim : T.fns n_limbs_trim = some a_limbs_trim := rfl
@[simp] theorem tl0_limbs_trim (e : Env) : Exec T k0_limbs_trim e = Exec T j0_limbs_trim (e.keep [0, 3, 100000]) := Exec_tail _ _ _
@[simp] theorem tl1_limbs_trim (e : Env) : Exec T k1_limbs_trim e = Exec T j1_limbs_trim (e.keep [0, 3, 100000]) := Exec_tail _ _ _
theorem ex0_limbs_trim (e : Env) : Exec T l0_limbs_trim e = andThen (Exec T w0_limbs_trim (e.keep [0, 3, 100000])) (Exec T l0_limbs_trim) := Exec_loop _ _ _
theorem run_limbs_trim (xs : List PV) : Cinf T n_limbs_trim xs = Run T a_limbs_trim xs := Cinf_eq rfl fn_limbs_trim
@[simp] theorem md_limbs_trim : T.modes n_limbs_trim = [true] := rfl
@[simp] theorem call_limbs_trim (C : Oracle) (e : Env) (xs : List PV) : call T C e n_limbs_trim xs = callK1 C n_limbs_trim xs (moves e [] [true] xs) := call_modes md_limbs_trim
theorem fn_limbs_Read : T.fns n_limbs_Read = some a_limbs_Read := rfl
@[simp] theorem tl0_limbs_Read (e : Env) : Exec T k0_limbs_Read e = Exec T j0_limbs_Read (e.keep [0, 12, 13]) := Exec_tail _ _ _
@[simp] theorem tl1_limbs_Read (e : Env) : Exec T k1_limbs_Read e = Exec T j1_limbs_Read (e.keep [0, 12, 13]) := Exec_tail _ _ _
@[simp] theorem tl2_limbs_Read (e : Env) : Exec T k2_limbs_Read e = Exec T j2_limbs_Read (e.keep [0, 6, 7, 8, 9, 36, 37, 54]) := Exec_tail _ _ _
@[simp] theorem tl3_limbs_Read (e : Env) : Exec T k3_limbs_Read e = Exec T j3_limbs_Read (e.keep [0, 6, 7, 8, 9, 36, 37, 54]) := Exec_tail _ _ _
@[simp] theorem tl4_limbs_Read (e : Env) : Exec T k4_limbs_Read e = Exec T j4_limbs_Read (e.keep [0, 6, 7, 8, 9, 54]) := Exec_tail _ _ _
@[simp] theorem tl5_limbs_Read (e : Env) : Exec T k5_limbs_Read e = Exec T j5_limbs_Read (e.keep [0, 6, 54]) := Exec_tail _ _ _
@[simp] theorem tl6_limbs_Read (e : Env) : Exec T k6_limbs_Read e = Exec T j6_limbs_Read (e.keep [6, 54]) := Exec_tail _ _ _
@[simp] theorem tl7_limbs_Read (e : Env) : Exec T k7_limbs_Read e = Exec T j7_limbs_Read (e.keep [0]) := Exec_tail _ _ _
@[simp] theorem tl8_limbs_Read (e : Env) : Exec T k8_limbs_Read e = Exec T j8_limbs_Read (e.keep [0]) := Exec_tail _ _ _
theorem ex0_limbs_Read (e : Env) : Exec T l0_limbs_Read e = andThen (Exec T w0_limbs_Read (e.keep [0, 12, 13])) (Exec T l0_limbs_Read) := Exec_loop _ _ _
theorem ex2_limbs_Read (e : Env) : Exec T l2_limbs_Read e = andThen (Exec T w2_limbs_Read (e.keep [0, 6, 7, 8, 9, 36, 37, 54])) (Exec T l2_limbs_Read) := Exec_loop _ _ _
theorem ex1_limbs_Read (e : Env) : Exec T l1_limbs_Read e = andThen (Exec T w1_limbs_Read (e.keep [0, 6, 54])) (Exec T l1_limbs_Read) := Exec_loop _ _ _
theorem run_limbs_Read (xs : List PV) : Cinf T n_limbs_Read xs = Run T a_limbs_Read xs := Cinf_eq rfl fn_limbs_Read
@[simp] theorem md_limbs_Read : T.modes n_limbs_Read = [] := rfl
@[simp] theorem call_limbs_Read (C : Oracle) (e : Env) (xs : List PV) : call T C e n_limbs_Read xs = callK1 C n_limbs_Read xs (moves e [] [] xs) := call_modes md_limbs_Read
theorem fn_thicketref01_Norm : T.fns n_thicketref01_Norm = some a_thicketref01_Norm := rfl
@[simp] theorem tl0_thicketref01_Norm (e : Env) : Exec T k0_thicketref01_Norm e = Exec T j0_thicketref01_Norm (e.keep [0, 3]) := Exec_tail _ _ _
@[simp] theorem tl1_thicketref01_Norm (e : Env) : Exec T k1_thicketref01_Norm e = Exec T j1_thicketref01_Norm (e.keep [0, 3, 4, 5, 31]) := Exec_tail _ _ _
@[simp] theorem tl2_thicketref01_Norm (e : Env) : Exec T k2_thicketref01_Norm e = Exec T j2_thicketref01_Norm (e.keep [0, 3, 4, 5, 31]) := Exec_tail _ _ _
@[simp] theorem tl3_thicketref01_Norm (e : Env) : Exec T k3_thicketref01_Norm e = Exec T j3_thicketref01_Norm (e.keep [4, 31]) := Exec_tail _ _ _
@[simp] theorem tl4_thicketref01_Norm (e : Env) : Exec T k4_thicketref01_Norm e = Exec T j4_thicketref01_Norm (e.keep [0, 3]) := Exec_tail _ _ _
theorem ex0_thicketref01_Norm (e : Env) : Exec T l0_thicketref01_Norm e = andThen (Exec T w0_thicketref01_Norm (e.keep [0, 3])) (Exec T l0_thicketref01_Norm) := Exec_loop _ _ _
theorem ex1_thicketref01_Norm (e : Env) : Exec T l1_thicketref01_Norm e = andThen (Exec T w1_thicketref01_Norm (e.keep [0, 3, 4, 5, 31])) (Exec T l1_thicketref01_Norm) := Exec_loop _ _ _
theorem run_thicketref01_Norm (xs : List PV) : Cinf T n_thicketref01_Norm xs = Run T a_thicketref01_Norm xs := Cinf_eq rfl fn_thicketref01_Norm
@[simp] theorem md_thicketref01_Norm : T.modes n_thicketref01_Norm = [] := rfl
@[simp] theorem call_thicketref01_Norm (C : Oracle) (e : Env) (xs : List PV) : call T C e n_thicketref01_Norm xs = callK1 C n_thicketref01_Norm xs (moves e [] [] xs) := call_modes md_thicketref01_Norm
theorem fn_thicketref01_From : T.fns n_thicketref01_From = some a_thicketref01_From := rfl
theorem run_thicketref01_From (xs : List PV) : Cinf T n_thicketref01_From xs = Run T a_thicketref01_From xs := Cinf_eq rfl fn_thicketref01_From
@[simp] theorem md_thicketref01_From : T.modes n_thicketref01_From = [] := rfl
@[simp] theorem call_thicketref01_From (C : Oracle) (e : Env) (xs : List PV) : call T C e n_thicketref01_From xs = callK1 C n_thicketref01_From xs (moves e [] [] xs) := call_modes md_thicketref01_From
theorem fn_thicketref01_Add : T.fns n_thicketref01_Add = some a_thicketref01_Add := rfl
@[simp] theorem tl0_thicketref01_Add (e : Env) : Exec T k0_thicketref01_Add e = Exec T j0_thicketref01_Add (e.keep [0, 1, 5, 6, 7, 51]) := Exec_tail _ _ _
@[simp] theorem tl1_thicketref01_Add (e : Env) : Exec T k1_thicketref01_Add e = Exec T j1_thicketref01_Add (e.keep [0, 1, 5, 6, 7, 51]) := Exec_tail _ _ _
@[simp] theorem tl2_thicketref01_Add (e : Env) : Exec T k2_thicketref01_Add e = Exec T j2_thicketref01_Add (e.keep [0, 1, 5, 6, 7, 51]) := Exec_tail _ _ _
@[simp] theorem tl3_thicketref01_Add (e : Env) : Exec T k3_thicketref01_Add e = Exec T j3_thicketref01_Add (e.keep [0, 1, 5, 6, 7, 51]) := Exec_tail _ _ _
@[simp] theorem tl4_thicketref01_Add (e : Env) : Exec T k4_thicketref01_Add e = Exec T j4_thicketref01_Add (e.keep [5, 51]) := Exec_tail _ _ _
theorem ex0_thicketref01_Add (e : Env) : Exec T l0_thicketref01_Add e = andThen (Exec T w0_thicketref01_Add (e.keep [0, 1, 5, 6, 7, 51])) (Exec T l0_thicketref01_Add) := Exec_loop _ _ _
theorem run_thicketref01_Add (xs : List PV) : Cinf T n_thicketref01_Add xs = Run T a_thicketref01_Add xs := Cinf_eq rfl fn_thicketref01_Add
@[simp] theorem md_thicketref01_Add : T.modes n_thicketref01_Add = [] := rfl
@[simp] theorem call_thicketref01_Add (C : Oracle) (e : Env) (xs : List PV) : call T C e n_thicketref01_Add xs = callK1 C n_thicketref01_Add xs (moves e [] [] xs) := call_modes md_thicketref01_Add
theorem fn_thicketref01_Mul : T.fns n_thicketref01_Mul = some a_thicketref01_Mul := rfl
@[simp] theorem tl0_thicketref01_Mul (e : Env) : Exec T k0_thicketref01_Mul e = Exec T j0_thicketref01_Mul (e.keep [0, 1, 5, 6, 7, 9, 10, 17, 18, 19, 20]) := Exec_tail _ _ _
@[simp] theorem tl1_thicketref01_Mul (e : Env) : Exec T k1_thicketref01_Mul e = Exec T j1_thicketref01_Mul (e.keep [0, 1, 5, 6, 7, 8, 9, 17, 18, 19, 20]) := Exec_tail _ _ _
@[simp] theorem tl2_thicketref01_Mul (e : Env) : Exec T k2_thicketref01_Mul e = Exec T j2_thicketref01_Mul (e.keep [0, 1, 5, 6, 7, 8, 9, 17, 18, 19, 20]) := Exec_tail _ _ _
@[simp] theorem tl3_thicketref01_Mul (e : Env) : Exec T k3_thicketref01_Mul e = Exec T j3_thicketref01_Mul (e.keep [0, 1, 5, 17, 18, 19, 20]) := Exec_tail _ _ _
@[simp] theorem tl4_thicketref01_Mul (e : Env) : Exec T k4_thicketref01_Mul e = Exec T j4_thicketref01_Mul (e.keep [0, 1, 5, 17, 18, 19, 20]) := Exec_tail _ _ _
@[simp] theorem tl5_thicketref01_Mul (e : Env) : Exec T k5_thicketref01_Mul e = Exec T j5_thicketref01_Mul (e.keep [5, 17]) := Exec_tail _ _ _
theorem ex1_thicketref01_Mul (e : Env) : Exec T l1_thicketref01_Mul e = andThen (Exec T w1_thicketref01_Mul (e.keep [0, 1, 5, 6, 7, 8, 9, 17, 18, 19, 20])) (Exec T l1_thicketref01_Mul) := Exec_loop _ _ _
theorem ex0_thicketref01_Mul (e : Env) : Exec T l0_thicketref01_Mul e = andThen (Exec T w0_thicketref01_Mul (e.keep [0, 1, 5, 17, 18, 19, 20])) (Exec T l0_thicketref01_Mul) := Exec_loop _ _ _
theorem run_thicketref01_Mul (xs : List PV) : Cinf T n_thicketref01_Mul xs = Run T a_thicketref01_Mul xs := Cinf_eq rfl fn_thicketref01_Mul
@[simp] theorem md_thicketref01_Mul : T.modes n_thicketref01_Mul = [] := rfl
@[simp] theorem call_thicketref01_Mul (C : Oracle) (e : Env) (xs : List PV) : call T C e n_thicketref01_Mul xs = callK1 C n_thicketref01_Mul xs (moves e [] [] xs) := call_modes md_thicketref01_Mul
theorem fn_thicketref01_Read : T.fns n_thicketref01_Read = some a_thicketref01_Read := rfl
@[simp] theorem tl0_thicketref01_Read (e : Env) : Exec T k0_thicketref01_Read e = Exec T j0_thicketref01_Read (e.keep [0, 5]) := Exec_tail _ _ _
@[simp] theorem tl1_thicketref01_Read (e : Env) : Exec T k1_thicketref01_Read e = Exec T j1_thicketref01_Read (e.keep [0, 5]) := Exec_tail _ _ _
@[simp] theorem tl2_thicketref01_Read (e : Env) : Exec T k2_thicketref01_Read e = Exec T j2_thicketref01_Read (e.keep [0, 6, 7, 8, 9, 10, 66]) := Exec_tail _ _ _
@[simp] theorem tl3_thicketref01_Read (e : Env) : Exec T k3_thicketref01_Read e = Exec T j3_thicketref01_Read (e.keep [0, 6, 7, 8, 9, 10, 66]) := Exec_tail _ _ _
@[simp] theorem tl4_thicketref01_Read (e : Env) : Exec T k4_thicketref01_Read e = Exec T j4_thicketref01_Read (e.keep [0, 6, 7, 8, 9, 66]) := Exec_tail _ _ _
@[simp] theorem tl5_thicketref01_Read (e : Env) : Exec T k5_thicketref01_Read e = Exec T j5_thicketref01_Read (e.keep [0, 6, 7, 66]) := Exec_tail _ _ _
@[simp] theorem tl6_thicketref01_Read (e : Env) : Exec T k6_thicketref01_Read e = Exec T j6_thicketref01_Read (e.keep [0, 6, 7, 66]) := Exec_tail _ _ _
@[simp] theorem tl7_thicketref01_Read (e : Env) : Exec T k7_thicketref01_Read e = Exec T j7_thicketref01_Read (e.keep [6, 66]) := Exec_tail _ _ _
@[simp] theorem tl8_thicketref01_Read (e : Env) : Exec T k8_thicketref01_Read e = Exec T j8_thicketref01_Read (e.keep [0]) := Exec_tail _ _ _
@[simp] theorem tl9_thicketref01_Read (e : Env) : Exec T k9_thicketref01_Read e = Exec T j9_thicketref01_Read (e.keep [0]) := Exec_tail _ _ _
theorem ex0_thicketref01_Read (e : Env) : Exec T l0_thicketref01_Read e = andThen (Exec T w0_thicketref01_Read (e.keep [0, 5])) (Exec T l0_thicketref01_Read) := Exec_loop _ _ _
theorem ex2_thicketref01_Read (e : Env) : Exec T l2_thicketref01_Read e = andThen (Exec T w2_thicketref01_Read (e.keep [0, 6, 7, 8, 9, 10, 66])) (Exec T l2_thicketref01_Read) := Exec_loop _ _ _
theorem ex1_thicketref01_Read (e : Env) : Exec T l1_thicketref01_Read e = andThen (Exec T w1_thicketref01_Read (e.keep [0, 6, 7, 66])) (Exec T l1_thicketref01_Read) := Exec_loop _ _ _
theorem run_thicketref01_Read (xs : List PV) : Cinf T n_thicketref01_Read xs = Run T a_thicketref01_Read xs := Cinf_eq rfl fn_thicketref01_Read
@[simp] theorem md_thicketref01_Read : T.modes n_thicketref01_Read = [] := rfl
@[simp] theorem call_thicketref01_Read (C : Oracle) (e : Env) (xs : List PV) : call T C e n_thicketref01_Read xs = callK1 C n_thicketref01_Read xs (moves e [] [] xs) := call_modes md_thicketref01_Read
theorem fn_limbs_Norm : T.fns n_limbs_Norm = some a_limbs_Norm := rfl
theorem run_limbs_Norm (xs : List PV) : Cinf T n_limbs_Norm xs = Run T a_limbs_Norm xs := Cinf_eq rfl fn_limbs_Norm
@[simp] theorem md_limbs_Norm : T.modes n_limbs_Norm = [] := rfl
@[simp] theorem call_limbs_Norm (C : Oracle) (e : Env) (xs : List PV) : call T C e n_limbs_Norm xs = callK1 C n_limbs_Norm xs (moves e [] [] xs) := call_modes md_limbs_Norm
theorem fn_strings_trimLeftByte : T.fns n_strings_trimLeftByte = some a_strings_trimLeftByte := rfl
@[simp] theorem tl0_strings_trimLeftByte (e : Env) : Exec T k0_strings_trimLeftByte e = Exec T j0_strings_trimLeftByte (e.keep [0, 1]) := Exec_tail _ _ _
@[simp] theorem tl1_strings_trimLeftByte (e : Env) : Exec T k1_strings_trimLeftByte e = Exec T j1_strings_trimLeftByte (e.keep [0]) := Exec_tail _ _ _
theorem ex0_strings_trimLeftByte (e : Env) : Exec T l0_strings_trimLeftByte e = andThen (Exec T w0_strings_trimLeftByte (e.keep [0, 1])) (Exec T l0_strings_trimLeftByte) := Exec_loop _ _ _
theorem run_strings_trimLeftByte (xs : List PV) : Cinf T n_strings_trimLeftByte xs = Run T a_strings_trimLeftByte xs := Cinf_eq rfl fn_strings_trimLeftByte
@[simp] theorem md_strings_trimLeftByte : T.modes n_strings_trimLeftByte = [] := rfl
@[simp] theorem call_strings_trimLeftByte (C : Oracle) (e : Env) (xs : List PV) : call T C e n_strings_trimLeftByte xs = callK1 C n_strings_trimLeftByte xs (moves e [] [] xs) := call_modes md_strings_trimLeftByte
theorem fn_strings_TrimLeft : T.fns n_strings_TrimLeft = some a_strings_TrimLeft := rfl
@[simp] theorem tl0_strings_TrimLeft (e : Env) : Exec T k0_strings_TrimLeft e = Exec T j0_strings_TrimLeft (e.keep [0, 1]) := Exec_tail _ _ _
@[simp] theorem tl1_strings_TrimLeft (e : Env) : Exec T k1_strings_TrimLeft e = Exec T j1_strings_TrimLeft (e.keep [0, 1]) := Exec_tail _ _ _
@[simp] theorem tl2_strings_TrimLeft (e : Env) : Exec T k2_strings_TrimLeft e = Exec T j2_strings_TrimLeft (e.keep [0, 1]) := Exec_tail _ _ _
theorem run_strings_TrimLeft (xs : List PV) : Cinf T n_strings_TrimLeft xs = Run T a_strings_TrimLeft xs := Cinf_eq rfl fn_strings_TrimLeft
@[simp] theorem md_strings_TrimLeft : T.modes n_strings_TrimLeft = [] := rfl
@[simp] theorem call_strings_TrimLeft (C : Oracle) (e : Env) (xs : List PV) : call T C e n_strings_TrimLeft xs = callK1 C n_strings_TrimLeft xs (moves e [] [] xs) := call_modes md_strings_TrimLeft
theorem fn_limbs_Print : T.fns n_limbs_Print = some a_limbs_Print := rfl
@[simp] theorem tl0_limbs_Print (e : Env) : Exec T k0_limbs_Print e = Exec T j0_limbs_Print (e.keep [0, 3, 4, 5, 10, 41, 57]) := Exec_tail _ _ _
@[simp] theorem tl1_limbs_Print (e : Env) : Exec T k1_limbs_Print e = Exec T j1_limbs_Print (e.keep [0, 3, 4, 5, 10, 41, 57]) := Exec_tail _ _ _
@[simp] theorem tl2_limbs_Print (e : Env) : Exec T k2_limbs_Print e = Exec T j2_limbs_Print (e.keep [0, 3, 4, 6, 10, 41, 42, 57]) := Exec_tail _ _ _
@[simp] theorem tl3_limbs_Print (e : Env) : Exec T k3_limbs_Print e = Exec T j3_limbs_Print (e.keep [0, 3, 4, 6, 10, 41, 42, 57]) := Exec_tail _ _ _
@[simp] theorem tl4_limbs_Print (e : Env) : Exec T k4_limbs_Print e = Exec T j4_limbs_Print (e.keep [0, 3, 6, 10, 41, 57]) := Exec_tail _ _ _
@[simp] theorem tl5_limbs_Print (e : Env) : Exec T k5_limbs_Print e = Exec T j5_limbs_Print (e.keep [0, 3, 4, 10, 41, 57]) := Exec_tail _ _ _
@[simp] theorem tl6_limbs_Print (e : Env) : Exec T k6_limbs_Print e = Exec T j6_limbs_Print (e.keep [0, 3, 10, 41, 57]) := Exec_tail _ _ _
@[simp] theorem tl7_limbs_Print (e : Env) : Exec T k7_limbs_Print e = Exec T j7_limbs_Print (e.keep [3, 7, 8, 57]) := Exec_tail _ _ _
@[simp] theorem tl8_limbs_Print (e : Env) : Exec T k8_limbs_Print e = Exec T j8_limbs_Print (e.keep [3, 7, 8, 57]) := Exec_tail _ _ _
@[simp] theorem tl9_limbs_Print (e : Env) : Exec T k9_limbs_Print e = Exec T j9_limbs_Print (e.keep [7]) := Exec_tail _ _ _
@[simp] theorem tl10_limbs_Print (e : Env) : Exec T k10_limbs_Print e = Exec T j10_limbs_Print (e.keep [3, 57]) := Exec_tail _ _ _
@[simp] theorem tl11_limbs_Print (e : Env) : Exec T k11_limbs_Print e = Exec T j11_limbs_Print (e.keep [0, 10, 41]) := Exec_tail _ _ _
theorem ex1_limbs_Print (e : Env) : Exec T l1_limbs_Print e = andThen (Exec T w1_limbs_Print (e.keep [0, 3, 4, 5, 10, 41, 57])) (Exec T l1_limbs_Print) := Exec_loop _ _ _
theorem ex2_limbs_Print (e : Env) : Exec T l2_limbs_Print e = andThen (Exec T w2_limbs_Print (e.keep [0, 3, 4, 6, 10, 41, 42, 57])) (Exec T l2_limbs_Print) := Exec_loop _ _ _
theorem ex0_limbs_Print (e : Env) : Exec T l0_limbs_Print e = andThen (Exec T w0_limbs_Print (e.keep [0, 3, 10, 41, 57])) (Exec T l0_limbs_Print) := Exec_loop _ _ _
theorem ex3_limbs_Print (e : Env) : Exec T l3_limbs_Print e = andThen (Exec T w3_limbs_Print (e.keep [3, 7, 8, 57])) (Exec T l3_limbs_Print) := Exec_loop _ _ _
theorem run_limbs_Print (xs : List PV) : Cinf T n_limbs_Print xs = Run T a_limbs_Print xs := Cinf_eq rfl fn_limbs_Print
@[simp] theorem md_limbs_Print : T.modes n_limbs_Print = [] := rfl
@[simp] theorem call_limbs_Print (C : Oracle) (e : Env) (xs : List PV) : call T C e n_limbs_Print xs = callK1 C n_limbs_Print xs (moves e [] [] xs) := call_modes md_limbs_Print
theorem fn_limbs_From : T.fns n_limbs_From = some a_limbs_From := rfl
theorem run_limbs_From (xs : List PV) : Cinf T n_limbs_From xs = Run T a_limbs_From xs := Cinf_eq rfl fn_limbs_From
@[simp] theorem md_limbs_From : T.modes n_limbs_From = [] := rfl
@[simp] theorem call_limbs_From (C : Oracle) (e : Env) (xs : List PV) : call T C e n_limbs_From xs = callK1 C n_limbs_From xs (moves e [] [] xs) := call_modes md_limbs_From
theorem fn_limbs_Cmp : T.fns n_limbs_Cmp = some a_limbs_Cmp := rfl
@[simp] theorem tl0_limbs_Cmp (e : Env) : Exec T k0_limbs_Cmp e = Exec T j0_limbs_Cmp (e.keep []) := Exec_tail _ _ _
@[simp] theorem tl1_limbs_Cmp (e : Env) : Exec T k1_limbs_Cmp e = Exec T j1_limbs_Cmp (e.keep [0, 1, 5, 7, 9]) := Exec_tail _ _ _
@[simp] theorem tl2_limbs_Cmp (e : Env) : Exec T k2_limbs_Cmp e = Exec T j2_limbs_Cmp (e.keep [0, 1, 5, 7, 9]) := Exec_tail _ _ _
@[simp] theorem tl3_limbs_Cmp (e : Env) : Exec T k3_limbs_Cmp e = Exec T j3_limbs_Cmp (e.keep []) := Exec_tail _ _ _
@[simp] theorem tl4_limbs_Cmp (e : Env) : Exec T k4_limbs_Cmp e = Exec T j4_limbs_Cmp (e.keep [0, 1, 7, 9]) := Exec_tail _ _ _
theorem ex0_limbs_Cmp (e : Env) : Exec T l0_limbs_Cmp e = andThen (Exec T w0_limbs_Cmp (e.keep [0, 1, 5, 7, 9])) (Exec T l0_limbs_Cmp) := Exec_loop _ _ _
theorem run_limbs_Cmp (xs : List PV) : Cinf T n_limbs_Cmp xs = Run T a_limbs_Cmp xs := Cinf_eq rfl fn_limbs_Cmp
@[simp] theorem md_limbs_Cmp : T.modes n_limbs_Cmp = [] := rfl
@[simp] theorem call_limbs_Cmp (C : Oracle) (e : Env) (xs : List PV) : call T C e n_limbs_Cmp xs = callK1 C n_limbs_Cmp xs (moves e [] [] xs) := call_modes md_limbs_Cmp
theorem fn_bits_Len32 : T.fns n_bits_Len32 = some a_bits_Len32 := rfl
@[simp] theorem tl0_bits_Len32 (e : Env) : Exec T k0_bits_Len32 e = Exec T j0_bits_Len32 (e.keep [0, 2]) := Exec_tail _ _ _
@[simp] theorem tl1_bits_Len32 (e : Env) : Exec T k1_bits_Len32 e = Exec T j1_bits_Len32 (e.keep [0, 2]) := Exec_tail _ _ _
theorem run_bits_Len32 (xs : List PV) : Cinf T n_bits_Len32 xs = Run T a_bits_Len32 xs := Cinf_eq rfl fn_bits_Len32
@[simp] theorem md_bits_Len32 : T.modes n_bits_Len32 = [] := rfl
@[simp] theorem call_bits_Len32 (C : Oracle) (e : Env) (xs : List PV) : call T C e n_bits_Len32 xs = callK1 C n_bits_Len32 xs (moves e [] [] xs) := call_modes md_bits_Len32
theorem fn_bits_LeadingZeros32 : T.fns n_bits_LeadingZeros32 = some a_bits_LeadingZeros32 := rfl
theorem run_bits_LeadingZeros32 (xs : List PV) : Cinf T n_bits_LeadingZeros32 xs = Run T a_bits_LeadingZeros32 xs := Cinf_eq rfl fn_bits_LeadingZeros32
@[simp] theorem md_bits_LeadingZeros32 : T.modes n_bits_LeadingZeros32 = [] := rfl
@[simp] theorem call_bits_LeadingZeros32 (C : Oracle) (e : Env) (xs : List PV) : call T C e n_bits_LeadingZeros32 xs = callK1 C n_bits_LeadingZeros32 xs (moves e [] [] xs) := call_modes md_bits_LeadingZeros32
theorem fn_limbs_up : T.fns n_limbs_up = some a_limbs_up := rfl
@[simp] theorem tl0_limbs_up (e : Env) : Exec T k0_limbs_up e = Exec T j0_limbs_up (e.keep [0, 1, 5, 6, 10, 22, 23, 24, 25, 40]) := Exec_tail _ _ _
@[simp] theorem tl1_limbs_up (e : Env) : Exec T k1_limbs_up e = Exec T j1_limbs_up (e.keep [0, 1, 5, 6, 10, 22, 23, 24, 25, 40]) := Exec_tail _ _ _
@[simp] theorem tl2_limbs_up (e : Env) : Exec T k2_limbs_up e = Exec T j2_limbs_up (e.keep [5, 6, 22, 40]) := Exec_tail _ _ _
@[simp] theorem tl3_limbs_up (e : Env) : Exec T k3_limbs_up e = Exec T j3_limbs_up (e.keep [0, 1, 10]) := Exec_tail _ _ _
theorem ex0_limbs_up (e : Env) : Exec T l0_limbs_up e = andThen (Exec T w0_limbs_up (e.keep [0, 1, 5, 6, 10, 22, 23, 24, 25, 40])) (Exec T l0_limbs_up) := Exec_loop _ _ _
theorem run_limbs_up (xs : List PV) : Cinf T n_limbs_up xs = Run T a_limbs_up xs := Cinf_eq rfl fn_limbs_up
@[simp] theorem md_limbs_up : T.modes n_limbs_up = [] := rfl
@[simp] theorem call_limbs_up (C : Oracle) (e : Env) (xs : List PV) : call T C e n_limbs_up xs = callK1 C n_limbs_up xs (moves e [] [] xs) := call_modes md_limbs_up
theorem fn_bits_Sub32 : T.fns n_bits_Sub32 = some a_bits_Sub32 := rfl
theorem run_bits_Sub32 (xs : List PV) : Cinf T n_bits_Sub32 xs = Run T a_bits_Sub32 xs := Cinf_eq rfl fn_bits_Sub32
@[simp] theorem md_bits_Sub32 : T.modes n_bits_Sub32 = [] := rfl
@[simp] theorem call_bits_Sub32 (C : Oracle) (e : Env) (xs : List PV) : call T C e n_bits_Sub32 xs = callK1 C n_bits_Sub32 xs (moves e [] [] xs) := call_modes md_bits_Sub32
theorem fn_bits_Add32 : T.fns n_bits_Add32 = some a_bits_Add32 := rfl
theorem run_bits_Add32 (xs : List PV) : Cinf T n_bits_Add32 xs = Run T a_bits_Add32 xs := Cinf_eq rfl fn_bits_Add32
@[simp] theorem md_bits_Add32 : T.modes n_bits_Add32 = [] := rfl
@[simp] theorem call_bits_Add32 (C : Oracle) (e : Env) (xs : List PV) : call T C e n_bits_Add32 xs = callK1 C n_bits_Add32 xs (moves e [] [] xs) := call_modes md_bits_Add32
theorem fn_limbs_long : T.fns n_limbs_long = some a_limbs_long := rfl
@[simp] theorem tl0_limbs_long (e : Env) : Exec T k0_limbs_long e = Exec T j0_limbs_long (e.keep [0, 1, 5, 6, 7, 8, 9, 11, 12, 24, 71, 100000]) := Exec_tail _ _ _
@[simp] theorem tl1_limbs_long (e : Env) : Exec T k1_limbs_long e = Exec T j1_limbs_long (e.keep [0, 1, 5, 6, 7, 8, 9, 11, 12, 24, 100000]) := Exec_tail _ _ _
@[simp] theorem tl2_limbs_long (e : Env) : Exec T k2_limbs_long e = Exec T j2_limbs_long (e.keep [0, 1, 5, 6, 7, 8, 9, 11, 13, 14, 24, 94, 95, 100000]) := Exec_tail _ _ _
@[simp] theorem tl3_limbs_long (e : Env) : Exec T k3_limbs_long e = Exec T j3_limbs_long (e.keep [0, 1, 5, 6, 7, 8, 9, 11, 13, 14, 24, 94, 95, 100000]) := Exec_tail _ _ _
@[simp] theorem tl4_limbs_long (e : Env) : Exec T k4_limbs_long e = Exec T j4_limbs_long (e.keep [0, 1, 5, 6, 7, 8, 9, 16, 24, 159, 160, 100000]) := Exec_tail _ _ _
@[simp] theorem tl5_limbs_long (e : Env) : Exec T k5_limbs_long e = Exec T j5_limbs_long (e.keep [0, 1, 5, 6, 7, 8, 9, 16, 24, 159, 160, 100000]) := Exec_tail _ _ _
@[simp] theorem tl6_limbs_long (e : Env) : Exec T k6_limbs_long e = Exec T j6_limbs_long (e.keep [0, 1, 5, 6, 7, 8, 9, 16, 24, 100000]) := Exec_tail _ _ _
@[simp] theorem tl7_limbs_long (e : Env) : Exec T k7_limbs_long e = Exec T j7_limbs_long (e.keep [0, 1, 5, 6, 7, 8, 9, 24, 100000]) := Exec_tail _ _ _
@[simp] theorem tl8_limbs_long (e : Env) : Exec T k8_limbs_long e = Exec T j8_limbs_long (e.keep [0, 1, 5, 6, 7, 8, 9, 11, 13, 14, 24, 100000]) := Exec_tail _ _ _
@[simp] theorem tl9_limbs_long (e : Env) : Exec T k9_limbs_long e = Exec T j9_limbs_long (e.keep [0, 1, 5, 6, 7, 8, 9, 11, 24, 100000]) := Exec_tail _ _ _
@[simp] theorem tl10_limbs_long (e : Env) : Exec T k10_limbs_long e = Exec T j10_limbs_long (e.keep [0, 1, 5, 6, 7, 8, 9, 24, 100000]) := Exec_tail _ _ _
@[simp] theorem tl11_limbs_long (e : Env) : Exec T k11_limbs_long e = Exec T j11_limbs_long (e.keep [0, 1, 5, 6, 7, 8, 9, 24, 100000]) := Exec_tail _ _ _
@[simp] theorem tl12_limbs_long (e : Env) : Exec T k12_limbs_long e = Exec T j12_limbs_long (e.keep [6, 24, 100000]) := Exec_tail _ _ _
theorem ex1_limbs_long (e : Env) : Exec T l1_limbs_long e = andThen (Exec T w1_limbs_long (e.keep [0, 1, 5, 6, 7, 8, 9, 11, 12, 24, 100000])) (Exec T l1_limbs_long) := Exec_loop _ _ _
theorem ex2_limbs_long (e : Env) : Exec T l2_limbs_long e = andThen (Exec T w2_limbs_long (e.keep [0, 1, 5, 6, 7, 8, 9, 11, 13, 14, 24, 94, 95, 100000])) (Exec T l2_limbs_long) := Exec_loop _ _ _
theorem ex3_limbs_long (e : Env) : Exec T l3_limbs_long e = andThen (Exec T w3_limbs_long (e.keep [0, 1, 5, 6, 7, 8, 9, 16, 24, 159, 160, 100000])) (Exec T l3_limbs_long) := Exec_loop _ _ _
theorem ex0_limbs_long (e : Env) : Exec T l0_limbs_long e = andThen (Exec T w0_limbs_long (e.keep [0, 1, 5, 6, 7, 8, 9, 24, 100000])) (Exec T l0_limbs_long) := Exec_loop _ _ _
theorem run_limbs_long (xs : List PV) : Cinf T n_limbs_long xs = Run T a_limbs_long xs := Cinf_eq rfl fn_limbs_long
@[simp] theorem md_limbs_long : T.modes n_limbs_long = [true, false] := rfl
@[simp] theorem call_limbs_long (C : Oracle) (e : Env) (xs : List PV) : call T C e n_limbs_long xs = callK1 C n_limbs_long xs (moves e [] [true, false] xs) := call_modes md_limbs_long
theorem fn_limbs_down : T.fns n_limbs_down = some a_limbs_down := rfl
@[simp] theorem tl0_limbs_down (e : Env) : Exec T k0_limbs_down e = Exec T j0_limbs_down (e.keep [0, 1, 5, 6, 7, 9, 15, 17, 18, 21, 23, 24]) := Exec_tail _ _ _
@[simp] theorem tl1_limbs_down (e : Env) : Exec T k1_limbs_down e = Exec T j1_limbs_down (e.keep [0, 1, 5, 9, 15, 17, 18, 21, 23, 24]) := Exec_tail _ _ _
@[simp] theorem tl2_limbs_down (e : Env) : Exec T k2_limbs_down e = Exec T j2_limbs_down (e.keep [0, 1, 5, 9, 15, 17, 18, 21, 23, 24]) := Exec_tail _ _ _
@[simp] theorem tl3_limbs_down (e : Env) : Exec T k3_limbs_down e = Exec T j3_limbs_down (e.keep [5, 21]) := Exec_tail _ _ _
@[simp] theorem tl4_limbs_down (e : Env) : Exec T k4_limbs_down e = Exec T j4_limbs_down (e.keep [0, 1, 9, 15, 17, 18]) := Exec_tail _ _ _
theorem ex0_limbs_down (e : Env) : Exec T l0_limbs_down e = andThen (Exec T w0_limbs_down (e.keep [0, 1, 5, 9, 15, 17, 18, 21, 23, 24])) (Exec T l0_limbs_down) := Exec_loop _ _ _
theorem run_limbs_down (xs : List PV) : Cinf T n_limbs_down xs = Run T a_limbs_down xs := Cinf_eq rfl fn_limbs_down
@[simp] theorem md_limbs_down : T.modes n_limbs_down = [] := rfl
@[simp] theorem call_limbs_down (C : Oracle) (e : Env) (xs : List PV) : call T C e n_limbs_down xs = callK1 C n_limbs_down xs (moves e [] [] xs) := call_modes md_limbs_down
theorem fn_limbs_DivMod : T.fns n_limbs_DivMod = some a_limbs_DivMod := rfl
@[simp] theorem tl0_limbs_DivMod (e : Env) : Exec T k0_limbs_DivMod e = Exec T j0_limbs_DivMod (e.keep [0, 1, 7, 8, 9, 15, 17, 32]) := Exec_tail _ _ _
@[simp] theorem tl1_limbs_DivMod (e : Env) : Exec T k1_limbs_DivMod e = Exec T j1_limbs_DivMod (e.keep [0, 1, 7, 8, 9, 15, 17, 32]) := Exec_tail _ _ _
@[simp] theorem tl2_limbs_DivMod (e : Env) : Exec T k2_limbs_DivMod e = Exec T j2_limbs_DivMod (e.keep [7, 8, 32]) := Exec_tail _ _ _
@[simp] theorem tl3_limbs_DivMod (e : Env) : Exec T k3_limbs_DivMod e = Exec T j3_limbs_DivMod (e.keep [0, 10, 11, 12, 15, 77, 80, 88]) := Exec_tail _ _ _
@[simp] theorem tl4_limbs_DivMod (e : Env) : Exec T k4_limbs_DivMod e = Exec T j4_limbs_DivMod (e.keep [10, 11, 12, 77, 80, 88]) := Exec_tail _ _ _
@[simp] theorem tl5_limbs_DivMod (e : Env) : Exec T k5_limbs_DivMod e = Exec T j5_limbs_DivMod (e.keep [0, 1, 15, 17]) := Exec_tail _ _ _
@[simp] theorem tl6_limbs_DivMod (e : Env) : Exec T k6_limbs_DivMod e = Exec T j6_limbs_DivMod (e.keep [0, 1, 15, 17]) := Exec_tail _ _ _
@[simp] theorem tl7_limbs_DivMod (e : Env) : Exec T k7_limbs_DivMod e = Exec T j7_limbs_DivMod (e.keep [0, 1, 15, 17]) := Exec_tail _ _ _
theorem ex0_limbs_DivMod (e : Env) : Exec T l0_limbs_DivMod e = andThen (Exec T w0_limbs_DivMod (e.keep [0, 1, 7, 8, 9, 15, 17, 32])) (Exec T l0_limbs_DivMod) := Exec_loop _ _ _
theorem ex1_limbs_DivMod (e : Env) : Exec T l1_limbs_DivMod e = andThen (Exec T w1_limbs_DivMod (e.keep [0, 10, 11, 12, 15, 77, 80, 88])) (Exec T l1_limbs_DivMod) := Exec_loop _ _ _
theorem run_limbs_DivMod (xs : List PV) : Cinf T n_limbs_DivMod xs = Run T a_limbs_DivMod xs := Cinf_eq rfl fn_limbs_DivMod
@[simp] theorem md_limbs_DivMod : T.modes n_limbs_DivMod = [] := rfl
@[simp] theorem call_limbs_DivMod (C : Oracle) (e : Env) (xs : List PV) : call T C e n_limbs_DivMod xs = callK1 C n_limbs_DivMod xs (moves e [] [] xs) := call_modes md_limbs_DivMod
theorem fn_limbs_Add : T.fns n_limbs_Add = some a_limbs_Add := rfl
@[simp] theorem tl0_limbs_Add (e : Env) : Exec T k0_limbs_Add e = Exec T j0_limbs_Add (e.keep [0, 1, 5, 6, 13, 14, 18, 20, 21, 46]) := Exec_tail _ _ _
@[simp] theorem tl1_limbs_Add (e : Env) : Exec T k1_limbs_Add e = Exec T j1_limbs_Add (e.keep [0, 1, 5, 6, 13, 14, 18, 20, 21, 46]) := Exec_tail _ _ _
@[simp] theorem tl2_limbs_Add (e : Env) : Exec T k2_limbs_Add e = Exec T j2_limbs_Add (e.keep [0, 1, 5, 6, 13, 14, 18, 20, 21, 46]) := Exec_tail _ _ _
@[simp] theorem tl3_limbs_Add (e : Env) : Exec T k3_limbs_Add e = Exec T j3_limbs_Add (e.keep [5, 6, 18, 46]) := Exec_tail _ _ _
@[simp] theorem tl4_limbs_Add (e : Env) : Exec T k4_limbs_Add e = Exec T j4_limbs_Add (e.keep [0, 1, 13, 14]) := Exec_tail _ _ _
theorem ex0_limbs_Add (e : Env) : Exec T l0_limbs_Add e = andThen (Exec T w0_limbs_Add (e.keep [0, 1, 5, 6, 13, 14, 18, 20, 21, 46])) (Exec T l0_limbs_Add) := Exec_loop _ _ _
theorem run_limbs_Add (xs : List PV) : Cinf T n_limbs_Add xs = Run T a_limbs_Add xs := Cinf_eq rfl fn_limbs_Add
@[simp] theorem md_limbs_Add : T.modes n_limbs_Add = [] := rfl
@[simp] theorem call_limbs_Add (C : Oracle) (e : Env) (xs : List PV) : call T C e n_limbs_Add xs = callK1 C n_limbs_Add xs (moves e [] [] xs) := call_modes md_limbs_Add
theorem fn_limbs_Gcd : T.fns n_limbs_Gcd = some a_limbs_Gcd := rfl
@[simp] theorem tl0_limbs_Gcd (e : Env) : Exec T k0_limbs_Gcd e = Exec T j0_limbs_Gcd (e.keep [0, 1, 6, 9, 11, 15, 18, 20, 22, 23]) := Exec_tail _ _ _
@[simp] theorem tl1_limbs_Gcd (e : Env) : Exec T k1_limbs_Gcd e = Exec T j1_limbs_Gcd (e.keep [0, 1, 6, 9, 11, 15, 18, 20, 22, 23]) := Exec_tail _ _ _
theorem ex0_limbs_Gcd (e : Env) : Exec T l0_limbs_Gcd e = andThen (Exec T w0_limbs_Gcd (e.keep [0, 1, 6, 9, 11, 15, 18, 20, 22, 23])) (Exec T l0_limbs_Gcd) := Exec_loop _ _ _
theorem run_limbs_Gcd (xs : List PV) : Cinf T n_limbs_Gcd xs = Run T a_limbs_Gcd xs := Cinf_eq rfl fn_limbs_Gcd
@[simp] theorem md_limbs_Gcd : T.modes n_limbs_Gcd = [] := rfl
@[simp] theorem call_limbs_Gcd (C : Oracle) (e : Env) (xs : List PV) : call T C e n_limbs_Gcd xs = callK1 C n_limbs_Gcd xs (moves e [] [] xs) := call_modes md_limbs_Gcd
theorem fn_limbs_right : T.fns n_limbs_right = some a_limbs_right := rfl
@[simp] theorem tl0_limbs_right (e : Env) : Exec T k0_limbs_right e = Exec T j0_limbs_right (e.keep [0, 1, 2, 6]) := Exec_tail _ _ _
theorem run_limbs_right (xs : List PV) : Cinf T n_limbs_right xs = Run T a_limbs_right xs := Cinf_eq rfl fn_limbs_right
@[simp] theorem md_limbs_right : T.modes n_limbs_right = [] := rfl
@[simp] theorem call_limbs_right (C : Oracle) (e : Env) (xs : List PV) : call T C e n_limbs_right xs = callK1 C n_limbs_right xs (moves e [] [] xs) := call_modes md_limbs_right
theorem fn_limbs_Over : T.fns n_limbs_Over = some a_limbs_Over := rfl
@[simp] theorem tl0_limbs_Over (e : Env) : Exec T k0_limbs_Over e = Exec T j0_limbs_Over (e.keep [0, 1, 2, 6]) := Exec_tail _ _ _
theorem run_limbs_Over (xs : List PV) : Cinf T n_limbs_Over xs = Run T a_limbs_Over xs := Cinf_eq rfl fn_limbs_Over
@[simp] theorem md_limbs_Over : T.modes n_limbs_Over = [] := rfl
@[simp] theorem call_limbs_Over (C : Oracle) (e : Env) (xs : List PV) : call T C e n_limbs_Over xs = callK1 C n_limbs_Over xs (moves e [] [] xs) := call_modes md_limbs_Over
theorem fn_limbs_Write : T.fns n_limbs_Write = some a_limbs_Write := rfl
@[simp] theorem tl0_limbs_Write (e : Env) : Exec T k0_limbs_Write e = Exec T j0_limbs_Write (e.keep [6]) := Exec_tail _ _ _
@[simp] theorem tl1_limbs_Write (e : Env) : Exec T k1_limbs_Write e = Exec T j1_limbs_Write (e.keep [4, 6]) := Exec_tail _ _ _
@[simp] theorem tl2_limbs_Write (e : Env) : Exec T k2_limbs_Write e = Exec T j2_limbs_Write (e.keep [4]) := Exec_tail _ _ _
theorem run_limbs_Write (xs : List PV) : Cinf T n_limbs_Write xs = Run T a_limbs_Write xs := Cinf_eq rfl fn_limbs_Write
@[simp] theorem md_limbs_Write : T.modes n_limbs_Write = [] := rfl
@[simp] theorem call_limbs_Write (C : Oracle) (e : Env) (xs : List PV) : call T C e n_limbs_Write xs = callK1 C n_limbs_Write xs (moves e [] [] xs) := call_modes md_limbs_Write
theorem fn_thicketlaw01_lives : T.fns n_thicketlaw01_lives = some a_thicketlaw01_lives := rfl
theorem run_thicketlaw01_lives (xs : List PV) : Cinf T n_thicketlaw01_lives xs = Run T a_thicketlaw01_lives xs := Cinf_eq rfl fn_thicketlaw01_lives
@[simp] theorem md_thicketlaw01_lives : T.modes n_thicketlaw01_lives = [] := rfl
@[simp] theorem call_thicketlaw01_lives (C : Oracle) (e : Env) (xs : List PV) : call T C e n_thicketlaw01_lives xs = callK1 C n_thicketlaw01_lives xs (moves e [] [] xs) := call_modes md_thicketlaw01_lives
theorem fn_thicketref01_Same : T.fns n_thicketref01_Same = some a_thicketref01_Same := rfl
@[simp] theorem tl0_thicketref01_Same (e : Env) : Exec T k0_thicketref01_Same e = Exec T j0_thicketref01_Same (e.keep [0, 1, 12, 13]) := Exec_tail _ _ _
@[simp] theorem tl1_thicketref01_Same (e : Env) : Exec T k1_thicketref01_Same e = Exec T j1_thicketref01_Same (e.keep [0, 1, 12, 13]) := Exec_tail _ _ _
@[simp] theorem tl2_thicketref01_Same (e : Env) : Exec T k2_thicketref01_Same e = Exec T j2_thicketref01_Same (e.keep []) := Exec_tail _ _ _
@[simp] theorem tl3_thicketref01_Same (e : Env) : Exec T k3_thicketref01_Same e = Exec T j3_thicketref01_Same (e.keep [0, 1]) := Exec_tail _ _ _
theorem ex0_thicketref01_Same (e : Env) : Exec T l0_thicketref01_Same e = andThen (Exec T w0_thicketref01_Same (e.keep [0, 1, 12, 13])) (Exec T l0_thicketref01_Same) := Exec_loop _ _ _
theorem run_thicketref01_Same (xs : List PV) : Cinf T n_thicketref01_Same xs = Run T a_thicketref01_Same xs := Cinf_eq rfl fn_thicketref01_Same
@[simp] theorem md_thicketref01_Same : T.modes n_thicketref01_Same = [] := rfl
@[simp] theorem call_thicketref01_Same (C : Oracle) (e : Env) (xs : List PV) : call T C e n_thicketref01_Same xs = callK1 C n_thicketref01_Same xs (moves e [] [] xs) := call_modes md_thicketref01_Same
theorem fn_thicketref01_Cmp : T.fns n_thicketref01_Cmp = some a_thicketref01_Cmp := rfl
@[simp] theorem tl0_thicketref01_Cmp (e : Env) : Exec T k0_thicketref01_Cmp e = Exec T j0_thicketref01_Cmp (e.keep []) := Exec_tail _ _ _
@[simp] theorem tl1_thicketref01_Cmp (e : Env) : Exec T k1_thicketref01_Cmp e = Exec T j1_thicketref01_Cmp (e.keep [5, 6, 7, 9, 11]) := Exec_tail _ _ _
@[simp] theorem tl2_thicketref01_Cmp (e : Env) : Exec T k2_thicketref01_Cmp e = Exec T j2_thicketref01_Cmp (e.keep [5, 6, 7, 9, 11]) := Exec_tail _ _ _
@[simp] theorem tl3_thicketref01_Cmp (e : Env) : Exec T k3_thicketref01_Cmp e = Exec T j3_thicketref01_Cmp (e.keep [5, 6, 7, 9, 11]) := Exec_tail _ _ _
@[simp] theorem tl4_thicketref01_Cmp (e : Env) : Exec T k4_thicketref01_Cmp e = Exec T j4_thicketref01_Cmp (e.keep []) := Exec_tail _ _ _
@[simp] theorem tl5_thicketref01_Cmp (e : Env) : Exec T k5_thicketref01_Cmp e = Exec T j5_thicketref01_Cmp (e.keep [5, 6, 9, 11]) := Exec_tail _ _ _
theorem ex0_thicketref01_Cmp (e : Env) : Exec T l0_thicketref01_Cmp e = andThen (Exec T w0_thicketref01_Cmp (e.keep [5, 6, 7, 9, 11])) (Exec T l0_thicketref01_Cmp) := Exec_loop _ _ _
theorem run_thicketref01_Cmp (xs : List PV) : Cinf T n_thicketref01_Cmp xs = Run T a_thicketref01_Cmp xs := Cinf_eq rfl fn_thicketref01_Cmp
@[simp] theorem md_thicketref01_Cmp : T.modes n_thicketref01_Cmp = [] := rfl
@[simp] theorem call_thicketref01_Cmp (C : Oracle) (e : Env) (xs : List PV) : call T C e n_thicketref01_Cmp xs = callK1 C n_thicketref01_Cmp xs (moves e [] [] xs) := call_modes md_thicketref01_Cmp
theorem fn_thicketref01_Bit : T.fns n_thicketref01_Bit = some a_thicketref01_Bit := rfl
theorem run_thicketref01_Bit (xs : List PV) : Cinf T n_thicketref01_Bit xs = Run T a_thicketref01_Bit xs := Cinf_eq rfl fn_thicketref01_Bit
@[simp] theorem md_thicketref01_Bit : T.modes n_thicketref01_Bit = [] := rfl
@[simp] theorem call_thicketref01_Bit (C : Oracle) (e : Env) (xs : List PV) : call T C e n_thicketref01_Bit xs = callK1 C n_thicketref01_Bit xs (moves e [] [] xs) := call_modes md_thicketref01_Bit
theorem fn_thicketref01_Sub : T.fns n_thicketref01_Sub = some a_thicketref01_Sub := rfl
@[simp] theorem tl0_thicketref01_Sub (e : Env) : Exec T k0_thicketref01_Sub e = Exec T j0_thicketref01_Sub (e.keep [6, 7, 8, 9, 11, 17, 19, 21, 22, 51]) := Exec_tail _ _ _
@[simp] theorem tl1_thicketref01_Sub (e : Env) : Exec T k1_thicketref01_Sub e = Exec T j1_thicketref01_Sub (e.keep [6, 7, 8, 11, 17, 19, 21, 22, 51]) := Exec_tail _ _ _
@[simp] theorem tl2_thicketref01_Sub (e : Env) : Exec T k2_thicketref01_Sub e = Exec T j2_thicketref01_Sub (e.keep [6, 7, 8, 9, 17, 19, 21, 22, 51]) := Exec_tail _ _ _
@[simp] theorem tl3_thicketref01_Sub (e : Env) : Exec T k3_thicketref01_Sub e = Exec T j3_thicketref01_Sub (e.keep [6, 7, 8, 9, 17, 19, 21, 22, 51]) := Exec_tail _ _ _
@[simp] theorem tl4_thicketref01_Sub (e : Env) : Exec T k4_thicketref01_Sub e = Exec T j4_thicketref01_Sub (e.keep [8, 51]) := Exec_tail _ _ _
@[simp] theorem tl5_thicketref01_Sub (e : Env) : Exec T k5_thicketref01_Sub e = Exec T j5_thicketref01_Sub (e.keep [0, 1]) := Exec_tail _ _ _
theorem ex0_thicketref01_Sub (e : Env) : Exec T l0_thicketref01_Sub e = andThen (Exec T w0_thicketref01_Sub (e.keep [6, 7, 8, 9, 17, 19, 21, 22, 51])) (Exec T l0_thicketref01_Sub) := Exec_loop _ _ _
theorem run_thicketref01_Sub (xs : List PV) : Cinf T n_thicketref01_Sub xs = Run T a_thicketref01_Sub xs := Cinf_eq rfl fn_thicketref01_Sub
@[simp] theorem md_thicketref01_Sub : T.modes n_thicketref01_Sub = [] := rfl
@[simp] theorem call_thicketref01_Sub (C : Oracle) (e : Env) (xs : List PV) : call T C e n_thicketref01_Sub xs = callK1 C n_thicketref01_Sub xs (moves e [] [] xs) := call_modes md_thicketref01_Sub
theorem fn_thicketref01_double : T.fns n_thicketref01_double = some a_thicketref01_double := rfl
@[simp] theorem tl0_thicketref01_double (e : Env) : Exec T k0_thicketref01_double e = Exec T j0_thicketref01_double (e.keep [0, 5, 6, 10, 11, 12, 22]) := Exec_tail _ _ _
@[simp] theorem tl1_thicketref01_double (e : Env) : Exec T k1_thicketref01_double e = Exec T j1_thicketref01_double (e.keep [0, 5, 6, 10, 11, 12, 22]) := Exec_tail _ _ _
@[simp] theorem tl2_thicketref01_double (e : Env) : Exec T k2_thicketref01_double e = Exec T j2_thicketref01_double (e.keep [5, 6, 22]) := Exec_tail _ _ _
@[simp] theorem tl3_thicketref01_double (e : Env) : Exec T k3_thicketref01_double e = Exec T j3_thicketref01_double (e.keep [0, 5, 6, 22]) := Exec_tail _ _ _
theorem ex0_thicketref01_double (e : Env) : Exec T l0_thicketref01_double e = andThen (Exec T w0_thicketref01_double (e.keep [0, 5, 6, 10, 11, 12, 22])) (Exec T l0_thicketref01_double) := Exec_loop _ _ _
theorem run_thicketref01_double (xs : List PV) : Cinf T n_thicketref01_double xs = Run T a_thicketref01_double xs := Cinf_eq rfl fn_thicketref01_double
@[simp] theorem md_thicketref01_double : T.modes n_thicketref01_double = [] := rfl
@[simp] theorem call_thicketref01_double (C : Oracle) (e : Env) (xs : List PV) : call T C e n_thicketref01_double xs = callK1 C n_thicketref01_double xs (moves e [] [] xs) := call_modes md_thicketref01_double
theorem fn_thicketref01_DivMod : T.fns n_thicketref01_DivMod = some a_thicketref01_DivMod := rfl
@[simp] theorem tl0_thicketref01_DivMod (e : Env) : Exec T k0_thicketref01_DivMod e = Exec T j0_thicketref01_DivMod (e.keep [7, 8, 9, 10, 11, 15, 17, 23]) := Exec_tail _ _ _
@[simp] theorem tl1_thicketref01_DivMod (e : Env) : Exec T k1_thicketref01_DivMod e = Exec T j1_thicketref01_DivMod (e.keep [7, 8, 9, 10, 11, 15, 17, 23]) := Exec_tail _ _ _
@[simp] theorem tl2_thicketref01_DivMod (e : Env) : Exec T k2_thicketref01_DivMod e = Exec T j2_thicketref01_DivMod (e.keep [9, 10, 23]) := Exec_tail _ _ _
@[simp] theorem tl3_thicketref01_DivMod (e : Env) : Exec T k3_thicketref01_DivMod e = Exec T j3_thicketref01_DivMod (e.keep [7, 8, 9, 12, 13, 15, 17, 23, 74, 79, 82, 83]) := Exec_tail _ _ _
@[simp] theorem tl4_thicketref01_DivMod (e : Env) : Exec T k4_thicketref01_DivMod e = Exec T j4_thicketref01_DivMod (e.keep [7, 8, 9, 12, 13, 15, 17, 23, 74, 79, 82, 83]) := Exec_tail _ _ _
@[simp] theorem tl5_thicketref01_DivMod (e : Env) : Exec T k5_thicketref01_DivMod e = Exec T j5_thicketref01_DivMod (e.keep [9, 12, 23, 74, 79, 82, 83]) := Exec_tail _ _ _
@[simp] theorem tl6_thicketref01_DivMod (e : Env) : Exec T k6_thicketref01_DivMod e = Exec T j6_thicketref01_DivMod (e.keep [7, 8, 9, 15, 17, 23]) := Exec_tail _ _ _
@[simp] theorem tl7_thicketref01_DivMod (e : Env) : Exec T k7_thicketref01_DivMod e = Exec T j7_thicketref01_DivMod (e.keep [7, 8, 15, 17]) := Exec_tail _ _ _
theorem ex0_thicketref01_DivMod (e : Env) : Exec T l0_thicketref01_DivMod e = andThen (Exec T w0_thicketref01_DivMod (e.keep [7, 8, 9, 10, 11, 15, 17, 23])) (Exec T l0_thicketref01_DivMod) := Exec_loop _ _ _
theorem ex1_thicketref01_DivMod (e : Env) : Exec T l1_thicketref01_DivMod e = andThen (Exec T w1_thicketref01_DivMod (e.keep [7, 8, 9, 12, 13, 15, 17, 23, 74, 79, 82, 83])) (Exec T l1_thicketref01_DivMod) := Exec_loop _ _ _
theorem run_thicketref01_DivMod (xs : List PV) : Cinf T n_thicketref01_DivMod xs = Run T a_thicketref01_DivMod xs := Cinf_eq rfl fn_thicketref01_DivMod
@[simp] theorem md_thicketref01_DivMod : T.modes n_thicketref01_DivMod = [] := rfl
@[simp] theorem call_thicketref01_DivMod (C : Oracle) (e : Env) (xs : List PV) : call T C e n_thicketref01_DivMod xs = callK1 C n_thicketref01_DivMod xs (moves e [] [] xs) := call_modes md_thicketref01_DivMod
theorem fn_thicketref01_Small : T.fns n_thicketref01_Small = some a_thicketref01_Small := rfl
@[simp] theorem tl0_thicketref01_Small (e : Env) : Exec T k0_thicketref01_Small e = Exec T j0_thicketref01_Small (e.keep [4, 5, 6, 8]) := Exec_tail _ _ _
@[simp] theorem tl1_thicketref01_Small (e : Env) : Exec T k1_thicketref01_Small e = Exec T j1_thicketref01_Small (e.keep [4, 5, 6, 8]) := Exec_tail _ _ _
@[simp] theorem tl2_thicketref01_Small (e : Env) : Exec T k2_thicketref01_Small e = Exec T j2_thicketref01_Small (e.keep [5]) := Exec_tail _ _ _
@[simp] theorem tl3_thicketref01_Small (e : Env) : Exec T k3_thicketref01_Small e = Exec T j3_thicketref01_Small (e.keep [4, 8]) := Exec_tail _ _ _
theorem ex0_thicketref01_Small (e : Env) : Exec T l0_thicketref01_Small e = andThen (Exec T w0_thicketref01_Small (e.keep [4, 5, 6, 8])) (Exec T l0_thicketref01_Small) := Exec_loop _ _ _
theorem run_thicketref01_Small (xs : List PV) : Cinf T n_thicketref01_Small xs = Run T a_thicketref01_Small xs := Cinf_eq rfl fn_thicketref01_Small
@[simp] theorem md_thicketref01_Small : T.modes n_thicketref01_Small = [] := rfl
@[simp] theorem call_thicketref01_Small (C : Oracle) (e : Env) (xs : List PV) : call T C e n_thicketref01_Small xs = callK1 C n_thicketref01_Small xs (moves e [] [] xs) := call_modes md_thicketref01_Small
theorem fn_thicketref01_Print : T.fns n_thicketref01_Print = some a_thicketref01_Print := rfl
@[simp] theorem tl0_thicketref01_Print (e : Env) : Exec T k0_thicketref01_Print e = Exec T j0_thicketref01_Print (e.keep [3, 4, 5, 8, 10, 14, 21, 24, 25, 33, 53]) := Exec_tail _ _ _
@[simp] theorem tl1_thicketref01_Print (e : Env) : Exec T k1_thicketref01_Print e = Exec T j1_thicketref01_Print (e.keep [3, 4, 5, 8, 10, 14, 21, 24, 25, 33, 53]) := Exec_tail _ _ _
@[simp] theorem tl2_thicketref01_Print (e : Env) : Exec T k2_thicketref01_Print e = Exec T j2_thicketref01_Print (e.keep [3, 4, 5, 14, 21, 24, 25, 33, 53]) := Exec_tail _ _ _
@[simp] theorem tl3_thicketref01_Print (e : Env) : Exec T k3_thicketref01_Print e = Exec T j3_thicketref01_Print (e.keep [4, 11, 12, 53, 69]) := Exec_tail _ _ _
@[simp] theorem tl4_thicketref01_Print (e : Env) : Exec T k4_thicketref01_Print e = Exec T j4_thicketref01_Print (e.keep [4, 11, 12, 53, 69]) := Exec_tail _ _ _
@[simp] theorem tl5_thicketref01_Print (e : Env) : Exec T k5_thicketref01_Print e = Exec T j5_thicketref01_Print (e.keep [11, 69]) := Exec_tail _ _ _
@[simp] theorem tl6_thicketref01_Print (e : Env) : Exec T k6_thicketref01_Print e = Exec T j6_thicketref01_Print (e.keep [4, 53]) := Exec_tail _ _ _
@[simp] theorem tl7_thicketref01_Print (e : Env) : Exec T k7_thicketref01_Print e = Exec T j7_thicketref01_Print (e.keep [3, 5, 14, 21, 24, 25, 33]) := Exec_tail _ _ _
theorem ex1_thicketref01_Print (e : Env) : Exec T l1_thicketref01_Print e = andThen (Exec T w1_thicketref01_Print (e.keep [3, 4, 5, 8, 10, 14, 21, 24, 25, 33, 53])) (Exec T l1_thicketref01_Print) := Exec_loop _ _ _
theorem ex0_thicketref01_Print (e : Env) : Exec T l0_thicketref01_Print e = andThen (Exec T w0_thicketref01_Print (e.keep [3, 4, 5, 14, 21, 24, 25, 33, 53])) (Exec T l0_thicketref01_Print) := Exec_loop _ _ _
theorem ex2_thicketref01_Print (e : Env) : Exec T l2_thicketref01_Print e = andThen (Exec T w2_thicketref01_Print (e.keep [4, 11, 12, 53, 69])) (Exec T l2_thicketref01_Print) := Exec_loop _ _ _
theorem run_thicketref01_Print (xs : List PV) : Cinf T n_thicketref01_Print xs = Run T a_thicketref01_Print xs := Cinf_eq rfl fn_thicketref01_Print
@[simp] theorem md_thicketref01_Print : T.modes n_thicketref01_Print = [] := rfl
@[simp] theorem call_thicketref01_Print (C : Oracle) (e : Env) (xs : List PV) : call T C e n_thicketref01_Print xs = callK1 C n_thicketref01_Print xs (moves e [] [] xs) := call_modes md_thicketref01_Print
theorem fn_thicketlaw01_LimbsReads : T.fns n_thicketlaw01_LimbsReads = some a_thicketlaw01_LimbsReads := rfl
theorem run_thicketlaw01_LimbsReads (xs : List PV) : Cinf T n_thicketlaw01_LimbsReads xs = Run T a_thicketlaw01_LimbsReads xs := Cinf_eq rfl fn_thicketlaw01_LimbsReads
@[simp] theorem md_thicketlaw01_LimbsReads : T.modes n_thicketlaw01_LimbsReads = [] := rfl
@[simp] theorem call_thicketlaw01_LimbsReads (C : Oracle) (e : Env) (xs : List PV) : call T C e n_thicketlaw01_LimbsReads xs = callK1 C n_thicketlaw01_LimbsReads xs (moves e [] [] xs) := call_modes md_thicketlaw01_LimbsReads
theorem fn_thicketref01_Gcd : T.fns n_thicketref01_Gcd = some a_thicketref01_Gcd := rfl
@[simp] theorem tl0_thicketref01_Gcd (e : Env) : Exec T k0_thicketref01_Gcd e = Exec T j0_thicketref01_Gcd (e.keep [5, 6, 8, 11, 13, 17, 20, 22, 24, 25]) := Exec_tail _ _ _
@[simp] theorem tl1_thicketref01_Gcd (e : Env) : Exec T k1_thicketref01_Gcd e = Exec T j1_thicketref01_Gcd (e.keep [5, 6, 8, 11, 13, 17, 20, 22, 24, 25]) := Exec_tail _ _ _
theorem ex0_thicketref01_Gcd (e : Env) : Exec T l0_thicketref01_Gcd e = andThen (Exec T w0_thicketref01_Gcd (e.keep [5, 6, 8, 11, 13, 17, 20, 22, 24, 25])) (Exec T l0_thicketref01_Gcd) := Exec_loop _ _ _
theorem run_thicketref01_Gcd (xs : List PV) : Cinf T n_thicketref01_Gcd xs = Run T a_thicketref01_Gcd xs := Cinf_eq rfl fn_thicketref01_Gcd
@[simp] theorem md_thicketref01_Gcd : T.modes n_thicketref01_Gcd = [] := rfl
@[simp] theorem call_thicketref01_Gcd (C : Oracle) (e : Env) (xs : List PV) : call T C e n_thicketref01_Gcd xs = callK1 C n_thicketref01_Gcd xs (moves e [] [] xs) := call_modes md_thicketref01_Gcd
theorem fn_thicketlaw01_LimbsParts : T.fns n_thicketlaw01_LimbsParts = some a_thicketlaw01_LimbsParts := rfl
theorem run_thicketlaw01_LimbsParts (xs : List PV) : Cinf T n_thicketlaw01_LimbsParts xs = Run T a_thicketlaw01_LimbsParts xs := Cinf_eq rfl fn_thicketlaw01_LimbsParts
@[simp] theorem md_thicketlaw01_LimbsParts : T.modes n_thicketlaw01_LimbsParts = [] := rfl
@[simp] theorem call_thicketlaw01_LimbsParts (C : Oracle) (e : Env) (xs : List PV) : call T C e n_thicketlaw01_LimbsParts xs = callK1 C n_thicketlaw01_LimbsParts xs (moves e [] [] xs) := call_modes md_thicketlaw01_LimbsParts
theorem fn_limbs_Small : T.fns n_limbs_Small = some a_limbs_Small := rfl
@[simp] theorem tl0_limbs_Small (e : Env) : Exec T k0_limbs_Small e = Exec T j0_limbs_Small (e.keep [0, 4, 7, 12, 13]) := Exec_tail _ _ _
@[simp] theorem tl1_limbs_Small (e : Env) : Exec T k1_limbs_Small e = Exec T j1_limbs_Small (e.keep [0, 4, 7, 12, 13]) := Exec_tail _ _ _
@[simp] theorem tl2_limbs_Small (e : Env) : Exec T k2_limbs_Small e = Exec T j2_limbs_Small (e.keep [4]) := Exec_tail _ _ _
@[simp] theorem tl3_limbs_Small (e : Env) : Exec T k3_limbs_Small e = Exec T j3_limbs_Small (e.keep [0, 4, 7]) := Exec_tail _ _ _
theorem ex0_limbs_Small (e : Env) : Exec T l0_limbs_Small e = andThen (Exec T w0_limbs_Small (e.keep [0, 4, 7, 12, 13])) (Exec T l0_limbs_Small) := Exec_loop _ _ _
theorem run_limbs_Small (xs : List PV) : Cinf T n_limbs_Small xs = Run T a_limbs_Small xs := Cinf_eq rfl fn_limbs_Small
@[simp] theorem md_limbs_Small : T.modes n_limbs_Small = [] := rfl
@[simp] theorem call_limbs_Small (C : Oracle) (e : Env) (xs : List PV) : call T C e n_limbs_Small xs = callK1 C n_limbs_Small xs (moves e [] [] xs) := call_modes md_limbs_Small
theorem fn_limbs_Len : T.fns n_limbs_Len = some a_limbs_Len := rfl
@[simp] theorem tl0_limbs_Len (e : Env) : Exec T k0_limbs_Len e = Exec T j0_limbs_Len (e.keep [0, 4]) := Exec_tail _ _ _
theorem run_limbs_Len (xs : List PV) : Cinf T n_limbs_Len xs = Run T a_limbs_Len xs := Cinf_eq rfl fn_limbs_Len
@[simp] theorem md_limbs_Len : T.modes n_limbs_Len = [] := rfl
@[simp] theorem call_limbs_Len (C : Oracle) (e : Env) (xs : List PV) : call T C e n_limbs_Len xs = callK1 C n_limbs_Len xs (moves e [] [] xs) := call_modes md_limbs_Len
theorem fn_thicketref01_Len : T.fns n_thicketref01_Len = some a_thicketref01_Len := rfl
@[simp] theorem tl0_thicketref01_Len (e : Env) : Exec T k0_thicketref01_Len e = Exec T j0_thicketref01_Len (e.keep [4, 5]) := Exec_tail _ _ _
@[simp] theorem tl1_thicketref01_Len (e : Env) : Exec T k1_thicketref01_Len e = Exec T j1_thicketref01_Len (e.keep [4, 5]) := Exec_tail _ _ _
@[simp] theorem tl2_thicketref01_Len (e : Env) : Exec T k2_thicketref01_Len e = Exec T j2_thicketref01_Len (e.keep [4]) := Exec_tail _ _ _
@[simp] theorem tl3_thicketref01_Len (e : Env) : Exec T k3_thicketref01_Len e = Exec T j3_thicketref01_Len (e.keep [3, 7]) := Exec_tail _ _ _
theorem ex0_thicketref01_Len (e : Env) : Exec T l0_thicketref01_Len e = andThen (Exec T w0_thicketref01_Len (e.keep [4, 5])) (Exec T l0_thicketref01_Len) := Exec_loop _ _ _
theorem run_thicketref01_Len (xs : List PV) : Cinf T n_thicketref01_Len xs = Run T a_thicketref01_Len xs := Cinf_eq rfl fn_thicketref01_Len
@[simp] theorem md_thicketref01_Len : T.modes n_thicketref01_Len = [] := rfl
@[simp] theorem call_thicketref01_Len (C : Oracle) (e : Env) (xs : List PV) : call T C e n_thicketref01_Len xs = callK1 C n_thicketref01_Len xs (moves e [] [] xs) := call_modes md_thicketref01_Len
theorem fn_limbs_Bit : T.fns n_limbs_Bit = some a_limbs_Bit := rfl
theorem run_limbs_Bit (xs : List PV) : Cinf T n_limbs_Bit xs = Run T a_limbs_Bit xs := Cinf_eq rfl fn_limbs_Bit
@[simp] theorem md_limbs_Bit : T.modes n_limbs_Bit = [] := rfl
@[simp] theorem call_limbs_Bit (C : Oracle) (e : Env) (xs : List PV) : call T C e n_limbs_Bit xs = callK1 C n_limbs_Bit xs (moves e [] [] xs) := call_modes md_limbs_Bit
theorem fn_thicketlaw01_LimbsForms : T.fns n_thicketlaw01_LimbsForms = some a_thicketlaw01_LimbsForms := rfl
theorem run_thicketlaw01_LimbsForms (xs : List PV) : Cinf T n_thicketlaw01_LimbsForms xs = Run T a_thicketlaw01_LimbsForms xs := Cinf_eq rfl fn_thicketlaw01_LimbsForms
@[simp] theorem md_thicketlaw01_LimbsForms : T.modes n_thicketlaw01_LimbsForms = [] := rfl
@[simp] theorem call_thicketlaw01_LimbsForms (C : Oracle) (e : Env) (xs : List PV) : call T C e n_thicketlaw01_LimbsForms xs = callK1 C n_thicketlaw01_LimbsForms xs (moves e [] [] xs) := call_modes md_thicketlaw01_LimbsForms
theorem fn_limbs_sub : T.fns n_limbs_sub = some a_limbs_sub := rfl
@[simp] theorem tl0_limbs_sub (e : Env) : Exec T k0_limbs_sub e = Exec T j0_limbs_sub (e.keep [1, 5, 6, 7, 8, 10, 12, 13]) := Exec_tail _ _ _
@[simp] theorem tl1_limbs_sub (e : Env) : Exec T k1_limbs_sub e = Exec T j1_limbs_sub (e.keep [1, 5, 6, 10, 12, 13]) := Exec_tail _ _ _
@[simp] theorem tl2_limbs_sub (e : Env) : Exec T k2_limbs_sub e = Exec T j2_limbs_sub (e.keep [1, 5, 6, 10, 12, 13]) := Exec_tail _ _ _
@[simp] theorem tl3_limbs_sub (e : Env) : Exec T k3_limbs_sub e = Exec T j3_limbs_sub (e.keep [5, 10]) := Exec_tail _ _ _
theorem ex0_limbs_sub (e : Env) : Exec T l0_limbs_sub e = andThen (Exec T w0_limbs_sub (e.keep [1, 5, 6, 10, 12, 13])) (Exec T l0_limbs_sub) := Exec_loop _ _ _
theorem run_limbs_sub (xs : List PV) : Cinf T n_limbs_sub xs = Run T a_limbs_sub xs := Cinf_eq rfl fn_limbs_sub
@[simp] theorem md_limbs_sub : T.modes n_limbs_sub = [] := rfl
@[simp] theorem call_limbs_sub (C : Oracle) (e : Env) (xs : List PV) : call T C e n_limbs_sub xs = callK1 C n_limbs_sub xs (moves e [] [] xs) := call_modes md_limbs_sub
theorem fn_limbs_Sub : T.fns n_limbs_Sub = some a_limbs_Sub := rfl
@[simp] theorem tl0_limbs_Sub (e : Env) : Exec T k0_limbs_Sub e = Exec T j0_limbs_Sub (e.keep [0, 1, 7, 9]) := Exec_tail _ _ _
theorem run_limbs_Sub (xs : List PV) : Cinf T n_limbs_Sub xs = Run T a_limbs_Sub xs := Cinf_eq rfl fn_limbs_Sub
@[simp] theorem md_limbs_Sub : T.modes n_limbs_Sub = [] := rfl
@[simp] theorem call_limbs_Sub (C : Oracle) (e : Env) (xs : List PV) : call T C e n_limbs_Sub xs = callK1 C n_limbs_Sub xs (moves e [] [] xs) := call_modes md_limbs_Sub
theorem fn_limbs_Mul : T.fns n_limbs_Mul = some a_limbs_Mul := rfl
@[simp] theorem tl0_limbs_Mul (e : Env) : Exec T k0_limbs_Mul e = Exec T j0_limbs_Mul (e.keep [0, 1, 5, 6, 7, 10, 12, 18, 20, 21, 25, 26]) := Exec_tail _ _ _
@[simp] theorem tl1_limbs_Mul (e : Env) : Exec T k1_limbs_Mul e = Exec T j1_limbs_Mul (e.keep [0, 1, 5, 6, 7, 10, 12, 18, 20, 21, 25, 26]) := Exec_tail _ _ _
@[simp] theorem tl2_limbs_Mul (e : Env) : Exec T k2_limbs_Mul e = Exec T j2_limbs_Mul (e.keep [0, 1, 5, 6, 7, 10, 12, 18, 20, 21]) := Exec_tail _ _ _
@[simp] theorem tl3_limbs_Mul (e : Env) : Exec T k3_limbs_Mul e = Exec T j3_limbs_Mul (e.keep [0, 1, 5, 10, 12, 18, 20, 21]) := Exec_tail _ _ _
@[simp] theorem tl4_limbs_Mul (e : Env) : Exec T k4_limbs_Mul e = Exec T j4_limbs_Mul (e.keep [0, 1, 5, 10, 12, 18, 20, 21]) := Exec_tail _ _ _
@[simp] theorem tl5_limbs_Mul (e : Env) : Exec T k5_limbs_Mul e = Exec T j5_limbs_Mul (e.keep [5, 18]) := Exec_tail _ _ _
theorem ex1_limbs_Mul (e : Env) : Exec T l1_limbs_Mul e = andThen (Exec T w1_limbs_Mul (e.keep [0, 1, 5, 6, 7, 10, 12, 18, 20, 21, 25, 26])) (Exec T l1_limbs_Mul) := Exec_loop _ _ _
theorem ex0_limbs_Mul (e : Env) : Exec T l0_limbs_Mul e = andThen (Exec T w0_limbs_Mul (e.keep [0, 1, 5, 10, 12, 18, 20, 21])) (Exec T l0_limbs_Mul) := Exec_loop _ _ _
theorem run_limbs_Mul (xs : List PV) : Cinf T n_limbs_Mul xs = Run T a_limbs_Mul xs := Cinf_eq rfl fn_limbs_Mul
@[simp] theorem md_limbs_Mul : T.modes n_limbs_Mul = [] := rfl
@[simp] theorem call_limbs_Mul (C : Oracle) (e : Env) (xs : List PV) : call T C e n_limbs_Mul xs = callK1 C n_limbs_Mul xs (moves e [] [] xs) := call_modes md_limbs_Mul
theorem fn_thicketlaw01_LimbsSums : T.fns n_thicketlaw01_LimbsSums = some a_thicketlaw01_LimbsSums := rfl
theorem run_thicketlaw01_LimbsSums (xs : List PV) : Cinf T n_thicketlaw01_LimbsSums xs = Run T a_thicketlaw01_LimbsSums xs := Cinf_eq rfl fn_thicketlaw01_LimbsSums
@[simp] theorem md_thicketlaw01_LimbsSums : T.modes n_thicketlaw01_LimbsSums = [] := rfl
@[simp] theorem call_thicketlaw01_LimbsSums (C : Oracle) (e : Env) (xs : List PV) : call T C e n_thicketlaw01_LimbsSums xs = callK1 C n_thicketlaw01_LimbsSums xs (moves e [] [] xs) := call_modes md_thicketlaw01_LimbsSums
theorem fn_thicketlaw01_LimbsLaws : T.fns n_thicketlaw01_LimbsLaws = some a_thicketlaw01_LimbsLaws := rfl
@[simp] theorem tl0_thicketlaw01_LimbsLaws (e : Env) : Exec T k0_thicketlaw01_LimbsLaws e = Exec T j0_thicketlaw01_LimbsLaws (e.keep [0]) := Exec_tail _ _ _
@[simp] theorem tl1_thicketlaw01_LimbsLaws (e : Env) : Exec T k1_thicketlaw01_LimbsLaws e = Exec T j1_thicketlaw01_LimbsLaws (e.keep [0, 1, 8, 9, 10, 79, 82, 83, 84]) := Exec_tail _ _ _
@[simp] theorem tl2_thicketlaw01_LimbsLaws (e : Env) : Exec T k2_thicketlaw01_LimbsLaws e = Exec T j2_thicketlaw01_LimbsLaws (e.keep [0, 1]) := Exec_tail _ _ _
@[simp] theorem tl3_thicketlaw01_LimbsLaws (e : Env) : Exec T k3_thicketlaw01_LimbsLaws e = Exec T j3_thicketlaw01_LimbsLaws (e.keep [0, 1]) := Exec_tail _ _ _
@[simp] theorem tl4_thicketlaw01_LimbsLaws (e : Env) : Exec T k4_thicketlaw01_LimbsLaws e = Exec T j4_thicketlaw01_LimbsLaws (e.keep [0, 1, 2]) := Exec_tail _ _ _
theorem run_thicketlaw01_LimbsLaws (xs : List PV) : Cinf T n_thicketlaw01_LimbsLaws xs = Run T a_thicketlaw01_LimbsLaws xs := Cinf_eq rfl fn_thicketlaw01_LimbsLaws
@[simp] theorem md_thicketlaw01_LimbsLaws : T.modes n_thicketlaw01_LimbsLaws = [] := rfl
@[simp] theorem call_thicketlaw01_LimbsLaws (C : Oracle) (e : Env) (xs : List PV) : call T C e n_thicketlaw01_LimbsLaws xs = callK1 C n_thicketlaw01_LimbsLaws xs (moves e [] [] xs) := call_modes md_thicketlaw01_LimbsLaws
theorem fn_limbs_Pow : T.fns n_limbs_Pow = some a_limbs_Pow := rfl
@[simp] theorem tl0_limbs_Pow (e : Env) : Exec T k0_limbs_Pow e = Exec T j0_limbs_Pow (e.keep [0, 1, 6, 7, 19, 26, 34]) := Exec_tail _ _ _
@[simp] theorem tl1_limbs_Pow (e : Env) : Exec T k1_limbs_Pow e = Exec T j1_limbs_Pow (e.keep [0, 1, 6, 7, 19, 26, 34]) := Exec_tail _ _ _
@[simp] theorem tl2_limbs_Pow (e : Env) : Exec T k2_limbs_Pow e = Exec T j2_limbs_Pow (e.keep [6, 19, 26, 34]) := Exec_tail _ _ _
@[simp] theorem tl3_limbs_Pow (e : Env) : Exec T k3_limbs_Pow e = Exec T j3_limbs_Pow (e.keep [0, 1]) := Exec_tail _ _ _
@[simp] theorem tl4_limbs_Pow (e : Env) : Exec T k4_limbs_Pow e = Exec T j4_limbs_Pow (e.keep [0, 1]) := Exec_tail _ _ _
theorem ex0_limbs_Pow (e : Env) : Exec T l0_limbs_Pow e = andThen (Exec T w0_limbs_Pow (e.keep [0, 1, 6, 7, 19, 26, 34])) (Exec T l0_limbs_Pow) := Exec_loop _ _ _
theorem run_limbs_Pow (xs : List PV) : Cinf T n_limbs_Pow xs = Run T a_limbs_Pow xs := Cinf_eq rfl fn_limbs_Pow
@[simp] theorem md_limbs_Pow : T.modes n_limbs_Pow = [] := rfl
@[simp] theorem call_limbs_Pow (C : Oracle) (e : Env) (xs : List PV) : call T C e n_limbs_Pow xs = callK1 C n_limbs_Pow xs (moves e [] [] xs) := call_modes md_limbs_Pow
theorem fn_thicketref01_Pow : T.fns n_thicketref01_Pow = some a_thicketref01_Pow := rfl
@[simp] theorem tl0_thicketref01_Pow (e : Env) : Exec T k0_thicketref01_Pow e = Exec T j0_thicketref01_Pow (e.keep [0, 1, 6, 7, 19, 36]) := Exec_tail _ _ _
@[simp] theorem tl1_thicketref01_Pow (e : Env) : Exec T k1_thicketref01_Pow e = Exec T j1_thicketref01_Pow (e.keep [0, 1, 6, 7, 19, 36]) := Exec_tail _ _ _
@[simp] theorem tl2_thicketref01_Pow (e : Env) : Exec T k2_thicketref01_Pow e = Exec T j2_thicketref01_Pow (e.keep [6, 19, 36]) := Exec_tail _ _ _
@[simp] theorem tl3_thicketref01_Pow (e : Env) : Exec T k3_thicketref01_Pow e = Exec T j3_thicketref01_Pow (e.keep [0, 1, 6, 19, 36]) := Exec_tail _ _ _
@[simp] theorem tl4_thicketref01_Pow (e : Env) : Exec T k4_thicketref01_Pow e = Exec T j4_thicketref01_Pow (e.keep [0, 1]) := Exec_tail _ _ _
@[simp] theorem tl5_thicketref01_Pow (e : Env) : Exec T k5_thicketref01_Pow e = Exec T j5_thicketref01_Pow (e.keep [0, 1]) := Exec_tail _ _ _
theorem ex0_thicketref01_Pow (e : Env) : Exec T l0_thicketref01_Pow e = andThen (Exec T w0_thicketref01_Pow (e.keep [0, 1, 6, 7, 19, 36])) (Exec T l0_thicketref01_Pow) := Exec_loop _ _ _
theorem run_thicketref01_Pow (xs : List PV) : Cinf T n_thicketref01_Pow xs = Run T a_thicketref01_Pow xs := Cinf_eq rfl fn_thicketref01_Pow
@[simp] theorem md_thicketref01_Pow : T.modes n_thicketref01_Pow = [] := rfl
@[simp] theorem call_thicketref01_Pow (C : Oracle) (e : Env) (xs : List PV) : call T C e n_thicketref01_Pow xs = callK1 C n_thicketref01_Pow xs (moves e [] [] xs) := call_modes md_thicketref01_Pow
theorem fn_limbs_Up : T.fns n_limbs_Up = some a_limbs_Up := rfl
@[simp] theorem tl0_limbs_Up (e : Env) : Exec T k0_limbs_Up e = Exec T j0_limbs_Up (e.keep [0, 1]) := Exec_tail _ _ _
theorem run_limbs_Up (xs : List PV) : Cinf T n_limbs_Up xs = Run T a_limbs_Up xs := Cinf_eq rfl fn_limbs_Up
@[simp] theorem md_limbs_Up : T.modes n_limbs_Up = [] := rfl
@[simp] theorem call_limbs_Up (C : Oracle) (e : Env) (xs : List PV) : call T C e n_limbs_Up xs = callK1 C n_limbs_Up xs (moves e [] [] xs) := call_modes md_limbs_Up
theorem fn_thicketref01_Up : T.fns n_thicketref01_Up = some a_thicketref01_Up := rfl
@[simp] theorem tl0_thicketref01_Up (e : Env) : Exec T k0_thicketref01_Up e = Exec T j0_thicketref01_Up (e.keep [0, 1, 6, 7, 19, 20, 21, 22, 39]) := Exec_tail _ _ _
@[simp] theorem tl1_thicketref01_Up (e : Env) : Exec T k1_thicketref01_Up e = Exec T j1_thicketref01_Up (e.keep [0, 1, 6, 7, 19, 20, 21, 22, 39]) := Exec_tail _ _ _
@[simp] theorem tl2_thicketref01_Up (e : Env) : Exec T k2_thicketref01_Up e = Exec T j2_thicketref01_Up (e.keep [6, 7, 19, 39]) := Exec_tail _ _ _
@[simp] theorem tl3_thicketref01_Up (e : Env) : Exec T k3_thicketref01_Up e = Exec T j3_thicketref01_Up (e.keep [0, 1]) := Exec_tail _ _ _
theorem ex0_thicketref01_Up (e : Env) : Exec T l0_thicketref01_Up e = andThen (Exec T w0_thicketref01_Up (e.keep [0, 1, 6, 7, 19, 20, 21, 22, 39])) (Exec T l0_thicketref01_Up) := Exec_loop _ _ _
theorem run_thicketref01_Up (xs : List PV) : Cinf T n_thicketref01_Up xs = Run T a_thicketref01_Up xs := Cinf_eq rfl fn_thicketref01_Up
@[simp] theorem md_thicketref01_Up : T.modes n_thicketref01_Up = [] := rfl
@[simp] theorem call_thicketref01_Up (C : Oracle) (e : Env) (xs : List PV) : call T C e n_thicketref01_Up xs = callK1 C n_thicketref01_Up xs (moves e [] [] xs) := call_modes md_thicketref01_Up
theorem fn_limbs_Down : T.fns n_limbs_Down = some a_limbs_Down := rfl
@[simp] theorem tl0_limbs_Down (e : Env) : Exec T k0_limbs_Down e = Exec T j0_limbs_Down (e.keep [0, 1]) := Exec_tail _ _ _
theorem run_limbs_Down (xs : List PV) : Cinf T n_limbs_Down xs = Run T a_limbs_Down xs := Cinf_eq rfl fn_limbs_Down
@[simp] theorem md_limbs_Down : T.modes n_limbs_Down = [] := rfl
@[simp] theorem call_limbs_Down (C : Oracle) (e : Env) (xs : List PV) : call T C e n_limbs_Down xs = callK1 C n_limbs_Down xs (moves e [] [] xs) := call_modes md_limbs_Down
theorem fn_thicketref01_Down : T.fns n_thicketref01_Down = some a_thicketref01_Down := rfl
@[simp] theorem tl0_thicketref01_Down (e : Env) : Exec T k0_thicketref01_Down e = Exec T j0_thicketref01_Down (e.keep [0, 1, 6, 7, 8, 51]) := Exec_tail _ _ _
@[simp] theorem tl1_thicketref01_Down (e : Env) : Exec T k1_thicketref01_Down e = Exec T j1_thicketref01_Down (e.keep [0, 1, 6, 7, 51]) := Exec_tail _ _ _
@[simp] theorem tl2_thicketref01_Down (e : Env) : Exec T k2_thicketref01_Down e = Exec T j2_thicketref01_Down (e.keep [0, 1, 6, 7, 51]) := Exec_tail _ _ _
@[simp] theorem tl3_thicketref01_Down (e : Env) : Exec T k3_thicketref01_Down e = Exec T j3_thicketref01_Down (e.keep [6, 51]) := Exec_tail _ _ _
@[simp] theorem tl4_thicketref01_Down (e : Env) : Exec T k4_thicketref01_Down e = Exec T j4_thicketref01_Down (e.keep [0, 1]) := Exec_tail _ _ _
theorem ex0_thicketref01_Down (e : Env) : Exec T l0_thicketref01_Down e = andThen (Exec T w0_thicketref01_Down (e.keep [0, 1, 6, 7, 51])) (Exec T l0_thicketref01_Down) := Exec_loop _ _ _
theorem run_thicketref01_Down (xs : List PV) : Cinf T n_thicketref01_Down xs = Run T a_thicketref01_Down xs := Cinf_eq rfl fn_thicketref01_Down
@[simp] theorem md_thicketref01_Down : T.modes n_thicketref01_Down = [] := rfl
@[simp] theorem call_thicketref01_Down (C : Oracle) (e : Env) (xs : List PV) : call T C e n_thicketref01_Down xs = callK1 C n_thicketref01_Down xs (moves e [] [] xs) := call_modes md_thicketref01_Down
theorem fn_thicketlaw01_LimbsPowers : T.fns n_thicketlaw01_LimbsPowers = some a_thicketlaw01_LimbsPowers := rfl
@[simp] theorem tl0_thicketlaw01_LimbsPowers (e : Env) : Exec T k0_thicketlaw01_LimbsPowers e = Exec T j0_thicketlaw01_LimbsPowers (e.keep [0, 2]) := Exec_tail _ _ _
@[simp] theorem tl1_thicketlaw01_LimbsPowers (e : Env) : Exec T k1_thicketlaw01_LimbsPowers e = Exec T j1_thicketlaw01_LimbsPowers (e.keep [0, 2]) := Exec_tail _ _ _
theorem run_thicketlaw01_LimbsPowers (xs : List PV) : Cinf T n_thicketlaw01_LimbsPowers xs = Run T a_thicketlaw01_LimbsPowers xs := Cinf_eq rfl fn_thicketlaw01_LimbsPowers
@[simp] theorem md_thicketlaw01_LimbsPowers : T.modes n_thicketlaw01_LimbsPowers = [] := rfl
@[simp] theorem call_thicketlaw01_LimbsPowers (C : Oracle) (e : Env) (xs : List PV) : call T C e n_thicketlaw01_LimbsPowers xs = callK1 C n_thicketlaw01_LimbsPowers xs (moves e [] [] xs) := call_modes md_thicketlaw01_LimbsPowers
theorem fn_thicketlaw01_copied : T.fns n_thicketlaw01_copied = some a_thicketlaw01_copied := rfl
theorem run_thicketlaw01_copied (xs : List PV) : Cinf T n_thicketlaw01_copied xs = Run T a_thicketlaw01_copied xs := Cinf_eq rfl fn_thicketlaw01_copied
@[simp] theorem md_thicketlaw01_copied : T.modes n_thicketlaw01_copied = [] := rfl
@[simp] theorem call_thicketlaw01_copied (C : Oracle) (e : Env) (xs : List PV) : call T C e n_thicketlaw01_copied xs = callK1 C n_thicketlaw01_copied xs (moves e [] [] xs) := call_modes md_thicketlaw01_copied
theorem fn_thicketlaw01_ratio : T.fns n_thicketlaw01_ratio = some a_thicketlaw01_ratio := rfl
theorem run_thicketlaw01_ratio (xs : List PV) : Cinf T n_thicketlaw01_ratio xs = Run T a_thicketlaw01_ratio xs := Cinf_eq rfl fn_thicketlaw01_ratio
@[simp] theorem md_thicketlaw01_ratio : T.modes n_thicketlaw01_ratio = [] := rfl
@[simp] theorem call_thicketlaw01_ratio (C : Oracle) (e : Env) (xs : List PV) : call T C e n_thicketlaw01_ratio xs = callK1 C n_thicketlaw01_ratio xs (moves e [] [] xs) := call_modes md_thicketlaw01_ratio
theorem fn_thicketref01_Over : T.fns n_thicketref01_Over = some a_thicketref01_Over := rfl
@[simp] theorem tl0_thicketref01_Over (e : Env) : Exec T k0_thicketref01_Over e = Exec T j0_thicketref01_Over (e.keep [0, 1, 2, 6]) := Exec_tail _ _ _
@[simp] theorem tl1_thicketref01_Over (e : Env) : Exec T k1_thicketref01_Over e = Exec T j1_thicketref01_Over (e.keep [0, 1, 2, 6]) := Exec_tail _ _ _
theorem run_thicketref01_Over (xs : List PV) : Cinf T n_thicketref01_Over xs = Run T a_thicketref01_Over xs := Cinf_eq rfl fn_thicketref01_Over
@[simp] theorem md_thicketref01_Over : T.modes n_thicketref01_Over = [] := rfl
@[simp] theorem call_thicketref01_Over (C : Oracle) (e : Env) (xs : List PV) : call T C e n_thicketref01_Over xs = callK1 C n_thicketref01_Over xs (moves e [] [] xs) := call_modes md_thicketref01_Over
theorem fn_thicketref01_Alike : T.fns n_thicketref01_Alike = some a_thicketref01_Alike := rfl
theorem run_thicketref01_Alike (xs : List PV) : Cinf T n_thicketref01_Alike xs = Run T a_thicketref01_Alike xs := Cinf_eq rfl fn_thicketref01_Alike
@[simp] theorem md_thicketref01_Alike : T.modes n_thicketref01_Alike = [] := rfl
@[simp] theorem call_thicketref01_Alike (C : Oracle) (e : Env) (xs : List PV) : call T C e n_thicketref01_Alike xs = callK1 C n_thicketref01_Alike xs (moves e [] [] xs) := call_modes md_thicketref01_Alike
theorem fn_thicketlaw01_LimbsOwn : T.fns n_thicketlaw01_LimbsOwn = some a_thicketlaw01_LimbsOwn := rfl
@[simp] theorem tl0_thicketlaw01_LimbsOwn (e : Env) : Exec T k0_thicketlaw01_LimbsOwn e = Exec T j0_thicketlaw01_LimbsOwn (e.keep [0, 1, 5, 7, 8, 24, 25, 45, 47, 98]) := Exec_tail _ _ _
@[simp] theorem tl1_thicketlaw01_LimbsOwn (e : Env) : Exec T k1_thicketlaw01_LimbsOwn e = Exec T j1_thicketlaw01_LimbsOwn (e.keep [0, 1, 5, 7, 8, 24, 25, 45, 47, 98]) := Exec_tail _ _ _
@[simp] theorem tl2_thicketlaw01_LimbsOwn (e : Env) : Exec T k2_thicketlaw01_LimbsOwn e = Exec T j2_thicketlaw01_LimbsOwn (e.keep [0, 1, 5, 7, 8, 24, 25, 27, 45, 47, 108, 114, 115]) := Exec_tail _ _ _
@[simp] theorem tl3_thicketlaw01_LimbsOwn (e : Env) : Exec T k3_thicketlaw01_LimbsOwn e = Exec T j3_thicketlaw01_LimbsOwn (e.keep [0, 1, 5, 7, 8, 24, 25, 27, 45, 47, 108, 114, 115]) := Exec_tail _ _ _
@[simp] theorem tl4_thicketlaw01_LimbsOwn (e : Env) : Exec T k4_thicketlaw01_LimbsOwn e = Exec T j4_thicketlaw01_LimbsOwn (e.keep [0, 1, 5, 7, 8, 24, 25, 45, 47, 108]) := Exec_tail _ _ _
@[simp] theorem tl5_thicketlaw01_LimbsOwn (e : Env) : Exec T k5_thicketlaw01_LimbsOwn e = Exec T j5_thicketlaw01_LimbsOwn (e.keep [0, 1, 5, 7, 8, 24, 25, 45, 47, 108]) := Exec_tail _ _ _
@[simp] theorem tl6_thicketlaw01_LimbsOwn (e : Env) : Exec T k6_thicketlaw01_LimbsOwn e = Exec T j6_thicketlaw01_LimbsOwn (e.keep [0, 1, 5, 7, 8, 24, 25, 29, 30, 45, 47, 132]) := Exec_tail _ _ _
@[simp] theorem tl7_thicketlaw01_LimbsOwn (e : Env) : Exec T k7_thicketlaw01_LimbsOwn e = Exec T j7_thicketlaw01_LimbsOwn (e.keep [0, 1, 5, 7, 8, 24, 25, 29, 30, 45, 47, 132]) := Exec_tail _ _ _
@[simp] theorem tl8_thicketlaw01_LimbsOwn (e : Env) : Exec T k8_thicketlaw01_LimbsOwn e = Exec T j8_thicketlaw01_LimbsOwn (e.keep [0, 1, 5, 7, 8, 24, 25, 45, 47, 132]) := Exec_tail _ _ _
@[simp] theorem tl9_thicketlaw01_LimbsOwn (e : Env) : Exec T k9_thicketlaw01_LimbsOwn e = Exec T j9_thicketlaw01_LimbsOwn (e.keep [0, 1, 5, 7, 8, 24, 25, 45, 47, 132]) := Exec_tail _ _ _
@[simp] theorem tl10_thicketlaw01_LimbsOwn (e : Env) : Exec T k10_thicketlaw01_LimbsOwn e = Exec T j10_thicketlaw01_LimbsOwn (e.keep [0, 1, 5, 7, 8, 24, 25, 31, 45, 47, 147, 153, 154]) := Exec_tail _ _ _
@[simp] theorem tl11_thicketlaw01_LimbsOwn (e : Env) : Exec T k11_thicketlaw01_LimbsOwn e = Exec T j11_thicketlaw01_LimbsOwn (e.keep [0, 1, 5, 7, 8, 24, 25, 31, 45, 47, 147, 153, 154]) := Exec_tail _ _ _
@[simp] theorem tl12_thicketlaw01_LimbsOwn (e : Env) : Exec T k12_thicketlaw01_LimbsOwn e = Exec T j12_thicketlaw01_LimbsOwn (e.keep [0, 1, 5, 7, 8, 24, 25, 45, 47, 147]) := Exec_tail _ _ _
@[simp] theorem tl13_thicketlaw01_LimbsOwn (e : Env) : Exec T k13_thicketlaw01_LimbsOwn e = Exec T j13_thicketlaw01_LimbsOwn (e.keep [0, 1, 5, 7, 8, 24, 25, 45, 47, 147]) := Exec_tail _ _ _
@[simp] theorem tl14_thicketlaw01_LimbsOwn (e : Env) : Exec T k14_thicketlaw01_LimbsOwn e = Exec T j14_thicketlaw01_LimbsOwn (e.keep [5, 33, 34, 207, 208]) := Exec_tail _ _ _
@[simp] theorem tl15_thicketlaw01_LimbsOwn (e : Env) : Exec T k15_thicketlaw01_LimbsOwn e = Exec T j15_thicketlaw01_LimbsOwn (e.keep [5, 33, 34, 207, 208]) := Exec_tail _ _ _
@[simp] theorem tl16_thicketlaw01_LimbsOwn (e : Env) : Exec T k16_thicketlaw01_LimbsOwn e = Exec T j16_thicketlaw01_LimbsOwn (e.keep [5, 33, 34, 218, 219]) := Exec_tail _ _ _
@[simp] theorem tl17_thicketlaw01_LimbsOwn (e : Env) : Exec T k17_thicketlaw01_LimbsOwn e = Exec T j17_thicketlaw01_LimbsOwn (e.keep [5, 33, 34, 218, 219]) := Exec_tail _ _ _
@[simp] theorem tl18_thicketlaw01_LimbsOwn (e : Env) : Exec T k18_thicketlaw01_LimbsOwn e = Exec T j18_thicketlaw01_LimbsOwn (e.keep [5, 33, 34]) := Exec_tail _ _ _
@[simp] theorem tl19_thicketlaw01_LimbsOwn (e : Env) : Exec T k19_thicketlaw01_LimbsOwn e = Exec T j19_thicketlaw01_LimbsOwn (e.keep [5, 33, 34]) := Exec_tail _ _ _
@[simp] theorem tl20_thicketlaw01_LimbsOwn (e : Env) : Exec T k20_thicketlaw01_LimbsOwn e = Exec T j20_thicketlaw01_LimbsOwn (e.keep [5, 33, 34]) := Exec_tail _ _ _
@[simp] theorem tl21_thicketlaw01_LimbsOwn (e : Env) : Exec T k21_thicketlaw01_LimbsOwn e = Exec T j21_thicketlaw01_LimbsOwn (e.keep [5]) := Exec_tail _ _ _
@[simp] theorem tl22_thicketlaw01_LimbsOwn (e : Env) : Exec T k22_thicketlaw01_LimbsOwn e = Exec T j22_thicketlaw01_LimbsOwn (e.keep [0, 1, 5, 7, 8, 45, 47]) := Exec_tail _ _ _
@[simp] theorem tl23_thicketlaw01_LimbsOwn (e : Env) : Exec T k23_thicketlaw01_LimbsOwn e = Exec T j23_thicketlaw01_LimbsOwn (e.keep [0, 1, 5, 7, 8, 24, 25, 45, 47]) := Exec_tail _ _ _
@[simp] theorem tl24_thicketlaw01_LimbsOwn (e : Env) : Exec T k24_thicketlaw01_LimbsOwn e = Exec T j24_thicketlaw01_LimbsOwn (e.keep [0, 1, 5, 7, 8, 24, 25, 45, 47]) := Exec_tail _ _ _
@[simp] theorem tl25_thicketlaw01_LimbsOwn (e : Env) : Exec T k25_thicketlaw01_LimbsOwn e = Exec T j25_thicketlaw01_LimbsOwn (e.keep [0, 1, 5, 7, 8, 24, 25, 45, 47]) := Exec_tail _ _ _
@[simp] theorem tl26_thicketlaw01_LimbsOwn (e : Env) : Exec T k26_thicketlaw01_LimbsOwn e = Exec T j26_thicketlaw01_LimbsOwn (e.keep [0, 1, 5]) := Exec_tail _ _ _
theorem ex0_thicketlaw01_LimbsOwn (e : Env) : Exec T l0_thicketlaw01_LimbsOwn e = andThen (Exec T w0_thicketlaw01_LimbsOwn (e.keep [0, 1, 5, 7, 8, 24, 25, 45, 47, 98])) (Exec T l0_thicketlaw01_LimbsOwn) := Exec_loop _ _ _
theorem ex2_thicketlaw01_LimbsOwn (e : Env) : Exec T l2_thicketlaw01_LimbsOwn e = andThen (Exec T w2_thicketlaw01_LimbsOwn (e.keep [0, 1, 5, 7, 8, 24, 25, 27, 45, 47, 108, 114, 115])) (Exec T l2_thicketlaw01_LimbsOwn) := Exec_loop _ _ _
theorem ex1_thicketlaw01_LimbsOwn (e : Env) : Exec T l1_thicketlaw01_LimbsOwn e = andThen (Exec T w1_thicketlaw01_LimbsOwn (e.keep [0, 1, 5, 7, 8, 24, 25, 45, 47, 108])) (Exec T l1_thicketlaw01_LimbsOwn) := Exec_loop _ _ _
theorem ex4_thicketlaw01_LimbsOwn (e : Env) : Exec T l4_thicketlaw01_LimbsOwn e = andThen (Exec T w4_thicketlaw01_LimbsOwn (e.keep [0, 1, 5, 7, 8, 24, 25, 29, 30, 45, 47, 132])) (Exec T l4_thicketlaw01_LimbsOwn) := Exec_loop _ _ _
theorem ex3_thicketlaw01_LimbsOwn (e : Env) : Exec T l3_thicketlaw01_LimbsOwn e = andThen (Exec T w3_thicketlaw01_LimbsOwn (e.keep [0, 1, 5, 7, 8, 24, 25, 45, 47, 132])) (Exec T l3_thicketlaw01_LimbsOwn) := Exec_loop _ _ _
theorem ex6_thicketlaw01_LimbsOwn (e : Env) : Exec T l6_thicketlaw01_LimbsOwn e = andThen (Exec T w6_thicketlaw01_LimbsOwn (e.keep [0, 1, 5, 7, 8, 24, 25, 31, 45, 47, 147, 153, 154])) (Exec T l6_thicketlaw01_LimbsOwn) := Exec_loop _ _ _
theorem ex5_thicketlaw01_LimbsOwn (e : Env) : Exec T l5_thicketlaw01_LimbsOwn e = andThen (Exec T w5_thicketlaw01_LimbsOwn (e.keep [0, 1, 5, 7, 8, 24, 25, 45, 47, 147])) (Exec T l5_thicketlaw01_LimbsOwn) := Exec_loop _ _ _
theorem ex7_thicketlaw01_LimbsOwn (e : Env) : Exec T l7_thicketlaw01_LimbsOwn e = andThen (Exec T w7_thicketlaw01_LimbsOwn (e.keep [5, 33, 34, 207, 208])) (Exec T l7_thicketlaw01_LimbsOwn) := Exec_loop _ _ _
theorem ex8_thicketlaw01_LimbsOwn (e : Env) : Exec T l8_thicketlaw01_LimbsOwn e = andThen (Exec T w8_thicketlaw01_LimbsOwn (e.keep [5, 33, 34, 218, 219])) (Exec T l8_thicketlaw01_LimbsOwn) := Exec_loop _ _ _
theorem run_thicketlaw01_LimbsOwn (xs : List PV) : Cinf T n_thicketlaw01_LimbsOwn xs = Run T a_thicketlaw01_LimbsOwn xs := Cinf_eq rfl fn_thicketlaw01_LimbsOwn
@[simp] theorem md_thicketlaw01_LimbsOwn : T.modes n_thicketlaw01_LimbsOwn = [] := rfl
@[simp] theorem call_thicketlaw01_LimbsOwn (C : Oracle) (e : Env) (xs : List PV) : call T C e n_thicketlaw01_LimbsOwn xs = callK1 C n_thicketlaw01_LimbsOwn xs (moves e [] [] xs) := call_modes md_thicketlaw01_LimbsOwn
theorem fn_limbs_Whole : T.fns n_limbs_Whole = some a_limbs_Whole := rfl
@[simp] theorem tl0_limbs_Whole (e : Env) : Exec T k0_limbs_Whole e = Exec T j0_limbs_Whole (e.keep [0, 2, 3]) := Exec_tail _ _ _
theorem run_limbs_Whole (xs : List PV) : Cinf T n_limbs_Whole xs = Run T a_limbs_Whole xs := Cinf_eq rfl fn_limbs_Whole
@[simp] theorem md_limbs_Whole : T.modes n_limbs_Whole = [] := rfl
@[simp] theorem call_limbs_Whole (C : Oracle) (e : Env) (xs : List PV) : call T C e n_limbs_Whole xs = callK1 C n_limbs_Whole xs (moves e [] [] xs) := call_modes md_limbs_Whole
theorem fn_thicketref01_Whole : T.fns n_thicketref01_Whole = some a_thicketref01_Whole := rfl
@[simp] theorem tl0_thicketref01_Whole (e : Env) : Exec T k0_thicketref01_Whole e = Exec T j0_thicketref01_Whole (e.keep [0, 2]) := Exec_tail _ _ _
theorem run_thicketref01_Whole (xs : List PV) : Cinf T n_thicketref01_Whole xs = Run T a_thicketref01_Whole xs := Cinf_eq rfl fn_thicketref01_Whole
@[simp] theorem md_thicketref01_Whole : T.modes n_thicketref01_Whole = [] := rfl
@[simp] theorem call_thicketref01_Whole (C : Oracle) (e : Env) (xs : List PV) : call T C e n_thicketref01_Whole xs = callK1 C n_thicketref01_Whole xs (moves e [] [] xs) := call_modes md_thicketref01_Whole
theorem fn_limbs_both : T.fns n_limbs_both = some a_limbs_both := rfl
@[simp] theorem tl0_limbs_both (e : Env) : Exec T k0_limbs_both e = Exec T j0_limbs_both (e.keep [3, 4, 5, 7]) := Exec_tail _ _ _
theorem run_limbs_both (xs : List PV) : Cinf T n_limbs_both xs = Run T a_limbs_both xs := Cinf_eq rfl fn_limbs_both
@[simp] theorem md_limbs_both : T.modes n_limbs_both = [] := rfl
@[simp] theorem call_limbs_both (C : Oracle) (e : Env) (xs : List PV) : call T C e n_limbs_both xs = callK1 C n_limbs_both xs (moves e [] [] xs) := call_modes md_limbs_both
theorem fn_limbs_Plus : T.fns n_limbs_Plus = some a_limbs_Plus := rfl
@[simp] theorem tl0_limbs_Plus (e : Env) : Exec T k0_limbs_Plus e = Exec T j0_limbs_Plus (e.keep [4, 6, 7]) := Exec_tail _ _ _
theorem run_limbs_Plus (xs : List PV) : Cinf T n_limbs_Plus xs = Run T a_limbs_Plus xs := Cinf_eq rfl fn_limbs_Plus
@[simp] theorem md_limbs_Plus : T.modes n_limbs_Plus = [] := rfl
@[simp] theorem call_limbs_Plus (C : Oracle) (e : Env) (xs : List PV) : call T C e n_limbs_Plus xs = callK1 C n_limbs_Plus xs (moves e [] [] xs) := call_modes md_limbs_Plus
theorem fn_limbs_Minus : T.fns n_limbs_Minus = some a_limbs_Minus := rfl
theorem run_limbs_Minus (xs : List PV) : Cinf T n_limbs_Minus xs = Run T a_limbs_Minus xs := Cinf_eq rfl fn_limbs_Minus
@[simp] theorem md_limbs_Minus : T.modes n_limbs_Minus = [] := rfl
@[simp] theorem call_limbs_Minus (C : Oracle) (e : Env) (xs : List PV) : call T C e n_limbs_Minus xs = callK1 C n_limbs_Minus xs (moves e [] [] xs) := call_modes md_limbs_Minus
theorem fn_limbs_Times : T.fns n_limbs_Times = some a_limbs_Times := rfl
@[simp] theorem tl0_limbs_Times (e : Env) : Exec T k0_limbs_Times e = Exec T j0_limbs_Times (e.keep [4, 6, 7]) := Exec_tail _ _ _
theorem run_limbs_Times (xs : List PV) : Cinf T n_limbs_Times xs = Run T a_limbs_Times xs := Cinf_eq rfl fn_limbs_Times
@[simp] theorem md_limbs_Times : T.modes n_limbs_Times = [] := rfl
@[simp] theorem call_limbs_Times (C : Oracle) (e : Env) (xs : List PV) : call T C e n_limbs_Times xs = callK1 C n_limbs_Times xs (moves e [] [] xs) := call_modes md_limbs_Times
theorem fn_limbs_By : T.fns n_limbs_By = some a_limbs_By := rfl
@[simp] theorem tl0_limbs_By (e : Env) : Exec T k0_limbs_By e = Exec T j0_limbs_By (e.keep [4, 6, 7]) := Exec_tail _ _ _
theorem run_limbs_By (xs : List PV) : Cinf T n_limbs_By xs = Run T a_limbs_By xs := Cinf_eq rfl fn_limbs_By
@[simp] theorem md_limbs_By : T.modes n_limbs_By = [] := rfl
@[simp] theorem call_limbs_By (C : Oracle) (e : Env) (xs : List PV) : call T C e n_limbs_By xs = callK1 C n_limbs_By xs (moves e [] [] xs) := call_modes md_limbs_By
theorem fn_thicketref01_Plus : T.fns n_thicketref01_Plus = some a_thicketref01_Plus := rfl
@[simp] theorem tl0_thicketref01_Plus (e : Env) : Exec T k0_thicketref01_Plus e = Exec T j0_thicketref01_Plus (e.keep [3, 4, 6, 7, 8, 28, 33, 38]) := Exec_tail _ _ _
@[simp] theorem tl1_thicketref01_Plus (e : Env) : Exec T k1_thicketref01_Plus e = Exec T j1_thicketref01_Plus (e.keep [2, 3, 4, 6, 7, 8, 28, 33, 38]) := Exec_tail _ _ _
@[simp] theorem tl2_thicketref01_Plus (e : Env) : Exec T k2_thicketref01_Plus e = Exec T j2_thicketref01_Plus (e.keep [2, 3, 4]) := Exec_tail _ _ _
theorem run_thicketref01_Plus (xs : List PV) : Cinf T n_thicketref01_Plus xs = Run T a_thicketref01_Plus xs := Cinf_eq rfl fn_thicketref01_Plus
@[simp] theorem md_thicketref01_Plus : T.modes n_thicketref01_Plus = [] := rfl
@[simp] theorem call_thicketref01_Plus (C : Oracle) (e : Env) (xs : List PV) : call T C e n_thicketref01_Plus xs = callK1 C n_thicketref01_Plus xs (moves e [] [] xs) := call_modes md_thicketref01_Plus
theorem fn_thicketref01_Minus : T.fns n_thicketref01_Minus = some a_thicketref01_Minus := rfl
theorem run_thicketref01_Minus (xs : List PV) : Cinf T n_thicketref01_Minus xs = Run T a_thicketref01_Minus xs := Cinf_eq rfl fn_thicketref01_Minus
@[simp] theorem md_thicketref01_Minus : T.modes n_thicketref01_Minus = [] := rfl
@[simp] theorem call_thicketref01_Minus (C : Oracle) (e : Env) (xs : List PV) : call T C e n_thicketref01_Minus xs = callK1 C n_thicketref01_Minus xs (moves e [] [] xs) := call_modes md_thicketref01_Minus
theorem fn_thicketref01_Times : T.fns n_thicketref01_Times = some a_thicketref01_Times := rfl
@[simp] theorem tl0_thicketref01_Times (e : Env) : Exec T k0_thicketref01_Times e = Exec T j0_thicketref01_Times (e.keep [2, 3, 4]) := Exec_tail _ _ _
theorem run_thicketref01_Times (xs : List PV) : Cinf T n_thicketref01_Times xs = Run T a_thicketref01_Times xs := Cinf_eq rfl fn_thicketref01_Times
@[simp] theorem md_thicketref01_Times : T.modes n_thicketref01_Times = [] := rfl
@[simp] theorem call_thicketref01_Times (C : Oracle) (e : Env) (xs : List PV) : call T C e n_thicketref01_Times xs = callK1 C n_thicketref01_Times xs (moves e [] [] xs) := call_modes md_thicketref01_Times
theorem fn_thicketref01_By : T.fns n_thicketref01_By = some a_thicketref01_By := rfl
@[simp] theorem tl0_thicketref01_By (e : Env) : Exec T k0_thicketref01_By e = Exec T j0_thicketref01_By (e.keep [2, 3, 4]) := Exec_tail _ _ _
theorem run_thicketref01_By (xs : List PV) : Cinf T n_thicketref01_By xs = Run T a_thicketref01_By xs := Cinf_eq rfl fn_thicketref01_By
@[simp] theorem md_thicketref01_By : T.modes n_thicketref01_By = [] := rfl
@[simp] theorem call_thicketref01_By (C : Oracle) (e : Env) (xs : List PV) : call T C e n_thicketref01_By xs = callK1 C n_thicketref01_By xs (moves e [] [] xs) := call_modes md_thicketref01_By
theorem fn_limbs_Order : T.fns n_limbs_Order = some a_limbs_Order := rfl
@[simp] theorem tl0_limbs_Order (e : Env) : Exec T k0_limbs_Order e = Exec T j0_limbs_Order (e.keep []) := Exec_tail _ _ _
theorem run_limbs_Order (xs : List PV) : Cinf T n_limbs_Order xs = Run T a_limbs_Order xs := Cinf_eq rfl fn_limbs_Order
@[simp] theorem md_limbs_Order : T.modes n_limbs_Order = [] := rfl
@[simp] theorem call_limbs_Order (C : Oracle) (e : Env) (xs : List PV) : call T C e n_limbs_Order xs = callK1 C n_limbs_Order xs (moves e [] [] xs) := call_modes md_limbs_Order
theorem fn_thicketref01_Order : T.fns n_thicketref01_Order = some a_thicketref01_Order := rfl
@[simp] theorem tl0_thicketref01_Order (e : Env) : Exec T k0_thicketref01_Order e = Exec T j0_thicketref01_Order (e.keep []) := Exec_tail _ _ _
@[simp] theorem tl1_thicketref01_Order (e : Env) : Exec T k1_thicketref01_Order e = Exec T j1_thicketref01_Order (e.keep [6]) := Exec_tail _ _ _
theorem run_thicketref01_Order (xs : List PV) : Cinf T n_thicketref01_Order xs = Run T a_thicketref01_Order xs := Cinf_eq rfl fn_thicketref01_Order
@[simp] theorem md_thicketref01_Order : T.modes n_thicketref01_Order = [] := rfl
@[simp] theorem call_thicketref01_Order (C : Oracle) (e : Env) (xs : List PV) : call T C e n_thicketref01_Order xs = callK1 C n_thicketref01_Order xs (moves e [] [] xs) := call_modes md_thicketref01_Order
theorem fn_thicketlaw01_LimbsRatios : T.fns n_thicketlaw01_LimbsRatios = some a_thicketlaw01_LimbsRatios := rfl
@[simp] theorem tl0_thicketlaw01_LimbsRatios (e : Env) : Exec T k0_thicketlaw01_LimbsRatios e = Exec T j0_thicketlaw01_LimbsRatios (e.keep [3, 4]) := Exec_tail _ _ _
@[simp] theorem tl1_thicketlaw01_LimbsRatios (e : Env) : Exec T k1_thicketlaw01_LimbsRatios e = Exec T j1_thicketlaw01_LimbsRatios (e.keep [3, 4]) := Exec_tail _ _ _
@[simp] theorem tl2_thicketlaw01_LimbsRatios (e : Env) : Exec T k2_thicketlaw01_LimbsRatios e = Exec T j2_thicketlaw01_LimbsRatios (e.keep [3, 4]) := Exec_tail _ _ _
theorem run_thicketlaw01_LimbsRatios (xs : List PV) : Cinf T n_thicketlaw01_LimbsRatios xs = Run T a_thicketlaw01_LimbsRatios xs := Cinf_eq rfl fn_thicketlaw01_LimbsRatios
@[simp] theorem md_thicketlaw01_LimbsRatios : T.modes n_thicketlaw01_LimbsRatios = [] := rfl
@[simp] theorem call_thicketlaw01_LimbsRatios (C : Oracle) (e : Env) (xs : List PV) : call T C e n_thicketlaw01_LimbsRatios xs = callK1 C n_thicketlaw01_LimbsRatios xs (moves e [] [] xs) := call_modes md_thicketlaw01_LimbsRatios
theorem fn_thicketlaw01_LimbsField : T.fns n_thicketlaw01_LimbsField = some a_thicketlaw01_LimbsField := rfl
@[simp] theorem tl0_thicketlaw01_LimbsField (e : Env) : Exec T k0_thicketlaw01_LimbsField e = Exec T j0_thicketlaw01_LimbsField (e.keep [7, 9, 23, 27]) := Exec_tail _ _ _
@[simp] theorem tl1_thicketlaw01_LimbsField (e : Env) : Exec T k1_thicketlaw01_LimbsField e = Exec T j1_thicketlaw01_LimbsField (e.keep [7, 9, 23]) := Exec_tail _ _ _
@[simp] theorem tl2_thicketlaw01_LimbsField (e : Env) : Exec T k2_thicketlaw01_LimbsField e = Exec T j2_thicketlaw01_LimbsField (e.keep [7, 9]) := Exec_tail _ _ _
@[simp] theorem tl3_thicketlaw01_LimbsField (e : Env) : Exec T k3_thicketlaw01_LimbsField e = Exec T j3_thicketlaw01_LimbsField (e.keep [7, 9, 11]) := Exec_tail _ _ _
@[simp] theorem tl4_thicketlaw01_LimbsField (e : Env) : Exec T k4_thicketlaw01_LimbsField e = Exec T j4_thicketlaw01_LimbsField (e.keep [3, 4, 5]) := Exec_tail _ _ _
theorem run_thicketlaw01_LimbsField (xs : List PV) : Cinf T n_thicketlaw01_LimbsField xs = Run T a_thicketlaw01_LimbsField xs := Cinf_eq rfl fn_thicketlaw01_LimbsField
@[simp] theorem md_thicketlaw01_LimbsField : T.modes n_thicketlaw01_LimbsField = [] := rfl
@[simp] theorem call_thicketlaw01_LimbsField (C : Oracle) (e : Env) (xs : List PV) : call T C e n_thicketlaw01_LimbsField xs = callK1 C n_thicketlaw01_LimbsField xs (moves e [] [] xs) := call_modes md_thicketlaw01_LimbsField
theorem fn_thicketref01_Write : T.fns n_thicketref01_Write = some a_thicketref01_Write := rfl
@[simp] theorem tl0_thicketref01_Write (e : Env) : Exec T k0_thicketref01_Write e = Exec T j0_thicketref01_Write (e.keep [6]) := Exec_tail _ _ _
@[simp] theorem tl1_thicketref01_Write (e : Env) : Exec T k1_thicketref01_Write e = Exec T j1_thicketref01_Write (e.keep [4, 6]) := Exec_tail _ _ _
@[simp] theorem tl2_thicketref01_Write (e : Env) : Exec T k2_thicketref01_Write e = Exec T j2_thicketref01_Write (e.keep [4]) := Exec_tail _ _ _
theorem run_thicketref01_Write (xs : List PV) : Cinf T n_thicketref01_Write xs = Run T a_thicketref01_Write xs := Cinf_eq rfl fn_thicketref01_Write
@[simp] theorem md_thicketref01_Write : T.modes n_thicketref01_Write = [] := rfl
@[simp] theorem call_thicketref01_Write (C : Oracle) (e : Env) (xs : List PV) : call T C e n_thicketref01_Write xs = callK1 C n_thicketref01_Write xs (moves e [] [] xs) := call_modes md_thicketref01_Write
theorem fn_limbs_Decimal : T.fns n_limbs_Decimal = some a_limbs_Decimal := rfl
@[simp] theorem tl0_limbs_Decimal (e : Env) : Exec T k0_limbs_Decimal e = Exec T j0_limbs_Decimal (e.keep [1, 6, 8, 33, 34, 35, 38]) := Exec_tail _ _ _
@[simp] theorem tl1_limbs_Decimal (e : Env) : Exec T k1_limbs_Decimal e = Exec T j1_limbs_Decimal (e.keep [1, 6, 8, 33, 34, 35, 38]) := Exec_tail _ _ _
@[simp] theorem tl2_limbs_Decimal (e : Env) : Exec T k2_limbs_Decimal e = Exec T j2_limbs_Decimal (e.keep [13]) := Exec_tail _ _ _
@[simp] theorem tl3_limbs_Decimal (e : Env) : Exec T k3_limbs_Decimal e = Exec T j3_limbs_Decimal (e.keep [6, 9, 13, 40, 47, 48, 68]) := Exec_tail _ _ _
@[simp] theorem tl4_limbs_Decimal (e : Env) : Exec T k4_limbs_Decimal e = Exec T j4_limbs_Decimal (e.keep [1, 6, 9, 13, 40, 47, 48, 68]) := Exec_tail _ _ _
@[simp] theorem tl5_limbs_Decimal (e : Env) : Exec T k5_limbs_Decimal e = Exec T j5_limbs_Decimal (e.keep [1, 6, 9, 40, 47, 48, 68]) := Exec_tail _ _ _
@[simp] theorem tl6_limbs_Decimal (e : Env) : Exec T k6_limbs_Decimal e = Exec T j6_limbs_Decimal (e.keep [1, 6, 8, 33, 38]) := Exec_tail _ _ _
@[simp] theorem tl7_limbs_Decimal (e : Env) : Exec T k7_limbs_Decimal e = Exec T j7_limbs_Decimal (e.keep [1, 6]) := Exec_tail _ _ _
@[simp] theorem tl8_limbs_Decimal (e : Env) : Exec T k8_limbs_Decimal e = Exec T j8_limbs_Decimal (e.keep [1, 6]) := Exec_tail _ _ _
theorem ex0_limbs_Decimal (e : Env) : Exec T l0_limbs_Decimal e = andThen (Exec T w0_limbs_Decimal (e.keep [1, 6, 8, 33, 34, 35, 38])) (Exec T l0_limbs_Decimal) := Exec_loop _ _ _
theorem run_limbs_Decimal (xs : List PV) : Cinf T n_limbs_Decimal xs = Run T a_limbs_Decimal xs := Cinf_eq rfl fn_limbs_Decimal
@[simp] theorem md_limbs_Decimal : T.modes n_limbs_Decimal = [] := rfl
@[simp] theorem call_limbs_Decimal (C : Oracle) (e : Env) (xs : List PV) : call T C e n_limbs_Decimal xs = callK1 C n_limbs_Decimal xs (moves e [] [] xs) := call_modes md_limbs_Decimal
theorem fn_thicketref01_Decimal : T.fns n_thicketref01_Decimal = some a_thicketref01_Decimal := rfl
@[simp] theorem tl0_thicketref01_Decimal (e : Env) : Exec T k0_thicketref01_Decimal e = Exec T j0_thicketref01_Decimal (e.keep [1, 2, 6, 7, 23, 31]) := Exec_tail _ _ _
@[simp] theorem tl1_thicketref01_Decimal (e : Env) : Exec T k1_thicketref01_Decimal e = Exec T j1_thicketref01_Decimal (e.keep [1, 2, 6, 7, 23, 31]) := Exec_tail _ _ _
@[simp] theorem tl2_thicketref01_Decimal (e : Env) : Exec T k2_thicketref01_Decimal e = Exec T j2_thicketref01_Decimal (e.keep [1, 2, 8, 12, 32, 39, 40, 61]) := Exec_tail _ _ _
@[simp] theorem tl3_thicketref01_Decimal (e : Env) : Exec T k3_thicketref01_Decimal e = Exec T j3_thicketref01_Decimal (e.keep [12]) := Exec_tail _ _ _
@[simp] theorem tl4_thicketref01_Decimal (e : Env) : Exec T k4_thicketref01_Decimal e = Exec T j4_thicketref01_Decimal (e.keep [2, 8, 12, 32, 39, 40, 61]) := Exec_tail _ _ _
@[simp] theorem tl5_thicketref01_Decimal (e : Env) : Exec T k5_thicketref01_Decimal e = Exec T j5_thicketref01_Decimal (e.keep [1, 2, 8, 12, 32, 39, 40, 61]) := Exec_tail _ _ _
@[simp] theorem tl6_thicketref01_Decimal (e : Env) : Exec T k6_thicketref01_Decimal e = Exec T j6_thicketref01_Decimal (e.keep [1, 2, 8, 32, 39, 40, 61]) := Exec_tail _ _ _
@[simp] theorem tl7_thicketref01_Decimal (e : Env) : Exec T k7_thicketref01_Decimal e = Exec T j7_thicketref01_Decimal (e.keep [1, 2, 6, 23, 31]) := Exec_tail _ _ _
@[simp] theorem tl8_thicketref01_Decimal (e : Env) : Exec T k8_thicketref01_Decimal e = Exec T j8_thicketref01_Decimal (e.keep [1, 2]) := Exec_tail _ _ _
@[simp] theorem tl9_thicketref01_Decimal (e : Env) : Exec T k9_thicketref01_Decimal e = Exec T j9_thicketref01_Decimal (e.keep [1, 2]) := Exec_tail _ _ _
theorem ex0_thicketref01_Decimal (e : Env) : Exec T l0_thicketref01_Decimal e = andThen (Exec T w0_thicketref01_Decimal (e.keep [1, 2, 6, 7, 23, 31])) (Exec T l0_thicketref01_Decimal) := Exec_loop _ _ _
theorem ex1_thicketref01_Decimal (e : Env) : Exec T l1_thicketref01_Decimal e = andThen (Exec T w1_thicketref01_Decimal (e.keep [1, 2, 8, 12, 32, 39, 40, 61])) (Exec T l1_thicketref01_Decimal) := Exec_loop _ _ _
theorem run_thicketref01_Decimal (xs : List PV) : Cinf T n_thicketref01_Decimal xs = Run T a_thicketref01_Decimal xs := Cinf_eq rfl fn_thicketref01_Decimal
@[simp] theorem md_thicketref01_Decimal : T.modes n_thicketref01_Decimal = [] := rfl
@[simp] theorem call_thicketref01_Decimal (C : Oracle) (e : Env) (xs : List PV) : call T C e n_thicketref01_Decimal xs = callK1 C n_thicketref01_Decimal xs (moves e [] [] xs) := call_modes md_thicketref01_Decimal
theorem fn_thicketlaw01_LimbsWrites : T.fns n_thicketlaw01_LimbsWrites = some a_thicketlaw01_LimbsWrites := rfl
theorem run_thicketlaw01_LimbsWrites (xs : List PV) : Cinf T n_thicketlaw01_LimbsWrites xs = Run T a_thicketlaw01_LimbsWrites xs := Cinf_eq rfl fn_thicketlaw01_LimbsWrites
@[simp] theorem md_thicketlaw01_LimbsWrites : T.modes n_thicketlaw01_LimbsWrites = [] := rfl
@[simp] theorem call_thicketlaw01_LimbsWrites (C : Oracle) (e : Env) (xs : List PV) : call T C e n_thicketlaw01_LimbsWrites xs = callK1 C n_thicketlaw01_LimbsWrites xs (moves e [] [] xs) := call_modes md_thicketlaw01_LimbsWrites
theorem x_strings_Builder_WriteString (xs : List PV) {r : PV × List PV} (h : xWriteString 72 5 xs = some r) : Cinf T n_strings_Builder_WriteString xs = some r := Cinf_iff.2 ⟨1, by show (match xWriteString 72 5 xs with | some r => some r | none => _) = some r; rw [h]⟩
@[simp] theorem md_strings_Builder_WriteString : T.modes n_strings_Builder_WriteString = [true, false] := rfl
@[simp] theorem call_strings_Builder_WriteString (C : Oracle) (e : Env) (xs : List PV) : call T C e n_strings_Builder_WriteString xs = callK1 C n_strings_Builder_WriteString xs (moves e [] [true, false] xs) := call_modes md_strings_Builder_WriteString
theorem x_strings_Builder_String (xs : List PV) {r : PV × List PV} (h : xString 72 5 xs = some r) : Cinf T n_strings_Builder_String xs = some r := Cinf_iff.2 ⟨1, by show (match xString 72 5 xs with | some r => some r | none => _) = some r; rw [h]⟩
@[simp] theorem md_strings_Builder_String : T.modes n_strings_Builder_String = [true] := rfl
@[simp] theorem call_strings_Builder_String (C : Oracle) (e : Env) (xs : List PV) : call T C e n_strings_Builder_String xs = callK1 C n_strings_Builder_String xs (moves e [] [true] xs) := call_modes md_strings_Builder_String
end Go.AM.F
