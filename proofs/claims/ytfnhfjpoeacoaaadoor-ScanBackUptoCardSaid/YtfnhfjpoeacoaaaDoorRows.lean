/-
  NARROWER THAN 'FOR EVERY INPUT', by the rows' own cells (each row's printed sentence says how): ScanRows: laid · ScanWords: laid · ScanOwn: laid · ScanAgain: laid · ScanTexts: laid · ScanFields: laid · ScanBack: laid.
  DERIVED. THE GIVEN ROWS OF THIS SEAT. 7 by the template 'for every input the law returns true; each argument reads behind the call as it read before'; 0 by the template 'total and deterministic' (their statements: YtfnhfjpoeacoaaaDoorTotals.lean).
  GIVEN WITH THE SEED: the statements are not yours to turn. If you find one false, say at which input.
  Laid BY PROGRAM, IN A SANDBOX (cutbox-rows.mjs): the forced cells as the released guide's own fill.sh prints them over the translation e91f23f787d04548… (all of the seat's roots in one cut). By AI agents, Wed Nov 11 2026. No macro, syntax, notation, axiom, sorry.
-/
import Derived.Test.YtfnhfjpoeacoaaaDoorChecked
import GoSem.PinnedTables
import GoSem.Claim
import GoSem.ClaimJoined
import GoSem.ClaimMapViews
import Derived.JoinedTies
import Derived.KernelRfl
namespace Go.Proofs.YtfnhfjpoeacoaaaDoor
/- THE CELL 'sum', in the pinned program and in every row, IS THE sha256 OF THE DUMP (.gsa) THAT YtfnhfjpoeacoaaaDoorProg.lean LOADS. Nothing in Lean hashes anything: it is a label: what it is worth is what the hold of that sum in a sandbox is worth. -/
noncomputable def Tryd.pinned : Pinned := { name := "ytfnhfjpoeacoaaadoor", sum := "e91f23f787d04548d25f31adb223d9af43685cd9bfa0c0423ac76ae1a468714d", checked := Tryd.checked }
namespace Rows
def none {H : Type} : Left H := { results := [], args := [] }

/- WHAT THE LISTED PACKAGE-LEVEL VARIABLES READ AS WHEN THE CALL BEGINS. Each datum BY PROGRAM (the guide's laid-datum.mjs) off the statement by which the dump's own 'gosem.cut.vars' lays the variable. In a bare row this is a premise. The card (YtfnhfjpoeacoaaaDoorCards.lean) ties it to the program's text. -/
def laid_thicket_scan_classes {H : Type} : DataW H := .agg [.lit (.int .u8 0), .lit (.int .u8 0), .lit (.int .u8 0), .lit (.int .u8 0), .lit (.int .u8 0), .lit (.int .u8 0), .lit (.int .u8 0), .lit (.int .u8 0), .lit (.int .u8 0), .lit (.int .u8 32), .lit (.int .u8 0), .lit (.int .u8 0), .lit (.int .u8 0), .lit (.int .u8 0), .lit (.int .u8 0), .lit (.int .u8 0), .lit (.int .u8 0), .lit (.int .u8 0), .lit (.int .u8 0), .lit (.int .u8 0), .lit (.int .u8 0), .lit (.int .u8 0), .lit (.int .u8 0), .lit (.int .u8 0), .lit (.int .u8 0), .lit (.int .u8 0), .lit (.int .u8 0), .lit (.int .u8 0), .lit (.int .u8 0), .lit (.int .u8 0), .lit (.int .u8 0), .lit (.int .u8 0), .lit (.int .u8 32), .lit (.int .u8 0), .lit (.int .u8 0), .lit (.int .u8 0), .lit (.int .u8 0), .lit (.int .u8 0), .lit (.int .u8 0), .lit (.int .u8 0), .lit (.int .u8 16), .lit (.int .u8 16), .lit (.int .u8 0), .lit (.int .u8 4), .lit (.int .u8 16), .lit (.int .u8 4), .lit (.int .u8 8), .lit (.int .u8 0), .lit (.int .u8 0), .lit (.int .u8 0), .lit (.int .u8 0), .lit (.int .u8 0), .lit (.int .u8 0), .lit (.int .u8 0), .lit (.int .u8 0), .lit (.int .u8 0), .lit (.int .u8 0), .lit (.int .u8 0), .lit (.int .u8 16), .lit (.int .u8 16), .lit (.int .u8 16), .lit (.int .u8 16), .lit (.int .u8 16), .lit (.int .u8 0), .lit (.int .u8 0), .lit (.int .u8 0), .lit (.int .u8 0), .lit (.int .u8 0), .lit (.int .u8 0), .lit (.int .u8 0), .lit (.int .u8 0), .lit (.int .u8 0), .lit (.int .u8 0), .lit (.int .u8 0), .lit (.int .u8 0), .lit (.int .u8 0), .lit (.int .u8 0), .lit (.int .u8 0), .lit (.int .u8 0), .lit (.int .u8 0), .lit (.int .u8 0), .lit (.int .u8 0), .lit (.int .u8 0), .lit (.int .u8 0), .lit (.int .u8 0), .lit (.int .u8 0), .lit (.int .u8 0), .lit (.int .u8 0), .lit (.int .u8 0), .lit (.int .u8 0), .lit (.int .u8 0), .lit (.int .u8 16), .lit (.int .u8 0), .lit (.int .u8 16), .lit (.int .u8 0), .lit (.int .u8 1), .lit (.int .u8 0), .lit (.int .u8 0), .lit (.int .u8 0), .lit (.int .u8 0), .lit (.int .u8 0), .lit (.int .u8 0), .lit (.int .u8 0), .lit (.int .u8 0), .lit (.int .u8 0), .lit (.int .u8 0), .lit (.int .u8 0), .lit (.int .u8 0), .lit (.int .u8 0), .lit (.int .u8 0), .lit (.int .u8 0), .lit (.int .u8 0), .lit (.int .u8 0), .lit (.int .u8 0), .lit (.int .u8 0), .lit (.int .u8 0), .lit (.int .u8 0), .lit (.int .u8 0), .lit (.int .u8 0), .lit (.int .u8 0), .lit (.int .u8 0), .lit (.int .u8 0), .lit (.int .u8 0), .lit (.int .u8 16), .lit (.int .u8 16), .lit (.int .u8 16), .lit (.int .u8 0), .lit (.int .u8 0)]
def laid_unicode_utf8_acceptRanges {H : Type} : DataW H := .agg [.agg [.lit (.int .u8 128), .lit (.int .u8 191)], .agg [.lit (.int .u8 160), .lit (.int .u8 191)], .agg [.lit (.int .u8 128), .lit (.int .u8 159)], .agg [.lit (.int .u8 144), .lit (.int .u8 191)], .agg [.lit (.int .u8 128), .lit (.int .u8 143)], .agg [.lit (.int .u8 0), .lit (.int .u8 0)], .agg [.lit (.int .u8 0), .lit (.int .u8 0)], .agg [.lit (.int .u8 0), .lit (.int .u8 0)], .agg [.lit (.int .u8 0), .lit (.int .u8 0)], .agg [.lit (.int .u8 0), .lit (.int .u8 0)], .agg [.lit (.int .u8 0), .lit (.int .u8 0)], .agg [.lit (.int .u8 0), .lit (.int .u8 0)], .agg [.lit (.int .u8 0), .lit (.int .u8 0)], .agg [.lit (.int .u8 0), .lit (.int .u8 0)], .agg [.lit (.int .u8 0), .lit (.int .u8 0)], .agg [.lit (.int .u8 0), .lit (.int .u8 0)]]
/-- One of Go's own tables, pinned by name: the form's constant. -/
def laid_unicode_utf8_first : DataW Unit := Go.Pinned.utf8First

/-- 'thicketlaw03.ScanRows': WHATEVER THE INPUT: true; the input reads as it did. -/
def scanRowsSpec : ChangeSpec := { name := "scanRows", fn := fun _ => fun
  | [d] => { results := [.lit (.bool true)], args := [d] }
  | _ => none }
def scanRowsRow : OpenClaim := { program := "ytfnhfjpoeacoaaadoor", sum := "e91f23f787d04548d25f31adb223d9af43685cd9bfa0c0423ac76ae1a468714d", func := "thicket/thicketlaw03.ScanRows", spec := "scanRows", named := ["thicket/scan.classes"], apart := false, laid := [("thicket/scan.classes", laid_thicket_scan_classes)] }
def ScanRowsSaid : Prop := scanRowsRow.holds Tryd.pinned (OpenSpec.ofChange scanRowsSpec)

/-- ITS FALSE NEIGHBOUR: 'it returns false'. Refute it at one input. -/
def scanRowsWrong : ChangeSpec := { name := "scanRows", fn := fun _ => fun
  | [d] => { results := [.lit (.bool false)], args := [d] }
  | _ => none }
def ScanRowsWrongFalsely : Prop := scanRowsRow.holds Tryd.pinned (OpenSpec.ofChange scanRowsWrong)

/-- 'thicketlaw03.ScanWords': WHATEVER THE INPUT: true; the input reads as it did. -/
def scanWordsSpec : ChangeSpec := { name := "scanWords", fn := fun _ => fun
  | [d] => { results := [.lit (.bool true)], args := [d] }
  | _ => none }
def scanWordsRow : OpenClaim := { program := "ytfnhfjpoeacoaaadoor", sum := "e91f23f787d04548d25f31adb223d9af43685cd9bfa0c0423ac76ae1a468714d", func := "thicket/thicketlaw03.ScanWords", spec := "scanWords", named := ["thicket/scan.classes"], apart := false, laid := [("thicket/scan.classes", laid_thicket_scan_classes)] }
def ScanWordsSaid : Prop := scanWordsRow.holds Tryd.pinned (OpenSpec.ofChange scanWordsSpec)

/-- ITS FALSE NEIGHBOUR: 'it returns false'. Refute it at one input. -/
def scanWordsWrong : ChangeSpec := { name := "scanWords", fn := fun _ => fun
  | [d] => { results := [.lit (.bool false)], args := [d] }
  | _ => none }
def ScanWordsWrongFalsely : Prop := scanWordsRow.holds Tryd.pinned (OpenSpec.ofChange scanWordsWrong)

/-- 'thicketlaw03.ScanOwn': WHATEVER THE INPUT: true; the input reads as it did. -/
def scanOwnSpec : ChangeSpec := { name := "scanOwn", fn := fun _ => fun
  | [d1, d2] => { results := [.lit (.bool true)], args := [d1, d2] }
  | _ => none }
def scanOwnRow : OpenClaim := { program := "ytfnhfjpoeacoaaadoor", sum := "e91f23f787d04548d25f31adb223d9af43685cd9bfa0c0423ac76ae1a468714d", func := "thicket/thicketlaw03.ScanOwn", spec := "scanOwn", named := ["thicket/scan.classes"], apart := false, laid := [("thicket/scan.classes", laid_thicket_scan_classes)] }
def ScanOwnSaid : Prop := scanOwnRow.holds Tryd.pinned (OpenSpec.ofChange scanOwnSpec)

/-- ITS FALSE NEIGHBOUR: 'it returns false'. Refute it at one input. -/
def scanOwnWrong : ChangeSpec := { name := "scanOwn", fn := fun _ => fun
  | [d1, d2] => { results := [.lit (.bool false)], args := [d1, d2] }
  | _ => none }
def ScanOwnWrongFalsely : Prop := scanOwnRow.holds Tryd.pinned (OpenSpec.ofChange scanOwnWrong)

/-- 'thicketlaw03.ScanAgain': WHATEVER THE INPUT: true; the input reads as it did. -/
def scanAgainSpec : ChangeSpec := { name := "scanAgain", fn := fun _ => fun
  | [d] => { results := [.lit (.bool true)], args := [d] }
  | _ => none }
def scanAgainRow : OpenClaim := { program := "ytfnhfjpoeacoaaadoor", sum := "e91f23f787d04548d25f31adb223d9af43685cd9bfa0c0423ac76ae1a468714d", func := "thicket/thicketlaw03.ScanAgain", spec := "scanAgain", named := ["thicket/scan.classes"], apart := false, laid := [("thicket/scan.classes", laid_thicket_scan_classes)] }
def ScanAgainSaid : Prop := scanAgainRow.holds Tryd.pinned (OpenSpec.ofChange scanAgainSpec)

/-- ITS FALSE NEIGHBOUR: 'it returns false'. Refute it at one input. -/
def scanAgainWrong : ChangeSpec := { name := "scanAgain", fn := fun _ => fun
  | [d] => { results := [.lit (.bool false)], args := [d] }
  | _ => none }
def ScanAgainWrongFalsely : Prop := scanAgainRow.holds Tryd.pinned (OpenSpec.ofChange scanAgainWrong)

/-- 'thicketlaw03.ScanTexts': WHATEVER THE INPUT: true; the input reads as it did. -/
def scanTextsSpec : ChangeSpec := { name := "scanTexts", fn := fun _ => fun
  | [d1, d2] => { results := [.lit (.bool true)], args := [d1, d2] }
  | _ => none }
def scanTextsRow : OpenClaim := { program := "ytfnhfjpoeacoaaadoor", sum := "e91f23f787d04548d25f31adb223d9af43685cd9bfa0c0423ac76ae1a468714d", func := "thicket/thicketlaw03.ScanTexts", spec := "scanTexts", named := ["thicket/scan.classes"], apart := false, laid := [("thicket/scan.classes", laid_thicket_scan_classes)] }
def ScanTextsSaid : Prop := scanTextsRow.holds Tryd.pinned (OpenSpec.ofChange scanTextsSpec)

/-- ITS FALSE NEIGHBOUR: 'it returns false'. Refute it at one input. -/
def scanTextsWrong : ChangeSpec := { name := "scanTexts", fn := fun _ => fun
  | [d1, d2] => { results := [.lit (.bool false)], args := [d1, d2] }
  | _ => none }
def ScanTextsWrongFalsely : Prop := scanTextsRow.holds Tryd.pinned (OpenSpec.ofChange scanTextsWrong)

/-- 'thicketlaw03.ScanFields': WHATEVER THE INPUT: true; the input reads as it did. -/
def scanFieldsSpec : ChangeSpec := { name := "scanFields", fn := fun _ => fun
  | [d1, d2, d3] => { results := [.lit (.bool true)], args := [d1, d2, d3] }
  | _ => none }
def scanFieldsRow : OpenClaim := { program := "ytfnhfjpoeacoaaadoor", sum := "e91f23f787d04548d25f31adb223d9af43685cd9bfa0c0423ac76ae1a468714d", func := "thicket/thicketlaw03.ScanFields", spec := "scanFields", inPlace := ["internal/bytealg.IndexByteString", "internal/bytealg.IndexString", "internal/abi.NoEscape", "internal/bytealg.CountString", "internal/bytealg.MakeNoZero"], named := ["internal/bytealg.MaxLen", "unicode/utf8.first", "unicode/utf8.acceptRanges", "thicket/scan.classes"], apart := false, laid := [("unicode/utf8.acceptRanges", laid_unicode_utf8_acceptRanges), ("thicket/scan.classes", laid_thicket_scan_classes), ("unicode/utf8.first", laid_unicode_utf8_first)] }
def ScanFieldsSaid : Prop := scanFieldsRow.holds Tryd.pinned (OpenSpec.ofChange scanFieldsSpec)

/-- ITS FALSE NEIGHBOUR: 'it returns false'. Refute it at one input. -/
def scanFieldsWrong : ChangeSpec := { name := "scanFields", fn := fun _ => fun
  | [d1, d2, d3] => { results := [.lit (.bool false)], args := [d1, d2, d3] }
  | _ => none }
def ScanFieldsWrongFalsely : Prop := scanFieldsRow.holds Tryd.pinned (OpenSpec.ofChange scanFieldsWrong)

/-- 'thicketlaw03.ScanBack': WHATEVER THE INPUT: true; the input reads as it did. -/
def scanBackSpec : ChangeSpec := { name := "scanBack", fn := fun _ => fun
  | [d1, d2, d3] => { results := [.lit (.bool true)], args := [d1, d2, d3] }
  | _ => none }
def scanBackRow : OpenClaim := { program := "ytfnhfjpoeacoaaadoor", sum := "e91f23f787d04548d25f31adb223d9af43685cd9bfa0c0423ac76ae1a468714d", func := "thicket/thicketlaw03.ScanBack", spec := "scanBack", inPlace := ["internal/bytealg.IndexByteString", "internal/bytealg.IndexString", "internal/abi.NoEscape", "internal/bytealg.CountString", "internal/bytealg.MakeNoZero"], named := ["thicket/scan.classes", "internal/bytealg.MaxLen", "unicode/utf8.first", "unicode/utf8.acceptRanges"], apart := false, laid := [("unicode/utf8.acceptRanges", laid_unicode_utf8_acceptRanges), ("thicket/scan.classes", laid_thicket_scan_classes), ("unicode/utf8.first", laid_unicode_utf8_first)] }
def ScanBackSaid : Prop := scanBackRow.holds Tryd.pinned (OpenSpec.ofChange scanBackSpec)

/-- ITS FALSE NEIGHBOUR: 'it returns false'. Refute it at one input. -/
def scanBackWrong : ChangeSpec := { name := "scanBack", fn := fun _ => fun
  | [d1, d2, d3] => { results := [.lit (.bool false)], args := [d1, d2, d3] }
  | _ => none }
def ScanBackWrongFalsely : Prop := scanBackRow.holds Tryd.pinned (OpenSpec.ofChange scanBackWrong)

/- THE SECOND FORM. 'bulk': how many values and letters a reading holds, each counted each time it is reached (what is shared counts as often as it is met; a slice's spare places count too). A statement '..UptoSaid' is the law's where the arguments, and the package variables that the reading takes, are together of bulk at most 1048576: NARROWER than '..Said'. Prove '..Said' where nothing that the law and all that it calls make is longer than what came in: it says more and counts as full. Else prove '..UptoSaid'. A law counts once. -/
mutual
def uptoBulk {H : Type} : DataW H → Nat
  | .lit (.string bytes) => bytes.length + 1
  | .lit _ => 1
  | .nil => 1
  | .ptr d => uptoBulk d + 1
  | .slice elems spare => uptoBulkAll elems + uptoBulkAll spare + 1
  | .agg parts => uptoBulkAll parts + 1
  | .iface _ d => uptoBulk d + 1
  | .map entries => uptoBulkEntries entries + 1
  | .held _ => 1
def uptoBulkAll {H : Type} : List (DataW H) → Nat
  | [] => 0
  | d :: r => uptoBulk d + uptoBulkAll r
def uptoBulkEntries {H : Type} : List (Lit × DataW H) → Nat
  | [] => 0
  | x :: r => uptoBulkEntry x + uptoBulkEntries r
def uptoBulkEntry {H : Type} : Lit × DataW H → Nat
  | (.string bytes, d) => bytes.length + uptoBulk d + 1
  | (_, d) => uptoBulk d + 1
 end
def uptoSmall : (H : Type) → List (DataW H) → Bool := fun _ ds => decide (uptoBulkAll ds ≤ 1048576)
def OpenSpec.upto (s : _root_.Go.ChangeSpec) : _root_.Go.OpenSpec := { _root_.Go.OpenSpec.ofChange s with cond := some uptoSmall }

/-- 'thicketlaw03.ScanRows', WHERE WHAT IT READS IS OF BULK AT MOST 1048576: true; the input reads as it did. -/
def scanRowsUptoRow : OpenClaim := { program := "ytfnhfjpoeacoaaadoor", sum := "e91f23f787d04548d25f31adb223d9af43685cd9bfa0c0423ac76ae1a468714d", func := "thicket/thicketlaw03.ScanRows", spec := "scanRows", named := ["thicket/scan.classes"], apart := false, laid := [("thicket/scan.classes", laid_thicket_scan_classes)], narrowed := true }
def ScanRowsUptoSaid : Prop := scanRowsUptoRow.holds Tryd.pinned (OpenSpec.upto scanRowsSpec)

/-- 'thicketlaw03.ScanWords', WHERE WHAT IT READS IS OF BULK AT MOST 1048576: true; the input reads as it did. -/
def scanWordsUptoRow : OpenClaim := { program := "ytfnhfjpoeacoaaadoor", sum := "e91f23f787d04548d25f31adb223d9af43685cd9bfa0c0423ac76ae1a468714d", func := "thicket/thicketlaw03.ScanWords", spec := "scanWords", named := ["thicket/scan.classes"], apart := false, laid := [("thicket/scan.classes", laid_thicket_scan_classes)], narrowed := true }
def ScanWordsUptoSaid : Prop := scanWordsUptoRow.holds Tryd.pinned (OpenSpec.upto scanWordsSpec)

/-- 'thicketlaw03.ScanOwn', WHERE WHAT IT READS IS OF BULK AT MOST 1048576: true; the input reads as it did. -/
def scanOwnUptoRow : OpenClaim := { program := "ytfnhfjpoeacoaaadoor", sum := "e91f23f787d04548d25f31adb223d9af43685cd9bfa0c0423ac76ae1a468714d", func := "thicket/thicketlaw03.ScanOwn", spec := "scanOwn", named := ["thicket/scan.classes"], apart := false, laid := [("thicket/scan.classes", laid_thicket_scan_classes)], narrowed := true }
def ScanOwnUptoSaid : Prop := scanOwnUptoRow.holds Tryd.pinned (OpenSpec.upto scanOwnSpec)

/-- 'thicketlaw03.ScanAgain', WHERE WHAT IT READS IS OF BULK AT MOST 1048576: true; the input reads as it did. -/
def scanAgainUptoRow : OpenClaim := { program := "ytfnhfjpoeacoaaadoor", sum := "e91f23f787d04548d25f31adb223d9af43685cd9bfa0c0423ac76ae1a468714d", func := "thicket/thicketlaw03.ScanAgain", spec := "scanAgain", named := ["thicket/scan.classes"], apart := false, laid := [("thicket/scan.classes", laid_thicket_scan_classes)], narrowed := true }
def ScanAgainUptoSaid : Prop := scanAgainUptoRow.holds Tryd.pinned (OpenSpec.upto scanAgainSpec)

/-- 'thicketlaw03.ScanTexts', WHERE WHAT IT READS IS OF BULK AT MOST 1048576: true; the input reads as it did. -/
def scanTextsUptoRow : OpenClaim := { program := "ytfnhfjpoeacoaaadoor", sum := "e91f23f787d04548d25f31adb223d9af43685cd9bfa0c0423ac76ae1a468714d", func := "thicket/thicketlaw03.ScanTexts", spec := "scanTexts", named := ["thicket/scan.classes"], apart := false, laid := [("thicket/scan.classes", laid_thicket_scan_classes)], narrowed := true }
def ScanTextsUptoSaid : Prop := scanTextsUptoRow.holds Tryd.pinned (OpenSpec.upto scanTextsSpec)

/-- 'thicketlaw03.ScanFields', WHERE WHAT IT READS IS OF BULK AT MOST 1048576: true; the input reads as it did. -/
def scanFieldsUptoRow : OpenClaim := { program := "ytfnhfjpoeacoaaadoor", sum := "e91f23f787d04548d25f31adb223d9af43685cd9bfa0c0423ac76ae1a468714d", func := "thicket/thicketlaw03.ScanFields", spec := "scanFields", inPlace := ["internal/bytealg.IndexByteString", "internal/bytealg.IndexString", "internal/abi.NoEscape", "internal/bytealg.CountString", "internal/bytealg.MakeNoZero"], named := ["internal/bytealg.MaxLen", "unicode/utf8.first", "unicode/utf8.acceptRanges", "thicket/scan.classes"], apart := false, laid := [("unicode/utf8.acceptRanges", laid_unicode_utf8_acceptRanges), ("thicket/scan.classes", laid_thicket_scan_classes), ("unicode/utf8.first", laid_unicode_utf8_first)], narrowed := true }
def ScanFieldsUptoSaid : Prop := scanFieldsUptoRow.holds Tryd.pinned (OpenSpec.upto scanFieldsSpec)

/-- 'thicketlaw03.ScanBack', WHERE WHAT IT READS IS OF BULK AT MOST 1048576: true; the input reads as it did. -/
def scanBackUptoRow : OpenClaim := { program := "ytfnhfjpoeacoaaadoor", sum := "e91f23f787d04548d25f31adb223d9af43685cd9bfa0c0423ac76ae1a468714d", func := "thicket/thicketlaw03.ScanBack", spec := "scanBack", inPlace := ["internal/bytealg.IndexByteString", "internal/bytealg.IndexString", "internal/abi.NoEscape", "internal/bytealg.CountString", "internal/bytealg.MakeNoZero"], named := ["thicket/scan.classes", "internal/bytealg.MaxLen", "unicode/utf8.first", "unicode/utf8.acceptRanges"], apart := false, laid := [("unicode/utf8.acceptRanges", laid_unicode_utf8_acceptRanges), ("thicket/scan.classes", laid_thicket_scan_classes), ("unicode/utf8.first", laid_unicode_utf8_first)], narrowed := true }
def ScanBackUptoSaid : Prop := scanBackUptoRow.holds Tryd.pinned (OpenSpec.upto scanBackSpec)

end Rows
end Go.Proofs.YtfnhfjpoeacoaaaDoor
