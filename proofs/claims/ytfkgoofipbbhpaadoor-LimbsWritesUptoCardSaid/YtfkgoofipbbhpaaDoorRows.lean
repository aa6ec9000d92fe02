/-
  NARROWER THAN 'FOR EVERY INPUT', by the rows' own cells (each row's printed sentence says how): LimbsReads: laid · LimbsParts: laid · LimbsForms: laid · LimbsSums: laid · LimbsLaws: laid · LimbsPowers: laid · LimbsOwn: laid · LimbsRatios: laid · LimbsField: laid · LimbsWrites: laid.
  DERIVED. THE GIVEN ROWS OF THIS SEAT. 10 by the template 'for every input the law returns true; each argument reads behind the call as it read before'; 0 by the template 'total and deterministic' (their statements: YtfkgoofipbbhpaaDoorTotals.lean).
  GIVEN WITH THE SEED: the statements are not yours to turn. If you find one false, say at which input.
  Laid BY PROGRAM, IN A SANDBOX (cutbox-rows.mjs): the forced cells as the released guide's own fill.sh prints them over the translation 746d011f9988d1c5… (all of the seat's roots in one cut). By AI agents, Wed Nov 11 2026. No macro, syntax, notation, axiom, sorry.
-/
import Derived.Test.YtfkgoofipbbhpaaDoorChecked
import GoSem.PinnedTables
import GoSem.Claim
import GoSem.ClaimJoined
import GoSem.ClaimMapViews
import Derived.JoinedTies
import Derived.KernelRfl
namespace Go.Proofs.YtfkgoofipbbhpaaDoor
/- THE CELL 'sum', in the pinned program and in every row, IS THE sha256 OF THE DUMP (.gsa) THAT YtfkgoofipbbhpaaDoorProg.lean LOADS. Nothing in Lean hashes anything: it is a label: what it is worth is what the hold of that sum in a sandbox is worth. -/
noncomputable def Tryd.pinned : Pinned := { name := "ytfkgoofipbbhpaadoor", sum := "746d011f9988d1c52597a88398750ae1b234bbe92c8176ee7e956b4d2ce4a65d", checked := Tryd.checked }
namespace Rows
def none {H : Type} : Left H := { results := [], args := [] }

/- WHAT THE LISTED PACKAGE-LEVEL VARIABLES READ AS WHEN THE CALL BEGINS. Each datum BY PROGRAM (the guide's laid-datum.mjs) off the statement by which the dump's own 'gosem.cut.vars' lays the variable. In a bare row this is a premise. The card (YtfkgoofipbbhpaaDoorCards.lean) ties it to the program's text. -/
def laid_unicode_utf8_acceptRanges {H : Type} : DataW H := .agg [.agg [.lit (.int .u8 128), .lit (.int .u8 191)], .agg [.lit (.int .u8 160), .lit (.int .u8 191)], .agg [.lit (.int .u8 128), .lit (.int .u8 159)], .agg [.lit (.int .u8 144), .lit (.int .u8 191)], .agg [.lit (.int .u8 128), .lit (.int .u8 143)], .agg [.lit (.int .u8 0), .lit (.int .u8 0)], .agg [.lit (.int .u8 0), .lit (.int .u8 0)], .agg [.lit (.int .u8 0), .lit (.int .u8 0)], .agg [.lit (.int .u8 0), .lit (.int .u8 0)], .agg [.lit (.int .u8 0), .lit (.int .u8 0)], .agg [.lit (.int .u8 0), .lit (.int .u8 0)], .agg [.lit (.int .u8 0), .lit (.int .u8 0)], .agg [.lit (.int .u8 0), .lit (.int .u8 0)], .agg [.lit (.int .u8 0), .lit (.int .u8 0)], .agg [.lit (.int .u8 0), .lit (.int .u8 0)], .agg [.lit (.int .u8 0), .lit (.int .u8 0)]]
/-- One of Go's own tables, pinned by name: the form's constant. -/
def laid_unicode_utf8_first : DataW Unit := Go.Pinned.utf8First

/-- 'thicketlaw01.LimbsReads': WHATEVER THE INPUT: true; the input reads as it did. -/
def limbsReadsSpec : ChangeSpec := { name := "limbsReads", fn := fun _ => fun
  | [d1, d2] => { results := [.lit (.bool true)], args := [d1, d2] }
  | _ => none }
def limbsReadsRow : OpenClaim := { program := "ytfkgoofipbbhpaadoor", sum := "746d011f9988d1c52597a88398750ae1b234bbe92c8176ee7e956b4d2ce4a65d", func := "thicket/thicketlaw01.LimbsReads", spec := "limbsReads", inPlace := ["internal/abi.NoEscape", "internal/bytealg.IndexByteString", "internal/bytealg.IndexString"], named := ["unicode/utf8.first", "unicode/utf8.acceptRanges", "internal/bytealg.MaxLen"], apart := false, laid := [("unicode/utf8.acceptRanges", laid_unicode_utf8_acceptRanges), ("unicode/utf8.first", laid_unicode_utf8_first)] }
def LimbsReadsSaid : Prop := limbsReadsRow.holds Tryd.pinned (OpenSpec.ofChange limbsReadsSpec)

/-- ITS FALSE NEIGHBOUR: 'it returns false'. Refute it at one input. -/
def limbsReadsWrong : ChangeSpec := { name := "limbsReads", fn := fun _ => fun
  | [d1, d2] => { results := [.lit (.bool false)], args := [d1, d2] }
  | _ => none }
def LimbsReadsWrongFalsely : Prop := limbsReadsRow.holds Tryd.pinned (OpenSpec.ofChange limbsReadsWrong)

/-- 'thicketlaw01.LimbsParts': WHATEVER THE INPUT: true; the input reads as it did. -/
def limbsPartsSpec : ChangeSpec := { name := "limbsParts", fn := fun _ => fun
  | [d1, d2] => { results := [.lit (.bool true)], args := [d1, d2] }
  | _ => none }
def limbsPartsRow : OpenClaim := { program := "ytfkgoofipbbhpaadoor", sum := "746d011f9988d1c52597a88398750ae1b234bbe92c8176ee7e956b4d2ce4a65d", func := "thicket/thicketlaw01.LimbsParts", spec := "limbsParts", inPlace := ["internal/abi.NoEscape", "internal/bytealg.IndexByteString", "internal/bytealg.IndexString"], named := ["unicode/utf8.first", "unicode/utf8.acceptRanges", "internal/bytealg.MaxLen"], apart := false, laid := [("unicode/utf8.acceptRanges", laid_unicode_utf8_acceptRanges), ("unicode/utf8.first", laid_unicode_utf8_first)] }
def LimbsPartsSaid : Prop := limbsPartsRow.holds Tryd.pinned (OpenSpec.ofChange limbsPartsSpec)

/-- ITS FALSE NEIGHBOUR: 'it returns false'. Refute it at one input. -/
def limbsPartsWrong : ChangeSpec := { name := "limbsParts", fn := fun _ => fun
  | [d1, d2] => { results := [.lit (.bool false)], args := [d1, d2] }
  | _ => none }
def LimbsPartsWrongFalsely : Prop := limbsPartsRow.holds Tryd.pinned (OpenSpec.ofChange limbsPartsWrong)

/-- 'thicketlaw01.LimbsForms': WHATEVER THE INPUT: true; the input reads as it did. -/
def limbsFormsSpec : ChangeSpec := { name := "limbsForms", fn := fun _ => fun
  | [d1, d2, d3, d4] => { results := [.lit (.bool true)], args := [d1, d2, d3, d4] }
  | _ => none }
def limbsFormsRow : OpenClaim := { program := "ytfkgoofipbbhpaadoor", sum := "746d011f9988d1c52597a88398750ae1b234bbe92c8176ee7e956b4d2ce4a65d", func := "thicket/thicketlaw01.LimbsForms", spec := "limbsForms", inPlace := ["internal/abi.NoEscape", "internal/bytealg.IndexByteString", "internal/bytealg.IndexString"], named := ["unicode/utf8.first", "unicode/utf8.acceptRanges", "internal/bytealg.MaxLen"], apart := false, laid := [("unicode/utf8.acceptRanges", laid_unicode_utf8_acceptRanges), ("unicode/utf8.first", laid_unicode_utf8_first)] }
def LimbsFormsSaid : Prop := limbsFormsRow.holds Tryd.pinned (OpenSpec.ofChange limbsFormsSpec)

/-- ITS FALSE NEIGHBOUR: 'it returns false'. Refute it at one input. -/
def limbsFormsWrong : ChangeSpec := { name := "limbsForms", fn := fun _ => fun
  | [d1, d2, d3, d4] => { results := [.lit (.bool false)], args := [d1, d2, d3, d4] }
  | _ => none }
def LimbsFormsWrongFalsely : Prop := limbsFormsRow.holds Tryd.pinned (OpenSpec.ofChange limbsFormsWrong)

/-- 'thicketlaw01.LimbsSums': WHATEVER THE INPUT: true; the input reads as it did. -/
def limbsSumsSpec : ChangeSpec := { name := "limbsSums", fn := fun _ => fun
  | [d1, d2] => { results := [.lit (.bool true)], args := [d1, d2] }
  | _ => none }
def limbsSumsRow : OpenClaim := { program := "ytfkgoofipbbhpaadoor", sum := "746d011f9988d1c52597a88398750ae1b234bbe92c8176ee7e956b4d2ce4a65d", func := "thicket/thicketlaw01.LimbsSums", spec := "limbsSums", inPlace := ["internal/abi.NoEscape", "internal/bytealg.IndexByteString", "internal/bytealg.IndexString"], named := ["unicode/utf8.first", "unicode/utf8.acceptRanges", "internal/bytealg.MaxLen"], apart := false, laid := [("unicode/utf8.acceptRanges", laid_unicode_utf8_acceptRanges), ("unicode/utf8.first", laid_unicode_utf8_first)] }
def LimbsSumsSaid : Prop := limbsSumsRow.holds Tryd.pinned (OpenSpec.ofChange limbsSumsSpec)

/-- ITS FALSE NEIGHBOUR: 'it returns false'. Refute it at one input. -/
def limbsSumsWrong : ChangeSpec := { name := "limbsSums", fn := fun _ => fun
  | [d1, d2] => { results := [.lit (.bool false)], args := [d1, d2] }
  | _ => none }
def LimbsSumsWrongFalsely : Prop := limbsSumsRow.holds Tryd.pinned (OpenSpec.ofChange limbsSumsWrong)

/-- 'thicketlaw01.LimbsLaws': WHATEVER THE INPUT: true; the input reads as it did. -/
def limbsLawsSpec : ChangeSpec := { name := "limbsLaws", fn := fun _ => fun
  | [d1, d2, d3] => { results := [.lit (.bool true)], args := [d1, d2, d3] }
  | _ => none }
def limbsLawsRow : OpenClaim := { program := "ytfkgoofipbbhpaadoor", sum := "746d011f9988d1c52597a88398750ae1b234bbe92c8176ee7e956b4d2ce4a65d", func := "thicket/thicketlaw01.LimbsLaws", spec := "limbsLaws", inPlace := ["internal/abi.NoEscape", "internal/bytealg.IndexByteString", "internal/bytealg.IndexString"], named := ["unicode/utf8.first", "unicode/utf8.acceptRanges", "internal/bytealg.MaxLen"], apart := false, laid := [("unicode/utf8.acceptRanges", laid_unicode_utf8_acceptRanges), ("unicode/utf8.first", laid_unicode_utf8_first)] }
def LimbsLawsSaid : Prop := limbsLawsRow.holds Tryd.pinned (OpenSpec.ofChange limbsLawsSpec)

/-- ITS FALSE NEIGHBOUR: 'it returns false'. Refute it at one input. -/
def limbsLawsWrong : ChangeSpec := { name := "limbsLaws", fn := fun _ => fun
  | [d1, d2, d3] => { results := [.lit (.bool false)], args := [d1, d2, d3] }
  | _ => none }
def LimbsLawsWrongFalsely : Prop := limbsLawsRow.holds Tryd.pinned (OpenSpec.ofChange limbsLawsWrong)

/-- 'thicketlaw01.LimbsPowers': WHATEVER THE INPUT: true; the input reads as it did. -/
def limbsPowersSpec : ChangeSpec := { name := "limbsPowers", fn := fun _ => fun
  | [d1, d2, d3] => { results := [.lit (.bool true)], args := [d1, d2, d3] }
  | _ => none }
def limbsPowersRow : OpenClaim := { program := "ytfkgoofipbbhpaadoor", sum := "746d011f9988d1c52597a88398750ae1b234bbe92c8176ee7e956b4d2ce4a65d", func := "thicket/thicketlaw01.LimbsPowers", spec := "limbsPowers", inPlace := ["internal/abi.NoEscape", "internal/bytealg.IndexByteString", "internal/bytealg.IndexString"], named := ["unicode/utf8.first", "unicode/utf8.acceptRanges", "internal/bytealg.MaxLen"], apart := false, laid := [("unicode/utf8.acceptRanges", laid_unicode_utf8_acceptRanges), ("unicode/utf8.first", laid_unicode_utf8_first)] }
def LimbsPowersSaid : Prop := limbsPowersRow.holds Tryd.pinned (OpenSpec.ofChange limbsPowersSpec)

/-- ITS FALSE NEIGHBOUR: 'it returns false'. Refute it at one input. -/
def limbsPowersWrong : ChangeSpec := { name := "limbsPowers", fn := fun _ => fun
  | [d1, d2, d3] => { results := [.lit (.bool false)], args := [d1, d2, d3] }
  | _ => none }
def LimbsPowersWrongFalsely : Prop := limbsPowersRow.holds Tryd.pinned (OpenSpec.ofChange limbsPowersWrong)

/-- 'thicketlaw01.LimbsOwn': WHATEVER THE INPUT: true; the input reads as it did. -/
def limbsOwnSpec : ChangeSpec := { name := "limbsOwn", fn := fun _ => fun
  | [d1, d2, d3] => { results := [.lit (.bool true)], args := [d1, d2, d3] }
  | _ => none }
def limbsOwnRow : OpenClaim := { program := "ytfkgoofipbbhpaadoor", sum := "746d011f9988d1c52597a88398750ae1b234bbe92c8176ee7e956b4d2ce4a65d", func := "thicket/thicketlaw01.LimbsOwn", spec := "limbsOwn", inPlace := ["internal/abi.NoEscape", "internal/bytealg.IndexByteString", "internal/bytealg.IndexString"], named := ["unicode/utf8.first", "unicode/utf8.acceptRanges", "internal/bytealg.MaxLen"], apart := false, laid := [("unicode/utf8.acceptRanges", laid_unicode_utf8_acceptRanges), ("unicode/utf8.first", laid_unicode_utf8_first)] }
def LimbsOwnSaid : Prop := limbsOwnRow.holds Tryd.pinned (OpenSpec.ofChange limbsOwnSpec)

/-- ITS FALSE NEIGHBOUR: 'it returns false'. Refute it at one input. -/
def limbsOwnWrong : ChangeSpec := { name := "limbsOwn", fn := fun _ => fun
  | [d1, d2, d3] => { results := [.lit (.bool false)], args := [d1, d2, d3] }
  | _ => none }
def LimbsOwnWrongFalsely : Prop := limbsOwnRow.holds Tryd.pinned (OpenSpec.ofChange limbsOwnWrong)

/-- 'thicketlaw01.LimbsRatios': WHATEVER THE INPUT: true; the input reads as it did. -/
def limbsRatiosSpec : ChangeSpec := { name := "limbsRatios", fn := fun _ => fun
  | [d1, d2, d3] => { results := [.lit (.bool true)], args := [d1, d2, d3] }
  | _ => none }
def limbsRatiosRow : OpenClaim := { program := "ytfkgoofipbbhpaadoor", sum := "746d011f9988d1c52597a88398750ae1b234bbe92c8176ee7e956b4d2ce4a65d", func := "thicket/thicketlaw01.LimbsRatios", spec := "limbsRatios", inPlace := ["internal/abi.NoEscape", "internal/bytealg.IndexByteString", "internal/bytealg.IndexString"], named := ["unicode/utf8.first", "unicode/utf8.acceptRanges", "internal/bytealg.MaxLen"], apart := false, laid := [("unicode/utf8.acceptRanges", laid_unicode_utf8_acceptRanges), ("unicode/utf8.first", laid_unicode_utf8_first)] }
def LimbsRatiosSaid : Prop := limbsRatiosRow.holds Tryd.pinned (OpenSpec.ofChange limbsRatiosSpec)

/-- ITS FALSE NEIGHBOUR: 'it returns false'. Refute it at one input. -/
def limbsRatiosWrong : ChangeSpec := { name := "limbsRatios", fn := fun _ => fun
  | [d1, d2, d3] => { results := [.lit (.bool false)], args := [d1, d2, d3] }
  | _ => none }
def LimbsRatiosWrongFalsely : Prop := limbsRatiosRow.holds Tryd.pinned (OpenSpec.ofChange limbsRatiosWrong)

/-- 'thicketlaw01.LimbsField': WHATEVER THE INPUT: true; the input reads as it did. -/
def limbsFieldSpec : ChangeSpec := { name := "limbsField", fn := fun _ => fun
  | [d1, d2, d3] => { results := [.lit (.bool true)], args := [d1, d2, d3] }
  | _ => none }
def limbsFieldRow : OpenClaim := { program := "ytfkgoofipbbhpaadoor", sum := "746d011f9988d1c52597a88398750ae1b234bbe92c8176ee7e956b4d2ce4a65d", func := "thicket/thicketlaw01.LimbsField", spec := "limbsField", inPlace := ["internal/abi.NoEscape", "internal/bytealg.IndexByteString", "internal/bytealg.IndexString"], named := ["unicode/utf8.first", "unicode/utf8.acceptRanges", "internal/bytealg.MaxLen"], apart := false, laid := [("unicode/utf8.acceptRanges", laid_unicode_utf8_acceptRanges), ("unicode/utf8.first", laid_unicode_utf8_first)] }
def LimbsFieldSaid : Prop := limbsFieldRow.holds Tryd.pinned (OpenSpec.ofChange limbsFieldSpec)

/-- ITS FALSE NEIGHBOUR: 'it returns false'. Refute it at one input. -/
def limbsFieldWrong : ChangeSpec := { name := "limbsField", fn := fun _ => fun
  | [d1, d2, d3] => { results := [.lit (.bool false)], args := [d1, d2, d3] }
  | _ => none }
def LimbsFieldWrongFalsely : Prop := limbsFieldRow.holds Tryd.pinned (OpenSpec.ofChange limbsFieldWrong)

/-- 'thicketlaw01.LimbsWrites': WHATEVER THE INPUT: true; the input reads as it did. -/
def limbsWritesSpec : ChangeSpec := { name := "limbsWrites", fn := fun _ => fun
  | [d1, d2] => { results := [.lit (.bool true)], args := [d1, d2] }
  | _ => none }
def limbsWritesRow : OpenClaim := { program := "ytfkgoofipbbhpaadoor", sum := "746d011f9988d1c52597a88398750ae1b234bbe92c8176ee7e956b4d2ce4a65d", func := "thicket/thicketlaw01.LimbsWrites", spec := "limbsWrites", inPlace := ["internal/abi.NoEscape", "internal/bytealg.IndexByteString", "internal/bytealg.IndexString", "internal/bytealg.MakeNoZero"], named := ["unicode/utf8.first", "unicode/utf8.acceptRanges", "internal/bytealg.MaxLen"], apart := false, laid := [("unicode/utf8.acceptRanges", laid_unicode_utf8_acceptRanges), ("unicode/utf8.first", laid_unicode_utf8_first)] }
def LimbsWritesSaid : Prop := limbsWritesRow.holds Tryd.pinned (OpenSpec.ofChange limbsWritesSpec)

/-- ITS FALSE NEIGHBOUR: 'it returns false'. Refute it at one input. -/
def limbsWritesWrong : ChangeSpec := { name := "limbsWrites", fn := fun _ => fun
  | [d1, d2] => { results := [.lit (.bool false)], args := [d1, d2] }
  | _ => none }
def LimbsWritesWrongFalsely : Prop := limbsWritesRow.holds Tryd.pinned (OpenSpec.ofChange limbsWritesWrong)

/- THE SECOND FORM. 'bulk': how many values and letters a reading holds, each counted each time it is reached (what is shared counts as often as it is met; a slice's spare places count too). A statement '..UptoSaid' is the law's where the arguments, and the package variables that the reading takes, are together of bulk at most 1048576: NARROWER than '..Said'. Prove '..Said' where nothing that the law and all that it calls make is longer than what came in: it says more and counts as full. Else prove '..UptoSaid'. A law counts once. -/
mutual
def uptoBulk {H : Type} : DataW H → Nat
  | .lit (.string bytes) => bytes.length + 1
  | .lit _ => 1
  | .nil => 1
  | .ptr d => uptoBulk d + 1
  | .slice elems spare => uptoBulkAll elems + uptoBulkAll spare + 1
  | .agg parts => uptoBulkAll parts + 1
  | .iface _ d => uptoBulk d + 1
  | .map entries => uptoBulkEntries entries + 1
  | .held _ => 1
def uptoBulkAll {H : Type} : List (DataW H) → Nat
  | [] => 0
  | d :: r => uptoBulk d + uptoBulkAll r
def uptoBulkEntries {H : Type} : List (Lit × DataW H) → Nat
  | [] => 0
  | x :: r => uptoBulkEntry x + uptoBulkEntries r
def uptoBulkEntry {H : Type} : Lit × DataW H → Nat
  | (.string bytes, d) => bytes.length + uptoBulk d + 1
  | (_, d) => uptoBulk d + 1
 end
def uptoSmall : (H : Type) → List (DataW H) → Bool := fun _ ds => decide (uptoBulkAll ds ≤ 1048576)
def OpenSpec.upto (s : _root_.Go.ChangeSpec) : _root_.Go.OpenSpec := { _root_.Go.OpenSpec.ofChange s with cond := some uptoSmall }

/-- 'thicketlaw01.LimbsReads', WHERE WHAT IT READS IS OF BULK AT MOST 1048576: true; the input reads as it did. -/
def limbsReadsUptoRow : OpenClaim := { program := "ytfkgoofipbbhpaadoor", sum := "746d011f9988d1c52597a88398750ae1b234bbe92c8176ee7e956b4d2ce4a65d", func := "thicket/thicketlaw01.LimbsReads", spec := "limbsReads", inPlace := ["internal/abi.NoEscape", "internal/bytealg.IndexByteString", "internal/bytealg.IndexString"], named := ["unicode/utf8.first", "unicode/utf8.acceptRanges", "internal/bytealg.MaxLen"], apart := false, laid := [("unicode/utf8.acceptRanges", laid_unicode_utf8_acceptRanges), ("unicode/utf8.first", laid_unicode_utf8_first)], narrowed := true }
def LimbsReadsUptoSaid : Prop := limbsReadsUptoRow.holds Tryd.pinned (OpenSpec.upto limbsReadsSpec)

/-- 'thicketlaw01.LimbsParts', WHERE WHAT IT READS IS OF BULK AT MOST 1048576: true; the input reads as it did. -/
def limbsPartsUptoRow : OpenClaim := { program := "ytfkgoofipbbhpaadoor", sum := "746d011f9988d1c52597a88398750ae1b234bbe92c8176ee7e956b4d2ce4a65d", func := "thicket/thicketlaw01.LimbsParts", spec := "limbsParts", inPlace := ["internal/abi.NoEscape", "internal/bytealg.IndexByteString", "internal/bytealg.IndexString"], named := ["unicode/utf8.first", "unicode/utf8.acceptRanges", "internal/bytealg.MaxLen"], apart := false, laid := [("unicode/utf8.acceptRanges", laid_unicode_utf8_acceptRanges), ("unicode/utf8.first", laid_unicode_utf8_first)], narrowed := true }
def LimbsPartsUptoSaid : Prop := limbsPartsUptoRow.holds Tryd.pinned (OpenSpec.upto limbsPartsSpec)

/-- 'thicketlaw01.LimbsForms', WHERE WHAT IT READS IS OF BULK AT MOST 1048576: true; the input reads as it did. -/
def limbsFormsUptoRow : OpenClaim := { program := "ytfkgoofipbbhpaadoor", sum := "746d011f9988d1c52597a88398750ae1b234bbe92c8176ee7e956b4d2ce4a65d", func := "thicket/thicketlaw01.LimbsForms", spec := "limbsForms", inPlace := ["internal/abi.NoEscape", "internal/bytealg.IndexByteString", "internal/bytealg.IndexString"], named := ["unicode/utf8.first", "unicode/utf8.acceptRanges", "internal/bytealg.MaxLen"], apart := false, laid := [("unicode/utf8.acceptRanges", laid_unicode_utf8_acceptRanges), ("unicode/utf8.first", laid_unicode_utf8_first)], narrowed := true }
def LimbsFormsUptoSaid : Prop := limbsFormsUptoRow.holds Tryd.pinned (OpenSpec.upto limbsFormsSpec)

/-- 'thicketlaw01.LimbsSums', WHERE WHAT IT READS IS OF BULK AT MOST 1048576: true; the input reads as it did. -/
def limbsSumsUptoRow : OpenClaim := { program := "ytfkgoofipbbhpaadoor", sum := "746d011f9988d1c52597a88398750ae1b234bbe92c8176ee7e956b4d2ce4a65d", func := "thicket/thicketlaw01.LimbsSums", spec := "limbsSums", inPlace := ["internal/abi.NoEscape", "internal/bytealg.IndexByteString", "internal/bytealg.IndexString"], named := ["unicode/utf8.first", "unicode/utf8.acceptRanges", "internal/bytealg.MaxLen"], apart := false, laid := [("unicode/utf8.acceptRanges", laid_unicode_utf8_acceptRanges), ("unicode/utf8.first", laid_unicode_utf8_first)], narrowed := true }
def LimbsSumsUptoSaid : Prop := limbsSumsUptoRow.holds Tryd.pinned (OpenSpec.upto limbsSumsSpec)

/-- 'thicketlaw01.LimbsLaws', WHERE WHAT IT READS IS OF BULK AT MOST 1048576: true; the input reads as it did. -/
def limbsLawsUptoRow : OpenClaim := { program := "ytfkgoofipbbhpaadoor", sum := "746d011f9988d1c52597a88398750ae1b234bbe92c8176ee7e956b4d2ce4a65d", func := "thicket/thicketlaw01.LimbsLaws", spec := "limbsLaws", inPlace := ["internal/abi.NoEscape", "internal/bytealg.IndexByteString", "internal/bytealg.IndexString"], named := ["unicode/utf8.first", "unicode/utf8.acceptRanges", "internal/bytealg.MaxLen"], apart := false, laid := [("unicode/utf8.acceptRanges", laid_unicode_utf8_acceptRanges), ("unicode/utf8.first", laid_unicode_utf8_first)], narrowed := true }
def LimbsLawsUptoSaid : Prop := limbsLawsUptoRow.holds Tryd.pinned (OpenSpec.upto limbsLawsSpec)

/-- 'thicketlaw01.LimbsPowers', WHERE WHAT IT READS IS OF BULK AT MOST 1048576: true; the input reads as it did. -/
def limbsPowersUptoRow : OpenClaim := { program := "ytfkgoofipbbhpaadoor", sum := "746d011f9988d1c52597a88398750ae1b234bbe92c8176ee7e956b4d2ce4a65d", func := "thicket/thicketlaw01.LimbsPowers", spec := "limbsPowers", inPlace := ["internal/abi.NoEscape", "internal/bytealg.IndexByteString", "internal/bytealg.IndexString"], named := ["unicode/utf8.first", "unicode/utf8.acceptRanges", "internal/bytealg.MaxLen"], apart := false, laid := [("unicode/utf8.acceptRanges", laid_unicode_utf8_acceptRanges), ("unicode/utf8.first", laid_unicode_utf8_first)], narrowed := true }
def LimbsPowersUptoSaid : Prop := limbsPowersUptoRow.holds Tryd.pinned (OpenSpec.upto limbsPowersSpec)

/-- 'thicketlaw01.LimbsOwn', WHERE WHAT IT READS IS OF BULK AT MOST 1048576: true; the input reads as it did. -/
def limbsOwnUptoRow : OpenClaim := { program := "ytfkgoofipbbhpaadoor", sum := "746d011f9988d1c52597a88398750ae1b234bbe92c8176ee7e956b4d2ce4a65d", func := "thicket/thicketlaw01.LimbsOwn", spec := "limbsOwn", inPlace := ["internal/abi.NoEscape", "internal/bytealg.IndexByteString", "internal/bytealg.IndexString"], named := ["unicode/utf8.first", "unicode/utf8.acceptRanges", "internal/bytealg.MaxLen"], apart := false, laid := [("unicode/utf8.acceptRanges", laid_unicode_utf8_acceptRanges), ("unicode/utf8.first", laid_unicode_utf8_first)], narrowed := true }
def LimbsOwnUptoSaid : Prop := limbsOwnUptoRow.holds Tryd.pinned (OpenSpec.upto limbsOwnSpec)

/-- 'thicketlaw01.LimbsRatios', WHERE WHAT IT READS IS OF BULK AT MOST 1048576: true; the input reads as it did. -/
def limbsRatiosUptoRow : OpenClaim := { program := "ytfkgoofipbbhpaadoor", sum := "746d011f9988d1c52597a88398750ae1b234bbe92c8176ee7e956b4d2ce4a65d", func := "thicket/thicketlaw01.LimbsRatios", spec := "limbsRatios", inPlace := ["internal/abi.NoEscape", "internal/bytealg.IndexByteString", "internal/bytealg.IndexString"], named := ["unicode/utf8.first", "unicode/utf8.acceptRanges", "internal/bytealg.MaxLen"], apart := false, laid := [("unicode/utf8.acceptRanges", laid_unicode_utf8_acceptRanges), ("unicode/utf8.first", laid_unicode_utf8_first)], narrowed := true }
def LimbsRatiosUptoSaid : Prop := limbsRatiosUptoRow.holds Tryd.pinned (OpenSpec.upto limbsRatiosSpec)

/-- 'thicketlaw01.LimbsField', WHERE WHAT IT READS IS OF BULK AT MOST 1048576: true; the input reads as it did. -/
def limbsFieldUptoRow : OpenClaim := { program := "ytfkgoofipbbhpaadoor", sum := "746d011f9988d1c52597a88398750ae1b234bbe92c8176ee7e956b4d2ce4a65d", func := "thicket/thicketlaw01.LimbsField", spec := "limbsField", inPlace := ["internal/abi.NoEscape", "internal/bytealg.IndexByteString", "internal/bytealg.IndexString"], named := ["unicode/utf8.first", "unicode/utf8.acceptRanges", "internal/bytealg.MaxLen"], apart := false, laid := [("unicode/utf8.acceptRanges", laid_unicode_utf8_acceptRanges), ("unicode/utf8.first", laid_unicode_utf8_first)], narrowed := true }
def LimbsFieldUptoSaid : Prop := limbsFieldUptoRow.holds Tryd.pinned (OpenSpec.upto limbsFieldSpec)

/-- 'thicketlaw01.LimbsWrites', WHERE WHAT IT READS IS OF BULK AT MOST 1048576: true; the input reads as it did. -/
def limbsWritesUptoRow : OpenClaim := { program := "ytfkgoofipbbhpaadoor", sum := "746d011f9988d1c52597a88398750ae1b234bbe92c8176ee7e956b4d2ce4a65d", func := "thicket/thicketlaw01.LimbsWrites", spec := "limbsWrites", inPlace := ["internal/abi.NoEscape", "internal/bytealg.IndexByteString", "internal/bytealg.IndexString", "internal/bytealg.MakeNoZero"], named := ["unicode/utf8.first", "unicode/utf8.acceptRanges", "internal/bytealg.MaxLen"], apart := false, laid := [("unicode/utf8.acceptRanges", laid_unicode_utf8_acceptRanges), ("unicode/utf8.first", laid_unicode_utf8_first)], narrowed := true }
def LimbsWritesUptoSaid : Prop := limbsWritesUptoRow.holds Tryd.pinned (OpenSpec.upto limbsWritesSpec)

end Rows
end Go.Proofs.YtfkgoofipbbhpaaDoor
