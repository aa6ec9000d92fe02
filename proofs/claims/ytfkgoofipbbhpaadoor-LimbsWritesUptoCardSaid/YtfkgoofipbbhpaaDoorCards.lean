/-
  DERIVED. GIVEN WITH THE SEED: THE CARDS: each row of YtfkgoofipbbhpaaDoorRows.lean that lists a variable, with what it lists TIED to the program's text (the seventh form; the later family's looks); each row that meets fmt, with fmt's text TOLD by the authors' own Lean function (tested against real Go, not proved from fmt's source: count such statements apart). THE CARD IS WHAT COUNTS. Prove the row's statement (the work); the ties are given (YtfkgoofipbbhpaaDoorTie.lean); close each card by the builder's one call (the guide's Derived/Test/ToyasCard.lean, 'card_holds'). Laid BY PROGRAM, IN A SANDBOX (cutbox-door.mjs). By AI agents, Wed Nov 11 2026. No macro, syntax, notation, axiom, sorry.
-/
import Derived.Test.YtfkgoofipbbhpaaDoorRows
import GoSem.ClaimSeven
namespace Go.Proofs.YtfkgoofipbbhpaaDoor
namespace Rows

/-- THE TIED CARD OF 'thicketlaw01.LimbsReads'. -/
def limbsReadsCard : Claim7 := { stood := { row := limbsReadsRow, standIns := [], harness := (true, "275401b2a3c75ccf173f0407f7acc5229496ee0ba6537d07ea4d20c962b01506"), looks := false }, kinds := [], alts := [], laidByText := true, laidKinds := [.data, .pinned], laidTests := true, laidLooks := .later }
def LimbsReadsCardSaid : Prop := Claim7.holds Tryd.pinned (.plain (OpenSpec.ofChange limbsReadsSpec)) limbsReadsCard

/-- THE TIED CARD OF 'thicketlaw01.LimbsParts'. -/
def limbsPartsCard : Claim7 := { stood := { row := limbsPartsRow, standIns := [], harness := (true, "275401b2a3c75ccf173f0407f7acc5229496ee0ba6537d07ea4d20c962b01506"), looks := false }, kinds := [], alts := [], laidByText := true, laidKinds := [.data, .pinned], laidTests := true, laidLooks := .later }
def LimbsPartsCardSaid : Prop := Claim7.holds Tryd.pinned (.plain (OpenSpec.ofChange limbsPartsSpec)) limbsPartsCard

/-- THE TIED CARD OF 'thicketlaw01.LimbsForms'. -/
def limbsFormsCard : Claim7 := { stood := { row := limbsFormsRow, standIns := [], harness := (true, "275401b2a3c75ccf173f0407f7acc5229496ee0ba6537d07ea4d20c962b01506"), looks := false }, kinds := [], alts := [], laidByText := true, laidKinds := [.data, .pinned], laidTests := true, laidLooks := .later }
def LimbsFormsCardSaid : Prop := Claim7.holds Tryd.pinned (.plain (OpenSpec.ofChange limbsFormsSpec)) limbsFormsCard

/-- THE TIED CARD OF 'thicketlaw01.LimbsSums'. -/
def limbsSumsCard : Claim7 := { stood := { row := limbsSumsRow, standIns := [], harness := (true, "275401b2a3c75ccf173f0407f7acc5229496ee0ba6537d07ea4d20c962b01506"), looks := false }, kinds := [], alts := [], laidByText := true, laidKinds := [.data, .pinned], laidTests := true, laidLooks := .later }
def LimbsSumsCardSaid : Prop := Claim7.holds Tryd.pinned (.plain (OpenSpec.ofChange limbsSumsSpec)) limbsSumsCard

/-- THE TIED CARD OF 'thicketlaw01.LimbsLaws'. -/
def limbsLawsCard : Claim7 := { stood := { row := limbsLawsRow, standIns := [], harness := (true, "275401b2a3c75ccf173f0407f7acc5229496ee0ba6537d07ea4d20c962b01506"), looks := false }, kinds := [], alts := [], laidByText := true, laidKinds := [.data, .pinned], laidTests := true, laidLooks := .later }
def LimbsLawsCardSaid : Prop := Claim7.holds Tryd.pinned (.plain (OpenSpec.ofChange limbsLawsSpec)) limbsLawsCard

/-- THE TIED CARD OF 'thicketlaw01.LimbsPowers'. -/
def limbsPowersCard : Claim7 := { stood := { row := limbsPowersRow, standIns := [], harness := (true, "275401b2a3c75ccf173f0407f7acc5229496ee0ba6537d07ea4d20c962b01506"), looks := false }, kinds := [], alts := [], laidByText := true, laidKinds := [.data, .pinned], laidTests := true, laidLooks := .later }
def LimbsPowersCardSaid : Prop := Claim7.holds Tryd.pinned (.plain (OpenSpec.ofChange limbsPowersSpec)) limbsPowersCard

/-- THE TIED CARD OF 'thicketlaw01.LimbsOwn'. -/
def limbsOwnCard : Claim7 := { stood := { row := limbsOwnRow, standIns := [], harness := (true, "275401b2a3c75ccf173f0407f7acc5229496ee0ba6537d07ea4d20c962b01506"), looks := false }, kinds := [], alts := [], laidByText := true, laidKinds := [.data, .pinned], laidTests := true, laidLooks := .later }
def LimbsOwnCardSaid : Prop := Claim7.holds Tryd.pinned (.plain (OpenSpec.ofChange limbsOwnSpec)) limbsOwnCard

/-- THE TIED CARD OF 'thicketlaw01.LimbsRatios'. -/
def limbsRatiosCard : Claim7 := { stood := { row := limbsRatiosRow, standIns := [], harness := (true, "275401b2a3c75ccf173f0407f7acc5229496ee0ba6537d07ea4d20c962b01506"), looks := false }, kinds := [], alts := [], laidByText := true, laidKinds := [.data, .pinned], laidTests := true, laidLooks := .later }
def LimbsRatiosCardSaid : Prop := Claim7.holds Tryd.pinned (.plain (OpenSpec.ofChange limbsRatiosSpec)) limbsRatiosCard

/-- THE TIED CARD OF 'thicketlaw01.LimbsField'. -/
def limbsFieldCard : Claim7 := { stood := { row := limbsFieldRow, standIns := [], harness := (true, "275401b2a3c75ccf173f0407f7acc5229496ee0ba6537d07ea4d20c962b01506"), looks := false }, kinds := [], alts := [], laidByText := true, laidKinds := [.data, .pinned], laidTests := true, laidLooks := .later }
def LimbsFieldCardSaid : Prop := Claim7.holds Tryd.pinned (.plain (OpenSpec.ofChange limbsFieldSpec)) limbsFieldCard

/-- THE TIED CARD OF 'thicketlaw01.LimbsWrites'. -/
def limbsWritesCard : Claim7 := { stood := { row := limbsWritesRow, standIns := [], harness := (true, "275401b2a3c75ccf173f0407f7acc5229496ee0ba6537d07ea4d20c962b01506"), looks := false }, kinds := [], alts := [], laidByText := true, laidKinds := [.data, .pinned], laidTests := true, laidLooks := .later }
def LimbsWritesCardSaid : Prop := Claim7.holds Tryd.pinned (.plain (OpenSpec.ofChange limbsWritesSpec)) limbsWritesCard

/-- THE SECOND FORM's CARD OF 'thicketlaw01.LimbsReads'. -/
def limbsReadsUptoCard : Claim7 := { stood := { row := limbsReadsUptoRow, standIns := [], harness := (true, "275401b2a3c75ccf173f0407f7acc5229496ee0ba6537d07ea4d20c962b01506"), looks := false }, kinds := [], alts := [], laidByText := true, laidKinds := [.data, .pinned], laidTests := true, laidLooks := .later }
def LimbsReadsUptoCardSaid : Prop := Claim7.holds Tryd.pinned (.plain (OpenSpec.upto limbsReadsSpec)) limbsReadsUptoCard

/-- THE SECOND FORM's CARD OF 'thicketlaw01.LimbsParts'. -/
def limbsPartsUptoCard : Claim7 := { stood := { row := limbsPartsUptoRow, standIns := [], harness := (true, "275401b2a3c75ccf173f0407f7acc5229496ee0ba6537d07ea4d20c962b01506"), looks := false }, kinds := [], alts := [], laidByText := true, laidKinds := [.data, .pinned], laidTests := true, laidLooks := .later }
def LimbsPartsUptoCardSaid : Prop := Claim7.holds Tryd.pinned (.plain (OpenSpec.upto limbsPartsSpec)) limbsPartsUptoCard

/-- THE SECOND FORM's CARD OF 'thicketlaw01.LimbsForms'. -/
def limbsFormsUptoCard : Claim7 := { stood := { row := limbsFormsUptoRow, standIns := [], harness := (true, "275401b2a3c75ccf173f0407f7acc5229496ee0ba6537d07ea4d20c962b01506"), looks := false }, kinds := [], alts := [], laidByText := true, laidKinds := [.data, .pinned], laidTests := true, laidLooks := .later }
def LimbsFormsUptoCardSaid : Prop := Claim7.holds Tryd.pinned (.plain (OpenSpec.upto limbsFormsSpec)) limbsFormsUptoCard

/-- THE SECOND FORM's CARD OF 'thicketlaw01.LimbsSums'. -/
def limbsSumsUptoCard : Claim7 := { stood := { row := limbsSumsUptoRow, standIns := [], harness := (true, "275401b2a3c75ccf173f0407f7acc5229496ee0ba6537d07ea4d20c962b01506"), looks := false }, kinds := [], alts := [], laidByText := true, laidKinds := [.data, .pinned], laidTests := true, laidLooks := .later }
def LimbsSumsUptoCardSaid : Prop := Claim7.holds Tryd.pinned (.plain (OpenSpec.upto limbsSumsSpec)) limbsSumsUptoCard

/-- THE SECOND FORM's CARD OF 'thicketlaw01.LimbsLaws'. -/
def limbsLawsUptoCard : Claim7 := { stood := { row := limbsLawsUptoRow, standIns := [], harness := (true, "275401b2a3c75ccf173f0407f7acc5229496ee0ba6537d07ea4d20c962b01506"), looks := false }, kinds := [], alts := [], laidByText := true, laidKinds := [.data, .pinned], laidTests := true, laidLooks := .later }
def LimbsLawsUptoCardSaid : Prop := Claim7.holds Tryd.pinned (.plain (OpenSpec.upto limbsLawsSpec)) limbsLawsUptoCard

/-- THE SECOND FORM's CARD OF 'thicketlaw01.LimbsPowers'. -/
def limbsPowersUptoCard : Claim7 := { stood := { row := limbsPowersUptoRow, standIns := [], harness := (true, "275401b2a3c75ccf173f0407f7acc5229496ee0ba6537d07ea4d20c962b01506"), looks := false }, kinds := [], alts := [], laidByText := true, laidKinds := [.data, .pinned], laidTests := true, laidLooks := .later }
def LimbsPowersUptoCardSaid : Prop := Claim7.holds Tryd.pinned (.plain (OpenSpec.upto limbsPowersSpec)) limbsPowersUptoCard

/-- THE SECOND FORM's CARD OF 'thicketlaw01.LimbsOwn'. -/
def limbsOwnUptoCard : Claim7 := { stood := { row := limbsOwnUptoRow, standIns := [], harness := (true, "275401b2a3c75ccf173f0407f7acc5229496ee0ba6537d07ea4d20c962b01506"), looks := false }, kinds := [], alts := [], laidByText := true, laidKinds := [.data, .pinned], laidTests := true, laidLooks := .later }
def LimbsOwnUptoCardSaid : Prop := Claim7.holds Tryd.pinned (.plain (OpenSpec.upto limbsOwnSpec)) limbsOwnUptoCard

/-- THE SECOND FORM's CARD OF 'thicketlaw01.LimbsRatios'. -/
def limbsRatiosUptoCard : Claim7 := { stood := { row := limbsRatiosUptoRow, standIns := [], harness := (true, "275401b2a3c75ccf173f0407f7acc5229496ee0ba6537d07ea4d20c962b01506"), looks := false }, kinds := [], alts := [], laidByText := true, laidKinds := [.data, .pinned], laidTests := true, laidLooks := .later }
def LimbsRatiosUptoCardSaid : Prop := Claim7.holds Tryd.pinned (.plain (OpenSpec.upto limbsRatiosSpec)) limbsRatiosUptoCard

/-- THE SECOND FORM's CARD OF 'thicketlaw01.LimbsField'. -/
def limbsFieldUptoCard : Claim7 := { stood := { row := limbsFieldUptoRow, standIns := [], harness := (true, "275401b2a3c75ccf173f0407f7acc5229496ee0ba6537d07ea4d20c962b01506"), looks := false }, kinds := [], alts := [], laidByText := true, laidKinds := [.data, .pinned], laidTests := true, laidLooks := .later }
def LimbsFieldUptoCardSaid : Prop := Claim7.holds Tryd.pinned (.plain (OpenSpec.upto limbsFieldSpec)) limbsFieldUptoCard

/-- THE SECOND FORM's CARD OF 'thicketlaw01.LimbsWrites'. -/
def limbsWritesUptoCard : Claim7 := { stood := { row := limbsWritesUptoRow, standIns := [], harness := (true, "275401b2a3c75ccf173f0407f7acc5229496ee0ba6537d07ea4d20c962b01506"), looks := false }, kinds := [], alts := [], laidByText := true, laidKinds := [.data, .pinned], laidTests := true, laidLooks := .later }
def LimbsWritesUptoCardSaid : Prop := Claim7.holds Tryd.pinned (.plain (OpenSpec.upto limbsWritesSpec)) limbsWritesUptoCard
end Rows
end Go.Proofs.YtfkgoofipbbhpaaDoor
