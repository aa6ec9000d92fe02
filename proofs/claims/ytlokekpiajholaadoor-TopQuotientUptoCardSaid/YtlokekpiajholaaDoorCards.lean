/-
  DERIVED. GIVEN WITH THE SEED: THE CARDS: each row of YtlokekpiajholaaDoorRows.lean that lists a variable, with what it lists TIED to the program's text (the seventh form; the later family's looks); each row that meets fmt, with fmt's text TOLD by the authors' own Lean function (tested against real Go, not proved from fmt's source: count such statements apart). THE CARD IS WHAT COUNTS. Prove the row's statement (the work); the ties are given (YtlokekpiajholaaDoorTie.lean); close each card by the builder's one call (the guide's Derived/Test/ToyasCard.lean, 'card_holds'). Laid BY PROGRAM, IN A SANDBOX (cutbox-door.mjs). By AI agents, Wed Nov 11 2026. No macro, syntax, notation, axiom, sorry.
-/
import Derived.Test.YtlokekpiajholaaDoorRows
import GoSem.ClaimSeven
namespace Go.Proofs.YtlokekpiajholaaDoor
namespace Rows

/-- THE TIED CARD OF 'thickettop.TopQuotient'. -/
def topQuotientCard : Claim7 := { stood := { row := topQuotientRow, standIns := [], harness := (true, "c02aa827f266d28109f9a8230b8837a8a885feab9ae66bd76f08ef5a39bd49f0"), looks := false }, kinds := [], alts := [], laidByText := true, laidKinds := [.data, .wider, .pinned], laidTests := true, laidLooks := .later }
def TopQuotientCardSaid : Prop := Claim7.holds Tryd.pinned (.plain (OpenSpec.ofChange topQuotientSpec)) topQuotientCard

/-- THE SECOND FORM's CARD OF 'thickettop.TopQuotient'. -/
def topQuotientUptoCard : Claim7 := { stood := { row := topQuotientUptoRow, standIns := [], harness := (true, "c02aa827f266d28109f9a8230b8837a8a885feab9ae66bd76f08ef5a39bd49f0"), looks := false }, kinds := [], alts := [], laidByText := true, laidKinds := [.data, .wider, .pinned], laidTests := true, laidLooks := .later }
def TopQuotientUptoCardSaid : Prop := Claim7.holds Tryd.pinned (.plain (OpenSpec.upto topQuotientSpec)) topQuotientUptoCard
end Rows
end Go.Proofs.YtlokekpiajholaaDoor
