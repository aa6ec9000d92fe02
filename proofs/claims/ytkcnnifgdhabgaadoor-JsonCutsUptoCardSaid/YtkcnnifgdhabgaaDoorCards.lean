/-
  DERIVED. GIVEN WITH THE SEED: THE CARDS: each row of YtkcnnifgdhabgaaDoorRows.lean that lists a variable, with what it lists TIED to the program's text (the seventh form; the later family's looks); each row that meets fmt, with fmt's text TOLD by the authors' own Lean function (tested against real Go, not proved from fmt's source: count such statements apart). THE CARD IS WHAT COUNTS. Prove the row's statement (the work); the ties are given (YtkcnnifgdhabgaaDoorTie.lean); close each card by the builder's one call (the guide's Derived/Test/ToyasCard.lean, 'card_holds'). Laid BY PROGRAM, IN A SANDBOX (cutbox-door.mjs). By AI agents, Wed Nov 11 2026. No macro, syntax, notation, axiom, sorry.
-/
import Derived.Test.YtkcnnifgdhabgaaDoorRows
import GoSem.ClaimSeven
namespace Go.Proofs.YtkcnnifgdhabgaaDoor
namespace Rows

/-- THE TIED CARD OF 'thicketlaw10.JsonParses'. -/
def jsonParsesCard : Claim7 := { stood := { row := jsonParsesRow, standIns := [], harness := (true, "e7969d80d7376c4586750498cd494b73cf2daeb7f362ac9f63ca20d5d40d873e"), looks := true }, kinds := [], alts := [], laidByText := true, laidKinds := [.data, .pinned], laidTests := true, laidLooks := .later }
def JsonParsesCardSaid : Prop := Claim7.holds Tryd.pinned (.plain (OpenSpec.ofChange jsonParsesSpec)) jsonParsesCard

/-- THE TIED CARD OF 'thicketlaw10.JsonPrints'. -/
def jsonPrintsCard : Claim7 := { stood := { row := jsonPrintsRow, standIns := [], harness := (true, "e7969d80d7376c4586750498cd494b73cf2daeb7f362ac9f63ca20d5d40d873e"), looks := true }, kinds := [], alts := [], laidByText := true, laidKinds := [.data, .pinned], laidTests := true, laidLooks := .later }
def JsonPrintsCardSaid : Prop := Claim7.holds Tryd.pinned (.plain (OpenSpec.ofChange jsonPrintsSpec)) jsonPrintsCard

/-- THE TIED CARD OF 'thicketlaw10.JsonBack'. -/
def jsonBackCard : Claim7 := { stood := { row := jsonBackRow, standIns := [], harness := (true, "e7969d80d7376c4586750498cd494b73cf2daeb7f362ac9f63ca20d5d40d873e"), looks := true }, kinds := [], alts := [], laidByText := true, laidKinds := [.data, .pinned], laidTests := true, laidLooks := .later }
def JsonBackCardSaid : Prop := Claim7.holds Tryd.pinned (.plain (OpenSpec.ofChange jsonBackSpec)) jsonBackCard

/-- THE TIED CARD OF 'thicketlaw10.JsonCuts'. -/
def jsonCutsCard : Claim7 := { stood := { row := jsonCutsRow, standIns := [], harness := (true, "e7969d80d7376c4586750498cd494b73cf2daeb7f362ac9f63ca20d5d40d873e"), looks := true }, kinds := [], alts := [], laidByText := true, laidKinds := [.data, .pinned], laidTests := true, laidLooks := .later }
def JsonCutsCardSaid : Prop := Claim7.holds Tryd.pinned (.plain (OpenSpec.ofChange jsonCutsSpec)) jsonCutsCard

/-- THE TIED CARD OF 'thicketlaw10.JsonOwn'. -/
def jsonOwnCard : Claim7 := { stood := { row := jsonOwnRow, standIns := [], harness := (true, "e7969d80d7376c4586750498cd494b73cf2daeb7f362ac9f63ca20d5d40d873e"), looks := true }, kinds := [], alts := [], laidByText := true, laidKinds := [.data, .pinned], laidTests := true, laidLooks := .later }
def JsonOwnCardSaid : Prop := Claim7.holds Tryd.pinned (.plain (OpenSpec.ofChange jsonOwnSpec)) jsonOwnCard

/-- THE SECOND FORM's CARD OF 'thicketlaw10.JsonParses'. -/
def jsonParsesUptoCard : Claim7 := { stood := { row := jsonParsesUptoRow, standIns := [], harness := (true, "e7969d80d7376c4586750498cd494b73cf2daeb7f362ac9f63ca20d5d40d873e"), looks := true }, kinds := [], alts := [], laidByText := true, laidKinds := [.data, .pinned], laidTests := true, laidLooks := .later }
def JsonParsesUptoCardSaid : Prop := Claim7.holds Tryd.pinned (.plain (OpenSpec.upto jsonParsesSpec)) jsonParsesUptoCard

/-- THE SECOND FORM's CARD OF 'thicketlaw10.JsonPrints'. -/
def jsonPrintsUptoCard : Claim7 := { stood := { row := jsonPrintsUptoRow, standIns := [], harness := (true, "e7969d80d7376c4586750498cd494b73cf2daeb7f362ac9f63ca20d5d40d873e"), looks := true }, kinds := [], alts := [], laidByText := true, laidKinds := [.data, .pinned], laidTests := true, laidLooks := .later }
def JsonPrintsUptoCardSaid : Prop := Claim7.holds Tryd.pinned (.plain (OpenSpec.upto jsonPrintsSpec)) jsonPrintsUptoCard

/-- THE SECOND FORM's CARD OF 'thicketlaw10.JsonBack'. -/
def jsonBackUptoCard : Claim7 := { stood := { row := jsonBackUptoRow, standIns := [], harness := (true, "e7969d80d7376c4586750498cd494b73cf2daeb7f362ac9f63ca20d5d40d873e"), looks := true }, kinds := [], alts := [], laidByText := true, laidKinds := [.data, .pinned], laidTests := true, laidLooks := .later }
def JsonBackUptoCardSaid : Prop := Claim7.holds Tryd.pinned (.plain (OpenSpec.upto jsonBackSpec)) jsonBackUptoCard

/-- THE SECOND FORM's CARD OF 'thicketlaw10.JsonCuts'. -/
def jsonCutsUptoCard : Claim7 := { stood := { row := jsonCutsUptoRow, standIns := [], harness := (true, "e7969d80d7376c4586750498cd494b73cf2daeb7f362ac9f63ca20d5d40d873e"), looks := true }, kinds := [], alts := [], laidByText := true, laidKinds := [.data, .pinned], laidTests := true, laidLooks := .later }
def JsonCutsUptoCardSaid : Prop := Claim7.holds Tryd.pinned (.plain (OpenSpec.upto jsonCutsSpec)) jsonCutsUptoCard

/-- THE SECOND FORM's CARD OF 'thicketlaw10.JsonOwn'. -/
def jsonOwnUptoCard : Claim7 := { stood := { row := jsonOwnUptoRow, standIns := [], harness := (true, "e7969d80d7376c4586750498cd494b73cf2daeb7f362ac9f63ca20d5d40d873e"), looks := true }, kinds := [], alts := [], laidByText := true, laidKinds := [.data, .pinned], laidTests := true, laidLooks := .later }
def JsonOwnUptoCardSaid : Prop := Claim7.holds Tryd.pinned (.plain (OpenSpec.upto jsonOwnSpec)) jsonOwnUptoCard
end Rows
end Go.Proofs.YtkcnnifgdhabgaaDoor
