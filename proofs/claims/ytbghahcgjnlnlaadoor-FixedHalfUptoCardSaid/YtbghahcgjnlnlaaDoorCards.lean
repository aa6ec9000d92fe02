/-
  DERIVED. GIVEN WITH THE SEED: THE CARDS: each row of YtbghahcgjnlnlaaDoorRows.lean that lists a variable, with what it lists TIED to the program's text (the seventh form; the later family's looks); each row that meets fmt, with fmt's text TOLD by the authors' own Lean function (tested against real Go, not proved from fmt's source: count such statements apart). THE CARD IS WHAT COUNTS. Prove the row's statement (the work); the ties are given (YtbghahcgjnlnlaaDoorTie.lean); close each card by the builder's one call (the guide's Derived/Test/ToyasCard.lean, 'card_holds'). Laid BY PROGRAM, IN A SANDBOX (cutbox-door.mjs). By AI agents, Wed Nov 11 2026. No macro, syntax, notation, axiom, sorry.
-/
import Derived.Test.YtbghahcgjnlnlaaDoorRows
import GoSem.ClaimSeven
namespace Go.Proofs.YtbghahcgjnlnlaaDoor
namespace Rows

/-- THE TIED CARD OF 'thicketlaw04.FixedFloats'. -/
def fixedFloatsCard : Claim7 := { stood := { row := fixedFloatsRow, standIns := [], harness := (true, "6241c91f3a64b92fe9b33c003eda92267f495c47d489616af11405690cba2c89"), looks := false }, kinds := [], alts := [], laidByText := true, laidKinds := [.wider], laidTests := true, laidLooks := .later }
def FixedFloatsCardSaid : Prop := Claim7.holds Tryd.pinned (.plain (OpenSpec.ofChange fixedFloatsSpec)) fixedFloatsCard

/-- THE TIED CARD OF 'thicketlaw04.FixedParts'. -/
def fixedPartsCard : Claim7 := { stood := { row := fixedPartsRow, standIns := [], harness := (true, "6241c91f3a64b92fe9b33c003eda92267f495c47d489616af11405690cba2c89"), looks := false }, kinds := [], alts := [], laidByText := true, laidKinds := [.data, .data, .data, .data, .wider, .pinned], laidTests := true, laidLooks := .later }
def FixedPartsCardSaid : Prop := Claim7.holds Tryd.pinned (.plain (OpenSpec.ofChange fixedPartsSpec)) fixedPartsCard

/-- THE TIED CARD OF 'thicketlaw04.FixedRises'. -/
def fixedRisesCard : Claim7 := { stood := { row := fixedRisesRow, standIns := [], harness := (true, "6241c91f3a64b92fe9b33c003eda92267f495c47d489616af11405690cba2c89"), looks := false }, kinds := [], alts := [], laidByText := true, laidKinds := [.data, .data, .data, .data, .wider, .pinned], laidTests := true, laidLooks := .later }
def FixedRisesCardSaid : Prop := Claim7.holds Tryd.pinned (.plain (OpenSpec.ofChange fixedRisesSpec)) fixedRisesCard

/-- THE TIED CARD OF 'thicketlaw04.FixedNear'. -/
def fixedNearCard : Claim7 := { stood := { row := fixedNearRow, standIns := [], harness := (true, "6241c91f3a64b92fe9b33c003eda92267f495c47d489616af11405690cba2c89"), looks := false }, kinds := [], alts := [], laidByText := true, laidKinds := [.data, .data, .data, .data, .wider, .pinned], laidTests := true, laidLooks := .later }
def FixedNearCardSaid : Prop := Claim7.holds Tryd.pinned (.plain (OpenSpec.ofChange fixedNearSpec)) fixedNearCard

/-- THE TIED CARD OF 'thicketlaw04.FixedHalf'. -/
def fixedHalfCard : Claim7 := { stood := { row := fixedHalfRow, standIns := [], harness := (true, "6241c91f3a64b92fe9b33c003eda92267f495c47d489616af11405690cba2c89"), looks := false }, kinds := [], alts := [], laidByText := true, laidKinds := [.data, .data, .data, .data, .wider, .pinned], laidTests := true, laidLooks := .later }
def FixedHalfCardSaid : Prop := Claim7.holds Tryd.pinned (.plain (OpenSpec.ofChange fixedHalfSpec)) fixedHalfCard

/-- THE SECOND FORM's CARD OF 'thicketlaw04.FixedFloats'. -/
def fixedFloatsUptoCard : Claim7 := { stood := { row := fixedFloatsUptoRow, standIns := [], harness := (true, "6241c91f3a64b92fe9b33c003eda92267f495c47d489616af11405690cba2c89"), looks := false }, kinds := [], alts := [], laidByText := true, laidKinds := [.wider], laidTests := true, laidLooks := .later }
def FixedFloatsUptoCardSaid : Prop := Claim7.holds Tryd.pinned (.plain (OpenSpec.upto fixedFloatsSpec)) fixedFloatsUptoCard

/-- THE SECOND FORM's CARD OF 'thicketlaw04.FixedParts'. -/
def fixedPartsUptoCard : Claim7 := { stood := { row := fixedPartsUptoRow, standIns := [], harness := (true, "6241c91f3a64b92fe9b33c003eda92267f495c47d489616af11405690cba2c89"), looks := false }, kinds := [], alts := [], laidByText := true, laidKinds := [.data, .data, .data, .data, .wider, .pinned], laidTests := true, laidLooks := .later }
def FixedPartsUptoCardSaid : Prop := Claim7.holds Tryd.pinned (.plain (OpenSpec.upto fixedPartsSpec)) fixedPartsUptoCard

/-- THE SECOND FORM's CARD OF 'thicketlaw04.FixedRises'. -/
def fixedRisesUptoCard : Claim7 := { stood := { row := fixedRisesUptoRow, standIns := [], harness := (true, "6241c91f3a64b92fe9b33c003eda92267f495c47d489616af11405690cba2c89"), looks := false }, kinds := [], alts := [], laidByText := true, laidKinds := [.data, .data, .data, .data, .wider, .pinned], laidTests := true, laidLooks := .later }
def FixedRisesUptoCardSaid : Prop := Claim7.holds Tryd.pinned (.plain (OpenSpec.upto fixedRisesSpec)) fixedRisesUptoCard

/-- THE SECOND FORM's CARD OF 'thicketlaw04.FixedNear'. -/
def fixedNearUptoCard : Claim7 := { stood := { row := fixedNearUptoRow, standIns := [], harness := (true, "6241c91f3a64b92fe9b33c003eda92267f495c47d489616af11405690cba2c89"), looks := false }, kinds := [], alts := [], laidByText := true, laidKinds := [.data, .data, .data, .data, .wider, .pinned], laidTests := true, laidLooks := .later }
def FixedNearUptoCardSaid : Prop := Claim7.holds Tryd.pinned (.plain (OpenSpec.upto fixedNearSpec)) fixedNearUptoCard

/-- THE SECOND FORM's CARD OF 'thicketlaw04.FixedHalf'. -/
def fixedHalfUptoCard : Claim7 := { stood := { row := fixedHalfUptoRow, standIns := [], harness := (true, "6241c91f3a64b92fe9b33c003eda92267f495c47d489616af11405690cba2c89"), looks := false }, kinds := [], alts := [], laidByText := true, laidKinds := [.data, .data, .data, .data, .wider, .pinned], laidTests := true, laidLooks := .later }
def FixedHalfUptoCardSaid : Prop := Claim7.holds Tryd.pinned (.plain (OpenSpec.upto fixedHalfSpec)) fixedHalfUptoCard
end Rows
end Go.Proofs.YtbghahcgjnlnlaaDoor
