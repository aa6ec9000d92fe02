/-
  DERIVED. GIVEN WITH THE SEED: THE CARDS: each row of YtfnhfjpoeacoaaaDoorRows.lean that lists a variable, with what it lists TIED to the program's text (the seventh form; the later family's looks); each row that meets fmt, with fmt's text TOLD by the authors' own Lean function (tested against real Go, not proved from fmt's source: count such statements apart). THE CARD IS WHAT COUNTS. Prove the row's statement (the work); the ties are given (YtfnhfjpoeacoaaaDoorTie.lean); close each card by the builder's one call (the guide's Derived/Test/ToyasCard.lean, 'card_holds'). Laid BY PROGRAM, IN A SANDBOX (cutbox-door.mjs). By AI agents, Wed Nov 11 2026. No macro, syntax, notation, axiom, sorry.
-/
import Derived.Test.YtfnhfjpoeacoaaaDoorRows
import GoSem.ClaimSeven
namespace Go.Proofs.YtfnhfjpoeacoaaaDoor
namespace Rows

/-- THE TIED CARD OF 'thicketlaw03.ScanRows'. -/
def scanRowsCard : Claim7 := { stood := { row := scanRowsRow, standIns := [], harness := (true, "ce5e8b7559fd1d421bf14752e232ff29bad300d2efe79c1d69336fe47127e813"), looks := false }, kinds := [], alts := [], laidByText := true, laidKinds := [.data], laidTests := true, laidLooks := .later }
def ScanRowsCardSaid : Prop := Claim7.holds Tryd.pinned (.plain (OpenSpec.ofChange scanRowsSpec)) scanRowsCard

/-- THE TIED CARD OF 'thicketlaw03.ScanWords'. -/
def scanWordsCard : Claim7 := { stood := { row := scanWordsRow, standIns := [], harness := (true, "ce5e8b7559fd1d421bf14752e232ff29bad300d2efe79c1d69336fe47127e813"), looks := false }, kinds := [], alts := [], laidByText := true, laidKinds := [.data], laidTests := true, laidLooks := .later }
def ScanWordsCardSaid : Prop := Claim7.holds Tryd.pinned (.plain (OpenSpec.ofChange scanWordsSpec)) scanWordsCard

/-- THE TIED CARD OF 'thicketlaw03.ScanOwn'. -/
def scanOwnCard : Claim7 := { stood := { row := scanOwnRow, standIns := [], harness := (true, "ce5e8b7559fd1d421bf14752e232ff29bad300d2efe79c1d69336fe47127e813"), looks := false }, kinds := [], alts := [], laidByText := true, laidKinds := [.data], laidTests := true, laidLooks := .later }
def ScanOwnCardSaid : Prop := Claim7.holds Tryd.pinned (.plain (OpenSpec.ofChange scanOwnSpec)) scanOwnCard

/-- THE TIED CARD OF 'thicketlaw03.ScanAgain'. -/
def scanAgainCard : Claim7 := { stood := { row := scanAgainRow, standIns := [], harness := (true, "ce5e8b7559fd1d421bf14752e232ff29bad300d2efe79c1d69336fe47127e813"), looks := false }, kinds := [], alts := [], laidByText := true, laidKinds := [.data], laidTests := true, laidLooks := .later }
def ScanAgainCardSaid : Prop := Claim7.holds Tryd.pinned (.plain (OpenSpec.ofChange scanAgainSpec)) scanAgainCard

/-- THE TIED CARD OF 'thicketlaw03.ScanTexts'. -/
def scanTextsCard : Claim7 := { stood := { row := scanTextsRow, standIns := [], harness := (true, "ce5e8b7559fd1d421bf14752e232ff29bad300d2efe79c1d69336fe47127e813"), looks := false }, kinds := [], alts := [], laidByText := true, laidKinds := [.data], laidTests := true, laidLooks := .later }
def ScanTextsCardSaid : Prop := Claim7.holds Tryd.pinned (.plain (OpenSpec.ofChange scanTextsSpec)) scanTextsCard

/-- THE TIED CARD OF 'thicketlaw03.ScanFields'. -/
def scanFieldsCard : Claim7 := { stood := { row := scanFieldsRow, standIns := [], harness := (true, "ce5e8b7559fd1d421bf14752e232ff29bad300d2efe79c1d69336fe47127e813"), looks := false }, kinds := [], alts := [], laidByText := true, laidKinds := [.data, .data, .pinned], laidTests := true, laidLooks := .later }
def ScanFieldsCardSaid : Prop := Claim7.holds Tryd.pinned (.plain (OpenSpec.ofChange scanFieldsSpec)) scanFieldsCard

/-- THE TIED CARD OF 'thicketlaw03.ScanBack'. -/
def scanBackCard : Claim7 := { stood := { row := scanBackRow, standIns := [], harness := (true, "ce5e8b7559fd1d421bf14752e232ff29bad300d2efe79c1d69336fe47127e813"), looks := false }, kinds := [], alts := [], laidByText := true, laidKinds := [.data, .data, .pinned], laidTests := true, laidLooks := .later }
def ScanBackCardSaid : Prop := Claim7.holds Tryd.pinned (.plain (OpenSpec.ofChange scanBackSpec)) scanBackCard

/-- THE SECOND FORM's CARD OF 'thicketlaw03.ScanRows'. -/
def scanRowsUptoCard : Claim7 := { stood := { row := scanRowsUptoRow, standIns := [], harness := (true, "ce5e8b7559fd1d421bf14752e232ff29bad300d2efe79c1d69336fe47127e813"), looks := false }, kinds := [], alts := [], laidByText := true, laidKinds := [.data], laidTests := true, laidLooks := .later }
def ScanRowsUptoCardSaid : Prop := Claim7.holds Tryd.pinned (.plain (OpenSpec.upto scanRowsSpec)) scanRowsUptoCard

/-- THE SECOND FORM's CARD OF 'thicketlaw03.ScanWords'. -/
def scanWordsUptoCard : Claim7 := { stood := { row := scanWordsUptoRow, standIns := [], harness := (true, "ce5e8b7559fd1d421bf14752e232ff29bad300d2efe79c1d69336fe47127e813"), looks := false }, kinds := [], alts := [], laidByText := true, laidKinds := [.data], laidTests := true, laidLooks := .later }
def ScanWordsUptoCardSaid : Prop := Claim7.holds Tryd.pinned (.plain (OpenSpec.upto scanWordsSpec)) scanWordsUptoCard

/-- THE SECOND FORM's CARD OF 'thicketlaw03.ScanOwn'. -/
def scanOwnUptoCard : Claim7 := { stood := { row := scanOwnUptoRow, standIns := [], harness := (true, "ce5e8b7559fd1d421bf14752e232ff29bad300d2efe79c1d69336fe47127e813"), looks := false }, kinds := [], alts := [], laidByText := true, laidKinds := [.data], laidTests := true, laidLooks := .later }
def ScanOwnUptoCardSaid : Prop := Claim7.holds Tryd.pinned (.plain (OpenSpec.upto scanOwnSpec)) scanOwnUptoCard

/-- THE SECOND FORM's CARD OF 'thicketlaw03.ScanAgain'. -/
def scanAgainUptoCard : Claim7 := { stood := { row := scanAgainUptoRow, standIns := [], harness := (true, "ce5e8b7559fd1d421bf14752e232ff29bad300d2efe79c1d69336fe47127e813"), looks := false }, kinds := [], alts := [], laidByText := true, laidKinds := [.data], laidTests := true, laidLooks := .later }
def ScanAgainUptoCardSaid : Prop := Claim7.holds Tryd.pinned (.plain (OpenSpec.upto scanAgainSpec)) scanAgainUptoCard

/-- THE SECOND FORM's CARD OF 'thicketlaw03.ScanTexts'. -/
def scanTextsUptoCard : Claim7 := { stood := { row := scanTextsUptoRow, standIns := [], harness := (true, "ce5e8b7559fd1d421bf14752e232ff29bad300d2efe79c1d69336fe47127e813"), looks := false }, kinds := [], alts := [], laidByText := true, laidKinds := [.data], laidTests := true, laidLooks := .later }
def ScanTextsUptoCardSaid : Prop := Claim7.holds Tryd.pinned (.plain (OpenSpec.upto scanTextsSpec)) scanTextsUptoCard

/-- THE SECOND FORM's CARD OF 'thicketlaw03.ScanFields'. -/
def scanFieldsUptoCard : Claim7 := { stood := { row := scanFieldsUptoRow, standIns := [], harness := (true, "ce5e8b7559fd1d421bf14752e232ff29bad300d2efe79c1d69336fe47127e813"), looks := false }, kinds := [], alts := [], laidByText := true, laidKinds := [.data, .data, .pinned], laidTests := true, laidLooks := .later }
def ScanFieldsUptoCardSaid : Prop := Claim7.holds Tryd.pinned (.plain (OpenSpec.upto scanFieldsSpec)) scanFieldsUptoCard

/-- THE SECOND FORM's CARD OF 'thicketlaw03.ScanBack'. -/
def scanBackUptoCard : Claim7 := { stood := { row := scanBackUptoRow, standIns := [], harness := (true, "ce5e8b7559fd1d421bf14752e232ff29bad300d2efe79c1d69336fe47127e813"), looks := false }, kinds := [], alts := [], laidByText := true, laidKinds := [.data, .data, .pinned], laidTests := true, laidLooks := .later }
def ScanBackUptoCardSaid : Prop := Claim7.holds Tryd.pinned (.plain (OpenSpec.upto scanBackSpec)) scanBackUptoCard
end Rows
end Go.Proofs.YtfnhfjpoeacoaaaDoor
