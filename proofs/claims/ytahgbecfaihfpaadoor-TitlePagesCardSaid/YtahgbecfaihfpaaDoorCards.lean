/-
  DERIVED. GIVEN WITH THE SEED: THE CARDS: each row of YtahgbecfaihfpaaDoorRows.lean that lists a variable, with what it lists TIED to the program's text (the seventh form; the later family's looks); each row that meets fmt, with fmt's text TOLD by the authors' own Lean function (tested against real Go, not proved from fmt's source: count such statements apart). THE CARD IS WHAT COUNTS. Prove the row's statement (the work); the ties are given (YtahgbecfaihfpaaDoorTie.lean); close each card by the builder's one call (the guide's Derived/Test/ToyasCard.lean, 'card_holds'). Laid BY PROGRAM, IN A SANDBOX (cutbox-door.mjs). By AI agents, Wed Nov 11 2026. No macro, syntax, notation, axiom, sorry.
-/
import Derived.Test.YtahgbecfaihfpaaDoorRows
import GoSem.ClaimSeven
namespace Go.Proofs.YtahgbecfaihfpaaDoor
namespace Rows

/-- THE TIED CARD OF 'telecinelaw10.TitleSets'. -/
def titleSetsCard : Claim7 := { stood := { row := titleSetsRow, standIns := [], harness := (true, "2d004a838aa28c5ba351fd260f5d27d8a1237c846f88b143b8d4542b5dd9a1ca"), looks := true }, kinds := [], alts := [], laidByText := true, laidKinds := [.data, .pinned], laidTests := true, laidLooks := .later }
def TitleSetsCardSaid : Prop := Claim7.holds Tryd.pinned (.plain (OpenSpec.ofChange titleSetsSpec)) titleSetsCard

/-- THE TIED CARD OF 'telecinelaw10.TitleJudges'. -/
def titleJudgesCard : Claim7 := { stood := { row := titleJudgesRow, standIns := [], harness := (true, "2d004a838aa28c5ba351fd260f5d27d8a1237c846f88b143b8d4542b5dd9a1ca"), looks := true }, kinds := [], alts := [], laidByText := true, laidKinds := [.data, .pinned], laidTests := true, laidLooks := .later }
def TitleJudgesCardSaid : Prop := Claim7.holds Tryd.pinned (.plain (OpenSpec.ofChange titleJudgesSpec)) titleJudgesCard

/-- THE TIED CARD OF 'telecinelaw10.TitleSpelled'. -/
def titleSpelledCard : Claim7 := { stood := { row := titleSpelledRow, standIns := [], harness := (true, "2d004a838aa28c5ba351fd260f5d27d8a1237c846f88b143b8d4542b5dd9a1ca"), looks := true }, kinds := [], alts := [], laidByText := true, laidKinds := [.data, .pinned], laidTests := true, laidLooks := .later }
def TitleSpelledCardSaid : Prop := Claim7.holds Tryd.pinned (.plain (OpenSpec.ofChange titleSpelledSpec)) titleSpelledCard

/-- THE TIED CARD OF 'telecinelaw10.TitleProof'. -/
def titleProofCard : Claim7 := { stood := { row := titleProofRow, standIns := [], harness := (true, "2d004a838aa28c5ba351fd260f5d27d8a1237c846f88b143b8d4542b5dd9a1ca"), looks := true }, kinds := [], alts := [], laidByText := true, laidKinds := [.data, .pinned], laidTests := true, laidLooks := .later }
def TitleProofCardSaid : Prop := Claim7.holds Tryd.pinned (.plain (OpenSpec.ofChange titleProofSpec)) titleProofCard

/-- THE TIED CARD OF 'telecinelaw10.TitleInk'. -/
def titleInkCard : Claim7 := { stood := { row := titleInkRow, standIns := [], harness := (true, "2d004a838aa28c5ba351fd260f5d27d8a1237c846f88b143b8d4542b5dd9a1ca"), looks := true }, kinds := [], alts := [], laidByText := true, laidKinds := [.data, .pinned], laidTests := true, laidLooks := .later }
def TitleInkCardSaid : Prop := Claim7.holds Tryd.pinned (.plain (OpenSpec.ofChange titleInkSpec)) titleInkCard

/-- THE TIED CARD OF 'telecinelaw10.TitleChecks'. -/
def titleChecksCard : Claim7 := { stood := { row := titleChecksRow, standIns := [], harness := (true, "2d004a838aa28c5ba351fd260f5d27d8a1237c846f88b143b8d4542b5dd9a1ca"), looks := true }, kinds := [], alts := [], laidByText := true, laidKinds := [.data, .pinned], laidTests := true, laidLooks := .later }
def TitleChecksCardSaid : Prop := Claim7.holds Tryd.pinned (.plain (OpenSpec.ofChange titleChecksSpec)) titleChecksCard

/-- THE TIED CARD OF 'telecinelaw10.TitleBreaks'. -/
def titleBreaksCard : Claim7 := { stood := { row := titleBreaksRow, standIns := [], harness := (true, "2d004a838aa28c5ba351fd260f5d27d8a1237c846f88b143b8d4542b5dd9a1ca"), looks := true }, kinds := [], alts := [], laidByText := true, laidKinds := [.data, .pinned], laidTests := true, laidLooks := .later }
def TitleBreaksCardSaid : Prop := Claim7.holds Tryd.pinned (.plain (OpenSpec.ofChange titleBreaksSpec)) titleBreaksCard

/-- THE TIED CARD OF 'telecinelaw10.TitleLeast'. -/
def titleLeastCard : Claim7 := { stood := { row := titleLeastRow, standIns := [], harness := (true, "2d004a838aa28c5ba351fd260f5d27d8a1237c846f88b143b8d4542b5dd9a1ca"), looks := true }, kinds := [], alts := [], laidByText := true, laidKinds := [.data, .pinned], laidTests := true, laidLooks := .later }
def TitleLeastCardSaid : Prop := Claim7.holds Tryd.pinned (.plain (OpenSpec.ofChange titleLeastSpec)) titleLeastCard

/-- THE TIED CARD OF 'telecinelaw10.TitleFurther'. -/
def titleFurtherCard : Claim7 := { stood := { row := titleFurtherRow, standIns := [], harness := (true, "2d004a838aa28c5ba351fd260f5d27d8a1237c846f88b143b8d4542b5dd9a1ca"), looks := true }, kinds := [], alts := [], laidByText := true, laidKinds := [.data, .pinned], laidTests := true, laidLooks := .later }
def TitleFurtherCardSaid : Prop := Claim7.holds Tryd.pinned (.plain (OpenSpec.ofChange titleFurtherSpec)) titleFurtherCard

/-- THE TIED CARD OF 'telecinelaw10.TitleOne'. -/
def titleOneCard : Claim7 := { stood := { row := titleOneRow, standIns := [], harness := (true, "2d004a838aa28c5ba351fd260f5d27d8a1237c846f88b143b8d4542b5dd9a1ca"), looks := true }, kinds := [], alts := [], laidByText := true, laidKinds := [.data, .pinned], laidTests := true, laidLooks := .later }
def TitleOneCardSaid : Prop := Claim7.holds Tryd.pinned (.plain (OpenSpec.ofChange titleOneSpec)) titleOneCard

/-- THE TIED CARD OF 'telecinelaw10.TitlePages'. -/
def titlePagesCard : Claim7 := { stood := { row := titlePagesRow, standIns := [], harness := (true, "2d004a838aa28c5ba351fd260f5d27d8a1237c846f88b143b8d4542b5dd9a1ca"), looks := true }, kinds := [], alts := [], laidByText := true, laidKinds := [.data, .pinned], laidTests := true, laidLooks := .later }
def TitlePagesCardSaid : Prop := Claim7.holds Tryd.pinned (.plain (OpenSpec.ofChange titlePagesSpec)) titlePagesCard

/-- THE TIED CARD OF 'telecinelaw10.TitleAlone'. -/
def titleAloneCard : Claim7 := { stood := { row := titleAloneRow, standIns := [], harness := (true, "2d004a838aa28c5ba351fd260f5d27d8a1237c846f88b143b8d4542b5dd9a1ca"), looks := true }, kinds := [], alts := [], laidByText := true, laidKinds := [.data, .pinned], laidTests := true, laidLooks := .later }
def TitleAloneCardSaid : Prop := Claim7.holds Tryd.pinned (.plain (OpenSpec.ofChange titleAloneSpec)) titleAloneCard

/-- THE TIED CARD OF 'telecinelaw10.TitleKnown'. -/
def titleKnownCard : Claim7 := { stood := { row := titleKnownRow, standIns := [], harness := (true, "2d004a838aa28c5ba351fd260f5d27d8a1237c846f88b143b8d4542b5dd9a1ca"), looks := true }, kinds := [], alts := [], laidByText := true, laidKinds := [.data, .pinned], laidTests := true, laidLooks := .later }
def TitleKnownCardSaid : Prop := Claim7.holds Tryd.pinned (.plain (OpenSpec.ofChange titleKnownSpec)) titleKnownCard

/-- THE TIED CARD OF 'telecinelaw10.TitlePlaced'. -/
def titlePlacedCard : Claim7 := { stood := { row := titlePlacedRow, standIns := [], harness := (true, "2d004a838aa28c5ba351fd260f5d27d8a1237c846f88b143b8d4542b5dd9a1ca"), looks := true }, kinds := [], alts := [], laidByText := true, laidKinds := [.data, .pinned], laidTests := true, laidLooks := .later }
def TitlePlacedCardSaid : Prop := Claim7.holds Tryd.pinned (.plain (OpenSpec.ofChange titlePlacedSpec)) titlePlacedCard

/-- THE SECOND FORM's CARD OF 'telecinelaw10.TitleSets'. -/
def titleSetsUptoCard : Claim7 := { stood := { row := titleSetsUptoRow, standIns := [], harness := (true, "2d004a838aa28c5ba351fd260f5d27d8a1237c846f88b143b8d4542b5dd9a1ca"), looks := true }, kinds := [], alts := [], laidByText := true, laidKinds := [.data, .pinned], laidTests := true, laidLooks := .later }
def TitleSetsUptoCardSaid : Prop := Claim7.holds Tryd.pinned (.plain (OpenSpec.upto titleSetsSpec)) titleSetsUptoCard

/-- THE SECOND FORM's CARD OF 'telecinelaw10.TitleJudges'. -/
def titleJudgesUptoCard : Claim7 := { stood := { row := titleJudgesUptoRow, standIns := [], harness := (true, "2d004a838aa28c5ba351fd260f5d27d8a1237c846f88b143b8d4542b5dd9a1ca"), looks := true }, kinds := [], alts := [], laidByText := true, laidKinds := [.data, .pinned], laidTests := true, laidLooks := .later }
def TitleJudgesUptoCardSaid : Prop := Claim7.holds Tryd.pinned (.plain (OpenSpec.upto titleJudgesSpec)) titleJudgesUptoCard

/-- THE SECOND FORM's CARD OF 'telecinelaw10.TitleSpelled'. -/
def titleSpelledUptoCard : Claim7 := { stood := { row := titleSpelledUptoRow, standIns := [], harness := (true, "2d004a838aa28c5ba351fd260f5d27d8a1237c846f88b143b8d4542b5dd9a1ca"), looks := true }, kinds := [], alts := [], laidByText := true, laidKinds := [.data, .pinned], laidTests := true, laidLooks := .later }
def TitleSpelledUptoCardSaid : Prop := Claim7.holds Tryd.pinned (.plain (OpenSpec.upto titleSpelledSpec)) titleSpelledUptoCard

/-- THE SECOND FORM's CARD OF 'telecinelaw10.TitleProof'. -/
def titleProofUptoCard : Claim7 := { stood := { row := titleProofUptoRow, standIns := [], harness := (true, "2d004a838aa28c5ba351fd260f5d27d8a1237c846f88b143b8d4542b5dd9a1ca"), looks := true }, kinds := [], alts := [], laidByText := true, laidKinds := [.data, .pinned], laidTests := true, laidLooks := .later }
def TitleProofUptoCardSaid : Prop := Claim7.holds Tryd.pinned (.plain (OpenSpec.upto titleProofSpec)) titleProofUptoCard

/-- THE SECOND FORM's CARD OF 'telecinelaw10.TitleInk'. -/
def titleInkUptoCard : Claim7 := { stood := { row := titleInkUptoRow, standIns := [], harness := (true, "2d004a838aa28c5ba351fd260f5d27d8a1237c846f88b143b8d4542b5dd9a1ca"), looks := true }, kinds := [], alts := [], laidByText := true, laidKinds := [.data, .pinned], laidTests := true, laidLooks := .later }
def TitleInkUptoCardSaid : Prop := Claim7.holds Tryd.pinned (.plain (OpenSpec.upto titleInkSpec)) titleInkUptoCard

/-- THE SECOND FORM's CARD OF 'telecinelaw10.TitleChecks'. -/
def titleChecksUptoCard : Claim7 := { stood := { row := titleChecksUptoRow, standIns := [], harness := (true, "2d004a838aa28c5ba351fd260f5d27d8a1237c846f88b143b8d4542b5dd9a1ca"), looks := true }, kinds := [], alts := [], laidByText := true, laidKinds := [.data, .pinned], laidTests := true, laidLooks := .later }
def TitleChecksUptoCardSaid : Prop := Claim7.holds Tryd.pinned (.plain (OpenSpec.upto titleChecksSpec)) titleChecksUptoCard

/-- THE SECOND FORM's CARD OF 'telecinelaw10.TitleBreaks'. -/
def titleBreaksUptoCard : Claim7 := { stood := { row := titleBreaksUptoRow, standIns := [], harness := (true, "2d004a838aa28c5ba351fd260f5d27d8a1237c846f88b143b8d4542b5dd9a1ca"), looks := true }, kinds := [], alts := [], laidByText := true, laidKinds := [.data, .pinned], laidTests := true, laidLooks := .later }
def TitleBreaksUptoCardSaid : Prop := Claim7.holds Tryd.pinned (.plain (OpenSpec.upto titleBreaksSpec)) titleBreaksUptoCard

/-- THE SECOND FORM's CARD OF 'telecinelaw10.TitleLeast'. -/
def titleLeastUptoCard : Claim7 := { stood := { row := titleLeastUptoRow, standIns := [], harness := (true, "2d004a838aa28c5ba351fd260f5d27d8a1237c846f88b143b8d4542b5dd9a1ca"), looks := true }, kinds := [], alts := [], laidByText := true, laidKinds := [.data, .pinned], laidTests := true, laidLooks := .later }
def TitleLeastUptoCardSaid : Prop := Claim7.holds Tryd.pinned (.plain (OpenSpec.upto titleLeastSpec)) titleLeastUptoCard

/-- THE SECOND FORM's CARD OF 'telecinelaw10.TitleFurther'. -/
def titleFurtherUptoCard : Claim7 := { stood := { row := titleFurtherUptoRow, standIns := [], harness := (true, "2d004a838aa28c5ba351fd260f5d27d8a1237c846f88b143b8d4542b5dd9a1ca"), looks := true }, kinds := [], alts := [], laidByText := true, laidKinds := [.data, .pinned], laidTests := true, laidLooks := .later }
def TitleFurtherUptoCardSaid : Prop := Claim7.holds Tryd.pinned (.plain (OpenSpec.upto titleFurtherSpec)) titleFurtherUptoCard

/-- THE SECOND FORM's CARD OF 'telecinelaw10.TitleOne'. -/
def titleOneUptoCard : Claim7 := { stood := { row := titleOneUptoRow, standIns := [], harness := (true, "2d004a838aa28c5ba351fd260f5d27d8a1237c846f88b143b8d4542b5dd9a1ca"), looks := true }, kinds := [], alts := [], laidByText := true, laidKinds := [.data, .pinned], laidTests := true, laidLooks := .later }
def TitleOneUptoCardSaid : Prop := Claim7.holds Tryd.pinned (.plain (OpenSpec.upto titleOneSpec)) titleOneUptoCard

/-- THE SECOND FORM's CARD OF 'telecinelaw10.TitlePages'. -/
def titlePagesUptoCard : Claim7 := { stood := { row := titlePagesUptoRow, standIns := [], harness := (true, "2d004a838aa28c5ba351fd260f5d27d8a1237c846f88b143b8d4542b5dd9a1ca"), looks := true }, kinds := [], alts := [], laidByText := true, laidKinds := [.data, .pinned], laidTests := true, laidLooks := .later }
def TitlePagesUptoCardSaid : Prop := Claim7.holds Tryd.pinned (.plain (OpenSpec.upto titlePagesSpec)) titlePagesUptoCard

/-- THE SECOND FORM's CARD OF 'telecinelaw10.TitleAlone'. -/
def titleAloneUptoCard : Claim7 := { stood := { row := titleAloneUptoRow, standIns := [], harness := (true, "2d004a838aa28c5ba351fd260f5d27d8a1237c846f88b143b8d4542b5dd9a1ca"), looks := true }, kinds := [], alts := [], laidByText := true, laidKinds := [.data, .pinned], laidTests := true, laidLooks := .later }
def TitleAloneUptoCardSaid : Prop := Claim7.holds Tryd.pinned (.plain (OpenSpec.upto titleAloneSpec)) titleAloneUptoCard

/-- THE SECOND FORM's CARD OF 'telecinelaw10.TitleKnown'. -/
def titleKnownUptoCard : Claim7 := { stood := { row := titleKnownUptoRow, standIns := [], harness := (true, "2d004a838aa28c5ba351fd260f5d27d8a1237c846f88b143b8d4542b5dd9a1ca"), looks := true }, kinds := [], alts := [], laidByText := true, laidKinds := [.data, .pinned], laidTests := true, laidLooks := .later }
def TitleKnownUptoCardSaid : Prop := Claim7.holds Tryd.pinned (.plain (OpenSpec.upto titleKnownSpec)) titleKnownUptoCard

/-- THE SECOND FORM's CARD OF 'telecinelaw10.TitlePlaced'. -/
def titlePlacedUptoCard : Claim7 := { stood := { row := titlePlacedUptoRow, standIns := [], harness := (true, "2d004a838aa28c5ba351fd260f5d27d8a1237c846f88b143b8d4542b5dd9a1ca"), looks := true }, kinds := [], alts := [], laidByText := true, laidKinds := [.data, .pinned], laidTests := true, laidLooks := .later }
def TitlePlacedUptoCardSaid : Prop := Claim7.holds Tryd.pinned (.plain (OpenSpec.upto titlePlacedSpec)) titlePlacedUptoCard
end Rows
end Go.Proofs.YtahgbecfaihfpaaDoor
