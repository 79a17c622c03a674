/-
  DERIVED. GIVEN WITH THE SEED: THE CARDS: each row of YtapeakbngligaaaGreatDoorRows.lean that lists a variable, with what it lists TIED to the program's text (the seventh form; the later family's looks); each row that meets fmt, with fmt's text TOLD by the authors' own Lean function (tested against real Go, not proved from fmt's source: count such statements apart). THE CARD IS WHAT COUNTS. Prove the row's statement (the work); the ties are given (YtapeakbngligaaaGreatDoorTie.lean); close each card by the builder's one call (the guide's Derived/Test/ToyasCard.lean, 'card_holds'). Laid BY PROGRAM, IN A SANDBOX (cutbox-door.mjs). By AI agents, Wed Nov 11 2026. No macro, syntax, notation, axiom, sorry.
-/
import Derived.Test.YtapeakbngligaaaGreatDoorRows
import GoSem.ClaimSeven
namespace Go.Proofs.YtapeakbngligaaaGreatDoor
namespace Rows

/-- THE TIED CARD OF 'telecinelaw05.BenchTrue'. -/
def benchTrueCard : Claim7 := { stood := { row := benchTrueRow, standIns := [], harness := (true, "455705dac70b7cc54c4c965e7c7346637c7e155807ea9f66dd4a5d680a6ac6c7"), looks := false }, kinds := [], alts := [], laidByText := true, laidKinds := [.data, .pinned], laidTests := true, laidLooks := .later }
def BenchTrueCardSaid : Prop := Claim7.holds Tryz.pinned (.plain (OpenSpec.ofChange benchTrueSpec)) benchTrueCard

/-- THE TIED CARD OF 'telecinelaw05.BenchNarrow'. -/
def benchNarrowCard : Claim7 := { stood := { row := benchNarrowRow, standIns := [], harness := (true, "455705dac70b7cc54c4c965e7c7346637c7e155807ea9f66dd4a5d680a6ac6c7"), looks := false }, kinds := [], alts := [], laidByText := true, laidKinds := [.data, .pinned], laidTests := true, laidLooks := .later }
def BenchNarrowCardSaid : Prop := Claim7.holds Tryz.pinned (.plain (OpenSpec.ofChange benchNarrowSpec)) benchNarrowCard

/-- THE SECOND FORM's CARD OF 'telecinelaw05.BenchTrue'. -/
def benchTrueUptoCard : Claim7 := { stood := { row := benchTrueUptoRow, standIns := [], harness := (true, "455705dac70b7cc54c4c965e7c7346637c7e155807ea9f66dd4a5d680a6ac6c7"), looks := false }, kinds := [], alts := [], laidByText := true, laidKinds := [.data, .pinned], laidTests := true, laidLooks := .later }
def BenchTrueUptoCardSaid : Prop := Claim7.holds Tryz.pinned (.plain (OpenSpec.upto benchTrueSpec)) benchTrueUptoCard

/-- THE SECOND FORM's CARD OF 'telecinelaw05.BenchNarrow'. -/
def benchNarrowUptoCard : Claim7 := { stood := { row := benchNarrowUptoRow, standIns := [], harness := (true, "455705dac70b7cc54c4c965e7c7346637c7e155807ea9f66dd4a5d680a6ac6c7"), looks := false }, kinds := [], alts := [], laidByText := true, laidKinds := [.data, .pinned], laidTests := true, laidLooks := .later }
def BenchNarrowUptoCardSaid : Prop := Claim7.holds Tryz.pinned (.plain (OpenSpec.upto benchNarrowSpec)) benchNarrowUptoCard
end Rows
end Go.Proofs.YtapeakbngligaaaGreatDoor
