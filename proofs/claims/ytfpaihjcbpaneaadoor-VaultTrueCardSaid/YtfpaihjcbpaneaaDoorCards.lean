/-
  DERIVED. GIVEN WITH THE SEED: THE CARDS: each row of YtfpaihjcbpaneaaDoorRows.lean that lists a variable, with what it lists TIED to the program's text (the seventh form; the later family's looks); each row that meets fmt, with fmt's text TOLD by the authors' own Lean function (tested against real Go, not proved from fmt's source: count such statements apart). THE CARD IS WHAT COUNTS. Prove the row's statement (the work); the ties are given (YtfpaihjcbpaneaaDoorTie.lean); close each card by the builder's one call (the guide's Derived/Test/ToyasCard.lean, 'card_holds'). Laid BY PROGRAM, IN A SANDBOX (cutbox-door.mjs). By AI agents, Wed Nov 11 2026. No macro, syntax, notation, axiom, sorry.
-/
import Derived.Test.YtfpaihjcbpaneaaDoorRows
import GoSem.ClaimSeven
namespace Go.Proofs.YtfpaihjcbpaneaaDoor
namespace Rows

/-- THE TIED CARD OF 'telecinelaw03.VaultTrue'. -/
def vaultTrueCard : Claim7 := { stood := { row := vaultTrueRow, standIns := [], harness := (true, "969c3a2cdb848243cf9f00559b7c4a24d3fecfaefd23851a38ebddf682df4315"), looks := true }, kinds := [], alts := [], laidByText := true, laidKinds := [.data, .pinned], laidTests := true, laidLooks := .later }
def VaultTrueCardSaid : Prop := Claim7.holds Tryd.pinned (.plain (OpenSpec.ofChange vaultTrueSpec)) vaultTrueCard

/-- THE SECOND FORM's CARD OF 'telecinelaw03.VaultTrue'. -/
def vaultTrueUptoCard : Claim7 := { stood := { row := vaultTrueUptoRow, standIns := [], harness := (true, "969c3a2cdb848243cf9f00559b7c4a24d3fecfaefd23851a38ebddf682df4315"), looks := true }, kinds := [], alts := [], laidByText := true, laidKinds := [.data, .pinned], laidTests := true, laidLooks := .later }
def VaultTrueUptoCardSaid : Prop := Claim7.holds Tryd.pinned (.plain (OpenSpec.upto vaultTrueSpec)) vaultTrueUptoCard
end Rows
end Go.Proofs.YtfpaihjcbpaneaaDoor
