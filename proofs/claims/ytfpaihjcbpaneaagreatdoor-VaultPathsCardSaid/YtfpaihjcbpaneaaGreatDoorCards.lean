/-
  DERIVED. GIVEN WITH THE SEED: THE CARDS: each row of YtfpaihjcbpaneaaGreatDoorRows.lean that lists a variable, with what it lists TIED to the program's text (the seventh form; the later family's looks); each row that meets fmt, with fmt's text TOLD by the authors' own Lean function (tested against real Go, not proved from fmt's source: count such statements apart). THE CARD IS WHAT COUNTS. Prove the row's statement (the work); the ties are given (YtfpaihjcbpaneaaGreatDoorTie.lean); close each card by the builder's one call (the guide's Derived/Test/ToyasCard.lean, 'card_holds'). Laid BY PROGRAM, IN A SANDBOX (cutbox-door.mjs). By AI agents, Wed Nov 11 2026. No macro, syntax, notation, axiom, sorry.
-/
import Derived.Test.YtfpaihjcbpaneaaGreatDoorRows
import GoSem.ClaimSeven
namespace Go.Proofs.YtfpaihjcbpaneaaGreatDoor
namespace Rows

/-- THE TIED CARD OF 'telecinelaw03.VaultClimates'. -/
def vaultClimatesCard : Claim7 := { stood := { row := vaultClimatesRow, standIns := [], harness := (true, "404f64b7632fb2f9a301333dae3162ca0eb0ccf484bb9cd9a6fccf2baea4761f"), looks := true }, kinds := [], alts := [], laidByText := true, laidKinds := [.data, .pinned], laidTests := true, laidLooks := .later }
def VaultClimatesCardSaid : Prop := Claim7.holds Tryz.pinned (.plain (OpenSpec.ofChange vaultClimatesSpec)) vaultClimatesCard

/-- THE TIED CARD OF 'telecinelaw03.VaultPlays'. -/
def vaultPlaysCard : Claim7 := { stood := { row := vaultPlaysRow, standIns := [], harness := (true, "404f64b7632fb2f9a301333dae3162ca0eb0ccf484bb9cd9a6fccf2baea4761f"), looks := true }, kinds := [], alts := [], laidByText := true, laidKinds := [.data, .pinned], laidTests := true, laidLooks := .later }
def VaultPlaysCardSaid : Prop := Claim7.holds Tryz.pinned (.plain (OpenSpec.ofChange vaultPlaysSpec)) vaultPlaysCard

/-- THE TIED CARD OF 'telecinelaw03.VaultPaths'. -/
def vaultPathsCard : Claim7 := { stood := { row := vaultPathsRow, standIns := [], harness := (true, "404f64b7632fb2f9a301333dae3162ca0eb0ccf484bb9cd9a6fccf2baea4761f"), looks := true }, kinds := [], alts := [], laidByText := true, laidKinds := [.data, .pinned], laidTests := true, laidLooks := .later }
def VaultPathsCardSaid : Prop := Claim7.holds Tryz.pinned (.plain (OpenSpec.ofChange vaultPathsSpec)) vaultPathsCard

/-- THE TIED CARD OF 'telecinelaw03.VaultWarms'. -/
def vaultWarmsCard : Claim7 := { stood := { row := vaultWarmsRow, standIns := [], harness := (true, "404f64b7632fb2f9a301333dae3162ca0eb0ccf484bb9cd9a6fccf2baea4761f"), looks := true }, kinds := [], alts := [], laidByText := true, laidKinds := [.data, .pinned], laidTests := true, laidLooks := .later }
def VaultWarmsCardSaid : Prop := Claim7.holds Tryz.pinned (.plain (OpenSpec.ofChange vaultWarmsSpec)) vaultWarmsCard

/-- THE SECOND FORM's CARD OF 'telecinelaw03.VaultClimates'. -/
def vaultClimatesUptoCard : Claim7 := { stood := { row := vaultClimatesUptoRow, standIns := [], harness := (true, "404f64b7632fb2f9a301333dae3162ca0eb0ccf484bb9cd9a6fccf2baea4761f"), looks := true }, kinds := [], alts := [], laidByText := true, laidKinds := [.data, .pinned], laidTests := true, laidLooks := .later }
def VaultClimatesUptoCardSaid : Prop := Claim7.holds Tryz.pinned (.plain (OpenSpec.upto vaultClimatesSpec)) vaultClimatesUptoCard

/-- THE SECOND FORM's CARD OF 'telecinelaw03.VaultPlays'. -/
def vaultPlaysUptoCard : Claim7 := { stood := { row := vaultPlaysUptoRow, standIns := [], harness := (true, "404f64b7632fb2f9a301333dae3162ca0eb0ccf484bb9cd9a6fccf2baea4761f"), looks := true }, kinds := [], alts := [], laidByText := true, laidKinds := [.data, .pinned], laidTests := true, laidLooks := .later }
def VaultPlaysUptoCardSaid : Prop := Claim7.holds Tryz.pinned (.plain (OpenSpec.upto vaultPlaysSpec)) vaultPlaysUptoCard

/-- THE SECOND FORM's CARD OF 'telecinelaw03.VaultPaths'. -/
def vaultPathsUptoCard : Claim7 := { stood := { row := vaultPathsUptoRow, standIns := [], harness := (true, "404f64b7632fb2f9a301333dae3162ca0eb0ccf484bb9cd9a6fccf2baea4761f"), looks := true }, kinds := [], alts := [], laidByText := true, laidKinds := [.data, .pinned], laidTests := true, laidLooks := .later }
def VaultPathsUptoCardSaid : Prop := Claim7.holds Tryz.pinned (.plain (OpenSpec.upto vaultPathsSpec)) vaultPathsUptoCard

/-- THE SECOND FORM's CARD OF 'telecinelaw03.VaultWarms'. -/
def vaultWarmsUptoCard : Claim7 := { stood := { row := vaultWarmsUptoRow, standIns := [], harness := (true, "404f64b7632fb2f9a301333dae3162ca0eb0ccf484bb9cd9a6fccf2baea4761f"), looks := true }, kinds := [], alts := [], laidByText := true, laidKinds := [.data, .pinned], laidTests := true, laidLooks := .later }
def VaultWarmsUptoCardSaid : Prop := Claim7.holds Tryz.pinned (.plain (OpenSpec.upto vaultWarmsSpec)) vaultWarmsUptoCard
end Rows
end Go.Proofs.YtfpaihjcbpaneaaGreatDoor
