/-
  DERIVED. GIVEN WITH THE SEED: THE CARDS: each row of YtkidicfpfknfoaaDoorRows.lean that lists a variable, with what it lists TIED to the program's text (the seventh form; the later family's looks); each row that meets fmt, with fmt's text TOLD by the authors' own Lean function (tested against real Go, not proved from fmt's source: count such statements apart). THE CARD IS WHAT COUNTS. Prove the row's statement (the work); the ties are given (YtkidicfpfknfoaaDoorTie.lean); close each card by the builder's one call (the guide's Derived/Test/ToyasCard.lean, 'card_holds'). Laid BY PROGRAM, IN A SANDBOX (cutbox-door.mjs). By AI agents, Wed Nov 11 2026. No macro, syntax, notation, axiom, sorry.
-/
import Derived.Test.YtkidicfpfknfoaaDoorRows
import GoSem.ClaimSeven
namespace Go.Proofs.YtkidicfpfknfoaaDoor
namespace Rows

/-- THE TIED CARD OF 'telecinelaw03.VaultChecks'. -/
def vaultChecksCard : Claim7 := { stood := { row := vaultChecksRow, standIns := [], harness := (true, "4a7754a9e34bb756f453e38e2bbe3be7a196abf24892359995467bd4712c56f0"), looks := true }, kinds := [], alts := [], laidByText := true, laidKinds := [.data, .pinned], laidTests := true, laidLooks := .later }
def VaultChecksCardSaid : Prop := Claim7.holds Tryd.pinned (.plain (OpenSpec.ofChange vaultChecksSpec)) vaultChecksCard

/-- THE TIED CARD OF 'telecinelaw03.VaultWay'. -/
def vaultWayCard : Claim7 := { stood := { row := vaultWayRow, standIns := [], harness := (true, "4a7754a9e34bb756f453e38e2bbe3be7a196abf24892359995467bd4712c56f0"), looks := true }, kinds := [], alts := [], laidByText := true, laidKinds := [.data, .pinned], laidTests := true, laidLooks := .later }
def VaultWayCardSaid : Prop := Claim7.holds Tryd.pinned (.plain (OpenSpec.ofChange vaultWaySpec)) vaultWayCard

/-- THE TIED CARD OF 'telecinelaw03.VaultAir'. -/
def vaultAirCard : Claim7 := { stood := { row := vaultAirRow, standIns := [], harness := (true, "4a7754a9e34bb756f453e38e2bbe3be7a196abf24892359995467bd4712c56f0"), looks := true }, kinds := [], alts := [], laidByText := true, laidKinds := [.data, .pinned], laidTests := true, laidLooks := .later }
def VaultAirCardSaid : Prop := Claim7.holds Tryd.pinned (.plain (OpenSpec.ofChange vaultAirSpec)) vaultAirCard

/-- THE TIED CARD OF 'telecinelaw03.VaultDew'. -/
def vaultDewCard : Claim7 := { stood := { row := vaultDewRow, standIns := [], harness := (true, "4a7754a9e34bb756f453e38e2bbe3be7a196abf24892359995467bd4712c56f0"), looks := true }, kinds := [], alts := [], laidByText := true, laidKinds := [.data, .pinned], laidTests := true, laidLooks := .later }
def VaultDewCardSaid : Prop := Claim7.holds Tryd.pinned (.plain (OpenSpec.ofChange vaultDewSpec)) vaultDewCard

/-- THE TIED CARD OF 'telecinelaw03.VaultBest'. -/
def vaultBestCard : Claim7 := { stood := { row := vaultBestRow, standIns := [], harness := (true, "4a7754a9e34bb756f453e38e2bbe3be7a196abf24892359995467bd4712c56f0"), looks := true }, kinds := [], alts := [], laidByText := true, laidKinds := [.data, .pinned], laidTests := true, laidLooks := .later }
def VaultBestCardSaid : Prop := Claim7.holds Tryd.pinned (.plain (OpenSpec.ofChange vaultBestSpec)) vaultBestCard

/-- THE TIED CARD OF 'telecinelaw03.VaultAgain'. -/
def vaultAgainCard : Claim7 := { stood := { row := vaultAgainRow, standIns := [], harness := (true, "4a7754a9e34bb756f453e38e2bbe3be7a196abf24892359995467bd4712c56f0"), looks := true }, kinds := [], alts := [], laidByText := true, laidKinds := [.data, .pinned], laidTests := true, laidLooks := .later }
def VaultAgainCardSaid : Prop := Claim7.holds Tryd.pinned (.plain (OpenSpec.ofChange vaultAgainSpec)) vaultAgainCard

/-- THE TIED CARD OF 'telecinelaw03.VaultPlaced'. -/
def vaultPlacedCard : Claim7 := { stood := { row := vaultPlacedRow, standIns := [], harness := (true, "4a7754a9e34bb756f453e38e2bbe3be7a196abf24892359995467bd4712c56f0"), looks := true }, kinds := [], alts := [], laidByText := true, laidKinds := [.data, .pinned], laidTests := true, laidLooks := .later }
def VaultPlacedCardSaid : Prop := Claim7.holds Tryd.pinned (.plain (OpenSpec.ofChange vaultPlacedSpec)) vaultPlacedCard

/-- THE TIED CARD OF 'telecinelaw03.VaultTrue'. -/
def vaultTrueCard : Claim7 := { stood := { row := vaultTrueRow, standIns := [], harness := (true, "4a7754a9e34bb756f453e38e2bbe3be7a196abf24892359995467bd4712c56f0"), looks := true }, kinds := [], alts := [], laidByText := true, laidKinds := [.data, .pinned], laidTests := true, laidLooks := .later }
def VaultTrueCardSaid : Prop := Claim7.holds Tryd.pinned (.plain (OpenSpec.ofChange vaultTrueSpec)) vaultTrueCard

/-- THE TIED CARD OF 'telecinelaw03.VaultNarrow'. -/
def vaultNarrowCard : Claim7 := { stood := { row := vaultNarrowRow, standIns := [], harness := (true, "4a7754a9e34bb756f453e38e2bbe3be7a196abf24892359995467bd4712c56f0"), looks := true }, kinds := [], alts := [], laidByText := true, laidKinds := [.data, .pinned], laidTests := true, laidLooks := .later }
def VaultNarrowCardSaid : Prop := Claim7.holds Tryd.pinned (.plain (OpenSpec.ofChange vaultNarrowSpec)) vaultNarrowCard

/-- THE TIED CARD OF 'telecinelaw03.VaultKnown'. -/
def vaultKnownCard : Claim7 := { stood := { row := vaultKnownRow, standIns := [], harness := (true, "4a7754a9e34bb756f453e38e2bbe3be7a196abf24892359995467bd4712c56f0"), looks := true }, kinds := [], alts := [], laidByText := true, laidKinds := [.data, .pinned], laidTests := true, laidLooks := .later }
def VaultKnownCardSaid : Prop := Claim7.holds Tryd.pinned (.plain (OpenSpec.ofChange vaultKnownSpec)) vaultKnownCard

/-- THE SECOND FORM's CARD OF 'telecinelaw03.VaultChecks'. -/
def vaultChecksUptoCard : Claim7 := { stood := { row := vaultChecksUptoRow, standIns := [], harness := (true, "4a7754a9e34bb756f453e38e2bbe3be7a196abf24892359995467bd4712c56f0"), looks := true }, kinds := [], alts := [], laidByText := true, laidKinds := [.data, .pinned], laidTests := true, laidLooks := .later }
def VaultChecksUptoCardSaid : Prop := Claim7.holds Tryd.pinned (.plain (OpenSpec.upto vaultChecksSpec)) vaultChecksUptoCard

/-- THE SECOND FORM's CARD OF 'telecinelaw03.VaultWay'. -/
def vaultWayUptoCard : Claim7 := { stood := { row := vaultWayUptoRow, standIns := [], harness := (true, "4a7754a9e34bb756f453e38e2bbe3be7a196abf24892359995467bd4712c56f0"), looks := true }, kinds := [], alts := [], laidByText := true, laidKinds := [.data, .pinned], laidTests := true, laidLooks := .later }
def VaultWayUptoCardSaid : Prop := Claim7.holds Tryd.pinned (.plain (OpenSpec.upto vaultWaySpec)) vaultWayUptoCard

/-- THE SECOND FORM's CARD OF 'telecinelaw03.VaultAir'. -/
def vaultAirUptoCard : Claim7 := { stood := { row := vaultAirUptoRow, standIns := [], harness := (true, "4a7754a9e34bb756f453e38e2bbe3be7a196abf24892359995467bd4712c56f0"), looks := true }, kinds := [], alts := [], laidByText := true, laidKinds := [.data, .pinned], laidTests := true, laidLooks := .later }
def VaultAirUptoCardSaid : Prop := Claim7.holds Tryd.pinned (.plain (OpenSpec.upto vaultAirSpec)) vaultAirUptoCard

/-- THE SECOND FORM's CARD OF 'telecinelaw03.VaultDew'. -/
def vaultDewUptoCard : Claim7 := { stood := { row := vaultDewUptoRow, standIns := [], harness := (true, "4a7754a9e34bb756f453e38e2bbe3be7a196abf24892359995467bd4712c56f0"), looks := true }, kinds := [], alts := [], laidByText := true, laidKinds := [.data, .pinned], laidTests := true, laidLooks := .later }
def VaultDewUptoCardSaid : Prop := Claim7.holds Tryd.pinned (.plain (OpenSpec.upto vaultDewSpec)) vaultDewUptoCard

/-- THE SECOND FORM's CARD OF 'telecinelaw03.VaultBest'. -/
def vaultBestUptoCard : Claim7 := { stood := { row := vaultBestUptoRow, standIns := [], harness := (true, "4a7754a9e34bb756f453e38e2bbe3be7a196abf24892359995467bd4712c56f0"), looks := true }, kinds := [], alts := [], laidByText := true, laidKinds := [.data, .pinned], laidTests := true, laidLooks := .later }
def VaultBestUptoCardSaid : Prop := Claim7.holds Tryd.pinned (.plain (OpenSpec.upto vaultBestSpec)) vaultBestUptoCard

/-- THE SECOND FORM's CARD OF 'telecinelaw03.VaultAgain'. -/
def vaultAgainUptoCard : Claim7 := { stood := { row := vaultAgainUptoRow, standIns := [], harness := (true, "4a7754a9e34bb756f453e38e2bbe3be7a196abf24892359995467bd4712c56f0"), looks := true }, kinds := [], alts := [], laidByText := true, laidKinds := [.data, .pinned], laidTests := true, laidLooks := .later }
def VaultAgainUptoCardSaid : Prop := Claim7.holds Tryd.pinned (.plain (OpenSpec.upto vaultAgainSpec)) vaultAgainUptoCard

/-- THE SECOND FORM's CARD OF 'telecinelaw03.VaultPlaced'. -/
def vaultPlacedUptoCard : Claim7 := { stood := { row := vaultPlacedUptoRow, standIns := [], harness := (true, "4a7754a9e34bb756f453e38e2bbe3be7a196abf24892359995467bd4712c56f0"), looks := true }, kinds := [], alts := [], laidByText := true, laidKinds := [.data, .pinned], laidTests := true, laidLooks := .later }
def VaultPlacedUptoCardSaid : Prop := Claim7.holds Tryd.pinned (.plain (OpenSpec.upto vaultPlacedSpec)) vaultPlacedUptoCard

/-- THE SECOND FORM's CARD OF 'telecinelaw03.VaultTrue'. -/
def vaultTrueUptoCard : Claim7 := { stood := { row := vaultTrueUptoRow, standIns := [], harness := (true, "4a7754a9e34bb756f453e38e2bbe3be7a196abf24892359995467bd4712c56f0"), looks := true }, kinds := [], alts := [], laidByText := true, laidKinds := [.data, .pinned], laidTests := true, laidLooks := .later }
def VaultTrueUptoCardSaid : Prop := Claim7.holds Tryd.pinned (.plain (OpenSpec.upto vaultTrueSpec)) vaultTrueUptoCard

/-- THE SECOND FORM's CARD OF 'telecinelaw03.VaultNarrow'. -/
def vaultNarrowUptoCard : Claim7 := { stood := { row := vaultNarrowUptoRow, standIns := [], harness := (true, "4a7754a9e34bb756f453e38e2bbe3be7a196abf24892359995467bd4712c56f0"), looks := true }, kinds := [], alts := [], laidByText := true, laidKinds := [.data, .pinned], laidTests := true, laidLooks := .later }
def VaultNarrowUptoCardSaid : Prop := Claim7.holds Tryd.pinned (.plain (OpenSpec.upto vaultNarrowSpec)) vaultNarrowUptoCard

/-- THE SECOND FORM's CARD OF 'telecinelaw03.VaultKnown'. -/
def vaultKnownUptoCard : Claim7 := { stood := { row := vaultKnownUptoRow, standIns := [], harness := (true, "4a7754a9e34bb756f453e38e2bbe3be7a196abf24892359995467bd4712c56f0"), looks := true }, kinds := [], alts := [], laidByText := true, laidKinds := [.data, .pinned], laidTests := true, laidLooks := .later }
def VaultKnownUptoCardSaid : Prop := Claim7.holds Tryd.pinned (.plain (OpenSpec.upto vaultKnownSpec)) vaultKnownUptoCard
end Rows
end Go.Proofs.YtkidicfpfknfoaaDoor
