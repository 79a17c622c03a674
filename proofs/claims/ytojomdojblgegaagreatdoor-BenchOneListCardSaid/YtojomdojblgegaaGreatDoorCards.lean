/-
  DERIVED. GIVEN WITH THE SEED: THE CARDS: each row of YtojomdojblgegaaGreatDoorRows.lean that lists a variable, with what it lists TIED to the program's text (the seventh form; the later family's looks); each row that meets fmt, with fmt's text TOLD by the authors' own Lean function (tested against real Go, not proved from fmt's source: count such statements apart). THE CARD IS WHAT COUNTS. Prove the row's statement (the work); the ties are given (YtojomdojblgegaaGreatDoorTie.lean); close each card by the builder's one call (the guide's Derived/Test/ToyasCard.lean, 'card_holds'). Laid BY PROGRAM, IN A SANDBOX (cutbox-door.mjs). By AI agents, Wed Nov 11 2026. No macro, syntax, notation, axiom, sorry.
-/
import Derived.Test.YtojomdojblgegaaGreatDoorRows
import GoSem.ClaimSeven
namespace Go.Proofs.YtojomdojblgegaaGreatDoor
namespace Rows

/-- THE TIED CARD OF 'telecinelaw05.BenchMerges'. -/
def benchMergesCard : Claim7 := { stood := { row := benchMergesRow, standIns := [], harness := (true, "0bdebdc289286782593cdfee2f2596c743edbf5e483eb042f6a9522d1e94a8ed"), looks := false }, kinds := [], alts := [], laidByText := true, laidKinds := [.data, .pinned], laidTests := true, laidLooks := .later }
def BenchMergesCardSaid : Prop := Claim7.holds Tryz.pinned (.plain (OpenSpec.ofChange benchMergesSpec)) benchMergesCard

/-- THE TIED CARD OF 'telecinelaw05.BenchGaps'. -/
def benchGapsCard : Claim7 := { stood := { row := benchGapsRow, standIns := [], harness := (true, "0bdebdc289286782593cdfee2f2596c743edbf5e483eb042f6a9522d1e94a8ed"), looks := false }, kinds := [], alts := [], laidByText := true, laidKinds := [.data, .pinned], laidTests := true, laidLooks := .later }
def BenchGapsCardSaid : Prop := Claim7.holds Tryz.pinned (.plain (OpenSpec.ofChange benchGapsSpec)) benchGapsCard

/-- THE TIED CARD OF 'telecinelaw05.BenchPlaces'. -/
def benchPlacesCard : Claim7 := { stood := { row := benchPlacesRow, standIns := [], harness := (true, "0bdebdc289286782593cdfee2f2596c743edbf5e483eb042f6a9522d1e94a8ed"), looks := false }, kinds := [], alts := [], laidByText := true, laidKinds := [.data, .pinned], laidTests := true, laidLooks := .later }
def BenchPlacesCardSaid : Prop := Claim7.holds Tryz.pinned (.plain (OpenSpec.ofChange benchPlacesSpec)) benchPlacesCard

/-- THE TIED CARD OF 'telecinelaw05.BenchOneList'. -/
def benchOneListCard : Claim7 := { stood := { row := benchOneListRow, standIns := [], harness := (true, "0bdebdc289286782593cdfee2f2596c743edbf5e483eb042f6a9522d1e94a8ed"), looks := false }, kinds := [], alts := [], laidByText := true, laidKinds := [.data, .pinned], laidTests := true, laidLooks := .later }
def BenchOneListCardSaid : Prop := Claim7.holds Tryz.pinned (.plain (OpenSpec.ofChange benchOneListSpec)) benchOneListCard

/-- THE TIED CARD OF 'telecinelaw05.BenchTrue'. -/
def benchTrueCard : Claim7 := { stood := { row := benchTrueRow, standIns := [], harness := (true, "0bdebdc289286782593cdfee2f2596c743edbf5e483eb042f6a9522d1e94a8ed"), looks := false }, kinds := [], alts := [], laidByText := true, laidKinds := [.data, .pinned], laidTests := true, laidLooks := .later }
def BenchTrueCardSaid : Prop := Claim7.holds Tryz.pinned (.plain (OpenSpec.ofChange benchTrueSpec)) benchTrueCard

/-- THE TIED CARD OF 'telecinelaw05.BenchNarrow'. -/
def benchNarrowCard : Claim7 := { stood := { row := benchNarrowRow, standIns := [], harness := (true, "0bdebdc289286782593cdfee2f2596c743edbf5e483eb042f6a9522d1e94a8ed"), looks := false }, kinds := [], alts := [], laidByText := true, laidKinds := [.data, .pinned], laidTests := true, laidLooks := .later }
def BenchNarrowCardSaid : Prop := Claim7.holds Tryz.pinned (.plain (OpenSpec.ofChange benchNarrowSpec)) benchNarrowCard

/-- THE TIED CARD OF 'telecinelaw05.BenchChecks'. -/
def benchChecksCard : Claim7 := { stood := { row := benchChecksRow, standIns := [], harness := (true, "0bdebdc289286782593cdfee2f2596c743edbf5e483eb042f6a9522d1e94a8ed"), looks := false }, kinds := [], alts := [], laidByText := true, laidKinds := [.data, .pinned], laidTests := true, laidLooks := .later }
def BenchChecksCardSaid : Prop := Claim7.holds Tryz.pinned (.plain (OpenSpec.ofChange benchChecksSpec)) benchChecksCard

/-- THE SECOND FORM's CARD OF 'telecinelaw05.BenchMerges'. -/
def benchMergesUptoCard : Claim7 := { stood := { row := benchMergesUptoRow, standIns := [], harness := (true, "0bdebdc289286782593cdfee2f2596c743edbf5e483eb042f6a9522d1e94a8ed"), looks := false }, kinds := [], alts := [], laidByText := true, laidKinds := [.data, .pinned], laidTests := true, laidLooks := .later }
def BenchMergesUptoCardSaid : Prop := Claim7.holds Tryz.pinned (.plain (OpenSpec.upto benchMergesSpec)) benchMergesUptoCard

/-- THE SECOND FORM's CARD OF 'telecinelaw05.BenchGaps'. -/
def benchGapsUptoCard : Claim7 := { stood := { row := benchGapsUptoRow, standIns := [], harness := (true, "0bdebdc289286782593cdfee2f2596c743edbf5e483eb042f6a9522d1e94a8ed"), looks := false }, kinds := [], alts := [], laidByText := true, laidKinds := [.data, .pinned], laidTests := true, laidLooks := .later }
def BenchGapsUptoCardSaid : Prop := Claim7.holds Tryz.pinned (.plain (OpenSpec.upto benchGapsSpec)) benchGapsUptoCard

/-- THE SECOND FORM's CARD OF 'telecinelaw05.BenchPlaces'. -/
def benchPlacesUptoCard : Claim7 := { stood := { row := benchPlacesUptoRow, standIns := [], harness := (true, "0bdebdc289286782593cdfee2f2596c743edbf5e483eb042f6a9522d1e94a8ed"), looks := false }, kinds := [], alts := [], laidByText := true, laidKinds := [.data, .pinned], laidTests := true, laidLooks := .later }
def BenchPlacesUptoCardSaid : Prop := Claim7.holds Tryz.pinned (.plain (OpenSpec.upto benchPlacesSpec)) benchPlacesUptoCard

/-- THE SECOND FORM's CARD OF 'telecinelaw05.BenchOneList'. -/
def benchOneListUptoCard : Claim7 := { stood := { row := benchOneListUptoRow, standIns := [], harness := (true, "0bdebdc289286782593cdfee2f2596c743edbf5e483eb042f6a9522d1e94a8ed"), looks := false }, kinds := [], alts := [], laidByText := true, laidKinds := [.data, .pinned], laidTests := true, laidLooks := .later }
def BenchOneListUptoCardSaid : Prop := Claim7.holds Tryz.pinned (.plain (OpenSpec.upto benchOneListSpec)) benchOneListUptoCard

/-- THE SECOND FORM's CARD OF 'telecinelaw05.BenchTrue'. -/
def benchTrueUptoCard : Claim7 := { stood := { row := benchTrueUptoRow, standIns := [], harness := (true, "0bdebdc289286782593cdfee2f2596c743edbf5e483eb042f6a9522d1e94a8ed"), looks := false }, kinds := [], alts := [], laidByText := true, laidKinds := [.data, .pinned], laidTests := true, laidLooks := .later }
def BenchTrueUptoCardSaid : Prop := Claim7.holds Tryz.pinned (.plain (OpenSpec.upto benchTrueSpec)) benchTrueUptoCard

/-- THE SECOND FORM's CARD OF 'telecinelaw05.BenchNarrow'. -/
def benchNarrowUptoCard : Claim7 := { stood := { row := benchNarrowUptoRow, standIns := [], harness := (true, "0bdebdc289286782593cdfee2f2596c743edbf5e483eb042f6a9522d1e94a8ed"), looks := false }, kinds := [], alts := [], laidByText := true, laidKinds := [.data, .pinned], laidTests := true, laidLooks := .later }
def BenchNarrowUptoCardSaid : Prop := Claim7.holds Tryz.pinned (.plain (OpenSpec.upto benchNarrowSpec)) benchNarrowUptoCard

/-- THE SECOND FORM's CARD OF 'telecinelaw05.BenchChecks'. -/
def benchChecksUptoCard : Claim7 := { stood := { row := benchChecksUptoRow, standIns := [], harness := (true, "0bdebdc289286782593cdfee2f2596c743edbf5e483eb042f6a9522d1e94a8ed"), looks := false }, kinds := [], alts := [], laidByText := true, laidKinds := [.data, .pinned], laidTests := true, laidLooks := .later }
def BenchChecksUptoCardSaid : Prop := Claim7.holds Tryz.pinned (.plain (OpenSpec.upto benchChecksSpec)) benchChecksUptoCard
end Rows
end Go.Proofs.YtojomdojblgegaaGreatDoor
