/-
  NARROWER THAN 'FOR EVERY INPUT', by the rows' own cells (each row's printed sentence says how): VaultChecks: laid · VaultWay: laid · VaultAir: laid · VaultDew: laid · VaultBest: laid · VaultAgain: laid · VaultPlaced: laid · VaultTrue: laid · VaultNarrow: laid · VaultKnown: laid.
  DERIVED. THE GIVEN ROWS OF THIS SEAT. 10 by the template 'for every input the law returns true; each argument reads behind the call as it read before'; 0 by the template 'total and deterministic' (their statements: YtkidicfpfknfoaaDoorTotals.lean).
  GIVEN WITH THE SEED: the statements are not yours to turn. If you find one false, say at which input.
  Laid BY PROGRAM, IN A SANDBOX (cutbox-rows.mjs): the forced cells as the released guide's own fill.sh prints them over the translation f577225538492793… (all of the seat's roots in one cut). By AI agents, Wed Nov 11 2026. No macro, syntax, notation, axiom, sorry.
-/
import Derived.Test.YtkidicfpfknfoaaDoorChecked
import GoSem.PinnedTables
import GoSem.Claim
import GoSem.ClaimJoined
import GoSem.ClaimMapViews
import Derived.JoinedTies
import Derived.KernelRfl
namespace Go.Proofs.YtkidicfpfknfoaaDoor
/- THE CELL 'sum', in the pinned program and in every row, IS THE sha256 OF THE DUMP (.gsa) THAT YtkidicfpfknfoaaDoorProg.lean LOADS. Nothing in Lean hashes anything: it is a label: what it is worth is what the hold of that sum in a sandbox is worth. -/
noncomputable def Tryd.pinned : Pinned := { name := "ytkidicfpfknfoaadoor", sum := "f5772255384927936f934500b993b34f2705f39f67973cdba42150010dc185a4", checked := Tryd.checked }
namespace Rows
def none {H : Type} : Left H := { results := [], args := [] }

/- WHAT THE LISTED PACKAGE-LEVEL VARIABLES READ AS WHEN THE CALL BEGINS. Each datum BY PROGRAM (the guide's laid-datum.mjs) off the statement by which the dump's own 'gosem.cut.vars' lays the variable. In a bare row this is a premise. The card (YtkidicfpfknfoaaDoorCards.lean) ties it to the program's text. -/
def laid_unicode_utf8_acceptRanges {H : Type} : DataW H := .agg [.agg [.lit (.int .u8 128), .lit (.int .u8 191)], .agg [.lit (.int .u8 160), .lit (.int .u8 191)], .agg [.lit (.int .u8 128), .lit (.int .u8 159)], .agg [.lit (.int .u8 144), .lit (.int .u8 191)], .agg [.lit (.int .u8 128), .lit (.int .u8 143)], .agg [.lit (.int .u8 0), .lit (.int .u8 0)], .agg [.lit (.int .u8 0), .lit (.int .u8 0)], .agg [.lit (.int .u8 0), .lit (.int .u8 0)], .agg [.lit (.int .u8 0), .lit (.int .u8 0)], .agg [.lit (.int .u8 0), .lit (.int .u8 0)], .agg [.lit (.int .u8 0), .lit (.int .u8 0)], .agg [.lit (.int .u8 0), .lit (.int .u8 0)], .agg [.lit (.int .u8 0), .lit (.int .u8 0)], .agg [.lit (.int .u8 0), .lit (.int .u8 0)], .agg [.lit (.int .u8 0), .lit (.int .u8 0)], .agg [.lit (.int .u8 0), .lit (.int .u8 0)]]
/-- One of Go's own tables, pinned by name: the form's constant. -/
def laid_unicode_utf8_first : DataW Unit := Go.Pinned.utf8First

/-- 'telecinelaw03.VaultChecks': WHATEVER THE INPUT: true; the input reads as it did. -/
def vaultChecksSpec : ChangeSpec := { name := "vaultChecks", fn := fun _ => fun
  | [d] => { results := [.lit (.bool true)], args := [d] }
  | _ => none }
def vaultChecksRow : OpenClaim := { program := "ytkidicfpfknfoaadoor", sum := "f5772255384927936f934500b993b34f2705f39f67973cdba42150010dc185a4", func := "telecine/telecinelaw03.VaultChecks", spec := "vaultChecks", inPlace := ["internal/bytealg.CountString", "internal/bytealg.IndexByteString", "internal/bytealg.IndexString"], unfollowed := true, recurses := true, named := ["unicode/utf8.first", "unicode/utf8.acceptRanges", "internal/bytealg.MaxLen"], apart := false, laid := [("unicode/utf8.acceptRanges", laid_unicode_utf8_acceptRanges), ("unicode/utf8.first", laid_unicode_utf8_first)] }
def VaultChecksSaid : Prop := vaultChecksRow.holds Tryd.pinned (OpenSpec.ofChange vaultChecksSpec)

/-- ITS FALSE NEIGHBOUR: 'it returns false'. Refute it at one input. -/
def vaultChecksWrong : ChangeSpec := { name := "vaultChecks", fn := fun _ => fun
  | [d] => { results := [.lit (.bool false)], args := [d] }
  | _ => none }
def VaultChecksWrongFalsely : Prop := vaultChecksRow.holds Tryd.pinned (OpenSpec.ofChange vaultChecksWrong)

/-- 'telecinelaw03.VaultWay': WHATEVER THE INPUT: true; the input reads as it did. -/
def vaultWaySpec : ChangeSpec := { name := "vaultWay", fn := fun _ => fun
  | [d1, d2] => { results := [.lit (.bool true)], args := [d1, d2] }
  | _ => none }
def vaultWayRow : OpenClaim := { program := "ytkidicfpfknfoaadoor", sum := "f5772255384927936f934500b993b34f2705f39f67973cdba42150010dc185a4", func := "telecine/telecinelaw03.VaultWay", spec := "vaultWay", inPlace := ["internal/bytealg.CountString", "internal/bytealg.IndexByteString", "internal/bytealg.IndexString"], unfollowed := true, recurses := true, named := ["unicode/utf8.first", "unicode/utf8.acceptRanges", "internal/bytealg.MaxLen"], apart := false, laid := [("unicode/utf8.acceptRanges", laid_unicode_utf8_acceptRanges), ("unicode/utf8.first", laid_unicode_utf8_first)] }
def VaultWaySaid : Prop := vaultWayRow.holds Tryd.pinned (OpenSpec.ofChange vaultWaySpec)

/-- ITS FALSE NEIGHBOUR: 'it returns false'. Refute it at one input. -/
def vaultWayWrong : ChangeSpec := { name := "vaultWay", fn := fun _ => fun
  | [d1, d2] => { results := [.lit (.bool false)], args := [d1, d2] }
  | _ => none }
def VaultWayWrongFalsely : Prop := vaultWayRow.holds Tryd.pinned (OpenSpec.ofChange vaultWayWrong)

/-- 'telecinelaw03.VaultAir': WHATEVER THE INPUT: true; the input reads as it did. -/
def vaultAirSpec : ChangeSpec := { name := "vaultAir", fn := fun _ => fun
  | [d1, d2] => { results := [.lit (.bool true)], args := [d1, d2] }
  | _ => none }
def vaultAirRow : OpenClaim := { program := "ytkidicfpfknfoaadoor", sum := "f5772255384927936f934500b993b34f2705f39f67973cdba42150010dc185a4", func := "telecine/telecinelaw03.VaultAir", spec := "vaultAir", inPlace := ["internal/bytealg.CountString", "internal/bytealg.IndexByteString", "internal/bytealg.IndexString"], unfollowed := true, recurses := true, named := ["unicode/utf8.first", "unicode/utf8.acceptRanges", "internal/bytealg.MaxLen"], apart := false, laid := [("unicode/utf8.acceptRanges", laid_unicode_utf8_acceptRanges), ("unicode/utf8.first", laid_unicode_utf8_first)] }
def VaultAirSaid : Prop := vaultAirRow.holds Tryd.pinned (OpenSpec.ofChange vaultAirSpec)

/-- ITS FALSE NEIGHBOUR: 'it returns false'. Refute it at one input. -/
def vaultAirWrong : ChangeSpec := { name := "vaultAir", fn := fun _ => fun
  | [d1, d2] => { results := [.lit (.bool false)], args := [d1, d2] }
  | _ => none }
def VaultAirWrongFalsely : Prop := vaultAirRow.holds Tryd.pinned (OpenSpec.ofChange vaultAirWrong)

/-- 'telecinelaw03.VaultDew': WHATEVER THE INPUT: true; the input reads as it did. -/
def vaultDewSpec : ChangeSpec := { name := "vaultDew", fn := fun _ => fun
  | [d1, d2, d3] => { results := [.lit (.bool true)], args := [d1, d2, d3] }
  | _ => none }
def vaultDewRow : OpenClaim := { program := "ytkidicfpfknfoaadoor", sum := "f5772255384927936f934500b993b34f2705f39f67973cdba42150010dc185a4", func := "telecine/telecinelaw03.VaultDew", spec := "vaultDew", inPlace := ["internal/bytealg.CountString", "internal/bytealg.IndexByteString", "internal/bytealg.IndexString"], unfollowed := true, recurses := true, named := ["unicode/utf8.first", "unicode/utf8.acceptRanges", "internal/bytealg.MaxLen"], apart := false, laid := [("unicode/utf8.acceptRanges", laid_unicode_utf8_acceptRanges), ("unicode/utf8.first", laid_unicode_utf8_first)] }
def VaultDewSaid : Prop := vaultDewRow.holds Tryd.pinned (OpenSpec.ofChange vaultDewSpec)

/-- ITS FALSE NEIGHBOUR: 'it returns false'. Refute it at one input. -/
def vaultDewWrong : ChangeSpec := { name := "vaultDew", fn := fun _ => fun
  | [d1, d2, d3] => { results := [.lit (.bool false)], args := [d1, d2, d3] }
  | _ => none }
def VaultDewWrongFalsely : Prop := vaultDewRow.holds Tryd.pinned (OpenSpec.ofChange vaultDewWrong)

/-- 'telecinelaw03.VaultBest': WHATEVER THE INPUT: true; the input reads as it did. -/
def vaultBestSpec : ChangeSpec := { name := "vaultBest", fn := fun _ => fun
  | [d1, d2, d3] => { results := [.lit (.bool true)], args := [d1, d2, d3] }
  | _ => none }
def vaultBestRow : OpenClaim := { program := "ytkidicfpfknfoaadoor", sum := "f5772255384927936f934500b993b34f2705f39f67973cdba42150010dc185a4", func := "telecine/telecinelaw03.VaultBest", spec := "vaultBest", inPlace := ["internal/bytealg.CountString", "internal/bytealg.IndexByteString", "internal/bytealg.IndexString"], unfollowed := true, recurses := true, named := ["unicode/utf8.first", "unicode/utf8.acceptRanges", "internal/bytealg.MaxLen"], apart := false, laid := [("unicode/utf8.acceptRanges", laid_unicode_utf8_acceptRanges), ("unicode/utf8.first", laid_unicode_utf8_first)] }
def VaultBestSaid : Prop := vaultBestRow.holds Tryd.pinned (OpenSpec.ofChange vaultBestSpec)

/-- ITS FALSE NEIGHBOUR: 'it returns false'. Refute it at one input. -/
def vaultBestWrong : ChangeSpec := { name := "vaultBest", fn := fun _ => fun
  | [d1, d2, d3] => { results := [.lit (.bool false)], args := [d1, d2, d3] }
  | _ => none }
def VaultBestWrongFalsely : Prop := vaultBestRow.holds Tryd.pinned (OpenSpec.ofChange vaultBestWrong)

/-- 'telecinelaw03.VaultAgain': WHATEVER THE INPUT: true; the input reads as it did. -/
def vaultAgainSpec : ChangeSpec := { name := "vaultAgain", fn := fun _ => fun
  | [d1, d2, d3] => { results := [.lit (.bool true)], args := [d1, d2, d3] }
  | _ => none }
def vaultAgainRow : OpenClaim := { program := "ytkidicfpfknfoaadoor", sum := "f5772255384927936f934500b993b34f2705f39f67973cdba42150010dc185a4", func := "telecine/telecinelaw03.VaultAgain", spec := "vaultAgain", inPlace := ["internal/bytealg.CountString", "internal/bytealg.IndexByteString", "internal/bytealg.IndexString"], unfollowed := true, recurses := true, named := ["unicode/utf8.first", "unicode/utf8.acceptRanges", "internal/bytealg.MaxLen"], apart := false, laid := [("unicode/utf8.acceptRanges", laid_unicode_utf8_acceptRanges), ("unicode/utf8.first", laid_unicode_utf8_first)] }
def VaultAgainSaid : Prop := vaultAgainRow.holds Tryd.pinned (OpenSpec.ofChange vaultAgainSpec)

/-- ITS FALSE NEIGHBOUR: 'it returns false'. Refute it at one input. -/
def vaultAgainWrong : ChangeSpec := { name := "vaultAgain", fn := fun _ => fun
  | [d1, d2, d3] => { results := [.lit (.bool false)], args := [d1, d2, d3] }
  | _ => none }
def VaultAgainWrongFalsely : Prop := vaultAgainRow.holds Tryd.pinned (OpenSpec.ofChange vaultAgainWrong)

/-- 'telecinelaw03.VaultPlaced': WHATEVER THE INPUT: true; the input reads as it did. -/
def vaultPlacedSpec : ChangeSpec := { name := "vaultPlaced", fn := fun _ => fun
  | [d1, d2, d3] => { results := [.lit (.bool true)], args := [d1, d2, d3] }
  | _ => none }
def vaultPlacedRow : OpenClaim := { program := "ytkidicfpfknfoaadoor", sum := "f5772255384927936f934500b993b34f2705f39f67973cdba42150010dc185a4", func := "telecine/telecinelaw03.VaultPlaced", spec := "vaultPlaced", inPlace := ["internal/bytealg.CountString", "internal/bytealg.IndexByteString", "internal/bytealg.IndexString"], unfollowed := true, recurses := true, named := ["unicode/utf8.first", "unicode/utf8.acceptRanges", "internal/bytealg.MaxLen"], apart := false, laid := [("unicode/utf8.acceptRanges", laid_unicode_utf8_acceptRanges), ("unicode/utf8.first", laid_unicode_utf8_first)] }
def VaultPlacedSaid : Prop := vaultPlacedRow.holds Tryd.pinned (OpenSpec.ofChange vaultPlacedSpec)

/-- ITS FALSE NEIGHBOUR: 'it returns false'. Refute it at one input. -/
def vaultPlacedWrong : ChangeSpec := { name := "vaultPlaced", fn := fun _ => fun
  | [d1, d2, d3] => { results := [.lit (.bool false)], args := [d1, d2, d3] }
  | _ => none }
def VaultPlacedWrongFalsely : Prop := vaultPlacedRow.holds Tryd.pinned (OpenSpec.ofChange vaultPlacedWrong)

/-- 'telecinelaw03.VaultTrue': WHATEVER THE INPUT: true; the input reads as it did. -/
def vaultTrueSpec : ChangeSpec := { name := "vaultTrue", fn := fun _ => fun
  | [d1, d2, d3] => { results := [.lit (.bool true)], args := [d1, d2, d3] }
  | _ => none }
def vaultTrueRow : OpenClaim := { program := "ytkidicfpfknfoaadoor", sum := "f5772255384927936f934500b993b34f2705f39f67973cdba42150010dc185a4", func := "telecine/telecinelaw03.VaultTrue", spec := "vaultTrue", inPlace := ["internal/bytealg.CountString", "internal/bytealg.IndexByteString", "internal/bytealg.IndexString"], unfollowed := true, recurses := true, named := ["unicode/utf8.first", "unicode/utf8.acceptRanges", "internal/bytealg.MaxLen"], apart := false, laid := [("unicode/utf8.acceptRanges", laid_unicode_utf8_acceptRanges), ("unicode/utf8.first", laid_unicode_utf8_first)] }
def VaultTrueSaid : Prop := vaultTrueRow.holds Tryd.pinned (OpenSpec.ofChange vaultTrueSpec)

/-- ITS FALSE NEIGHBOUR: 'it returns false'. Refute it at one input. -/
def vaultTrueWrong : ChangeSpec := { name := "vaultTrue", fn := fun _ => fun
  | [d1, d2, d3] => { results := [.lit (.bool false)], args := [d1, d2, d3] }
  | _ => none }
def VaultTrueWrongFalsely : Prop := vaultTrueRow.holds Tryd.pinned (OpenSpec.ofChange vaultTrueWrong)

/-- 'telecinelaw03.VaultNarrow': WHATEVER THE INPUT: true; the input reads as it did. -/
def vaultNarrowSpec : ChangeSpec := { name := "vaultNarrow", fn := fun _ => fun
  | [d1, d2, d3] => { results := [.lit (.bool true)], args := [d1, d2, d3] }
  | _ => none }
def vaultNarrowRow : OpenClaim := { program := "ytkidicfpfknfoaadoor", sum := "f5772255384927936f934500b993b34f2705f39f67973cdba42150010dc185a4", func := "telecine/telecinelaw03.VaultNarrow", spec := "vaultNarrow", inPlace := ["internal/bytealg.CountString", "internal/bytealg.IndexByteString", "internal/bytealg.IndexString"], unfollowed := true, recurses := true, named := ["unicode/utf8.first", "unicode/utf8.acceptRanges", "internal/bytealg.MaxLen"], apart := false, laid := [("unicode/utf8.acceptRanges", laid_unicode_utf8_acceptRanges), ("unicode/utf8.first", laid_unicode_utf8_first)] }
def VaultNarrowSaid : Prop := vaultNarrowRow.holds Tryd.pinned (OpenSpec.ofChange vaultNarrowSpec)

/-- ITS FALSE NEIGHBOUR: 'it returns false'. Refute it at one input. -/
def vaultNarrowWrong : ChangeSpec := { name := "vaultNarrow", fn := fun _ => fun
  | [d1, d2, d3] => { results := [.lit (.bool false)], args := [d1, d2, d3] }
  | _ => none }
def VaultNarrowWrongFalsely : Prop := vaultNarrowRow.holds Tryd.pinned (OpenSpec.ofChange vaultNarrowWrong)

/-- 'telecinelaw03.VaultKnown': WHATEVER THE INPUT: true; the input reads as it did. -/
def vaultKnownSpec : ChangeSpec := { name := "vaultKnown", fn := fun _ => fun
  | [] => { results := [.lit (.bool true)], args := [] }
  | _ => none }
def vaultKnownRow : OpenClaim := { program := "ytkidicfpfknfoaadoor", sum := "f5772255384927936f934500b993b34f2705f39f67973cdba42150010dc185a4", func := "telecine/telecinelaw03.VaultKnown", spec := "vaultKnown", inPlace := ["internal/bytealg.CountString", "internal/bytealg.IndexByteString", "internal/bytealg.IndexString"], unfollowed := true, recurses := true, named := ["unicode/utf8.first", "unicode/utf8.acceptRanges", "internal/bytealg.MaxLen"], apart := false, laid := [("unicode/utf8.acceptRanges", laid_unicode_utf8_acceptRanges), ("unicode/utf8.first", laid_unicode_utf8_first)] }
def VaultKnownSaid : Prop := vaultKnownRow.holds Tryd.pinned (OpenSpec.ofChange vaultKnownSpec)

/-- ITS FALSE NEIGHBOUR: 'it returns false'. Refute it at one input. -/
def vaultKnownWrong : ChangeSpec := { name := "vaultKnown", fn := fun _ => fun
  | [] => { results := [.lit (.bool false)], args := [] }
  | _ => none }
def VaultKnownWrongFalsely : Prop := vaultKnownRow.holds Tryd.pinned (OpenSpec.ofChange vaultKnownWrong)

/- THE SECOND FORM. 'bulk': how many values and letters a reading holds, each counted each time it is reached (what is shared counts as often as it is met; a slice's spare places count too). A statement '..UptoSaid' is the law's where the arguments, and the package variables that the reading takes, are together of bulk at most 1048576: NARROWER than '..Said'. Prove '..Said' where nothing that the law and all that it calls make is longer than what came in: it says more and counts as full. Else prove '..UptoSaid'. A law counts once. -/
mutual
def uptoBulk {H : Type} : DataW H → Nat
  | .lit (.string bytes) => bytes.length + 1
  | .lit _ => 1
  | .nil => 1
  | .ptr d => uptoBulk d + 1
  | .slice elems spare => uptoBulkAll elems + uptoBulkAll spare + 1
  | .agg parts => uptoBulkAll parts + 1
  | .iface _ d => uptoBulk d + 1
  | .map entries => uptoBulkEntries entries + 1
  | .held _ => 1
def uptoBulkAll {H : Type} : List (DataW H) → Nat
  | [] => 0
  | d :: r => uptoBulk d + uptoBulkAll r
def uptoBulkEntries {H : Type} : List (Lit × DataW H) → Nat
  | [] => 0
  | x :: r => uptoBulkEntry x + uptoBulkEntries r
def uptoBulkEntry {H : Type} : Lit × DataW H → Nat
  | (.string bytes, d) => bytes.length + uptoBulk d + 1
  | (_, d) => uptoBulk d + 1
 end
def uptoSmall : (H : Type) → List (DataW H) → Bool := fun _ ds => decide (uptoBulkAll ds ≤ 1048576)
def OpenSpec.upto (s : _root_.Go.ChangeSpec) : _root_.Go.OpenSpec := { _root_.Go.OpenSpec.ofChange s with cond := some uptoSmall }

/-- 'telecinelaw03.VaultChecks', WHERE WHAT IT READS IS OF BULK AT MOST 1048576: true; the input reads as it did. -/
def vaultChecksUptoRow : OpenClaim := { program := "ytkidicfpfknfoaadoor", sum := "f5772255384927936f934500b993b34f2705f39f67973cdba42150010dc185a4", func := "telecine/telecinelaw03.VaultChecks", spec := "vaultChecks", inPlace := ["internal/bytealg.CountString", "internal/bytealg.IndexByteString", "internal/bytealg.IndexString"], unfollowed := true, recurses := true, named := ["unicode/utf8.first", "unicode/utf8.acceptRanges", "internal/bytealg.MaxLen"], apart := false, laid := [("unicode/utf8.acceptRanges", laid_unicode_utf8_acceptRanges), ("unicode/utf8.first", laid_unicode_utf8_first)], narrowed := true }
def VaultChecksUptoSaid : Prop := vaultChecksUptoRow.holds Tryd.pinned (OpenSpec.upto vaultChecksSpec)

/-- 'telecinelaw03.VaultWay', WHERE WHAT IT READS IS OF BULK AT MOST 1048576: true; the input reads as it did. -/
def vaultWayUptoRow : OpenClaim := { program := "ytkidicfpfknfoaadoor", sum := "f5772255384927936f934500b993b34f2705f39f67973cdba42150010dc185a4", func := "telecine/telecinelaw03.VaultWay", spec := "vaultWay", inPlace := ["internal/bytealg.CountString", "internal/bytealg.IndexByteString", "internal/bytealg.IndexString"], unfollowed := true, recurses := true, named := ["unicode/utf8.first", "unicode/utf8.acceptRanges", "internal/bytealg.MaxLen"], apart := false, laid := [("unicode/utf8.acceptRanges", laid_unicode_utf8_acceptRanges), ("unicode/utf8.first", laid_unicode_utf8_first)], narrowed := true }
def VaultWayUptoSaid : Prop := vaultWayUptoRow.holds Tryd.pinned (OpenSpec.upto vaultWaySpec)

/-- 'telecinelaw03.VaultAir', WHERE WHAT IT READS IS OF BULK AT MOST 1048576: true; the input reads as it did. -/
def vaultAirUptoRow : OpenClaim := { program := "ytkidicfpfknfoaadoor", sum := "f5772255384927936f934500b993b34f2705f39f67973cdba42150010dc185a4", func := "telecine/telecinelaw03.VaultAir", spec := "vaultAir", inPlace := ["internal/bytealg.CountString", "internal/bytealg.IndexByteString", "internal/bytealg.IndexString"], unfollowed := true, recurses := true, named := ["unicode/utf8.first", "unicode/utf8.acceptRanges", "internal/bytealg.MaxLen"], apart := false, laid := [("unicode/utf8.acceptRanges", laid_unicode_utf8_acceptRanges), ("unicode/utf8.first", laid_unicode_utf8_first)], narrowed := true }
def VaultAirUptoSaid : Prop := vaultAirUptoRow.holds Tryd.pinned (OpenSpec.upto vaultAirSpec)

/-- 'telecinelaw03.VaultDew', WHERE WHAT IT READS IS OF BULK AT MOST 1048576: true; the input reads as it did. -/
def vaultDewUptoRow : OpenClaim := { program := "ytkidicfpfknfoaadoor", sum := "f5772255384927936f934500b993b34f2705f39f67973cdba42150010dc185a4", func := "telecine/telecinelaw03.VaultDew", spec := "vaultDew", inPlace := ["internal/bytealg.CountString", "internal/bytealg.IndexByteString", "internal/bytealg.IndexString"], unfollowed := true, recurses := true, named := ["unicode/utf8.first", "unicode/utf8.acceptRanges", "internal/bytealg.MaxLen"], apart := false, laid := [("unicode/utf8.acceptRanges", laid_unicode_utf8_acceptRanges), ("unicode/utf8.first", laid_unicode_utf8_first)], narrowed := true }
def VaultDewUptoSaid : Prop := vaultDewUptoRow.holds Tryd.pinned (OpenSpec.upto vaultDewSpec)

/-- 'telecinelaw03.VaultBest', WHERE WHAT IT READS IS OF BULK AT MOST 1048576: true; the input reads as it did. -/
def vaultBestUptoRow : OpenClaim := { program := "ytkidicfpfknfoaadoor", sum := "f5772255384927936f934500b993b34f2705f39f67973cdba42150010dc185a4", func := "telecine/telecinelaw03.VaultBest", spec := "vaultBest", inPlace := ["internal/bytealg.CountString", "internal/bytealg.IndexByteString", "internal/bytealg.IndexString"], unfollowed := true, recurses := true, named := ["unicode/utf8.first", "unicode/utf8.acceptRanges", "internal/bytealg.MaxLen"], apart := false, laid := [("unicode/utf8.acceptRanges", laid_unicode_utf8_acceptRanges), ("unicode/utf8.first", laid_unicode_utf8_first)], narrowed := true }
def VaultBestUptoSaid : Prop := vaultBestUptoRow.holds Tryd.pinned (OpenSpec.upto vaultBestSpec)

/-- 'telecinelaw03.VaultAgain', WHERE WHAT IT READS IS OF BULK AT MOST 1048576: true; the input reads as it did. -/
def vaultAgainUptoRow : OpenClaim := { program := "ytkidicfpfknfoaadoor", sum := "f5772255384927936f934500b993b34f2705f39f67973cdba42150010dc185a4", func := "telecine/telecinelaw03.VaultAgain", spec := "vaultAgain", inPlace := ["internal/bytealg.CountString", "internal/bytealg.IndexByteString", "internal/bytealg.IndexString"], unfollowed := true, recurses := true, named := ["unicode/utf8.first", "unicode/utf8.acceptRanges", "internal/bytealg.MaxLen"], apart := false, laid := [("unicode/utf8.acceptRanges", laid_unicode_utf8_acceptRanges), ("unicode/utf8.first", laid_unicode_utf8_first)], narrowed := true }
def VaultAgainUptoSaid : Prop := vaultAgainUptoRow.holds Tryd.pinned (OpenSpec.upto vaultAgainSpec)

/-- 'telecinelaw03.VaultPlaced', WHERE WHAT IT READS IS OF BULK AT MOST 1048576: true; the input reads as it did. -/
def vaultPlacedUptoRow : OpenClaim := { program := "ytkidicfpfknfoaadoor", sum := "f5772255384927936f934500b993b34f2705f39f67973cdba42150010dc185a4", func := "telecine/telecinelaw03.VaultPlaced", spec := "vaultPlaced", inPlace := ["internal/bytealg.CountString", "internal/bytealg.IndexByteString", "internal/bytealg.IndexString"], unfollowed := true, recurses := true, named := ["unicode/utf8.first", "unicode/utf8.acceptRanges", "internal/bytealg.MaxLen"], apart := false, laid := [("unicode/utf8.acceptRanges", laid_unicode_utf8_acceptRanges), ("unicode/utf8.first", laid_unicode_utf8_first)], narrowed := true }
def VaultPlacedUptoSaid : Prop := vaultPlacedUptoRow.holds Tryd.pinned (OpenSpec.upto vaultPlacedSpec)

/-- 'telecinelaw03.VaultTrue', WHERE WHAT IT READS IS OF BULK AT MOST 1048576: true; the input reads as it did. -/
def vaultTrueUptoRow : OpenClaim := { program := "ytkidicfpfknfoaadoor", sum := "f5772255384927936f934500b993b34f2705f39f67973cdba42150010dc185a4", func := "telecine/telecinelaw03.VaultTrue", spec := "vaultTrue", inPlace := ["internal/bytealg.CountString", "internal/bytealg.IndexByteString", "internal/bytealg.IndexString"], unfollowed := true, recurses := true, named := ["unicode/utf8.first", "unicode/utf8.acceptRanges", "internal/bytealg.MaxLen"], apart := false, laid := [("unicode/utf8.acceptRanges", laid_unicode_utf8_acceptRanges), ("unicode/utf8.first", laid_unicode_utf8_first)], narrowed := true }
def VaultTrueUptoSaid : Prop := vaultTrueUptoRow.holds Tryd.pinned (OpenSpec.upto vaultTrueSpec)

/-- 'telecinelaw03.VaultNarrow', WHERE WHAT IT READS IS OF BULK AT MOST 1048576: true; the input reads as it did. -/
def vaultNarrowUptoRow : OpenClaim := { program := "ytkidicfpfknfoaadoor", sum := "f5772255384927936f934500b993b34f2705f39f67973cdba42150010dc185a4", func := "telecine/telecinelaw03.VaultNarrow", spec := "vaultNarrow", inPlace := ["internal/bytealg.CountString", "internal/bytealg.IndexByteString", "internal/bytealg.IndexString"], unfollowed := true, recurses := true, named := ["unicode/utf8.first", "unicode/utf8.acceptRanges", "internal/bytealg.MaxLen"], apart := false, laid := [("unicode/utf8.acceptRanges", laid_unicode_utf8_acceptRanges), ("unicode/utf8.first", laid_unicode_utf8_first)], narrowed := true }
def VaultNarrowUptoSaid : Prop := vaultNarrowUptoRow.holds Tryd.pinned (OpenSpec.upto vaultNarrowSpec)

/-- 'telecinelaw03.VaultKnown', WHERE WHAT IT READS IS OF BULK AT MOST 1048576: true; the input reads as it did. -/
def vaultKnownUptoRow : OpenClaim := { program := "ytkidicfpfknfoaadoor", sum := "f5772255384927936f934500b993b34f2705f39f67973cdba42150010dc185a4", func := "telecine/telecinelaw03.VaultKnown", spec := "vaultKnown", inPlace := ["internal/bytealg.CountString", "internal/bytealg.IndexByteString", "internal/bytealg.IndexString"], unfollowed := true, recurses := true, named := ["unicode/utf8.first", "unicode/utf8.acceptRanges", "internal/bytealg.MaxLen"], apart := false, laid := [("unicode/utf8.acceptRanges", laid_unicode_utf8_acceptRanges), ("unicode/utf8.first", laid_unicode_utf8_first)], narrowed := true }
def VaultKnownUptoSaid : Prop := vaultKnownUptoRow.holds Tryd.pinned (OpenSpec.upto vaultKnownSpec)

end Rows
end Go.Proofs.YtkidicfpfknfoaaDoor
