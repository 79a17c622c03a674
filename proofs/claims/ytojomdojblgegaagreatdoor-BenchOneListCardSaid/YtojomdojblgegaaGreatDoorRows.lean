/-
  NARROWER THAN 'FOR EVERY INPUT', by the rows' own cells (each row's printed sentence says how): BenchMerges: laid · BenchGaps: laid · BenchPlaces: laid · BenchOneList: laid · BenchTrue: laid · BenchNarrow: laid · BenchChecks: laid.
  DERIVED. THE GIVEN ROWS OF THIS SEAT. 7 by the template 'for every input the law returns true; each argument reads behind the call as it read before'; 0 by the template 'total and deterministic' (their statements: YtojomdojblgegaaGreatDoorTotals.lean).
  GIVEN WITH THE SEED: the statements are not yours to turn. If you find one false, say at which input.
  Laid BY PROGRAM, IN A SANDBOX (cutbox-rows.mjs): the forced cells as the released guide's own fill.sh prints them over the translation 33764e6026cbd691… (all of the seat's roots in one cut). By AI agents, Wed Nov 11 2026. No macro, syntax, notation, axiom, sorry.
-/
import Derived.Test.YtojomdojblgegaaGreatDoorChecked
import GoSem.PinnedTables
import GoSem.Claim
import GoSem.ClaimJoined
import GoSem.ClaimMapViews
import Derived.JoinedTies
import Derived.KernelRfl
namespace Go.Proofs.YtojomdojblgegaaGreatDoor
/- THE CELL 'sum', in the pinned program and in every row, IS THE sha256 OF THE DUMP (.gsa) THAT YtojomdojblgegaaGreatDoorProg.lean LOADS. Nothing in Lean hashes anything: it is a label: what it is worth is what the hold of that sum in a sandbox is worth. -/
noncomputable def Tryz.pinned : Pinned := { name := "ytojomdojblgegaagreatdoor", sum := "33764e6026cbd691ee2f8315b01a27c78808a257dcedb40c5259d1e5c755ea6e", checked := Tryz.checked }
namespace Rows
def none {H : Type} : Left H := { results := [], args := [] }

/- WHAT THE LISTED PACKAGE-LEVEL VARIABLES READ AS WHEN THE CALL BEGINS. Each datum BY PROGRAM (the guide's laid-datum.mjs) off the statement by which the dump's own 'gosem.cut.vars' lays the variable. In a bare row this is a premise. The card (YtojomdojblgegaaGreatDoorCards.lean) ties it to the program's text. -/
def laid_unicode_utf8_acceptRanges {H : Type} : DataW H := .agg [.agg [.lit (.int .u8 128), .lit (.int .u8 191)], .agg [.lit (.int .u8 160), .lit (.int .u8 191)], .agg [.lit (.int .u8 128), .lit (.int .u8 159)], .agg [.lit (.int .u8 144), .lit (.int .u8 191)], .agg [.lit (.int .u8 128), .lit (.int .u8 143)], .agg [.lit (.int .u8 0), .lit (.int .u8 0)], .agg [.lit (.int .u8 0), .lit (.int .u8 0)], .agg [.lit (.int .u8 0), .lit (.int .u8 0)], .agg [.lit (.int .u8 0), .lit (.int .u8 0)], .agg [.lit (.int .u8 0), .lit (.int .u8 0)], .agg [.lit (.int .u8 0), .lit (.int .u8 0)], .agg [.lit (.int .u8 0), .lit (.int .u8 0)], .agg [.lit (.int .u8 0), .lit (.int .u8 0)], .agg [.lit (.int .u8 0), .lit (.int .u8 0)], .agg [.lit (.int .u8 0), .lit (.int .u8 0)], .agg [.lit (.int .u8 0), .lit (.int .u8 0)]]
/-- One of Go's own tables, pinned by name: the form's constant. -/
def laid_unicode_utf8_first : DataW Unit := Go.Pinned.utf8First

/-- 'telecinelaw05.BenchMerges': WHATEVER THE INPUT: true; the input reads as it did. -/
def benchMergesSpec : ChangeSpec := { name := "benchMerges", fn := fun _ => fun
  | [d] => { results := [.lit (.bool true)], args := [d] }
  | _ => none }
def benchMergesRow : OpenClaim := { program := "ytojomdojblgegaagreatdoor", sum := "33764e6026cbd691ee2f8315b01a27c78808a257dcedb40c5259d1e5c755ea6e", func := "telecine/telecinelaw05.BenchMerges", spec := "benchMerges", inPlace := ["internal/bytealg.CountString", "internal/bytealg.IndexByteString", "internal/bytealg.IndexString"], unfollowed := true, recurses := true, named := ["unicode/utf8.first", "unicode/utf8.acceptRanges", "internal/bytealg.MaxLen"], plainKeys := false, apart := false, laid := [("unicode/utf8.acceptRanges", laid_unicode_utf8_acceptRanges), ("unicode/utf8.first", laid_unicode_utf8_first)] }
def BenchMergesSaid : Prop := benchMergesRow.holds Tryz.pinned (OpenSpec.ofChange benchMergesSpec)

/-- ITS FALSE NEIGHBOUR: 'it returns false'. Refute it at one input. -/
def benchMergesWrong : ChangeSpec := { name := "benchMerges", fn := fun _ => fun
  | [d] => { results := [.lit (.bool false)], args := [d] }
  | _ => none }
def BenchMergesWrongFalsely : Prop := benchMergesRow.holds Tryz.pinned (OpenSpec.ofChange benchMergesWrong)

/-- 'telecinelaw05.BenchGaps': WHATEVER THE INPUT: true; the input reads as it did. -/
def benchGapsSpec : ChangeSpec := { name := "benchGaps", fn := fun _ => fun
  | [d] => { results := [.lit (.bool true)], args := [d] }
  | _ => none }
def benchGapsRow : OpenClaim := { program := "ytojomdojblgegaagreatdoor", sum := "33764e6026cbd691ee2f8315b01a27c78808a257dcedb40c5259d1e5c755ea6e", func := "telecine/telecinelaw05.BenchGaps", spec := "benchGaps", inPlace := ["internal/bytealg.CountString", "internal/bytealg.IndexByteString", "internal/bytealg.IndexString"], unfollowed := true, recurses := true, named := ["unicode/utf8.first", "unicode/utf8.acceptRanges", "internal/bytealg.MaxLen"], plainKeys := false, apart := false, laid := [("unicode/utf8.acceptRanges", laid_unicode_utf8_acceptRanges), ("unicode/utf8.first", laid_unicode_utf8_first)] }
def BenchGapsSaid : Prop := benchGapsRow.holds Tryz.pinned (OpenSpec.ofChange benchGapsSpec)

/-- ITS FALSE NEIGHBOUR: 'it returns false'. Refute it at one input. -/
def benchGapsWrong : ChangeSpec := { name := "benchGaps", fn := fun _ => fun
  | [d] => { results := [.lit (.bool false)], args := [d] }
  | _ => none }
def BenchGapsWrongFalsely : Prop := benchGapsRow.holds Tryz.pinned (OpenSpec.ofChange benchGapsWrong)

/-- 'telecinelaw05.BenchPlaces': WHATEVER THE INPUT: true; the input reads as it did. -/
def benchPlacesSpec : ChangeSpec := { name := "benchPlaces", fn := fun _ => fun
  | [d1, d2] => { results := [.lit (.bool true)], args := [d1, d2] }
  | _ => none }
def benchPlacesRow : OpenClaim := { program := "ytojomdojblgegaagreatdoor", sum := "33764e6026cbd691ee2f8315b01a27c78808a257dcedb40c5259d1e5c755ea6e", func := "telecine/telecinelaw05.BenchPlaces", spec := "benchPlaces", inPlace := ["internal/bytealg.CountString", "internal/bytealg.IndexByteString", "internal/bytealg.IndexString"], unfollowed := true, recurses := true, named := ["unicode/utf8.first", "unicode/utf8.acceptRanges", "internal/bytealg.MaxLen"], plainKeys := false, apart := false, laid := [("unicode/utf8.acceptRanges", laid_unicode_utf8_acceptRanges), ("unicode/utf8.first", laid_unicode_utf8_first)] }
def BenchPlacesSaid : Prop := benchPlacesRow.holds Tryz.pinned (OpenSpec.ofChange benchPlacesSpec)

/-- ITS FALSE NEIGHBOUR: 'it returns false'. Refute it at one input. -/
def benchPlacesWrong : ChangeSpec := { name := "benchPlaces", fn := fun _ => fun
  | [d1, d2] => { results := [.lit (.bool false)], args := [d1, d2] }
  | _ => none }
def BenchPlacesWrongFalsely : Prop := benchPlacesRow.holds Tryz.pinned (OpenSpec.ofChange benchPlacesWrong)

/-- 'telecinelaw05.BenchOneList': WHATEVER THE INPUT: true; the input reads as it did. -/
def benchOneListSpec : ChangeSpec := { name := "benchOneList", fn := fun _ => fun
  | [d1, d2] => { results := [.lit (.bool true)], args := [d1, d2] }
  | _ => none }
def benchOneListRow : OpenClaim := { program := "ytojomdojblgegaagreatdoor", sum := "33764e6026cbd691ee2f8315b01a27c78808a257dcedb40c5259d1e5c755ea6e", func := "telecine/telecinelaw05.BenchOneList", spec := "benchOneList", inPlace := ["internal/bytealg.CountString", "internal/bytealg.IndexByteString", "internal/bytealg.IndexString"], unfollowed := true, recurses := true, named := ["unicode/utf8.first", "unicode/utf8.acceptRanges", "internal/bytealg.MaxLen"], plainKeys := false, apart := false, laid := [("unicode/utf8.acceptRanges", laid_unicode_utf8_acceptRanges), ("unicode/utf8.first", laid_unicode_utf8_first)] }
def BenchOneListSaid : Prop := benchOneListRow.holds Tryz.pinned (OpenSpec.ofChange benchOneListSpec)

/-- ITS FALSE NEIGHBOUR: 'it returns false'. Refute it at one input. -/
def benchOneListWrong : ChangeSpec := { name := "benchOneList", fn := fun _ => fun
  | [d1, d2] => { results := [.lit (.bool false)], args := [d1, d2] }
  | _ => none }
def BenchOneListWrongFalsely : Prop := benchOneListRow.holds Tryz.pinned (OpenSpec.ofChange benchOneListWrong)

/-- 'telecinelaw05.BenchTrue': WHATEVER THE INPUT: true; the input reads as it did. -/
def benchTrueSpec : ChangeSpec := { name := "benchTrue", fn := fun _ => fun
  | [d1, d2, d3] => { results := [.lit (.bool true)], args := [d1, d2, d3] }
  | _ => none }
def benchTrueRow : OpenClaim := { program := "ytojomdojblgegaagreatdoor", sum := "33764e6026cbd691ee2f8315b01a27c78808a257dcedb40c5259d1e5c755ea6e", func := "telecine/telecinelaw05.BenchTrue", spec := "benchTrue", inPlace := ["internal/bytealg.CountString", "internal/bytealg.IndexByteString", "internal/bytealg.IndexString"], unfollowed := true, recurses := true, named := ["unicode/utf8.first", "unicode/utf8.acceptRanges", "internal/bytealg.MaxLen"], plainKeys := false, apart := false, laid := [("unicode/utf8.acceptRanges", laid_unicode_utf8_acceptRanges), ("unicode/utf8.first", laid_unicode_utf8_first)] }
def BenchTrueSaid : Prop := benchTrueRow.holds Tryz.pinned (OpenSpec.ofChange benchTrueSpec)

/-- ITS FALSE NEIGHBOUR: 'it returns false'. Refute it at one input. -/
def benchTrueWrong : ChangeSpec := { name := "benchTrue", fn := fun _ => fun
  | [d1, d2, d3] => { results := [.lit (.bool false)], args := [d1, d2, d3] }
  | _ => none }
def BenchTrueWrongFalsely : Prop := benchTrueRow.holds Tryz.pinned (OpenSpec.ofChange benchTrueWrong)

/-- 'telecinelaw05.BenchNarrow': WHATEVER THE INPUT: true; the input reads as it did. -/
def benchNarrowSpec : ChangeSpec := { name := "benchNarrow", fn := fun _ => fun
  | [d1, d2, d3] => { results := [.lit (.bool true)], args := [d1, d2, d3] }
  | _ => none }
def benchNarrowRow : OpenClaim := { program := "ytojomdojblgegaagreatdoor", sum := "33764e6026cbd691ee2f8315b01a27c78808a257dcedb40c5259d1e5c755ea6e", func := "telecine/telecinelaw05.BenchNarrow", spec := "benchNarrow", inPlace := ["internal/bytealg.CountString", "internal/bytealg.IndexByteString", "internal/bytealg.IndexString"], unfollowed := true, recurses := true, named := ["unicode/utf8.first", "unicode/utf8.acceptRanges", "internal/bytealg.MaxLen"], plainKeys := false, apart := false, laid := [("unicode/utf8.acceptRanges", laid_unicode_utf8_acceptRanges), ("unicode/utf8.first", laid_unicode_utf8_first)] }
def BenchNarrowSaid : Prop := benchNarrowRow.holds Tryz.pinned (OpenSpec.ofChange benchNarrowSpec)

/-- ITS FALSE NEIGHBOUR: 'it returns false'. Refute it at one input. -/
def benchNarrowWrong : ChangeSpec := { name := "benchNarrow", fn := fun _ => fun
  | [d1, d2, d3] => { results := [.lit (.bool false)], args := [d1, d2, d3] }
  | _ => none }
def BenchNarrowWrongFalsely : Prop := benchNarrowRow.holds Tryz.pinned (OpenSpec.ofChange benchNarrowWrong)

/-- 'telecinelaw05.BenchChecks': WHATEVER THE INPUT: true; the input reads as it did. -/
def benchChecksSpec : ChangeSpec := { name := "benchChecks", fn := fun _ => fun
  | [d] => { results := [.lit (.bool true)], args := [d] }
  | _ => none }
def benchChecksRow : OpenClaim := { program := "ytojomdojblgegaagreatdoor", sum := "33764e6026cbd691ee2f8315b01a27c78808a257dcedb40c5259d1e5c755ea6e", func := "telecine/telecinelaw05.BenchChecks", spec := "benchChecks", inPlace := ["internal/bytealg.CountString", "internal/bytealg.IndexByteString", "internal/bytealg.IndexString"], unfollowed := true, recurses := true, named := ["unicode/utf8.first", "unicode/utf8.acceptRanges", "internal/bytealg.MaxLen"], plainKeys := false, apart := false, laid := [("unicode/utf8.acceptRanges", laid_unicode_utf8_acceptRanges), ("unicode/utf8.first", laid_unicode_utf8_first)] }
def BenchChecksSaid : Prop := benchChecksRow.holds Tryz.pinned (OpenSpec.ofChange benchChecksSpec)

/-- ITS FALSE NEIGHBOUR: 'it returns false'. Refute it at one input. -/
def benchChecksWrong : ChangeSpec := { name := "benchChecks", fn := fun _ => fun
  | [d] => { results := [.lit (.bool false)], args := [d] }
  | _ => none }
def BenchChecksWrongFalsely : Prop := benchChecksRow.holds Tryz.pinned (OpenSpec.ofChange benchChecksWrong)

/- THE SECOND FORM. 'bulk': how many values and letters a reading holds, each counted each time it is reached (what is shared counts as often as it is met; a slice's spare places count too). A statement '..UptoSaid' is the law's where the arguments, and the package variables that the reading takes, are together of bulk at most 1048576: NARROWER than '..Said'. Prove '..Said' where nothing that the law and all that it calls make is longer than what came in: it says more and counts as full. Else prove '..UptoSaid'. A law counts once. -/
mutual
def uptoBulk {H : Type} : DataW H → Nat
  | .lit (.string bytes) => bytes.length + 1
  | .lit _ => 1
  | .nil => 1
  | .ptr d => uptoBulk d + 1
  | .slice elems spare => uptoBulkAll elems + uptoBulkAll spare + 1
  | .agg parts => uptoBulkAll parts + 1
  | .iface _ d => uptoBulk d + 1
  | .map entries => uptoBulkEntries entries + 1
  | .held _ => 1
def uptoBulkAll {H : Type} : List (DataW H) → Nat
  | [] => 0
  | d :: r => uptoBulk d + uptoBulkAll r
def uptoBulkEntries {H : Type} : List (Lit × DataW H) → Nat
  | [] => 0
  | x :: r => uptoBulkEntry x + uptoBulkEntries r
def uptoBulkEntry {H : Type} : Lit × DataW H → Nat
  | (.string bytes, d) => bytes.length + uptoBulk d + 1
  | (_, d) => uptoBulk d + 1
 end
def uptoSmall : (H : Type) → List (DataW H) → Bool := fun _ ds => decide (uptoBulkAll ds ≤ 1048576)
def OpenSpec.upto (s : _root_.Go.ChangeSpec) : _root_.Go.OpenSpec := { _root_.Go.OpenSpec.ofChange s with cond := some uptoSmall }

/-- 'telecinelaw05.BenchMerges', WHERE WHAT IT READS IS OF BULK AT MOST 1048576: true; the input reads as it did. -/
def benchMergesUptoRow : OpenClaim := { program := "ytojomdojblgegaagreatdoor", sum := "33764e6026cbd691ee2f8315b01a27c78808a257dcedb40c5259d1e5c755ea6e", func := "telecine/telecinelaw05.BenchMerges", spec := "benchMerges", inPlace := ["internal/bytealg.CountString", "internal/bytealg.IndexByteString", "internal/bytealg.IndexString"], unfollowed := true, recurses := true, named := ["unicode/utf8.first", "unicode/utf8.acceptRanges", "internal/bytealg.MaxLen"], plainKeys := false, apart := false, laid := [("unicode/utf8.acceptRanges", laid_unicode_utf8_acceptRanges), ("unicode/utf8.first", laid_unicode_utf8_first)], narrowed := true }
def BenchMergesUptoSaid : Prop := benchMergesUptoRow.holds Tryz.pinned (OpenSpec.upto benchMergesSpec)

/-- 'telecinelaw05.BenchGaps', WHERE WHAT IT READS IS OF BULK AT MOST 1048576: true; the input reads as it did. -/
def benchGapsUptoRow : OpenClaim := { program := "ytojomdojblgegaagreatdoor", sum := "33764e6026cbd691ee2f8315b01a27c78808a257dcedb40c5259d1e5c755ea6e", func := "telecine/telecinelaw05.BenchGaps", spec := "benchGaps", inPlace := ["internal/bytealg.CountString", "internal/bytealg.IndexByteString", "internal/bytealg.IndexString"], unfollowed := true, recurses := true, named := ["unicode/utf8.first", "unicode/utf8.acceptRanges", "internal/bytealg.MaxLen"], plainKeys := false, apart := false, laid := [("unicode/utf8.acceptRanges", laid_unicode_utf8_acceptRanges), ("unicode/utf8.first", laid_unicode_utf8_first)], narrowed := true }
def BenchGapsUptoSaid : Prop := benchGapsUptoRow.holds Tryz.pinned (OpenSpec.upto benchGapsSpec)

/-- 'telecinelaw05.BenchPlaces', WHERE WHAT IT READS IS OF BULK AT MOST 1048576: true; the input reads as it did. -/
def benchPlacesUptoRow : OpenClaim := { program := "ytojomdojblgegaagreatdoor", sum := "33764e6026cbd691ee2f8315b01a27c78808a257dcedb40c5259d1e5c755ea6e", func := "telecine/telecinelaw05.BenchPlaces", spec := "benchPlaces", inPlace := ["internal/bytealg.CountString", "internal/bytealg.IndexByteString", "internal/bytealg.IndexString"], unfollowed := true, recurses := true, named := ["unicode/utf8.first", "unicode/utf8.acceptRanges", "internal/bytealg.MaxLen"], plainKeys := false, apart := false, laid := [("unicode/utf8.acceptRanges", laid_unicode_utf8_acceptRanges), ("unicode/utf8.first", laid_unicode_utf8_first)], narrowed := true }
def BenchPlacesUptoSaid : Prop := benchPlacesUptoRow.holds Tryz.pinned (OpenSpec.upto benchPlacesSpec)

/-- 'telecinelaw05.BenchOneList', WHERE WHAT IT READS IS OF BULK AT MOST 1048576: true; the input reads as it did. -/
def benchOneListUptoRow : OpenClaim := { program := "ytojomdojblgegaagreatdoor", sum := "33764e6026cbd691ee2f8315b01a27c78808a257dcedb40c5259d1e5c755ea6e", func := "telecine/telecinelaw05.BenchOneList", spec := "benchOneList", inPlace := ["internal/bytealg.CountString", "internal/bytealg.IndexByteString", "internal/bytealg.IndexString"], unfollowed := true, recurses := true, named := ["unicode/utf8.first", "unicode/utf8.acceptRanges", "internal/bytealg.MaxLen"], plainKeys := false, apart := false, laid := [("unicode/utf8.acceptRanges", laid_unicode_utf8_acceptRanges), ("unicode/utf8.first", laid_unicode_utf8_first)], narrowed := true }
def BenchOneListUptoSaid : Prop := benchOneListUptoRow.holds Tryz.pinned (OpenSpec.upto benchOneListSpec)

/-- 'telecinelaw05.BenchTrue', WHERE WHAT IT READS IS OF BULK AT MOST 1048576: true; the input reads as it did. -/
def benchTrueUptoRow : OpenClaim := { program := "ytojomdojblgegaagreatdoor", sum := "33764e6026cbd691ee2f8315b01a27c78808a257dcedb40c5259d1e5c755ea6e", func := "telecine/telecinelaw05.BenchTrue", spec := "benchTrue", inPlace := ["internal/bytealg.CountString", "internal/bytealg.IndexByteString", "internal/bytealg.IndexString"], unfollowed := true, recurses := true, named := ["unicode/utf8.first", "unicode/utf8.acceptRanges", "internal/bytealg.MaxLen"], plainKeys := false, apart := false, laid := [("unicode/utf8.acceptRanges", laid_unicode_utf8_acceptRanges), ("unicode/utf8.first", laid_unicode_utf8_first)], narrowed := true }
def BenchTrueUptoSaid : Prop := benchTrueUptoRow.holds Tryz.pinned (OpenSpec.upto benchTrueSpec)

/-- 'telecinelaw05.BenchNarrow', WHERE WHAT IT READS IS OF BULK AT MOST 1048576: true; the input reads as it did. -/
def benchNarrowUptoRow : OpenClaim := { program := "ytojomdojblgegaagreatdoor", sum := "33764e6026cbd691ee2f8315b01a27c78808a257dcedb40c5259d1e5c755ea6e", func := "telecine/telecinelaw05.BenchNarrow", spec := "benchNarrow", inPlace := ["internal/bytealg.CountString", "internal/bytealg.IndexByteString", "internal/bytealg.IndexString"], unfollowed := true, recurses := true, named := ["unicode/utf8.first", "unicode/utf8.acceptRanges", "internal/bytealg.MaxLen"], plainKeys := false, apart := false, laid := [("unicode/utf8.acceptRanges", laid_unicode_utf8_acceptRanges), ("unicode/utf8.first", laid_unicode_utf8_first)], narrowed := true }
def BenchNarrowUptoSaid : Prop := benchNarrowUptoRow.holds Tryz.pinned (OpenSpec.upto benchNarrowSpec)

/-- 'telecinelaw05.BenchChecks', WHERE WHAT IT READS IS OF BULK AT MOST 1048576: true; the input reads as it did. -/
def benchChecksUptoRow : OpenClaim := { program := "ytojomdojblgegaagreatdoor", sum := "33764e6026cbd691ee2f8315b01a27c78808a257dcedb40c5259d1e5c755ea6e", func := "telecine/telecinelaw05.BenchChecks", spec := "benchChecks", inPlace := ["internal/bytealg.CountString", "internal/bytealg.IndexByteString", "internal/bytealg.IndexString"], unfollowed := true, recurses := true, named := ["unicode/utf8.first", "unicode/utf8.acceptRanges", "internal/bytealg.MaxLen"], plainKeys := false, apart := false, laid := [("unicode/utf8.acceptRanges", laid_unicode_utf8_acceptRanges), ("unicode/utf8.first", laid_unicode_utf8_first)], narrowed := true }
def BenchChecksUptoSaid : Prop := benchChecksUptoRow.holds Tryz.pinned (OpenSpec.upto benchChecksSpec)

end Rows
end Go.Proofs.YtojomdojblgegaaGreatDoor
