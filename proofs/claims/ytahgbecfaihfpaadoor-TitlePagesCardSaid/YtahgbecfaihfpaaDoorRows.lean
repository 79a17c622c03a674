/-
  NARROWER THAN 'FOR EVERY INPUT', by the rows' own cells (each row's printed sentence says how): TitleSets: laid · TitleJudges: laid · TitleSpelled: laid · TitleProof: laid · TitleInk: laid · TitleChecks: laid · TitleBreaks: laid · TitleLeast: laid · TitleFurther: laid · TitleOne: laid · TitlePages: laid · TitleAlone: laid · TitleKnown: laid · TitlePlaced: laid.
  DERIVED. THE GIVEN ROWS OF THIS SEAT. 14 by the template 'for every input the law returns true; each argument reads behind the call as it read before'; 0 by the template 'total and deterministic' (their statements: YtahgbecfaihfpaaDoorTotals.lean).
  GIVEN WITH THE SEED: the statements are not yours to turn. If you find one false, say at which input.
  Laid BY PROGRAM, IN A SANDBOX (cutbox-rows.mjs): the forced cells as the released guide's own fill.sh prints them over the translation 56ba7a864de1280a… (all of the seat's roots in one cut). By AI agents, Wed Nov 11 2026. No macro, syntax, notation, axiom, sorry.
-/
import Derived.Test.YtahgbecfaihfpaaDoorChecked
import GoSem.PinnedTables
import GoSem.Claim
import GoSem.ClaimJoined
import GoSem.ClaimMapViews
import Derived.JoinedTies
import Derived.KernelRfl
namespace Go.Proofs.YtahgbecfaihfpaaDoor
/- THE CELL 'sum', in the pinned program and in every row, IS THE sha256 OF THE DUMP (.gsa) THAT YtahgbecfaihfpaaDoorProg.lean LOADS. Nothing in Lean hashes anything: it is a label: what it is worth is what the hold of that sum in a sandbox is worth. -/
noncomputable def Tryd.pinned : Pinned := { name := "ytahgbecfaihfpaadoor", sum := "56ba7a864de1280ab29853e51cd31979d8921d1b72075e5f68579df007ba98e8", checked := Tryd.checked }
namespace Rows
def none {H : Type} : Left H := { results := [], args := [] }

/- WHAT THE LISTED PACKAGE-LEVEL VARIABLES READ AS WHEN THE CALL BEGINS. Each datum BY PROGRAM (the guide's laid-datum.mjs) off the statement by which the dump's own 'gosem.cut.vars' lays the variable. In a bare row this is a premise. The card (YtahgbecfaihfpaaDoorCards.lean) ties it to the program's text. -/
def laid_unicode_utf8_acceptRanges {H : Type} : DataW H := .agg [.agg [.lit (.int .u8 128), .lit (.int .u8 191)], .agg [.lit (.int .u8 160), .lit (.int .u8 191)], .agg [.lit (.int .u8 128), .lit (.int .u8 159)], .agg [.lit (.int .u8 144), .lit (.int .u8 191)], .agg [.lit (.int .u8 128), .lit (.int .u8 143)], .agg [.lit (.int .u8 0), .lit (.int .u8 0)], .agg [.lit (.int .u8 0), .lit (.int .u8 0)], .agg [.lit (.int .u8 0), .lit (.int .u8 0)], .agg [.lit (.int .u8 0), .lit (.int .u8 0)], .agg [.lit (.int .u8 0), .lit (.int .u8 0)], .agg [.lit (.int .u8 0), .lit (.int .u8 0)], .agg [.lit (.int .u8 0), .lit (.int .u8 0)], .agg [.lit (.int .u8 0), .lit (.int .u8 0)], .agg [.lit (.int .u8 0), .lit (.int .u8 0)], .agg [.lit (.int .u8 0), .lit (.int .u8 0)], .agg [.lit (.int .u8 0), .lit (.int .u8 0)]]
/-- One of Go's own tables, pinned by name: the form's constant. -/
def laid_unicode_utf8_first : DataW Unit := Go.Pinned.utf8First

/-- 'telecinelaw10.TitleSets': WHATEVER THE INPUT: true; the input reads as it did. -/
def titleSetsSpec : ChangeSpec := { name := "titleSets", fn := fun _ => fun
  | [d1, d2] => { results := [.lit (.bool true)], args := [d1, d2] }
  | _ => none }
def titleSetsRow : OpenClaim := { program := "ytahgbecfaihfpaadoor", sum := "56ba7a864de1280ab29853e51cd31979d8921d1b72075e5f68579df007ba98e8", func := "telecine/telecinelaw10.TitleSets", spec := "titleSets", inPlace := ["internal/bytealg.CountString", "internal/bytealg.IndexByteString", "internal/bytealg.IndexString"], unfollowed := true, recurses := true, named := ["unicode/utf8.first", "unicode/utf8.acceptRanges", "internal/bytealg.MaxLen"], plainKeys := false, apart := false, laid := [("unicode/utf8.acceptRanges", laid_unicode_utf8_acceptRanges), ("unicode/utf8.first", laid_unicode_utf8_first)] }
def TitleSetsSaid : Prop := titleSetsRow.holds Tryd.pinned (OpenSpec.ofChange titleSetsSpec)

/-- ITS FALSE NEIGHBOUR: 'it returns false'. Refute it at one input. -/
def titleSetsWrong : ChangeSpec := { name := "titleSets", fn := fun _ => fun
  | [d1, d2] => { results := [.lit (.bool false)], args := [d1, d2] }
  | _ => none }
def TitleSetsWrongFalsely : Prop := titleSetsRow.holds Tryd.pinned (OpenSpec.ofChange titleSetsWrong)

/-- 'telecinelaw10.TitleJudges': WHATEVER THE INPUT: true; the input reads as it did. -/
def titleJudgesSpec : ChangeSpec := { name := "titleJudges", fn := fun _ => fun
  | [d1, d2] => { results := [.lit (.bool true)], args := [d1, d2] }
  | _ => none }
def titleJudgesRow : OpenClaim := { program := "ytahgbecfaihfpaadoor", sum := "56ba7a864de1280ab29853e51cd31979d8921d1b72075e5f68579df007ba98e8", func := "telecine/telecinelaw10.TitleJudges", spec := "titleJudges", inPlace := ["internal/bytealg.CountString", "internal/bytealg.IndexByteString", "internal/bytealg.IndexString"], unfollowed := true, recurses := true, named := ["unicode/utf8.first", "unicode/utf8.acceptRanges", "internal/bytealg.MaxLen"], plainKeys := false, apart := false, laid := [("unicode/utf8.acceptRanges", laid_unicode_utf8_acceptRanges), ("unicode/utf8.first", laid_unicode_utf8_first)] }
def TitleJudgesSaid : Prop := titleJudgesRow.holds Tryd.pinned (OpenSpec.ofChange titleJudgesSpec)

/-- ITS FALSE NEIGHBOUR: 'it returns false'. Refute it at one input. -/
def titleJudgesWrong : ChangeSpec := { name := "titleJudges", fn := fun _ => fun
  | [d1, d2] => { results := [.lit (.bool false)], args := [d1, d2] }
  | _ => none }
def TitleJudgesWrongFalsely : Prop := titleJudgesRow.holds Tryd.pinned (OpenSpec.ofChange titleJudgesWrong)

/-- 'telecinelaw10.TitleSpelled': WHATEVER THE INPUT: true; the input reads as it did. -/
def titleSpelledSpec : ChangeSpec := { name := "titleSpelled", fn := fun _ => fun
  | [d1, d2, d3] => { results := [.lit (.bool true)], args := [d1, d2, d3] }
  | _ => none }
def titleSpelledRow : OpenClaim := { program := "ytahgbecfaihfpaadoor", sum := "56ba7a864de1280ab29853e51cd31979d8921d1b72075e5f68579df007ba98e8", func := "telecine/telecinelaw10.TitleSpelled", spec := "titleSpelled", inPlace := ["internal/bytealg.CountString", "internal/bytealg.IndexByteString", "internal/bytealg.IndexString"], unfollowed := true, recurses := true, named := ["unicode/utf8.first", "unicode/utf8.acceptRanges", "internal/bytealg.MaxLen"], plainKeys := false, apart := false, laid := [("unicode/utf8.acceptRanges", laid_unicode_utf8_acceptRanges), ("unicode/utf8.first", laid_unicode_utf8_first)] }
def TitleSpelledSaid : Prop := titleSpelledRow.holds Tryd.pinned (OpenSpec.ofChange titleSpelledSpec)

/-- ITS FALSE NEIGHBOUR: 'it returns false'. Refute it at one input. -/
def titleSpelledWrong : ChangeSpec := { name := "titleSpelled", fn := fun _ => fun
  | [d1, d2, d3] => { results := [.lit (.bool false)], args := [d1, d2, d3] }
  | _ => none }
def TitleSpelledWrongFalsely : Prop := titleSpelledRow.holds Tryd.pinned (OpenSpec.ofChange titleSpelledWrong)

/-- 'telecinelaw10.TitleProof': WHATEVER THE INPUT: true; the input reads as it did. -/
def titleProofSpec : ChangeSpec := { name := "titleProof", fn := fun _ => fun
  | [d] => { results := [.lit (.bool true)], args := [d] }
  | _ => none }
def titleProofRow : OpenClaim := { program := "ytahgbecfaihfpaadoor", sum := "56ba7a864de1280ab29853e51cd31979d8921d1b72075e5f68579df007ba98e8", func := "telecine/telecinelaw10.TitleProof", spec := "titleProof", inPlace := ["internal/bytealg.CountString", "internal/bytealg.IndexByteString", "internal/bytealg.IndexString"], unfollowed := true, recurses := true, named := ["unicode/utf8.first", "unicode/utf8.acceptRanges", "internal/bytealg.MaxLen"], plainKeys := false, apart := false, laid := [("unicode/utf8.acceptRanges", laid_unicode_utf8_acceptRanges), ("unicode/utf8.first", laid_unicode_utf8_first)] }
def TitleProofSaid : Prop := titleProofRow.holds Tryd.pinned (OpenSpec.ofChange titleProofSpec)

/-- ITS FALSE NEIGHBOUR: 'it returns false'. Refute it at one input. -/
def titleProofWrong : ChangeSpec := { name := "titleProof", fn := fun _ => fun
  | [d] => { results := [.lit (.bool false)], args := [d] }
  | _ => none }
def TitleProofWrongFalsely : Prop := titleProofRow.holds Tryd.pinned (OpenSpec.ofChange titleProofWrong)

/-- 'telecinelaw10.TitleInk': WHATEVER THE INPUT: true; the input reads as it did. -/
def titleInkSpec : ChangeSpec := { name := "titleInk", fn := fun _ => fun
  | [d] => { results := [.lit (.bool true)], args := [d] }
  | _ => none }
def titleInkRow : OpenClaim := { program := "ytahgbecfaihfpaadoor", sum := "56ba7a864de1280ab29853e51cd31979d8921d1b72075e5f68579df007ba98e8", func := "telecine/telecinelaw10.TitleInk", spec := "titleInk", inPlace := ["internal/bytealg.CountString", "internal/bytealg.IndexByteString", "internal/bytealg.IndexString"], unfollowed := true, recurses := true, named := ["unicode/utf8.first", "unicode/utf8.acceptRanges", "internal/bytealg.MaxLen"], plainKeys := false, apart := false, laid := [("unicode/utf8.acceptRanges", laid_unicode_utf8_acceptRanges), ("unicode/utf8.first", laid_unicode_utf8_first)] }
def TitleInkSaid : Prop := titleInkRow.holds Tryd.pinned (OpenSpec.ofChange titleInkSpec)

/-- ITS FALSE NEIGHBOUR: 'it returns false'. Refute it at one input. -/
def titleInkWrong : ChangeSpec := { name := "titleInk", fn := fun _ => fun
  | [d] => { results := [.lit (.bool false)], args := [d] }
  | _ => none }
def TitleInkWrongFalsely : Prop := titleInkRow.holds Tryd.pinned (OpenSpec.ofChange titleInkWrong)

/-- 'telecinelaw10.TitleChecks': WHATEVER THE INPUT: true; the input reads as it did. -/
def titleChecksSpec : ChangeSpec := { name := "titleChecks", fn := fun _ => fun
  | [d1, d2] => { results := [.lit (.bool true)], args := [d1, d2] }
  | _ => none }
def titleChecksRow : OpenClaim := { program := "ytahgbecfaihfpaadoor", sum := "56ba7a864de1280ab29853e51cd31979d8921d1b72075e5f68579df007ba98e8", func := "telecine/telecinelaw10.TitleChecks", spec := "titleChecks", inPlace := ["internal/bytealg.CountString", "internal/bytealg.IndexByteString", "internal/bytealg.IndexString"], unfollowed := true, recurses := true, named := ["unicode/utf8.first", "unicode/utf8.acceptRanges", "internal/bytealg.MaxLen"], plainKeys := false, apart := false, laid := [("unicode/utf8.acceptRanges", laid_unicode_utf8_acceptRanges), ("unicode/utf8.first", laid_unicode_utf8_first)] }
def TitleChecksSaid : Prop := titleChecksRow.holds Tryd.pinned (OpenSpec.ofChange titleChecksSpec)

/-- ITS FALSE NEIGHBOUR: 'it returns false'. Refute it at one input. -/
def titleChecksWrong : ChangeSpec := { name := "titleChecks", fn := fun _ => fun
  | [d1, d2] => { results := [.lit (.bool false)], args := [d1, d2] }
  | _ => none }
def TitleChecksWrongFalsely : Prop := titleChecksRow.holds Tryd.pinned (OpenSpec.ofChange titleChecksWrong)

/-- 'telecinelaw10.TitleBreaks': WHATEVER THE INPUT: true; the input reads as it did. -/
def titleBreaksSpec : ChangeSpec := { name := "titleBreaks", fn := fun _ => fun
  | [d1, d2, d3] => { results := [.lit (.bool true)], args := [d1, d2, d3] }
  | _ => none }
def titleBreaksRow : OpenClaim := { program := "ytahgbecfaihfpaadoor", sum := "56ba7a864de1280ab29853e51cd31979d8921d1b72075e5f68579df007ba98e8", func := "telecine/telecinelaw10.TitleBreaks", spec := "titleBreaks", inPlace := ["internal/bytealg.CountString", "internal/bytealg.IndexByteString", "internal/bytealg.IndexString"], unfollowed := true, recurses := true, named := ["unicode/utf8.first", "unicode/utf8.acceptRanges", "internal/bytealg.MaxLen"], plainKeys := false, apart := false, laid := [("unicode/utf8.acceptRanges", laid_unicode_utf8_acceptRanges), ("unicode/utf8.first", laid_unicode_utf8_first)] }
def TitleBreaksSaid : Prop := titleBreaksRow.holds Tryd.pinned (OpenSpec.ofChange titleBreaksSpec)

/-- ITS FALSE NEIGHBOUR: 'it returns false'. Refute it at one input. -/
def titleBreaksWrong : ChangeSpec := { name := "titleBreaks", fn := fun _ => fun
  | [d1, d2, d3] => { results := [.lit (.bool false)], args := [d1, d2, d3] }
  | _ => none }
def TitleBreaksWrongFalsely : Prop := titleBreaksRow.holds Tryd.pinned (OpenSpec.ofChange titleBreaksWrong)

/-- 'telecinelaw10.TitleLeast': WHATEVER THE INPUT: true; the input reads as it did. -/
def titleLeastSpec : ChangeSpec := { name := "titleLeast", fn := fun _ => fun
  | [d1, d2] => { results := [.lit (.bool true)], args := [d1, d2] }
  | _ => none }
def titleLeastRow : OpenClaim := { program := "ytahgbecfaihfpaadoor", sum := "56ba7a864de1280ab29853e51cd31979d8921d1b72075e5f68579df007ba98e8", func := "telecine/telecinelaw10.TitleLeast", spec := "titleLeast", inPlace := ["internal/bytealg.CountString", "internal/bytealg.IndexByteString", "internal/bytealg.IndexString"], unfollowed := true, recurses := true, named := ["unicode/utf8.first", "unicode/utf8.acceptRanges", "internal/bytealg.MaxLen"], plainKeys := false, apart := false, laid := [("unicode/utf8.acceptRanges", laid_unicode_utf8_acceptRanges), ("unicode/utf8.first", laid_unicode_utf8_first)] }
def TitleLeastSaid : Prop := titleLeastRow.holds Tryd.pinned (OpenSpec.ofChange titleLeastSpec)

/-- ITS FALSE NEIGHBOUR: 'it returns false'. Refute it at one input. -/
def titleLeastWrong : ChangeSpec := { name := "titleLeast", fn := fun _ => fun
  | [d1, d2] => { results := [.lit (.bool false)], args := [d1, d2] }
  | _ => none }
def TitleLeastWrongFalsely : Prop := titleLeastRow.holds Tryd.pinned (OpenSpec.ofChange titleLeastWrong)

/-- 'telecinelaw10.TitleFurther': WHATEVER THE INPUT: true; the input reads as it did. -/
def titleFurtherSpec : ChangeSpec := { name := "titleFurther", fn := fun _ => fun
  | [d1, d2] => { results := [.lit (.bool true)], args := [d1, d2] }
  | _ => none }
def titleFurtherRow : OpenClaim := { program := "ytahgbecfaihfpaadoor", sum := "56ba7a864de1280ab29853e51cd31979d8921d1b72075e5f68579df007ba98e8", func := "telecine/telecinelaw10.TitleFurther", spec := "titleFurther", inPlace := ["internal/bytealg.CountString", "internal/bytealg.IndexByteString", "internal/bytealg.IndexString"], unfollowed := true, recurses := true, named := ["unicode/utf8.first", "unicode/utf8.acceptRanges", "internal/bytealg.MaxLen"], plainKeys := false, apart := false, laid := [("unicode/utf8.acceptRanges", laid_unicode_utf8_acceptRanges), ("unicode/utf8.first", laid_unicode_utf8_first)] }
def TitleFurtherSaid : Prop := titleFurtherRow.holds Tryd.pinned (OpenSpec.ofChange titleFurtherSpec)

/-- ITS FALSE NEIGHBOUR: 'it returns false'. Refute it at one input. -/
def titleFurtherWrong : ChangeSpec := { name := "titleFurther", fn := fun _ => fun
  | [d1, d2] => { results := [.lit (.bool false)], args := [d1, d2] }
  | _ => none }
def TitleFurtherWrongFalsely : Prop := titleFurtherRow.holds Tryd.pinned (OpenSpec.ofChange titleFurtherWrong)

/-- 'telecinelaw10.TitleOne': WHATEVER THE INPUT: true; the input reads as it did. -/
def titleOneSpec : ChangeSpec := { name := "titleOne", fn := fun _ => fun
  | [d] => { results := [.lit (.bool true)], args := [d] }
  | _ => none }
def titleOneRow : OpenClaim := { program := "ytahgbecfaihfpaadoor", sum := "56ba7a864de1280ab29853e51cd31979d8921d1b72075e5f68579df007ba98e8", func := "telecine/telecinelaw10.TitleOne", spec := "titleOne", inPlace := ["internal/bytealg.CountString", "internal/bytealg.IndexByteString", "internal/bytealg.IndexString"], unfollowed := true, recurses := true, named := ["unicode/utf8.first", "unicode/utf8.acceptRanges", "internal/bytealg.MaxLen"], plainKeys := false, apart := false, laid := [("unicode/utf8.acceptRanges", laid_unicode_utf8_acceptRanges), ("unicode/utf8.first", laid_unicode_utf8_first)] }
def TitleOneSaid : Prop := titleOneRow.holds Tryd.pinned (OpenSpec.ofChange titleOneSpec)

/-- ITS FALSE NEIGHBOUR: 'it returns false'. Refute it at one input. -/
def titleOneWrong : ChangeSpec := { name := "titleOne", fn := fun _ => fun
  | [d] => { results := [.lit (.bool false)], args := [d] }
  | _ => none }
def TitleOneWrongFalsely : Prop := titleOneRow.holds Tryd.pinned (OpenSpec.ofChange titleOneWrong)

/-- 'telecinelaw10.TitlePages': WHATEVER THE INPUT: true; the input reads as it did. -/
def titlePagesSpec : ChangeSpec := { name := "titlePages", fn := fun _ => fun
  | [d1, d2] => { results := [.lit (.bool true)], args := [d1, d2] }
  | _ => none }
def titlePagesRow : OpenClaim := { program := "ytahgbecfaihfpaadoor", sum := "56ba7a864de1280ab29853e51cd31979d8921d1b72075e5f68579df007ba98e8", func := "telecine/telecinelaw10.TitlePages", spec := "titlePages", inPlace := ["internal/bytealg.CountString", "internal/bytealg.IndexByteString", "internal/bytealg.IndexString"], unfollowed := true, recurses := true, named := ["unicode/utf8.first", "unicode/utf8.acceptRanges", "internal/bytealg.MaxLen"], plainKeys := false, apart := false, laid := [("unicode/utf8.acceptRanges", laid_unicode_utf8_acceptRanges), ("unicode/utf8.first", laid_unicode_utf8_first)] }
def TitlePagesSaid : Prop := titlePagesRow.holds Tryd.pinned (OpenSpec.ofChange titlePagesSpec)

/-- ITS FALSE NEIGHBOUR: 'it returns false'. Refute it at one input. -/
def titlePagesWrong : ChangeSpec := { name := "titlePages", fn := fun _ => fun
  | [d1, d2] => { results := [.lit (.bool false)], args := [d1, d2] }
  | _ => none }
def TitlePagesWrongFalsely : Prop := titlePagesRow.holds Tryd.pinned (OpenSpec.ofChange titlePagesWrong)

/-- 'telecinelaw10.TitleAlone': WHATEVER THE INPUT: true; the input reads as it did. -/
def titleAloneSpec : ChangeSpec := { name := "titleAlone", fn := fun _ => fun
  | [d1, d2] => { results := [.lit (.bool true)], args := [d1, d2] }
  | _ => none }
def titleAloneRow : OpenClaim := { program := "ytahgbecfaihfpaadoor", sum := "56ba7a864de1280ab29853e51cd31979d8921d1b72075e5f68579df007ba98e8", func := "telecine/telecinelaw10.TitleAlone", spec := "titleAlone", inPlace := ["internal/bytealg.CountString", "internal/bytealg.IndexByteString", "internal/bytealg.IndexString"], unfollowed := true, recurses := true, named := ["unicode/utf8.first", "unicode/utf8.acceptRanges", "internal/bytealg.MaxLen"], plainKeys := false, apart := false, laid := [("unicode/utf8.acceptRanges", laid_unicode_utf8_acceptRanges), ("unicode/utf8.first", laid_unicode_utf8_first)] }
def TitleAloneSaid : Prop := titleAloneRow.holds Tryd.pinned (OpenSpec.ofChange titleAloneSpec)

/-- ITS FALSE NEIGHBOUR: 'it returns false'. Refute it at one input. -/
def titleAloneWrong : ChangeSpec := { name := "titleAlone", fn := fun _ => fun
  | [d1, d2] => { results := [.lit (.bool false)], args := [d1, d2] }
  | _ => none }
def TitleAloneWrongFalsely : Prop := titleAloneRow.holds Tryd.pinned (OpenSpec.ofChange titleAloneWrong)

/-- 'telecinelaw10.TitleKnown': WHATEVER THE INPUT: true; the input reads as it did. -/
def titleKnownSpec : ChangeSpec := { name := "titleKnown", fn := fun _ => fun
  | [] => { results := [.lit (.bool true)], args := [] }
  | _ => none }
def titleKnownRow : OpenClaim := { program := "ytahgbecfaihfpaadoor", sum := "56ba7a864de1280ab29853e51cd31979d8921d1b72075e5f68579df007ba98e8", func := "telecine/telecinelaw10.TitleKnown", spec := "titleKnown", inPlace := ["internal/bytealg.CountString", "internal/bytealg.IndexByteString", "internal/bytealg.IndexString"], unfollowed := true, recurses := true, named := ["unicode/utf8.first", "unicode/utf8.acceptRanges", "internal/bytealg.MaxLen"], plainKeys := false, apart := false, laid := [("unicode/utf8.acceptRanges", laid_unicode_utf8_acceptRanges), ("unicode/utf8.first", laid_unicode_utf8_first)] }
def TitleKnownSaid : Prop := titleKnownRow.holds Tryd.pinned (OpenSpec.ofChange titleKnownSpec)

/-- ITS FALSE NEIGHBOUR: 'it returns false'. Refute it at one input. -/
def titleKnownWrong : ChangeSpec := { name := "titleKnown", fn := fun _ => fun
  | [] => { results := [.lit (.bool false)], args := [] }
  | _ => none }
def TitleKnownWrongFalsely : Prop := titleKnownRow.holds Tryd.pinned (OpenSpec.ofChange titleKnownWrong)

/-- 'telecinelaw10.TitlePlaced': WHATEVER THE INPUT: true; the input reads as it did. -/
def titlePlacedSpec : ChangeSpec := { name := "titlePlaced", fn := fun _ => fun
  | [d] => { results := [.lit (.bool true)], args := [d] }
  | _ => none }
def titlePlacedRow : OpenClaim := { program := "ytahgbecfaihfpaadoor", sum := "56ba7a864de1280ab29853e51cd31979d8921d1b72075e5f68579df007ba98e8", func := "telecine/telecinelaw10.TitlePlaced", spec := "titlePlaced", inPlace := ["internal/bytealg.CountString", "internal/bytealg.IndexByteString", "internal/bytealg.IndexString"], unfollowed := true, recurses := true, named := ["unicode/utf8.first", "unicode/utf8.acceptRanges", "internal/bytealg.MaxLen"], plainKeys := false, apart := false, laid := [("unicode/utf8.acceptRanges", laid_unicode_utf8_acceptRanges), ("unicode/utf8.first", laid_unicode_utf8_first)] }
def TitlePlacedSaid : Prop := titlePlacedRow.holds Tryd.pinned (OpenSpec.ofChange titlePlacedSpec)

/-- ITS FALSE NEIGHBOUR: 'it returns false'. Refute it at one input. -/
def titlePlacedWrong : ChangeSpec := { name := "titlePlaced", fn := fun _ => fun
  | [d] => { results := [.lit (.bool false)], args := [d] }
  | _ => none }
def TitlePlacedWrongFalsely : Prop := titlePlacedRow.holds Tryd.pinned (OpenSpec.ofChange titlePlacedWrong)

/- THE SECOND FORM. 'bulk': how many values and letters a reading holds, each counted each time it is reached (what is shared counts as often as it is met; a slice's spare places count too). A statement '..UptoSaid' is the law's where the arguments, and the package variables that the reading takes, are together of bulk at most 1048576: NARROWER than '..Said'. Prove '..Said' where nothing that the law and all that it calls make is longer than what came in: it says more and counts as full. Else prove '..UptoSaid'. A law counts once. -/
mutual
def uptoBulk {H : Type} : DataW H → Nat
  | .lit (.string bytes) => bytes.length + 1
  | .lit _ => 1
  | .nil => 1
  | .ptr d => uptoBulk d + 1
  | .slice elems spare => uptoBulkAll elems + uptoBulkAll spare + 1
  | .agg parts => uptoBulkAll parts + 1
  | .iface _ d => uptoBulk d + 1
  | .map entries => uptoBulkEntries entries + 1
  | .held _ => 1
def uptoBulkAll {H : Type} : List (DataW H) → Nat
  | [] => 0
  | d :: r => uptoBulk d + uptoBulkAll r
def uptoBulkEntries {H : Type} : List (Lit × DataW H) → Nat
  | [] => 0
  | x :: r => uptoBulkEntry x + uptoBulkEntries r
def uptoBulkEntry {H : Type} : Lit × DataW H → Nat
  | (.string bytes, d) => bytes.length + uptoBulk d + 1
  | (_, d) => uptoBulk d + 1
 end
def uptoSmall : (H : Type) → List (DataW H) → Bool := fun _ ds => decide (uptoBulkAll ds ≤ 1048576)
def OpenSpec.upto (s : _root_.Go.ChangeSpec) : _root_.Go.OpenSpec := { _root_.Go.OpenSpec.ofChange s with cond := some uptoSmall }

/-- 'telecinelaw10.TitleSets', WHERE WHAT IT READS IS OF BULK AT MOST 1048576: true; the input reads as it did. -/
def titleSetsUptoRow : OpenClaim := { program := "ytahgbecfaihfpaadoor", sum := "56ba7a864de1280ab29853e51cd31979d8921d1b72075e5f68579df007ba98e8", func := "telecine/telecinelaw10.TitleSets", spec := "titleSets", inPlace := ["internal/bytealg.CountString", "internal/bytealg.IndexByteString", "internal/bytealg.IndexString"], unfollowed := true, recurses := true, named := ["unicode/utf8.first", "unicode/utf8.acceptRanges", "internal/bytealg.MaxLen"], plainKeys := false, apart := false, laid := [("unicode/utf8.acceptRanges", laid_unicode_utf8_acceptRanges), ("unicode/utf8.first", laid_unicode_utf8_first)], narrowed := true }
def TitleSetsUptoSaid : Prop := titleSetsUptoRow.holds Tryd.pinned (OpenSpec.upto titleSetsSpec)

/-- 'telecinelaw10.TitleJudges', WHERE WHAT IT READS IS OF BULK AT MOST 1048576: true; the input reads as it did. -/
def titleJudgesUptoRow : OpenClaim := { program := "ytahgbecfaihfpaadoor", sum := "56ba7a864de1280ab29853e51cd31979d8921d1b72075e5f68579df007ba98e8", func := "telecine/telecinelaw10.TitleJudges", spec := "titleJudges", inPlace := ["internal/bytealg.CountString", "internal/bytealg.IndexByteString", "internal/bytealg.IndexString"], unfollowed := true, recurses := true, named := ["unicode/utf8.first", "unicode/utf8.acceptRanges", "internal/bytealg.MaxLen"], plainKeys := false, apart := false, laid := [("unicode/utf8.acceptRanges", laid_unicode_utf8_acceptRanges), ("unicode/utf8.first", laid_unicode_utf8_first)], narrowed := true }
def TitleJudgesUptoSaid : Prop := titleJudgesUptoRow.holds Tryd.pinned (OpenSpec.upto titleJudgesSpec)

/-- 'telecinelaw10.TitleSpelled', WHERE WHAT IT READS IS OF BULK AT MOST 1048576: true; the input reads as it did. -/
def titleSpelledUptoRow : OpenClaim := { program := "ytahgbecfaihfpaadoor", sum := "56ba7a864de1280ab29853e51cd31979d8921d1b72075e5f68579df007ba98e8", func := "telecine/telecinelaw10.TitleSpelled", spec := "titleSpelled", inPlace := ["internal/bytealg.CountString", "internal/bytealg.IndexByteString", "internal/bytealg.IndexString"], unfollowed := true, recurses := true, named := ["unicode/utf8.first", "unicode/utf8.acceptRanges", "internal/bytealg.MaxLen"], plainKeys := false, apart := false, laid := [("unicode/utf8.acceptRanges", laid_unicode_utf8_acceptRanges), ("unicode/utf8.first", laid_unicode_utf8_first)], narrowed := true }
def TitleSpelledUptoSaid : Prop := titleSpelledUptoRow.holds Tryd.pinned (OpenSpec.upto titleSpelledSpec)

/-- 'telecinelaw10.TitleProof', WHERE WHAT IT READS IS OF BULK AT MOST 1048576: true; the input reads as it did. -/
def titleProofUptoRow : OpenClaim := { program := "ytahgbecfaihfpaadoor", sum := "56ba7a864de1280ab29853e51cd31979d8921d1b72075e5f68579df007ba98e8", func := "telecine/telecinelaw10.TitleProof", spec := "titleProof", inPlace := ["internal/bytealg.CountString", "internal/bytealg.IndexByteString", "internal/bytealg.IndexString"], unfollowed := true, recurses := true, named := ["unicode/utf8.first", "unicode/utf8.acceptRanges", "internal/bytealg.MaxLen"], plainKeys := false, apart := false, laid := [("unicode/utf8.acceptRanges", laid_unicode_utf8_acceptRanges), ("unicode/utf8.first", laid_unicode_utf8_first)], narrowed := true }
def TitleProofUptoSaid : Prop := titleProofUptoRow.holds Tryd.pinned (OpenSpec.upto titleProofSpec)

/-- 'telecinelaw10.TitleInk', WHERE WHAT IT READS IS OF BULK AT MOST 1048576: true; the input reads as it did. -/
def titleInkUptoRow : OpenClaim := { program := "ytahgbecfaihfpaadoor", sum := "56ba7a864de1280ab29853e51cd31979d8921d1b72075e5f68579df007ba98e8", func := "telecine/telecinelaw10.TitleInk", spec := "titleInk", inPlace := ["internal/bytealg.CountString", "internal/bytealg.IndexByteString", "internal/bytealg.IndexString"], unfollowed := true, recurses := true, named := ["unicode/utf8.first", "unicode/utf8.acceptRanges", "internal/bytealg.MaxLen"], plainKeys := false, apart := false, laid := [("unicode/utf8.acceptRanges", laid_unicode_utf8_acceptRanges), ("unicode/utf8.first", laid_unicode_utf8_first)], narrowed := true }
def TitleInkUptoSaid : Prop := titleInkUptoRow.holds Tryd.pinned (OpenSpec.upto titleInkSpec)

/-- 'telecinelaw10.TitleChecks', WHERE WHAT IT READS IS OF BULK AT MOST 1048576: true; the input reads as it did. -/
def titleChecksUptoRow : OpenClaim := { program := "ytahgbecfaihfpaadoor", sum := "56ba7a864de1280ab29853e51cd31979d8921d1b72075e5f68579df007ba98e8", func := "telecine/telecinelaw10.TitleChecks", spec := "titleChecks", inPlace := ["internal/bytealg.CountString", "internal/bytealg.IndexByteString", "internal/bytealg.IndexString"], unfollowed := true, recurses := true, named := ["unicode/utf8.first", "unicode/utf8.acceptRanges", "internal/bytealg.MaxLen"], plainKeys := false, apart := false, laid := [("unicode/utf8.acceptRanges", laid_unicode_utf8_acceptRanges), ("unicode/utf8.first", laid_unicode_utf8_first)], narrowed := true }
def TitleChecksUptoSaid : Prop := titleChecksUptoRow.holds Tryd.pinned (OpenSpec.upto titleChecksSpec)

/-- 'telecinelaw10.TitleBreaks', WHERE WHAT IT READS IS OF BULK AT MOST 1048576: true; the input reads as it did. -/
def titleBreaksUptoRow : OpenClaim := { program := "ytahgbecfaihfpaadoor", sum := "56ba7a864de1280ab29853e51cd31979d8921d1b72075e5f68579df007ba98e8", func := "telecine/telecinelaw10.TitleBreaks", spec := "titleBreaks", inPlace := ["internal/bytealg.CountString", "internal/bytealg.IndexByteString", "internal/bytealg.IndexString"], unfollowed := true, recurses := true, named := ["unicode/utf8.first", "unicode/utf8.acceptRanges", "internal/bytealg.MaxLen"], plainKeys := false, apart := false, laid := [("unicode/utf8.acceptRanges", laid_unicode_utf8_acceptRanges), ("unicode/utf8.first", laid_unicode_utf8_first)], narrowed := true }
def TitleBreaksUptoSaid : Prop := titleBreaksUptoRow.holds Tryd.pinned (OpenSpec.upto titleBreaksSpec)

/-- 'telecinelaw10.TitleLeast', WHERE WHAT IT READS IS OF BULK AT MOST 1048576: true; the input reads as it did. -/
def titleLeastUptoRow : OpenClaim := { program := "ytahgbecfaihfpaadoor", sum := "56ba7a864de1280ab29853e51cd31979d8921d1b72075e5f68579df007ba98e8", func := "telecine/telecinelaw10.TitleLeast", spec := "titleLeast", inPlace := ["internal/bytealg.CountString", "internal/bytealg.IndexByteString", "internal/bytealg.IndexString"], unfollowed := true, recurses := true, named := ["unicode/utf8.first", "unicode/utf8.acceptRanges", "internal/bytealg.MaxLen"], plainKeys := false, apart := false, laid := [("unicode/utf8.acceptRanges", laid_unicode_utf8_acceptRanges), ("unicode/utf8.first", laid_unicode_utf8_first)], narrowed := true }
def TitleLeastUptoSaid : Prop := titleLeastUptoRow.holds Tryd.pinned (OpenSpec.upto titleLeastSpec)

/-- 'telecinelaw10.TitleFurther', WHERE WHAT IT READS IS OF BULK AT MOST 1048576: true; the input reads as it did. -/
def titleFurtherUptoRow : OpenClaim := { program := "ytahgbecfaihfpaadoor", sum := "56ba7a864de1280ab29853e51cd31979d8921d1b72075e5f68579df007ba98e8", func := "telecine/telecinelaw10.TitleFurther", spec := "titleFurther", inPlace := ["internal/bytealg.CountString", "internal/bytealg.IndexByteString", "internal/bytealg.IndexString"], unfollowed := true, recurses := true, named := ["unicode/utf8.first", "unicode/utf8.acceptRanges", "internal/bytealg.MaxLen"], plainKeys := false, apart := false, laid := [("unicode/utf8.acceptRanges", laid_unicode_utf8_acceptRanges), ("unicode/utf8.first", laid_unicode_utf8_first)], narrowed := true }
def TitleFurtherUptoSaid : Prop := titleFurtherUptoRow.holds Tryd.pinned (OpenSpec.upto titleFurtherSpec)

/-- 'telecinelaw10.TitleOne', WHERE WHAT IT READS IS OF BULK AT MOST 1048576: true; the input reads as it did. -/
def titleOneUptoRow : OpenClaim := { program := "ytahgbecfaihfpaadoor", sum := "56ba7a864de1280ab29853e51cd31979d8921d1b72075e5f68579df007ba98e8", func := "telecine/telecinelaw10.TitleOne", spec := "titleOne", inPlace := ["internal/bytealg.CountString", "internal/bytealg.IndexByteString", "internal/bytealg.IndexString"], unfollowed := true, recurses := true, named := ["unicode/utf8.first", "unicode/utf8.acceptRanges", "internal/bytealg.MaxLen"], plainKeys := false, apart := false, laid := [("unicode/utf8.acceptRanges", laid_unicode_utf8_acceptRanges), ("unicode/utf8.first", laid_unicode_utf8_first)], narrowed := true }
def TitleOneUptoSaid : Prop := titleOneUptoRow.holds Tryd.pinned (OpenSpec.upto titleOneSpec)

/-- 'telecinelaw10.TitlePages', WHERE WHAT IT READS IS OF BULK AT MOST 1048576: true; the input reads as it did. -/
def titlePagesUptoRow : OpenClaim := { program := "ytahgbecfaihfpaadoor", sum := "56ba7a864de1280ab29853e51cd31979d8921d1b72075e5f68579df007ba98e8", func := "telecine/telecinelaw10.TitlePages", spec := "titlePages", inPlace := ["internal/bytealg.CountString", "internal/bytealg.IndexByteString", "internal/bytealg.IndexString"], unfollowed := true, recurses := true, named := ["unicode/utf8.first", "unicode/utf8.acceptRanges", "internal/bytealg.MaxLen"], plainKeys := false, apart := false, laid := [("unicode/utf8.acceptRanges", laid_unicode_utf8_acceptRanges), ("unicode/utf8.first", laid_unicode_utf8_first)], narrowed := true }
def TitlePagesUptoSaid : Prop := titlePagesUptoRow.holds Tryd.pinned (OpenSpec.upto titlePagesSpec)

/-- 'telecinelaw10.TitleAlone', WHERE WHAT IT READS IS OF BULK AT MOST 1048576: true; the input reads as it did. -/
def titleAloneUptoRow : OpenClaim := { program := "ytahgbecfaihfpaadoor", sum := "56ba7a864de1280ab29853e51cd31979d8921d1b72075e5f68579df007ba98e8", func := "telecine/telecinelaw10.TitleAlone", spec := "titleAlone", inPlace := ["internal/bytealg.CountString", "internal/bytealg.IndexByteString", "internal/bytealg.IndexString"], unfollowed := true, recurses := true, named := ["unicode/utf8.first", "unicode/utf8.acceptRanges", "internal/bytealg.MaxLen"], plainKeys := false, apart := false, laid := [("unicode/utf8.acceptRanges", laid_unicode_utf8_acceptRanges), ("unicode/utf8.first", laid_unicode_utf8_first)], narrowed := true }
def TitleAloneUptoSaid : Prop := titleAloneUptoRow.holds Tryd.pinned (OpenSpec.upto titleAloneSpec)

/-- 'telecinelaw10.TitleKnown', WHERE WHAT IT READS IS OF BULK AT MOST 1048576: true; the input reads as it did. -/
def titleKnownUptoRow : OpenClaim := { program := "ytahgbecfaihfpaadoor", sum := "56ba7a864de1280ab29853e51cd31979d8921d1b72075e5f68579df007ba98e8", func := "telecine/telecinelaw10.TitleKnown", spec := "titleKnown", inPlace := ["internal/bytealg.CountString", "internal/bytealg.IndexByteString", "internal/bytealg.IndexString"], unfollowed := true, recurses := true, named := ["unicode/utf8.first", "unicode/utf8.acceptRanges", "internal/bytealg.MaxLen"], plainKeys := false, apart := false, laid := [("unicode/utf8.acceptRanges", laid_unicode_utf8_acceptRanges), ("unicode/utf8.first", laid_unicode_utf8_first)], narrowed := true }
def TitleKnownUptoSaid : Prop := titleKnownUptoRow.holds Tryd.pinned (OpenSpec.upto titleKnownSpec)

/-- 'telecinelaw10.TitlePlaced', WHERE WHAT IT READS IS OF BULK AT MOST 1048576: true; the input reads as it did. -/
def titlePlacedUptoRow : OpenClaim := { program := "ytahgbecfaihfpaadoor", sum := "56ba7a864de1280ab29853e51cd31979d8921d1b72075e5f68579df007ba98e8", func := "telecine/telecinelaw10.TitlePlaced", spec := "titlePlaced", inPlace := ["internal/bytealg.CountString", "internal/bytealg.IndexByteString", "internal/bytealg.IndexString"], unfollowed := true, recurses := true, named := ["unicode/utf8.first", "unicode/utf8.acceptRanges", "internal/bytealg.MaxLen"], plainKeys := false, apart := false, laid := [("unicode/utf8.acceptRanges", laid_unicode_utf8_acceptRanges), ("unicode/utf8.first", laid_unicode_utf8_first)], narrowed := true }
def TitlePlacedUptoSaid : Prop := titlePlacedUptoRow.holds Tryd.pinned (OpenSpec.upto titlePlacedSpec)

end Rows
end Go.Proofs.YtahgbecfaihfpaaDoor
