/-
  No cell of these rows narrows 'for every input' (looked for: loops, veiled, ifaces, maps, wideKeys, modest, calm, conditions, laid).
  DERIVED. THE GIVEN ROWS OF THIS SEAT. 14 by the template 'for every input the law returns true; each argument reads behind the call as it read before'; 0 by the template 'total and deterministic' (their statements: YtfjbgcaogffiaaaTotals.lean).
  GIVEN WITH THE SEED: the statements are not yours to turn. If you find one false, say at which input.
  Laid BY PROGRAM, IN A SANDBOX (cutbox-rows.mjs): the forced cells as the released guide's own fill.sh prints them over the translation ea64736c1c37bf32… (all of the seat's roots in one cut). By AI agents, Wed Nov 11 2026. No macro, syntax, notation, axiom, sorry.
-/
import Derived.Test.YtfjbgcaogffiaaaChecked
import GoSem.Claim
import GoSem.ClaimJoined
import GoSem.ClaimMapViews
import Derived.JoinedTies
import Derived.KernelRfl
namespace Go.Proofs.Ytfjbgcaogffiaaa
/- THE CELL 'sum', in the pinned program and in every row, IS THE sha256 OF THE DUMP (.gsa) THAT YtfjbgcaogffiaaaProg.lean LOADS. Nothing in Lean hashes anything: it is a label: what it is worth is what the hold of that sum in a sandbox is worth. -/
noncomputable def Try.pinned : Pinned := { name := "ytfjbgcaogffiaaa", sum := "ea64736c1c37bf32d97d0d9ab91f5d457750777f35b934f4ce4ce864d9740253", checked := Try.checked }
namespace Rows
def none {H : Type} : Left H := { results := [], args := [] }

/-- 'telecinelaw02.DecayLevels': WHATEVER THE INPUT: true; the input reads as it did. -/
def decayLevelsSpec : ChangeSpec := { name := "decayLevels", fn := fun _ => fun
  | [d] => { results := [.lit (.bool true)], args := [d] }
  | _ => none }
def decayLevelsRow : OpenClaim := { program := "ytfjbgcaogffiaaa", sum := "ea64736c1c37bf32d97d0d9ab91f5d457750777f35b934f4ce4ce864d9740253", func := "telecine/telecinelaw02.DecayLevels", spec := "decayLevels", unfollowed := true, recurses := true, apart := false }
def DecayLevelsSaid : Prop := decayLevelsRow.holds Try.pinned (OpenSpec.ofChange decayLevelsSpec)

/-- ITS FALSE NEIGHBOUR: 'it returns false'. Refute it at one input. -/
def decayLevelsWrong : ChangeSpec := { name := "decayLevels", fn := fun _ => fun
  | [d] => { results := [.lit (.bool false)], args := [d] }
  | _ => none }
def DecayLevelsWrongFalsely : Prop := decayLevelsRow.holds Try.pinned (OpenSpec.ofChange decayLevelsWrong)

/-- 'telecinelaw02.DecayJust': WHATEVER THE INPUT: true; the input reads as it did. -/
def decayJustSpec : ChangeSpec := { name := "decayJust", fn := fun _ => fun
  | [d1, d2] => { results := [.lit (.bool true)], args := [d1, d2] }
  | _ => none }
def decayJustRow : OpenClaim := { program := "ytfjbgcaogffiaaa", sum := "ea64736c1c37bf32d97d0d9ab91f5d457750777f35b934f4ce4ce864d9740253", func := "telecine/telecinelaw02.DecayJust", spec := "decayJust", unfollowed := true, recurses := true, apart := false }
def DecayJustSaid : Prop := decayJustRow.holds Try.pinned (OpenSpec.ofChange decayJustSpec)

/-- ITS FALSE NEIGHBOUR: 'it returns false'. Refute it at one input. -/
def decayJustWrong : ChangeSpec := { name := "decayJust", fn := fun _ => fun
  | [d1, d2] => { results := [.lit (.bool false)], args := [d1, d2] }
  | _ => none }
def DecayJustWrongFalsely : Prop := decayJustRow.holds Try.pinned (OpenSpec.ofChange decayJustWrong)

/-- 'telecinelaw02.DecayNever': WHATEVER THE INPUT: true; the input reads as it did. -/
def decayNeverSpec : ChangeSpec := { name := "decayNever", fn := fun _ => fun
  | [d1, d2] => { results := [.lit (.bool true)], args := [d1, d2] }
  | _ => none }
def decayNeverRow : OpenClaim := { program := "ytfjbgcaogffiaaa", sum := "ea64736c1c37bf32d97d0d9ab91f5d457750777f35b934f4ce4ce864d9740253", func := "telecine/telecinelaw02.DecayNever", spec := "decayNever", unfollowed := true, recurses := true, apart := false }
def DecayNeverSaid : Prop := decayNeverRow.holds Try.pinned (OpenSpec.ofChange decayNeverSpec)

/-- ITS FALSE NEIGHBOUR: 'it returns false'. Refute it at one input. -/
def decayNeverWrong : ChangeSpec := { name := "decayNever", fn := fun _ => fun
  | [d1, d2] => { results := [.lit (.bool false)], args := [d1, d2] }
  | _ => none }
def DecayNeverWrongFalsely : Prop := decayNeverRow.holds Try.pinned (OpenSpec.ofChange decayNeverWrong)

/-- 'telecinelaw02.DecayNamed': WHATEVER THE INPUT: true; the input reads as it did. -/
def decayNamedSpec : ChangeSpec := { name := "decayNamed", fn := fun _ => fun
  | [d1, d2] => { results := [.lit (.bool true)], args := [d1, d2] }
  | _ => none }
def decayNamedRow : OpenClaim := { program := "ytfjbgcaogffiaaa", sum := "ea64736c1c37bf32d97d0d9ab91f5d457750777f35b934f4ce4ce864d9740253", func := "telecine/telecinelaw02.DecayNamed", spec := "decayNamed", unfollowed := true, recurses := true, apart := false }
def DecayNamedSaid : Prop := decayNamedRow.holds Try.pinned (OpenSpec.ofChange decayNamedSpec)

/-- ITS FALSE NEIGHBOUR: 'it returns false'. Refute it at one input. -/
def decayNamedWrong : ChangeSpec := { name := "decayNamed", fn := fun _ => fun
  | [d1, d2] => { results := [.lit (.bool false)], args := [d1, d2] }
  | _ => none }
def DecayNamedWrongFalsely : Prop := decayNamedRow.holds Try.pinned (OpenSpec.ofChange decayNamedWrong)

/-- 'telecinelaw02.DecayCooler': WHATEVER THE INPUT: true; the input reads as it did. -/
def decayCoolerSpec : ChangeSpec := { name := "decayCooler", fn := fun _ => fun
  | [d1, d2, d3] => { results := [.lit (.bool true)], args := [d1, d2, d3] }
  | _ => none }
def decayCoolerRow : OpenClaim := { program := "ytfjbgcaogffiaaa", sum := "ea64736c1c37bf32d97d0d9ab91f5d457750777f35b934f4ce4ce864d9740253", func := "telecine/telecinelaw02.DecayCooler", spec := "decayCooler", unfollowed := true, recurses := true, apart := false }
def DecayCoolerSaid : Prop := decayCoolerRow.holds Try.pinned (OpenSpec.ofChange decayCoolerSpec)

/-- ITS FALSE NEIGHBOUR: 'it returns false'. Refute it at one input. -/
def decayCoolerWrong : ChangeSpec := { name := "decayCooler", fn := fun _ => fun
  | [d1, d2, d3] => { results := [.lit (.bool false)], args := [d1, d2, d3] }
  | _ => none }
def DecayCoolerWrongFalsely : Prop := decayCoolerRow.holds Try.pinned (OpenSpec.ofChange decayCoolerWrong)

/-- 'telecinelaw02.DecayPrefix': WHATEVER THE INPUT: true; the input reads as it did. -/
def decayPrefixSpec : ChangeSpec := { name := "decayPrefix", fn := fun _ => fun
  | [d1, d2] => { results := [.lit (.bool true)], args := [d1, d2] }
  | _ => none }
def decayPrefixRow : OpenClaim := { program := "ytfjbgcaogffiaaa", sum := "ea64736c1c37bf32d97d0d9ab91f5d457750777f35b934f4ce4ce864d9740253", func := "telecine/telecinelaw02.DecayPrefix", spec := "decayPrefix", unfollowed := true, recurses := true, apart := false }
def DecayPrefixSaid : Prop := decayPrefixRow.holds Try.pinned (OpenSpec.ofChange decayPrefixSpec)

/-- ITS FALSE NEIGHBOUR: 'it returns false'. Refute it at one input. -/
def decayPrefixWrong : ChangeSpec := { name := "decayPrefix", fn := fun _ => fun
  | [d1, d2] => { results := [.lit (.bool false)], args := [d1, d2] }
  | _ => none }
def DecayPrefixWrongFalsely : Prop := decayPrefixRow.holds Try.pinned (OpenSpec.ofChange decayPrefixWrong)

/-- 'telecinelaw02.DecayFewer': WHATEVER THE INPUT: true; the input reads as it did. -/
def decayFewerSpec : ChangeSpec := { name := "decayFewer", fn := fun _ => fun
  | [d1, d2] => { results := [.lit (.bool true)], args := [d1, d2] }
  | _ => none }
def decayFewerRow : OpenClaim := { program := "ytfjbgcaogffiaaa", sum := "ea64736c1c37bf32d97d0d9ab91f5d457750777f35b934f4ce4ce864d9740253", func := "telecine/telecinelaw02.DecayFewer", spec := "decayFewer", unfollowed := true, recurses := true, apart := false }
def DecayFewerSaid : Prop := decayFewerRow.holds Try.pinned (OpenSpec.ofChange decayFewerSpec)

/-- ITS FALSE NEIGHBOUR: 'it returns false'. Refute it at one input. -/
def decayFewerWrong : ChangeSpec := { name := "decayFewer", fn := fun _ => fun
  | [d1, d2] => { results := [.lit (.bool false)], args := [d1, d2] }
  | _ => none }
def DecayFewerWrongFalsely : Prop := decayFewerRow.holds Try.pinned (OpenSpec.ofChange decayFewerWrong)

/-- 'telecinelaw02.DecayChecks': WHATEVER THE INPUT: true; the input reads as it did. -/
def decayChecksSpec : ChangeSpec := { name := "decayChecks", fn := fun _ => fun
  | [d1, d2] => { results := [.lit (.bool true)], args := [d1, d2] }
  | _ => none }
def decayChecksRow : OpenClaim := { program := "ytfjbgcaogffiaaa", sum := "ea64736c1c37bf32d97d0d9ab91f5d457750777f35b934f4ce4ce864d9740253", func := "telecine/telecinelaw02.DecayChecks", spec := "decayChecks", unfollowed := true, recurses := true, apart := false }
def DecayChecksSaid : Prop := decayChecksRow.holds Try.pinned (OpenSpec.ofChange decayChecksSpec)

/-- ITS FALSE NEIGHBOUR: 'it returns false'. Refute it at one input. -/
def decayChecksWrong : ChangeSpec := { name := "decayChecks", fn := fun _ => fun
  | [d1, d2] => { results := [.lit (.bool false)], args := [d1, d2] }
  | _ => none }
def DecayChecksWrongFalsely : Prop := decayChecksRow.holds Try.pinned (OpenSpec.ofChange decayChecksWrong)

/-- 'telecinelaw02.DecayOwns': WHATEVER THE INPUT: true; the input reads as it did. -/
def decayOwnsSpec : ChangeSpec := { name := "decayOwns", fn := fun _ => fun
  | [d1, d2] => { results := [.lit (.bool true)], args := [d1, d2] }
  | _ => none }
def decayOwnsRow : OpenClaim := { program := "ytfjbgcaogffiaaa", sum := "ea64736c1c37bf32d97d0d9ab91f5d457750777f35b934f4ce4ce864d9740253", func := "telecine/telecinelaw02.DecayOwns", spec := "decayOwns", unfollowed := true, recurses := true, apart := false }
def DecayOwnsSaid : Prop := decayOwnsRow.holds Try.pinned (OpenSpec.ofChange decayOwnsSpec)

/-- ITS FALSE NEIGHBOUR: 'it returns false'. Refute it at one input. -/
def decayOwnsWrong : ChangeSpec := { name := "decayOwns", fn := fun _ => fun
  | [d1, d2] => { results := [.lit (.bool false)], args := [d1, d2] }
  | _ => none }
def DecayOwnsWrongFalsely : Prop := decayOwnsRow.holds Try.pinned (OpenSpec.ofChange decayOwnsWrong)

/-- 'telecinelaw02.DecayTrue': WHATEVER THE INPUT: true; the input reads as it did. -/
def decayTrueSpec : ChangeSpec := { name := "decayTrue", fn := fun _ => fun
  | [d1, d2] => { results := [.lit (.bool true)], args := [d1, d2] }
  | _ => none }
def decayTrueRow : OpenClaim := { program := "ytfjbgcaogffiaaa", sum := "ea64736c1c37bf32d97d0d9ab91f5d457750777f35b934f4ce4ce864d9740253", func := "telecine/telecinelaw02.DecayTrue", spec := "decayTrue", unfollowed := true, recurses := true, apart := false }
def DecayTrueSaid : Prop := decayTrueRow.holds Try.pinned (OpenSpec.ofChange decayTrueSpec)

/-- ITS FALSE NEIGHBOUR: 'it returns false'. Refute it at one input. -/
def decayTrueWrong : ChangeSpec := { name := "decayTrue", fn := fun _ => fun
  | [d1, d2] => { results := [.lit (.bool false)], args := [d1, d2] }
  | _ => none }
def DecayTrueWrongFalsely : Prop := decayTrueRow.holds Try.pinned (OpenSpec.ofChange decayTrueWrong)

/-- 'telecinelaw02.DecayGrows': WHATEVER THE INPUT: true; the input reads as it did. -/
def decayGrowsSpec : ChangeSpec := { name := "decayGrows", fn := fun _ => fun
  | [d1, d2, d3] => { results := [.lit (.bool true)], args := [d1, d2, d3] }
  | _ => none }
def decayGrowsRow : OpenClaim := { program := "ytfjbgcaogffiaaa", sum := "ea64736c1c37bf32d97d0d9ab91f5d457750777f35b934f4ce4ce864d9740253", func := "telecine/telecinelaw02.DecayGrows", spec := "decayGrows", unfollowed := true, recurses := true, apart := false }
def DecayGrowsSaid : Prop := decayGrowsRow.holds Try.pinned (OpenSpec.ofChange decayGrowsSpec)

/-- ITS FALSE NEIGHBOUR: 'it returns false'. Refute it at one input. -/
def decayGrowsWrong : ChangeSpec := { name := "decayGrows", fn := fun _ => fun
  | [d1, d2, d3] => { results := [.lit (.bool false)], args := [d1, d2, d3] }
  | _ => none }
def DecayGrowsWrongFalsely : Prop := decayGrowsRow.holds Try.pinned (OpenSpec.ofChange decayGrowsWrong)

/-- 'telecinelaw02.DecayLosts': WHATEVER THE INPUT: true; the input reads as it did. -/
def decayLostsSpec : ChangeSpec := { name := "decayLosts", fn := fun _ => fun
  | [d1, d2, d3] => { results := [.lit (.bool true)], args := [d1, d2, d3] }
  | _ => none }
def decayLostsRow : OpenClaim := { program := "ytfjbgcaogffiaaa", sum := "ea64736c1c37bf32d97d0d9ab91f5d457750777f35b934f4ce4ce864d9740253", func := "telecine/telecinelaw02.DecayLosts", spec := "decayLosts", unfollowed := true, recurses := true, apart := false }
def DecayLostsSaid : Prop := decayLostsRow.holds Try.pinned (OpenSpec.ofChange decayLostsSpec)

/-- ITS FALSE NEIGHBOUR: 'it returns false'. Refute it at one input. -/
def decayLostsWrong : ChangeSpec := { name := "decayLosts", fn := fun _ => fun
  | [d1, d2, d3] => { results := [.lit (.bool false)], args := [d1, d2, d3] }
  | _ => none }
def DecayLostsWrongFalsely : Prop := decayLostsRow.holds Try.pinned (OpenSpec.ofChange decayLostsWrong)

/-- 'telecinelaw02.DecayMoved': WHATEVER THE INPUT: true; the input reads as it did. -/
def decayMovedSpec : ChangeSpec := { name := "decayMoved", fn := fun _ => fun
  | [d1, d2, d3] => { results := [.lit (.bool true)], args := [d1, d2, d3] }
  | _ => none }
def decayMovedRow : OpenClaim := { program := "ytfjbgcaogffiaaa", sum := "ea64736c1c37bf32d97d0d9ab91f5d457750777f35b934f4ce4ce864d9740253", func := "telecine/telecinelaw02.DecayMoved", spec := "decayMoved", unfollowed := true, recurses := true, apart := false }
def DecayMovedSaid : Prop := decayMovedRow.holds Try.pinned (OpenSpec.ofChange decayMovedSpec)

/-- ITS FALSE NEIGHBOUR: 'it returns false'. Refute it at one input. -/
def decayMovedWrong : ChangeSpec := { name := "decayMoved", fn := fun _ => fun
  | [d1, d2, d3] => { results := [.lit (.bool false)], args := [d1, d2, d3] }
  | _ => none }
def DecayMovedWrongFalsely : Prop := decayMovedRow.holds Try.pinned (OpenSpec.ofChange decayMovedWrong)

/-- 'telecinelaw02.DecayKnown': WHATEVER THE INPUT: true; the input reads as it did. -/
def decayKnownSpec : ChangeSpec := { name := "decayKnown", fn := fun _ => fun
  | [] => { results := [.lit (.bool true)], args := [] }
  | _ => none }
def decayKnownRow : OpenClaim := { program := "ytfjbgcaogffiaaa", sum := "ea64736c1c37bf32d97d0d9ab91f5d457750777f35b934f4ce4ce864d9740253", func := "telecine/telecinelaw02.DecayKnown", spec := "decayKnown", unfollowed := true, recurses := true, apart := false }
def DecayKnownSaid : Prop := decayKnownRow.holds Try.pinned (OpenSpec.ofChange decayKnownSpec)

/-- ITS FALSE NEIGHBOUR: 'it returns false'. Refute it at one input. -/
def decayKnownWrong : ChangeSpec := { name := "decayKnown", fn := fun _ => fun
  | [] => { results := [.lit (.bool false)], args := [] }
  | _ => none }
def DecayKnownWrongFalsely : Prop := decayKnownRow.holds Try.pinned (OpenSpec.ofChange decayKnownWrong)

/- THE SECOND FORM. 'bulk': how many values and letters a reading holds, each counted each time it is reached (what is shared counts as often as it is met; a slice's spare places count too). A statement '..UptoSaid' is the law's where the arguments, and the package variables that the reading takes, are together of bulk at most 1048576: NARROWER than '..Said'. Prove '..Said' where nothing that the law and all that it calls make is longer than what came in: it says more and counts as full. Else prove '..UptoSaid'. A law counts once. -/
mutual
def uptoBulk {H : Type} : DataW H → Nat
  | .lit (.string bytes) => bytes.length + 1
  | .lit _ => 1
  | .nil => 1
  | .ptr d => uptoBulk d + 1
  | .slice elems spare => uptoBulkAll elems + uptoBulkAll spare + 1
  | .agg parts => uptoBulkAll parts + 1
  | .iface _ d => uptoBulk d + 1
  | .map entries => uptoBulkEntries entries + 1
  | .held _ => 1
def uptoBulkAll {H : Type} : List (DataW H) → Nat
  | [] => 0
  | d :: r => uptoBulk d + uptoBulkAll r
def uptoBulkEntries {H : Type} : List (Lit × DataW H) → Nat
  | [] => 0
  | x :: r => uptoBulkEntry x + uptoBulkEntries r
def uptoBulkEntry {H : Type} : Lit × DataW H → Nat
  | (.string bytes, d) => bytes.length + uptoBulk d + 1
  | (_, d) => uptoBulk d + 1
 end
def uptoSmall : (H : Type) → List (DataW H) → Bool := fun _ ds => decide (uptoBulkAll ds ≤ 1048576)
def OpenSpec.upto (s : _root_.Go.ChangeSpec) : _root_.Go.OpenSpec := { _root_.Go.OpenSpec.ofChange s with cond := some uptoSmall }

/-- 'telecinelaw02.DecayLevels', WHERE WHAT IT READS IS OF BULK AT MOST 1048576: true; the input reads as it did. -/
def decayLevelsUptoRow : OpenClaim := { program := "ytfjbgcaogffiaaa", sum := "ea64736c1c37bf32d97d0d9ab91f5d457750777f35b934f4ce4ce864d9740253", func := "telecine/telecinelaw02.DecayLevels", spec := "decayLevels", unfollowed := true, recurses := true, apart := false, narrowed := true }
def DecayLevelsUptoSaid : Prop := decayLevelsUptoRow.holds Try.pinned (OpenSpec.upto decayLevelsSpec)

/-- 'telecinelaw02.DecayJust', WHERE WHAT IT READS IS OF BULK AT MOST 1048576: true; the input reads as it did. -/
def decayJustUptoRow : OpenClaim := { program := "ytfjbgcaogffiaaa", sum := "ea64736c1c37bf32d97d0d9ab91f5d457750777f35b934f4ce4ce864d9740253", func := "telecine/telecinelaw02.DecayJust", spec := "decayJust", unfollowed := true, recurses := true, apart := false, narrowed := true }
def DecayJustUptoSaid : Prop := decayJustUptoRow.holds Try.pinned (OpenSpec.upto decayJustSpec)

/-- 'telecinelaw02.DecayNever', WHERE WHAT IT READS IS OF BULK AT MOST 1048576: true; the input reads as it did. -/
def decayNeverUptoRow : OpenClaim := { program := "ytfjbgcaogffiaaa", sum := "ea64736c1c37bf32d97d0d9ab91f5d457750777f35b934f4ce4ce864d9740253", func := "telecine/telecinelaw02.DecayNever", spec := "decayNever", unfollowed := true, recurses := true, apart := false, narrowed := true }
def DecayNeverUptoSaid : Prop := decayNeverUptoRow.holds Try.pinned (OpenSpec.upto decayNeverSpec)

/-- 'telecinelaw02.DecayNamed', WHERE WHAT IT READS IS OF BULK AT MOST 1048576: true; the input reads as it did. -/
def decayNamedUptoRow : OpenClaim := { program := "ytfjbgcaogffiaaa", sum := "ea64736c1c37bf32d97d0d9ab91f5d457750777f35b934f4ce4ce864d9740253", func := "telecine/telecinelaw02.DecayNamed", spec := "decayNamed", unfollowed := true, recurses := true, apart := false, narrowed := true }
def DecayNamedUptoSaid : Prop := decayNamedUptoRow.holds Try.pinned (OpenSpec.upto decayNamedSpec)

/-- 'telecinelaw02.DecayCooler', WHERE WHAT IT READS IS OF BULK AT MOST 1048576: true; the input reads as it did. -/
def decayCoolerUptoRow : OpenClaim := { program := "ytfjbgcaogffiaaa", sum := "ea64736c1c37bf32d97d0d9ab91f5d457750777f35b934f4ce4ce864d9740253", func := "telecine/telecinelaw02.DecayCooler", spec := "decayCooler", unfollowed := true, recurses := true, apart := false, narrowed := true }
def DecayCoolerUptoSaid : Prop := decayCoolerUptoRow.holds Try.pinned (OpenSpec.upto decayCoolerSpec)

/-- 'telecinelaw02.DecayPrefix', WHERE WHAT IT READS IS OF BULK AT MOST 1048576: true; the input reads as it did. -/
def decayPrefixUptoRow : OpenClaim := { program := "ytfjbgcaogffiaaa", sum := "ea64736c1c37bf32d97d0d9ab91f5d457750777f35b934f4ce4ce864d9740253", func := "telecine/telecinelaw02.DecayPrefix", spec := "decayPrefix", unfollowed := true, recurses := true, apart := false, narrowed := true }
def DecayPrefixUptoSaid : Prop := decayPrefixUptoRow.holds Try.pinned (OpenSpec.upto decayPrefixSpec)

/-- 'telecinelaw02.DecayFewer', WHERE WHAT IT READS IS OF BULK AT MOST 1048576: true; the input reads as it did. -/
def decayFewerUptoRow : OpenClaim := { program := "ytfjbgcaogffiaaa", sum := "ea64736c1c37bf32d97d0d9ab91f5d457750777f35b934f4ce4ce864d9740253", func := "telecine/telecinelaw02.DecayFewer", spec := "decayFewer", unfollowed := true, recurses := true, apart := false, narrowed := true }
def DecayFewerUptoSaid : Prop := decayFewerUptoRow.holds Try.pinned (OpenSpec.upto decayFewerSpec)

/-- 'telecinelaw02.DecayChecks', WHERE WHAT IT READS IS OF BULK AT MOST 1048576: true; the input reads as it did. -/
def decayChecksUptoRow : OpenClaim := { program := "ytfjbgcaogffiaaa", sum := "ea64736c1c37bf32d97d0d9ab91f5d457750777f35b934f4ce4ce864d9740253", func := "telecine/telecinelaw02.DecayChecks", spec := "decayChecks", unfollowed := true, recurses := true, apart := false, narrowed := true }
def DecayChecksUptoSaid : Prop := decayChecksUptoRow.holds Try.pinned (OpenSpec.upto decayChecksSpec)

/-- 'telecinelaw02.DecayOwns', WHERE WHAT IT READS IS OF BULK AT MOST 1048576: true; the input reads as it did. -/
def decayOwnsUptoRow : OpenClaim := { program := "ytfjbgcaogffiaaa", sum := "ea64736c1c37bf32d97d0d9ab91f5d457750777f35b934f4ce4ce864d9740253", func := "telecine/telecinelaw02.DecayOwns", spec := "decayOwns", unfollowed := true, recurses := true, apart := false, narrowed := true }
def DecayOwnsUptoSaid : Prop := decayOwnsUptoRow.holds Try.pinned (OpenSpec.upto decayOwnsSpec)

/-- 'telecinelaw02.DecayTrue', WHERE WHAT IT READS IS OF BULK AT MOST 1048576: true; the input reads as it did. -/
def decayTrueUptoRow : OpenClaim := { program := "ytfjbgcaogffiaaa", sum := "ea64736c1c37bf32d97d0d9ab91f5d457750777f35b934f4ce4ce864d9740253", func := "telecine/telecinelaw02.DecayTrue", spec := "decayTrue", unfollowed := true, recurses := true, apart := false, narrowed := true }
def DecayTrueUptoSaid : Prop := decayTrueUptoRow.holds Try.pinned (OpenSpec.upto decayTrueSpec)

/-- 'telecinelaw02.DecayGrows', WHERE WHAT IT READS IS OF BULK AT MOST 1048576: true; the input reads as it did. -/
def decayGrowsUptoRow : OpenClaim := { program := "ytfjbgcaogffiaaa", sum := "ea64736c1c37bf32d97d0d9ab91f5d457750777f35b934f4ce4ce864d9740253", func := "telecine/telecinelaw02.DecayGrows", spec := "decayGrows", unfollowed := true, recurses := true, apart := false, narrowed := true }
def DecayGrowsUptoSaid : Prop := decayGrowsUptoRow.holds Try.pinned (OpenSpec.upto decayGrowsSpec)

/-- 'telecinelaw02.DecayLosts', WHERE WHAT IT READS IS OF BULK AT MOST 1048576: true; the input reads as it did. -/
def decayLostsUptoRow : OpenClaim := { program := "ytfjbgcaogffiaaa", sum := "ea64736c1c37bf32d97d0d9ab91f5d457750777f35b934f4ce4ce864d9740253", func := "telecine/telecinelaw02.DecayLosts", spec := "decayLosts", unfollowed := true, recurses := true, apart := false, narrowed := true }
def DecayLostsUptoSaid : Prop := decayLostsUptoRow.holds Try.pinned (OpenSpec.upto decayLostsSpec)

/-- 'telecinelaw02.DecayMoved', WHERE WHAT IT READS IS OF BULK AT MOST 1048576: true; the input reads as it did. -/
def decayMovedUptoRow : OpenClaim := { program := "ytfjbgcaogffiaaa", sum := "ea64736c1c37bf32d97d0d9ab91f5d457750777f35b934f4ce4ce864d9740253", func := "telecine/telecinelaw02.DecayMoved", spec := "decayMoved", unfollowed := true, recurses := true, apart := false, narrowed := true }
def DecayMovedUptoSaid : Prop := decayMovedUptoRow.holds Try.pinned (OpenSpec.upto decayMovedSpec)

/-- 'telecinelaw02.DecayKnown', WHERE WHAT IT READS IS OF BULK AT MOST 1048576: true; the input reads as it did. -/
def decayKnownUptoRow : OpenClaim := { program := "ytfjbgcaogffiaaa", sum := "ea64736c1c37bf32d97d0d9ab91f5d457750777f35b934f4ce4ce864d9740253", func := "telecine/telecinelaw02.DecayKnown", spec := "decayKnown", unfollowed := true, recurses := true, apart := false, narrowed := true }
def DecayKnownUptoSaid : Prop := decayKnownUptoRow.holds Try.pinned (OpenSpec.upto decayKnownSpec)

end Rows
end Go.Proofs.Ytfjbgcaogffiaaa
