/-
  No cell of these rows narrows 'for every input' (looked for: loops, veiled, ifaces, maps, wideKeys, modest, calm, conditions, laid).
  DERIVED. THE GIVEN ROWS OF THIS SEAT. 7 by the template 'for every input the law returns true; each argument reads behind the call as it read before'; 0 by the template 'total and deterministic' (their statements: YtmgelocefebldaaTotals.lean).
  GIVEN WITH THE SEED: the statements are not yours to turn. If you find one false, say at which input.
  Laid BY PROGRAM, IN A SANDBOX (cutbox-rows.mjs): the forced cells as the released guide's own fill.sh prints them over the translation c3c90e9c3d6fbf0f… (all of the seat's roots in one cut). By AI agents, Wed Nov 11 2026. No macro, syntax, notation, axiom, sorry.
-/
import Derived.Test.YtmgelocefebldaaChecked
import GoSem.Claim
import GoSem.ClaimJoined
import GoSem.ClaimMapViews
import Derived.JoinedTies
import Derived.KernelRfl
namespace Go.Proofs.Ytmgelocefebldaa
/- THE CELL 'sum', in the pinned program and in every row, IS THE sha256 OF THE DUMP (.gsa) THAT YtmgelocefebldaaProg.lean LOADS. Nothing in Lean hashes anything: it is a label: what it is worth is what the hold of that sum in a sandbox is worth. -/
noncomputable def Try.pinned : Pinned := { name := "ytmgelocefebldaa", sum := "c3c90e9c3d6fbf0f3eac166c9007fb4e93b03708f68be09daf187fbd21324560", checked := Try.checked }
namespace Rows
def none {H : Type} : Left H := { results := [], args := [] }

/-- 'laws.FnBest': WHATEVER THE INPUT: true; the input reads as it did. -/
def fnBestSpec : ChangeSpec := { name := "fnBest", fn := fun _ => fun
  | [d1, d2] => { results := [.lit (.bool true)], args := [d1, d2] }
  | _ => none }
def fnBestRow : OpenClaim := { program := "ytmgelocefebldaa", sum := "c3c90e9c3d6fbf0f3eac166c9007fb4e93b03708f68be09daf187fbd21324560", func := "loop.example/g01099/laws.FnBest", spec := "fnBest", unfollowed := true, recurses := true, apart := false }
def FnBestSaid : Prop := fnBestRow.holds Try.pinned (OpenSpec.ofChange fnBestSpec)

/-- ITS FALSE NEIGHBOUR: 'it returns false'. Refute it at one input. -/
def fnBestWrong : ChangeSpec := { name := "fnBest", fn := fun _ => fun
  | [d1, d2] => { results := [.lit (.bool false)], args := [d1, d2] }
  | _ => none }
def FnBestWrongFalsely : Prop := fnBestRow.holds Try.pinned (OpenSpec.ofChange fnBestWrong)

/-- 'laws.FnNearest': WHATEVER THE INPUT: true; the input reads as it did. -/
def fnNearestSpec : ChangeSpec := { name := "fnNearest", fn := fun _ => fun
  | [d1, d2] => { results := [.lit (.bool true)], args := [d1, d2] }
  | _ => none }
def fnNearestRow : OpenClaim := { program := "ytmgelocefebldaa", sum := "c3c90e9c3d6fbf0f3eac166c9007fb4e93b03708f68be09daf187fbd21324560", func := "loop.example/g01099/laws.FnNearest", spec := "fnNearest", unfollowed := true, recurses := true, apart := false }
def FnNearestSaid : Prop := fnNearestRow.holds Try.pinned (OpenSpec.ofChange fnNearestSpec)

/-- ITS FALSE NEIGHBOUR: 'it returns false'. Refute it at one input. -/
def fnNearestWrong : ChangeSpec := { name := "fnNearest", fn := fun _ => fun
  | [d1, d2] => { results := [.lit (.bool false)], args := [d1, d2] }
  | _ => none }
def FnNearestWrongFalsely : Prop := fnNearestRow.holds Try.pinned (OpenSpec.ofChange fnNearestWrong)

/-- 'laws.FnOffsets': WHATEVER THE INPUT: true; the input reads as it did. -/
def fnOffsetsSpec : ChangeSpec := { name := "fnOffsets", fn := fun _ => fun
  | [d1, d2] => { results := [.lit (.bool true)], args := [d1, d2] }
  | _ => none }
def fnOffsetsRow : OpenClaim := { program := "ytmgelocefebldaa", sum := "c3c90e9c3d6fbf0f3eac166c9007fb4e93b03708f68be09daf187fbd21324560", func := "loop.example/g01099/laws.FnOffsets", spec := "fnOffsets", unfollowed := true, recurses := true, apart := false }
def FnOffsetsSaid : Prop := fnOffsetsRow.holds Try.pinned (OpenSpec.ofChange fnOffsetsSpec)

/-- ITS FALSE NEIGHBOUR: 'it returns false'. Refute it at one input. -/
def fnOffsetsWrong : ChangeSpec := { name := "fnOffsets", fn := fun _ => fun
  | [d1, d2] => { results := [.lit (.bool false)], args := [d1, d2] }
  | _ => none }
def FnOffsetsWrongFalsely : Prop := fnOffsetsRow.holds Try.pinned (OpenSpec.ofChange fnOffsetsWrong)

/-- 'laws.FnExactTubePoses': WHATEVER THE INPUT: true; the input reads as it did. -/
def fnExactTubePosesSpec : ChangeSpec := { name := "fnExactTubePoses", fn := fun _ => fun
  | [d1, d2] => { results := [.lit (.bool true)], args := [d1, d2] }
  | _ => none }
def fnExactTubePosesRow : OpenClaim := { program := "ytmgelocefebldaa", sum := "c3c90e9c3d6fbf0f3eac166c9007fb4e93b03708f68be09daf187fbd21324560", func := "loop.example/g01099/laws.FnExactTubePoses", spec := "fnExactTubePoses", unfollowed := true, recurses := true, apart := false }
def FnExactTubePosesSaid : Prop := fnExactTubePosesRow.holds Try.pinned (OpenSpec.ofChange fnExactTubePosesSpec)

/-- ITS FALSE NEIGHBOUR: 'it returns false'. Refute it at one input. -/
def fnExactTubePosesWrong : ChangeSpec := { name := "fnExactTubePoses", fn := fun _ => fun
  | [d1, d2] => { results := [.lit (.bool false)], args := [d1, d2] }
  | _ => none }
def FnExactTubePosesWrongFalsely : Prop := fnExactTubePosesRow.holds Try.pinned (OpenSpec.ofChange fnExactTubePosesWrong)

/-- 'laws.FnExactSquaresOf': WHATEVER THE INPUT: true; the input reads as it did. -/
def fnExactSquaresOfSpec : ChangeSpec := { name := "fnExactSquaresOf", fn := fun _ => fun
  | [d1, d2, d3, d4] => { results := [.lit (.bool true)], args := [d1, d2, d3, d4] }
  | _ => none }
def fnExactSquaresOfRow : OpenClaim := { program := "ytmgelocefebldaa", sum := "c3c90e9c3d6fbf0f3eac166c9007fb4e93b03708f68be09daf187fbd21324560", func := "loop.example/g01099/laws.FnExactSquaresOf", spec := "fnExactSquaresOf", unfollowed := true, recurses := true, apart := false }
def FnExactSquaresOfSaid : Prop := fnExactSquaresOfRow.holds Try.pinned (OpenSpec.ofChange fnExactSquaresOfSpec)

/-- ITS FALSE NEIGHBOUR: 'it returns false'. Refute it at one input. -/
def fnExactSquaresOfWrong : ChangeSpec := { name := "fnExactSquaresOf", fn := fun _ => fun
  | [d1, d2, d3, d4] => { results := [.lit (.bool false)], args := [d1, d2, d3, d4] }
  | _ => none }
def FnExactSquaresOfWrongFalsely : Prop := fnExactSquaresOfRow.holds Try.pinned (OpenSpec.ofChange fnExactSquaresOfWrong)

/-- 'laws.FnExactBestTube': WHATEVER THE INPUT: true; the input reads as it did. -/
def fnExactBestTubeSpec : ChangeSpec := { name := "fnExactBestTube", fn := fun _ => fun
  | [d1, d2, d3, d4, d5] => { results := [.lit (.bool true)], args := [d1, d2, d3, d4, d5] }
  | _ => none }
def fnExactBestTubeRow : OpenClaim := { program := "ytmgelocefebldaa", sum := "c3c90e9c3d6fbf0f3eac166c9007fb4e93b03708f68be09daf187fbd21324560", func := "loop.example/g01099/laws.FnExactBestTube", spec := "fnExactBestTube", unfollowed := true, recurses := true, apart := false }
def FnExactBestTubeSaid : Prop := fnExactBestTubeRow.holds Try.pinned (OpenSpec.ofChange fnExactBestTubeSpec)

/-- ITS FALSE NEIGHBOUR: 'it returns false'. Refute it at one input. -/
def fnExactBestTubeWrong : ChangeSpec := { name := "fnExactBestTube", fn := fun _ => fun
  | [d1, d2, d3, d4, d5] => { results := [.lit (.bool false)], args := [d1, d2, d3, d4, d5] }
  | _ => none }
def FnExactBestTubeWrongFalsely : Prop := fnExactBestTubeRow.holds Try.pinned (OpenSpec.ofChange fnExactBestTubeWrong)

/-- 'laws.FnExactOffsetsBehind': WHATEVER THE INPUT: true; the input reads as it did. -/
def fnExactOffsetsBehindSpec : ChangeSpec := { name := "fnExactOffsetsBehind", fn := fun _ => fun
  | [d1, d2, d3, d4] => { results := [.lit (.bool true)], args := [d1, d2, d3, d4] }
  | _ => none }
def fnExactOffsetsBehindRow : OpenClaim := { program := "ytmgelocefebldaa", sum := "c3c90e9c3d6fbf0f3eac166c9007fb4e93b03708f68be09daf187fbd21324560", func := "loop.example/g01099/laws.FnExactOffsetsBehind", spec := "fnExactOffsetsBehind", unfollowed := true, recurses := true, apart := false }
def FnExactOffsetsBehindSaid : Prop := fnExactOffsetsBehindRow.holds Try.pinned (OpenSpec.ofChange fnExactOffsetsBehindSpec)

/-- ITS FALSE NEIGHBOUR: 'it returns false'. Refute it at one input. -/
def fnExactOffsetsBehindWrong : ChangeSpec := { name := "fnExactOffsetsBehind", fn := fun _ => fun
  | [d1, d2, d3, d4] => { results := [.lit (.bool false)], args := [d1, d2, d3, d4] }
  | _ => none }
def FnExactOffsetsBehindWrongFalsely : Prop := fnExactOffsetsBehindRow.holds Try.pinned (OpenSpec.ofChange fnExactOffsetsBehindWrong)

/- THE SECOND FORM. 'bulk': how many values and letters a reading holds, each counted each time it is reached (what is shared counts as often as it is met; a slice's spare places count too). A statement '..UptoSaid' is the law's where the arguments, and the package variables that the reading takes, are together of bulk at most 1048576: NARROWER than '..Said'. Prove '..Said' where nothing that the law and all that it calls make is longer than what came in: it says more and counts as full. Else prove '..UptoSaid'. A law counts once. -/
mutual
def uptoBulk {H : Type} : DataW H → Nat
  | .lit (.string bytes) => bytes.length + 1
  | .lit _ => 1
  | .nil => 1
  | .ptr d => uptoBulk d + 1
  | .slice elems spare => uptoBulkAll elems + uptoBulkAll spare + 1
  | .agg parts => uptoBulkAll parts + 1
  | .iface _ d => uptoBulk d + 1
  | .map entries => uptoBulkEntries entries + 1
  | .held _ => 1
def uptoBulkAll {H : Type} : List (DataW H) → Nat
  | [] => 0
  | d :: r => uptoBulk d + uptoBulkAll r
def uptoBulkEntries {H : Type} : List (Lit × DataW H) → Nat
  | [] => 0
  | x :: r => uptoBulkEntry x + uptoBulkEntries r
def uptoBulkEntry {H : Type} : Lit × DataW H → Nat
  | (.string bytes, d) => bytes.length + uptoBulk d + 1
  | (_, d) => uptoBulk d + 1
 end
def uptoSmall : (H : Type) → List (DataW H) → Bool := fun _ ds => decide (uptoBulkAll ds ≤ 1048576)
def OpenSpec.upto (s : _root_.Go.ChangeSpec) : _root_.Go.OpenSpec := { _root_.Go.OpenSpec.ofChange s with cond := some uptoSmall }

/-- 'laws.FnBest', WHERE WHAT IT READS IS OF BULK AT MOST 1048576: true; the input reads as it did. -/
def fnBestUptoRow : OpenClaim := { program := "ytmgelocefebldaa", sum := "c3c90e9c3d6fbf0f3eac166c9007fb4e93b03708f68be09daf187fbd21324560", func := "loop.example/g01099/laws.FnBest", spec := "fnBest", unfollowed := true, recurses := true, apart := false, narrowed := true }
def FnBestUptoSaid : Prop := fnBestUptoRow.holds Try.pinned (OpenSpec.upto fnBestSpec)

/-- 'laws.FnNearest', WHERE WHAT IT READS IS OF BULK AT MOST 1048576: true; the input reads as it did. -/
def fnNearestUptoRow : OpenClaim := { program := "ytmgelocefebldaa", sum := "c3c90e9c3d6fbf0f3eac166c9007fb4e93b03708f68be09daf187fbd21324560", func := "loop.example/g01099/laws.FnNearest", spec := "fnNearest", unfollowed := true, recurses := true, apart := false, narrowed := true }
def FnNearestUptoSaid : Prop := fnNearestUptoRow.holds Try.pinned (OpenSpec.upto fnNearestSpec)

/-- 'laws.FnOffsets', WHERE WHAT IT READS IS OF BULK AT MOST 1048576: true; the input reads as it did. -/
def fnOffsetsUptoRow : OpenClaim := { program := "ytmgelocefebldaa", sum := "c3c90e9c3d6fbf0f3eac166c9007fb4e93b03708f68be09daf187fbd21324560", func := "loop.example/g01099/laws.FnOffsets", spec := "fnOffsets", unfollowed := true, recurses := true, apart := false, narrowed := true }
def FnOffsetsUptoSaid : Prop := fnOffsetsUptoRow.holds Try.pinned (OpenSpec.upto fnOffsetsSpec)

/-- 'laws.FnExactTubePoses', WHERE WHAT IT READS IS OF BULK AT MOST 1048576: true; the input reads as it did. -/
def fnExactTubePosesUptoRow : OpenClaim := { program := "ytmgelocefebldaa", sum := "c3c90e9c3d6fbf0f3eac166c9007fb4e93b03708f68be09daf187fbd21324560", func := "loop.example/g01099/laws.FnExactTubePoses", spec := "fnExactTubePoses", unfollowed := true, recurses := true, apart := false, narrowed := true }
def FnExactTubePosesUptoSaid : Prop := fnExactTubePosesUptoRow.holds Try.pinned (OpenSpec.upto fnExactTubePosesSpec)

/-- 'laws.FnExactSquaresOf', WHERE WHAT IT READS IS OF BULK AT MOST 1048576: true; the input reads as it did. -/
def fnExactSquaresOfUptoRow : OpenClaim := { program := "ytmgelocefebldaa", sum := "c3c90e9c3d6fbf0f3eac166c9007fb4e93b03708f68be09daf187fbd21324560", func := "loop.example/g01099/laws.FnExactSquaresOf", spec := "fnExactSquaresOf", unfollowed := true, recurses := true, apart := false, narrowed := true }
def FnExactSquaresOfUptoSaid : Prop := fnExactSquaresOfUptoRow.holds Try.pinned (OpenSpec.upto fnExactSquaresOfSpec)

/-- 'laws.FnExactBestTube', WHERE WHAT IT READS IS OF BULK AT MOST 1048576: true; the input reads as it did. -/
def fnExactBestTubeUptoRow : OpenClaim := { program := "ytmgelocefebldaa", sum := "c3c90e9c3d6fbf0f3eac166c9007fb4e93b03708f68be09daf187fbd21324560", func := "loop.example/g01099/laws.FnExactBestTube", spec := "fnExactBestTube", unfollowed := true, recurses := true, apart := false, narrowed := true }
def FnExactBestTubeUptoSaid : Prop := fnExactBestTubeUptoRow.holds Try.pinned (OpenSpec.upto fnExactBestTubeSpec)

/-- 'laws.FnExactOffsetsBehind', WHERE WHAT IT READS IS OF BULK AT MOST 1048576: true; the input reads as it did. -/
def fnExactOffsetsBehindUptoRow : OpenClaim := { program := "ytmgelocefebldaa", sum := "c3c90e9c3d6fbf0f3eac166c9007fb4e93b03708f68be09daf187fbd21324560", func := "loop.example/g01099/laws.FnExactOffsetsBehind", spec := "fnExactOffsetsBehind", unfollowed := true, recurses := true, apart := false, narrowed := true }
def FnExactOffsetsBehindUptoSaid : Prop := fnExactOffsetsBehindUptoRow.holds Try.pinned (OpenSpec.upto fnExactOffsetsBehindSpec)

end Rows
end Go.Proofs.Ytmgelocefebldaa
