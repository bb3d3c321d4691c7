/-
  No cell of these rows narrows 'for every input' (looked for: loops, veiled, ifaces, maps, wideKeys, modest, calm, conditions, laid).
  DERIVED. THE GIVEN ROWS OF THIS SEAT. 12 by the template 'for every input the law returns true; each argument reads behind the call as it read before'; 0 by the template 'total and deterministic' (their statements: YtkmnllcccgnliaaTotals.lean).
  GIVEN WITH THE SEED: the statements are not yours to turn. If you find one false, say at which input.
  Laid BY PROGRAM, IN A SANDBOX (cutbox-rows.mjs): the forced cells as the released guide's own fill.sh prints them over the translation 0a4bd1eadbdf131a… (all of the seat's roots in one cut). By AI agents, Wed Nov 11 2026. No macro, syntax, notation, axiom, sorry.
-/
import Derived.Test.YtkmnllcccgnliaaChecked
import GoSem.Claim
import GoSem.ClaimJoined
import GoSem.ClaimMapViews
import Derived.JoinedTies
import Derived.KernelRfl
namespace Go.Proofs.Ytkmnllcccgnliaa
/- THE CELL 'sum', in the pinned program and in every row, IS THE sha256 OF THE DUMP (.gsa) THAT YtkmnllcccgnliaaProg.lean LOADS. Nothing in Lean hashes anything: it is a label: what it is worth is what the hold of that sum in a sandbox is worth. -/
noncomputable def Try.pinned : Pinned := { name := "ytkmnllcccgnliaa", sum := "0a4bd1eadbdf131ae08d435e7202b442996718a9b3925cb80d22585c8e1e7dce", checked := Try.checked }
namespace Rows
def none {H : Type} : Left H := { results := [], args := [] }

/-- 'laws.FnExactPoseAt': WHATEVER THE INPUT: true; the input reads as it did. -/
def fnExactPoseAtSpec : ChangeSpec := { name := "fnExactPoseAt", fn := fun _ => fun
  | [d1, d2] => { results := [.lit (.bool true)], args := [d1, d2] }
  | _ => none }
def fnExactPoseAtRow : OpenClaim := { program := "ytkmnllcccgnliaa", sum := "0a4bd1eadbdf131ae08d435e7202b442996718a9b3925cb80d22585c8e1e7dce", func := "loop.example/g01099/laws.FnExactPoseAt", spec := "fnExactPoseAt", unfollowed := true, recurses := true, apart := false }
def FnExactPoseAtSaid : Prop := fnExactPoseAtRow.holds Try.pinned (OpenSpec.ofChange fnExactPoseAtSpec)

/-- ITS FALSE NEIGHBOUR: 'it returns false'. Refute it at one input. -/
def fnExactPoseAtWrong : ChangeSpec := { name := "fnExactPoseAt", fn := fun _ => fun
  | [d1, d2] => { results := [.lit (.bool false)], args := [d1, d2] }
  | _ => none }
def FnExactPoseAtWrongFalsely : Prop := fnExactPoseAtRow.holds Try.pinned (OpenSpec.ofChange fnExactPoseAtWrong)

/-- 'laws.FnClearance': WHATEVER THE INPUT: true; the input reads as it did. -/
def fnClearanceSpec : ChangeSpec := { name := "fnClearance", fn := fun _ => fun
  | [d1, d2] => { results := [.lit (.bool true)], args := [d1, d2] }
  | _ => none }
def fnClearanceRow : OpenClaim := { program := "ytkmnllcccgnliaa", sum := "0a4bd1eadbdf131ae08d435e7202b442996718a9b3925cb80d22585c8e1e7dce", func := "loop.example/g01099/laws.FnClearance", spec := "fnClearance", unfollowed := true, recurses := true, apart := false }
def FnClearanceSaid : Prop := fnClearanceRow.holds Try.pinned (OpenSpec.ofChange fnClearanceSpec)

/-- ITS FALSE NEIGHBOUR: 'it returns false'. Refute it at one input. -/
def fnClearanceWrong : ChangeSpec := { name := "fnClearance", fn := fun _ => fun
  | [d1, d2] => { results := [.lit (.bool false)], args := [d1, d2] }
  | _ => none }
def FnClearanceWrongFalsely : Prop := fnClearanceRow.holds Try.pinned (OpenSpec.ofChange fnClearanceWrong)

/-- 'laws.FnExactCurveAt': WHATEVER THE INPUT: true; the input reads as it did. -/
def fnExactCurveAtSpec : ChangeSpec := { name := "fnExactCurveAt", fn := fun _ => fun
  | [d1, d2] => { results := [.lit (.bool true)], args := [d1, d2] }
  | _ => none }
def fnExactCurveAtRow : OpenClaim := { program := "ytkmnllcccgnliaa", sum := "0a4bd1eadbdf131ae08d435e7202b442996718a9b3925cb80d22585c8e1e7dce", func := "loop.example/g01099/laws.FnExactCurveAt", spec := "fnExactCurveAt", unfollowed := true, recurses := true, apart := false }
def FnExactCurveAtSaid : Prop := fnExactCurveAtRow.holds Try.pinned (OpenSpec.ofChange fnExactCurveAtSpec)

/-- ITS FALSE NEIGHBOUR: 'it returns false'. Refute it at one input. -/
def fnExactCurveAtWrong : ChangeSpec := { name := "fnExactCurveAt", fn := fun _ => fun
  | [d1, d2] => { results := [.lit (.bool false)], args := [d1, d2] }
  | _ => none }
def FnExactCurveAtWrongFalsely : Prop := fnExactCurveAtRow.holds Try.pinned (OpenSpec.ofChange fnExactCurveAtWrong)

/-- 'laws.FnReversed': WHATEVER THE INPUT: true; the input reads as it did. -/
def fnReversedSpec : ChangeSpec := { name := "fnReversed", fn := fun _ => fun
  | [d1, d2] => { results := [.lit (.bool true)], args := [d1, d2] }
  | _ => none }
def fnReversedRow : OpenClaim := { program := "ytkmnllcccgnliaa", sum := "0a4bd1eadbdf131ae08d435e7202b442996718a9b3925cb80d22585c8e1e7dce", func := "loop.example/g01099/laws.FnReversed", spec := "fnReversed", unfollowed := true, recurses := true, apart := false }
def FnReversedSaid : Prop := fnReversedRow.holds Try.pinned (OpenSpec.ofChange fnReversedSpec)

/-- ITS FALSE NEIGHBOUR: 'it returns false'. Refute it at one input. -/
def fnReversedWrong : ChangeSpec := { name := "fnReversed", fn := fun _ => fun
  | [d1, d2] => { results := [.lit (.bool false)], args := [d1, d2] }
  | _ => none }
def FnReversedWrongFalsely : Prop := fnReversedRow.holds Try.pinned (OpenSpec.ofChange fnReversedWrong)

/-- 'laws.FnExactMirrorAxis': WHATEVER THE INPUT: true; the input reads as it did. -/
def fnExactMirrorAxisSpec : ChangeSpec := { name := "fnExactMirrorAxis", fn := fun _ => fun
  | [d] => { results := [.lit (.bool true)], args := [d] }
  | _ => none }
def fnExactMirrorAxisRow : OpenClaim := { program := "ytkmnllcccgnliaa", sum := "0a4bd1eadbdf131ae08d435e7202b442996718a9b3925cb80d22585c8e1e7dce", func := "loop.example/g01099/laws.FnExactMirrorAxis", spec := "fnExactMirrorAxis", unfollowed := true, recurses := true, apart := false }
def FnExactMirrorAxisSaid : Prop := fnExactMirrorAxisRow.holds Try.pinned (OpenSpec.ofChange fnExactMirrorAxisSpec)

/-- ITS FALSE NEIGHBOUR: 'it returns false'. Refute it at one input. -/
def fnExactMirrorAxisWrong : ChangeSpec := { name := "fnExactMirrorAxis", fn := fun _ => fun
  | [d] => { results := [.lit (.bool false)], args := [d] }
  | _ => none }
def FnExactMirrorAxisWrongFalsely : Prop := fnExactMirrorAxisRow.holds Try.pinned (OpenSpec.ofChange fnExactMirrorAxisWrong)

/-- 'laws.FnExactClearanceOf': WHATEVER THE INPUT: true; the input reads as it did. -/
def fnExactClearanceOfSpec : ChangeSpec := { name := "fnExactClearanceOf", fn := fun _ => fun
  | [d1, d2] => { results := [.lit (.bool true)], args := [d1, d2] }
  | _ => none }
def fnExactClearanceOfRow : OpenClaim := { program := "ytkmnllcccgnliaa", sum := "0a4bd1eadbdf131ae08d435e7202b442996718a9b3925cb80d22585c8e1e7dce", func := "loop.example/g01099/laws.FnExactClearanceOf", spec := "fnExactClearanceOf", unfollowed := true, recurses := true, apart := false }
def FnExactClearanceOfSaid : Prop := fnExactClearanceOfRow.holds Try.pinned (OpenSpec.ofChange fnExactClearanceOfSpec)

/-- ITS FALSE NEIGHBOUR: 'it returns false'. Refute it at one input. -/
def fnExactClearanceOfWrong : ChangeSpec := { name := "fnExactClearanceOf", fn := fun _ => fun
  | [d1, d2] => { results := [.lit (.bool false)], args := [d1, d2] }
  | _ => none }
def FnExactClearanceOfWrongFalsely : Prop := fnExactClearanceOfRow.holds Try.pinned (OpenSpec.ofChange fnExactClearanceOfWrong)

/-- 'laws.FnExactNormalAxis': WHATEVER THE INPUT: true; the input reads as it did. -/
def fnExactNormalAxisSpec : ChangeSpec := { name := "fnExactNormalAxis", fn := fun _ => fun
  | [d] => { results := [.lit (.bool true)], args := [d] }
  | _ => none }
def fnExactNormalAxisRow : OpenClaim := { program := "ytkmnllcccgnliaa", sum := "0a4bd1eadbdf131ae08d435e7202b442996718a9b3925cb80d22585c8e1e7dce", func := "loop.example/g01099/laws.FnExactNormalAxis", spec := "fnExactNormalAxis", unfollowed := true, recurses := true, apart := false }
def FnExactNormalAxisSaid : Prop := fnExactNormalAxisRow.holds Try.pinned (OpenSpec.ofChange fnExactNormalAxisSpec)

/-- ITS FALSE NEIGHBOUR: 'it returns false'. Refute it at one input. -/
def fnExactNormalAxisWrong : ChangeSpec := { name := "fnExactNormalAxis", fn := fun _ => fun
  | [d] => { results := [.lit (.bool false)], args := [d] }
  | _ => none }
def FnExactNormalAxisWrongFalsely : Prop := fnExactNormalAxisRow.holds Try.pinned (OpenSpec.ofChange fnExactNormalAxisWrong)

/-- 'laws.FnPoses': WHATEVER THE INPUT: true; the input reads as it did. -/
def fnPosesSpec : ChangeSpec := { name := "fnPoses", fn := fun _ => fun
  | [d1, d2] => { results := [.lit (.bool true)], args := [d1, d2] }
  | _ => none }
def fnPosesRow : OpenClaim := { program := "ytkmnllcccgnliaa", sum := "0a4bd1eadbdf131ae08d435e7202b442996718a9b3925cb80d22585c8e1e7dce", func := "loop.example/g01099/laws.FnPoses", spec := "fnPoses", unfollowed := true, recurses := true, apart := false }
def FnPosesSaid : Prop := fnPosesRow.holds Try.pinned (OpenSpec.ofChange fnPosesSpec)

/-- ITS FALSE NEIGHBOUR: 'it returns false'. Refute it at one input. -/
def fnPosesWrong : ChangeSpec := { name := "fnPoses", fn := fun _ => fun
  | [d1, d2] => { results := [.lit (.bool false)], args := [d1, d2] }
  | _ => none }
def FnPosesWrongFalsely : Prop := fnPosesRow.holds Try.pinned (OpenSpec.ofChange fnPosesWrong)

/-- 'laws.FnExactPosesOf': WHATEVER THE INPUT: true; the input reads as it did. -/
def fnExactPosesOfSpec : ChangeSpec := { name := "fnExactPosesOf", fn := fun _ => fun
  | [d] => { results := [.lit (.bool true)], args := [d] }
  | _ => none }
def fnExactPosesOfRow : OpenClaim := { program := "ytkmnllcccgnliaa", sum := "0a4bd1eadbdf131ae08d435e7202b442996718a9b3925cb80d22585c8e1e7dce", func := "loop.example/g01099/laws.FnExactPosesOf", spec := "fnExactPosesOf", unfollowed := true, recurses := true, apart := false }
def FnExactPosesOfSaid : Prop := fnExactPosesOfRow.holds Try.pinned (OpenSpec.ofChange fnExactPosesOfSpec)

/-- ITS FALSE NEIGHBOUR: 'it returns false'. Refute it at one input. -/
def fnExactPosesOfWrong : ChangeSpec := { name := "fnExactPosesOf", fn := fun _ => fun
  | [d] => { results := [.lit (.bool false)], args := [d] }
  | _ => none }
def FnExactPosesOfWrongFalsely : Prop := fnExactPosesOfRow.holds Try.pinned (OpenSpec.ofChange fnExactPosesOfWrong)

/-- 'laws.FnSplit': WHATEVER THE INPUT: true; the input reads as it did. -/
def fnSplitSpec : ChangeSpec := { name := "fnSplit", fn := fun _ => fun
  | [d1, d2] => { results := [.lit (.bool true)], args := [d1, d2] }
  | _ => none }
def fnSplitRow : OpenClaim := { program := "ytkmnllcccgnliaa", sum := "0a4bd1eadbdf131ae08d435e7202b442996718a9b3925cb80d22585c8e1e7dce", func := "loop.example/g01099/laws.FnSplit", spec := "fnSplit", unfollowed := true, recurses := true, apart := false }
def FnSplitSaid : Prop := fnSplitRow.holds Try.pinned (OpenSpec.ofChange fnSplitSpec)

/-- ITS FALSE NEIGHBOUR: 'it returns false'. Refute it at one input. -/
def fnSplitWrong : ChangeSpec := { name := "fnSplit", fn := fun _ => fun
  | [d1, d2] => { results := [.lit (.bool false)], args := [d1, d2] }
  | _ => none }
def FnSplitWrongFalsely : Prop := fnSplitRow.holds Try.pinned (OpenSpec.ofChange fnSplitWrong)

/-- 'laws.FnExactLowPoints': WHATEVER THE INPUT: true; the input reads as it did. -/
def fnExactLowPointsSpec : ChangeSpec := { name := "fnExactLowPoints", fn := fun _ => fun
  | [d] => { results := [.lit (.bool true)], args := [d] }
  | _ => none }
def fnExactLowPointsRow : OpenClaim := { program := "ytkmnllcccgnliaa", sum := "0a4bd1eadbdf131ae08d435e7202b442996718a9b3925cb80d22585c8e1e7dce", func := "loop.example/g01099/laws.FnExactLowPoints", spec := "fnExactLowPoints", unfollowed := true, recurses := true, apart := false }
def FnExactLowPointsSaid : Prop := fnExactLowPointsRow.holds Try.pinned (OpenSpec.ofChange fnExactLowPointsSpec)

/-- ITS FALSE NEIGHBOUR: 'it returns false'. Refute it at one input. -/
def fnExactLowPointsWrong : ChangeSpec := { name := "fnExactLowPoints", fn := fun _ => fun
  | [d] => { results := [.lit (.bool false)], args := [d] }
  | _ => none }
def FnExactLowPointsWrongFalsely : Prop := fnExactLowPointsRow.holds Try.pinned (OpenSpec.ofChange fnExactLowPointsWrong)

/-- 'laws.FnExactSplitAxis': WHATEVER THE INPUT: true; the input reads as it did. -/
def fnExactSplitAxisSpec : ChangeSpec := { name := "fnExactSplitAxis", fn := fun _ => fun
  | [d1, d2] => { results := [.lit (.bool true)], args := [d1, d2] }
  | _ => none }
def fnExactSplitAxisRow : OpenClaim := { program := "ytkmnllcccgnliaa", sum := "0a4bd1eadbdf131ae08d435e7202b442996718a9b3925cb80d22585c8e1e7dce", func := "loop.example/g01099/laws.FnExactSplitAxis", spec := "fnExactSplitAxis", unfollowed := true, recurses := true, apart := false }
def FnExactSplitAxisSaid : Prop := fnExactSplitAxisRow.holds Try.pinned (OpenSpec.ofChange fnExactSplitAxisSpec)

/-- ITS FALSE NEIGHBOUR: 'it returns false'. Refute it at one input. -/
def fnExactSplitAxisWrong : ChangeSpec := { name := "fnExactSplitAxis", fn := fun _ => fun
  | [d1, d2] => { results := [.lit (.bool false)], args := [d1, d2] }
  | _ => none }
def FnExactSplitAxisWrongFalsely : Prop := fnExactSplitAxisRow.holds Try.pinned (OpenSpec.ofChange fnExactSplitAxisWrong)

/- THE SECOND FORM. 'bulk': how many values and letters a reading holds, each counted each time it is reached (what is shared counts as often as it is met; a slice's spare places count too). A statement '..UptoSaid' is the law's where the arguments, and the package variables that the reading takes, are together of bulk at most 1048576: NARROWER than '..Said'. Prove '..Said' where nothing that the law and all that it calls make is longer than what came in: it says more and counts as full. Else prove '..UptoSaid'. A law counts once. -/
mutual
def uptoBulk {H : Type} : DataW H → Nat
  | .lit (.string bytes) => bytes.length + 1
  | .lit _ => 1
  | .nil => 1
  | .ptr d => uptoBulk d + 1
  | .slice elems spare => uptoBulkAll elems + uptoBulkAll spare + 1
  | .agg parts => uptoBulkAll parts + 1
  | .iface _ d => uptoBulk d + 1
  | .map entries => uptoBulkEntries entries + 1
  | .held _ => 1
def uptoBulkAll {H : Type} : List (DataW H) → Nat
  | [] => 0
  | d :: r => uptoBulk d + uptoBulkAll r
def uptoBulkEntries {H : Type} : List (Lit × DataW H) → Nat
  | [] => 0
  | x :: r => uptoBulkEntry x + uptoBulkEntries r
def uptoBulkEntry {H : Type} : Lit × DataW H → Nat
  | (.string bytes, d) => bytes.length + uptoBulk d + 1
  | (_, d) => uptoBulk d + 1
 end
def uptoSmall : (H : Type) → List (DataW H) → Bool := fun _ ds => decide (uptoBulkAll ds ≤ 1048576)
def OpenSpec.upto (s : _root_.Go.ChangeSpec) : _root_.Go.OpenSpec := { _root_.Go.OpenSpec.ofChange s with cond := some uptoSmall }

/-- 'laws.FnExactPoseAt', WHERE WHAT IT READS IS OF BULK AT MOST 1048576: true; the input reads as it did. -/
def fnExactPoseAtUptoRow : OpenClaim := { program := "ytkmnllcccgnliaa", sum := "0a4bd1eadbdf131ae08d435e7202b442996718a9b3925cb80d22585c8e1e7dce", func := "loop.example/g01099/laws.FnExactPoseAt", spec := "fnExactPoseAt", unfollowed := true, recurses := true, apart := false, narrowed := true }
def FnExactPoseAtUptoSaid : Prop := fnExactPoseAtUptoRow.holds Try.pinned (OpenSpec.upto fnExactPoseAtSpec)

/-- 'laws.FnClearance', WHERE WHAT IT READS IS OF BULK AT MOST 1048576: true; the input reads as it did. -/
def fnClearanceUptoRow : OpenClaim := { program := "ytkmnllcccgnliaa", sum := "0a4bd1eadbdf131ae08d435e7202b442996718a9b3925cb80d22585c8e1e7dce", func := "loop.example/g01099/laws.FnClearance", spec := "fnClearance", unfollowed := true, recurses := true, apart := false, narrowed := true }
def FnClearanceUptoSaid : Prop := fnClearanceUptoRow.holds Try.pinned (OpenSpec.upto fnClearanceSpec)

/-- 'laws.FnExactCurveAt', WHERE WHAT IT READS IS OF BULK AT MOST 1048576: true; the input reads as it did. -/
def fnExactCurveAtUptoRow : OpenClaim := { program := "ytkmnllcccgnliaa", sum := "0a4bd1eadbdf131ae08d435e7202b442996718a9b3925cb80d22585c8e1e7dce", func := "loop.example/g01099/laws.FnExactCurveAt", spec := "fnExactCurveAt", unfollowed := true, recurses := true, apart := false, narrowed := true }
def FnExactCurveAtUptoSaid : Prop := fnExactCurveAtUptoRow.holds Try.pinned (OpenSpec.upto fnExactCurveAtSpec)

/-- 'laws.FnReversed', WHERE WHAT IT READS IS OF BULK AT MOST 1048576: true; the input reads as it did. -/
def fnReversedUptoRow : OpenClaim := { program := "ytkmnllcccgnliaa", sum := "0a4bd1eadbdf131ae08d435e7202b442996718a9b3925cb80d22585c8e1e7dce", func := "loop.example/g01099/laws.FnReversed", spec := "fnReversed", unfollowed := true, recurses := true, apart := false, narrowed := true }
def FnReversedUptoSaid : Prop := fnReversedUptoRow.holds Try.pinned (OpenSpec.upto fnReversedSpec)

/-- 'laws.FnExactMirrorAxis', WHERE WHAT IT READS IS OF BULK AT MOST 1048576: true; the input reads as it did. -/
def fnExactMirrorAxisUptoRow : OpenClaim := { program := "ytkmnllcccgnliaa", sum := "0a4bd1eadbdf131ae08d435e7202b442996718a9b3925cb80d22585c8e1e7dce", func := "loop.example/g01099/laws.FnExactMirrorAxis", spec := "fnExactMirrorAxis", unfollowed := true, recurses := true, apart := false, narrowed := true }
def FnExactMirrorAxisUptoSaid : Prop := fnExactMirrorAxisUptoRow.holds Try.pinned (OpenSpec.upto fnExactMirrorAxisSpec)

/-- 'laws.FnExactClearanceOf', WHERE WHAT IT READS IS OF BULK AT MOST 1048576: true; the input reads as it did. -/
def fnExactClearanceOfUptoRow : OpenClaim := { program := "ytkmnllcccgnliaa", sum := "0a4bd1eadbdf131ae08d435e7202b442996718a9b3925cb80d22585c8e1e7dce", func := "loop.example/g01099/laws.FnExactClearanceOf", spec := "fnExactClearanceOf", unfollowed := true, recurses := true, apart := false, narrowed := true }
def FnExactClearanceOfUptoSaid : Prop := fnExactClearanceOfUptoRow.holds Try.pinned (OpenSpec.upto fnExactClearanceOfSpec)

/-- 'laws.FnExactNormalAxis', WHERE WHAT IT READS IS OF BULK AT MOST 1048576: true; the input reads as it did. -/
def fnExactNormalAxisUptoRow : OpenClaim := { program := "ytkmnllcccgnliaa", sum := "0a4bd1eadbdf131ae08d435e7202b442996718a9b3925cb80d22585c8e1e7dce", func := "loop.example/g01099/laws.FnExactNormalAxis", spec := "fnExactNormalAxis", unfollowed := true, recurses := true, apart := false, narrowed := true }
def FnExactNormalAxisUptoSaid : Prop := fnExactNormalAxisUptoRow.holds Try.pinned (OpenSpec.upto fnExactNormalAxisSpec)

/-- 'laws.FnPoses', WHERE WHAT IT READS IS OF BULK AT MOST 1048576: true; the input reads as it did. -/
def fnPosesUptoRow : OpenClaim := { program := "ytkmnllcccgnliaa", sum := "0a4bd1eadbdf131ae08d435e7202b442996718a9b3925cb80d22585c8e1e7dce", func := "loop.example/g01099/laws.FnPoses", spec := "fnPoses", unfollowed := true, recurses := true, apart := false, narrowed := true }
def FnPosesUptoSaid : Prop := fnPosesUptoRow.holds Try.pinned (OpenSpec.upto fnPosesSpec)

/-- 'laws.FnExactPosesOf', WHERE WHAT IT READS IS OF BULK AT MOST 1048576: true; the input reads as it did. -/
def fnExactPosesOfUptoRow : OpenClaim := { program := "ytkmnllcccgnliaa", sum := "0a4bd1eadbdf131ae08d435e7202b442996718a9b3925cb80d22585c8e1e7dce", func := "loop.example/g01099/laws.FnExactPosesOf", spec := "fnExactPosesOf", unfollowed := true, recurses := true, apart := false, narrowed := true }
def FnExactPosesOfUptoSaid : Prop := fnExactPosesOfUptoRow.holds Try.pinned (OpenSpec.upto fnExactPosesOfSpec)

/-- 'laws.FnSplit', WHERE WHAT IT READS IS OF BULK AT MOST 1048576: true; the input reads as it did. -/
def fnSplitUptoRow : OpenClaim := { program := "ytkmnllcccgnliaa", sum := "0a4bd1eadbdf131ae08d435e7202b442996718a9b3925cb80d22585c8e1e7dce", func := "loop.example/g01099/laws.FnSplit", spec := "fnSplit", unfollowed := true, recurses := true, apart := false, narrowed := true }
def FnSplitUptoSaid : Prop := fnSplitUptoRow.holds Try.pinned (OpenSpec.upto fnSplitSpec)

/-- 'laws.FnExactLowPoints', WHERE WHAT IT READS IS OF BULK AT MOST 1048576: true; the input reads as it did. -/
def fnExactLowPointsUptoRow : OpenClaim := { program := "ytkmnllcccgnliaa", sum := "0a4bd1eadbdf131ae08d435e7202b442996718a9b3925cb80d22585c8e1e7dce", func := "loop.example/g01099/laws.FnExactLowPoints", spec := "fnExactLowPoints", unfollowed := true, recurses := true, apart := false, narrowed := true }
def FnExactLowPointsUptoSaid : Prop := fnExactLowPointsUptoRow.holds Try.pinned (OpenSpec.upto fnExactLowPointsSpec)

/-- 'laws.FnExactSplitAxis', WHERE WHAT IT READS IS OF BULK AT MOST 1048576: true; the input reads as it did. -/
def fnExactSplitAxisUptoRow : OpenClaim := { program := "ytkmnllcccgnliaa", sum := "0a4bd1eadbdf131ae08d435e7202b442996718a9b3925cb80d22585c8e1e7dce", func := "loop.example/g01099/laws.FnExactSplitAxis", spec := "fnExactSplitAxis", unfollowed := true, recurses := true, apart := false, narrowed := true }
def FnExactSplitAxisUptoSaid : Prop := fnExactSplitAxisUptoRow.holds Try.pinned (OpenSpec.upto fnExactSplitAxisSpec)

end Rows
end Go.Proofs.Ytkmnllcccgnliaa
