/-
  No cell of these rows narrows 'for every input' (looked for: loops, veiled, ifaces, maps, wideKeys, modest, calm, conditions, laid).
  DERIVED. THE GIVEN ROWS OF THIS SEAT. 8 by the template 'for every input the law returns true; each argument reads behind the call as it read before'; 0 by the template 'total and deterministic' (their statements: YtlkmjldhhoopcaaTotals.lean).
  GIVEN WITH THE SEED: the statements are not yours to turn. If you find one false, say at which input.
  Laid BY PROGRAM, IN A SANDBOX (cutbox-rows.mjs): the forced cells as the released guide's own fill.sh prints them over the translation 4dd0f5d5bae9a636… (all of the seat's roots in one cut). By AI agents, Wed Nov 11 2026. No macro, syntax, notation, axiom, sorry.
-/
import Derived.Test.YtlkmjldhhoopcaaChecked
import GoSem.Claim
import GoSem.ClaimJoined
import GoSem.ClaimMapViews
import Derived.JoinedTies
import Derived.KernelRfl
namespace Go.Proofs.Ytlkmjldhhoopcaa
/- THE CELL 'sum', in the pinned program and in every row, IS THE sha256 OF THE DUMP (.gsa) THAT YtlkmjldhhoopcaaProg.lean LOADS. Nothing in Lean hashes anything: it is a label: what it is worth is what the hold of that sum in a sandbox is worth. -/
noncomputable def Try.pinned : Pinned := { name := "ytlkmjldhhoopcaa", sum := "4dd0f5d5bae9a636e9e10cd55ac863807b3117ae30043255dec57b04353a5190", checked := Try.checked }
namespace Rows
def none {H : Type} : Left H := { results := [], args := [] }

/-- 'laws.FnExactValidGround': WHATEVER THE INPUT: true; the input reads as it did. -/
def fnExactValidGroundSpec : ChangeSpec := { name := "fnExactValidGround", fn := fun _ => fun
  | [d] => { results := [.lit (.bool true)], args := [d] }
  | _ => none }
def fnExactValidGroundRow : OpenClaim := { program := "ytlkmjldhhoopcaa", sum := "4dd0f5d5bae9a636e9e10cd55ac863807b3117ae30043255dec57b04353a5190", func := "loop.example/g01099/laws.FnExactValidGround", spec := "fnExactValidGround", unfollowed := true, recurses := true, apart := false }
def FnExactValidGroundSaid : Prop := fnExactValidGroundRow.holds Try.pinned (OpenSpec.ofChange fnExactValidGroundSpec)

/-- ITS FALSE NEIGHBOUR: 'it returns false'. Refute it at one input. -/
def fnExactValidGroundWrong : ChangeSpec := { name := "fnExactValidGround", fn := fun _ => fun
  | [d] => { results := [.lit (.bool false)], args := [d] }
  | _ => none }
def FnExactValidGroundWrongFalsely : Prop := fnExactValidGroundRow.holds Try.pinned (OpenSpec.ofChange fnExactValidGroundWrong)

/-- 'laws.FnLayers': WHATEVER THE INPUT: true; the input reads as it did. -/
def fnLayersSpec : ChangeSpec := { name := "fnLayers", fn := fun _ => fun
  | [d1, d2] => { results := [.lit (.bool true)], args := [d1, d2] }
  | _ => none }
def fnLayersRow : OpenClaim := { program := "ytlkmjldhhoopcaa", sum := "4dd0f5d5bae9a636e9e10cd55ac863807b3117ae30043255dec57b04353a5190", func := "loop.example/g01099/laws.FnLayers", spec := "fnLayers", unfollowed := true, recurses := true, apart := false }
def FnLayersSaid : Prop := fnLayersRow.holds Try.pinned (OpenSpec.ofChange fnLayersSpec)

/-- ITS FALSE NEIGHBOUR: 'it returns false'. Refute it at one input. -/
def fnLayersWrong : ChangeSpec := { name := "fnLayers", fn := fun _ => fun
  | [d1, d2] => { results := [.lit (.bool false)], args := [d1, d2] }
  | _ => none }
def FnLayersWrongFalsely : Prop := fnLayersRow.holds Try.pinned (OpenSpec.ofChange fnLayersWrong)

/-- 'laws.FnFaces': WHATEVER THE INPUT: true; the input reads as it did. -/
def fnFacesSpec : ChangeSpec := { name := "fnFaces", fn := fun _ => fun
  | [d1, d2] => { results := [.lit (.bool true)], args := [d1, d2] }
  | _ => none }
def fnFacesRow : OpenClaim := { program := "ytlkmjldhhoopcaa", sum := "4dd0f5d5bae9a636e9e10cd55ac863807b3117ae30043255dec57b04353a5190", func := "loop.example/g01099/laws.FnFaces", spec := "fnFaces", unfollowed := true, recurses := true, apart := false }
def FnFacesSaid : Prop := fnFacesRow.holds Try.pinned (OpenSpec.ofChange fnFacesSpec)

/-- ITS FALSE NEIGHBOUR: 'it returns false'. Refute it at one input. -/
def fnFacesWrong : ChangeSpec := { name := "fnFaces", fn := fun _ => fun
  | [d1, d2] => { results := [.lit (.bool false)], args := [d1, d2] }
  | _ => none }
def FnFacesWrongFalsely : Prop := fnFacesRow.holds Try.pinned (OpenSpec.ofChange fnFacesWrong)

/-- 'laws.FnExactClassAt': WHATEVER THE INPUT: true; the input reads as it did. -/
def fnExactClassAtSpec : ChangeSpec := { name := "fnExactClassAt", fn := fun _ => fun
  | [d1, d2, d3] => { results := [.lit (.bool true)], args := [d1, d2, d3] }
  | _ => none }
def fnExactClassAtRow : OpenClaim := { program := "ytlkmjldhhoopcaa", sum := "4dd0f5d5bae9a636e9e10cd55ac863807b3117ae30043255dec57b04353a5190", func := "loop.example/g01099/laws.FnExactClassAt", spec := "fnExactClassAt", unfollowed := true, recurses := true, apart := false }
def FnExactClassAtSaid : Prop := fnExactClassAtRow.holds Try.pinned (OpenSpec.ofChange fnExactClassAtSpec)

/-- ITS FALSE NEIGHBOUR: 'it returns false'. Refute it at one input. -/
def fnExactClassAtWrong : ChangeSpec := { name := "fnExactClassAt", fn := fun _ => fun
  | [d1, d2, d3] => { results := [.lit (.bool false)], args := [d1, d2, d3] }
  | _ => none }
def FnExactClassAtWrongFalsely : Prop := fnExactClassAtRow.holds Try.pinned (OpenSpec.ofChange fnExactClassAtWrong)

/-- 'laws.FnExactDropHole': WHATEVER THE INPUT: true; the input reads as it did. -/
def fnExactDropHoleSpec : ChangeSpec := { name := "fnExactDropHole", fn := fun _ => fun
  | [d1, d2] => { results := [.lit (.bool true)], args := [d1, d2] }
  | _ => none }
def fnExactDropHoleRow : OpenClaim := { program := "ytlkmjldhhoopcaa", sum := "4dd0f5d5bae9a636e9e10cd55ac863807b3117ae30043255dec57b04353a5190", func := "loop.example/g01099/laws.FnExactDropHole", spec := "fnExactDropHole", unfollowed := true, recurses := true, apart := false }
def FnExactDropHoleSaid : Prop := fnExactDropHoleRow.holds Try.pinned (OpenSpec.ofChange fnExactDropHoleSpec)

/-- ITS FALSE NEIGHBOUR: 'it returns false'. Refute it at one input. -/
def fnExactDropHoleWrong : ChangeSpec := { name := "fnExactDropHole", fn := fun _ => fun
  | [d1, d2] => { results := [.lit (.bool false)], args := [d1, d2] }
  | _ => none }
def FnExactDropHoleWrongFalsely : Prop := fnExactDropHoleRow.holds Try.pinned (OpenSpec.ofChange fnExactDropHoleWrong)

/-- 'laws.FnExactTopsAt': WHATEVER THE INPUT: true; the input reads as it did. -/
def fnExactTopsAtSpec : ChangeSpec := { name := "fnExactTopsAt", fn := fun _ => fun
  | [d1, d2] => { results := [.lit (.bool true)], args := [d1, d2] }
  | _ => none }
def fnExactTopsAtRow : OpenClaim := { program := "ytlkmjldhhoopcaa", sum := "4dd0f5d5bae9a636e9e10cd55ac863807b3117ae30043255dec57b04353a5190", func := "loop.example/g01099/laws.FnExactTopsAt", spec := "fnExactTopsAt", unfollowed := true, recurses := true, apart := false }
def FnExactTopsAtSaid : Prop := fnExactTopsAtRow.holds Try.pinned (OpenSpec.ofChange fnExactTopsAtSpec)

/-- ITS FALSE NEIGHBOUR: 'it returns false'. Refute it at one input. -/
def fnExactTopsAtWrong : ChangeSpec := { name := "fnExactTopsAt", fn := fun _ => fun
  | [d1, d2] => { results := [.lit (.bool false)], args := [d1, d2] }
  | _ => none }
def FnExactTopsAtWrongFalsely : Prop := fnExactTopsAtRow.holds Try.pinned (OpenSpec.ofChange fnExactTopsAtWrong)

/-- 'laws.FnBalanced': WHATEVER THE INPUT: true; the input reads as it did. -/
def fnBalancedSpec : ChangeSpec := { name := "fnBalanced", fn := fun _ => fun
  | [d1, d2] => { results := [.lit (.bool true)], args := [d1, d2] }
  | _ => none }
def fnBalancedRow : OpenClaim := { program := "ytlkmjldhhoopcaa", sum := "4dd0f5d5bae9a636e9e10cd55ac863807b3117ae30043255dec57b04353a5190", func := "loop.example/g01099/laws.FnBalanced", spec := "fnBalanced", unfollowed := true, recurses := true, apart := false }
def FnBalancedSaid : Prop := fnBalancedRow.holds Try.pinned (OpenSpec.ofChange fnBalancedSpec)

/-- ITS FALSE NEIGHBOUR: 'it returns false'. Refute it at one input. -/
def fnBalancedWrong : ChangeSpec := { name := "fnBalanced", fn := fun _ => fun
  | [d1, d2] => { results := [.lit (.bool false)], args := [d1, d2] }
  | _ => none }
def FnBalancedWrongFalsely : Prop := fnBalancedRow.holds Try.pinned (OpenSpec.ofChange fnBalancedWrong)

/-- 'laws.FnHoles': WHATEVER THE INPUT: true; the input reads as it did. -/
def fnHolesSpec : ChangeSpec := { name := "fnHoles", fn := fun _ => fun
  | [d1, d2] => { results := [.lit (.bool true)], args := [d1, d2] }
  | _ => none }
def fnHolesRow : OpenClaim := { program := "ytlkmjldhhoopcaa", sum := "4dd0f5d5bae9a636e9e10cd55ac863807b3117ae30043255dec57b04353a5190", func := "loop.example/g01099/laws.FnHoles", spec := "fnHoles", inPlace := ["slices.overlaps[loop.example/g01099/impl.Hole]"], unfollowed := true, recurses := true, apart := false }
def FnHolesSaid : Prop := fnHolesRow.holds Try.pinned (OpenSpec.ofChange fnHolesSpec)

/-- ITS FALSE NEIGHBOUR: 'it returns false'. Refute it at one input. -/
def fnHolesWrong : ChangeSpec := { name := "fnHoles", fn := fun _ => fun
  | [d1, d2] => { results := [.lit (.bool false)], args := [d1, d2] }
  | _ => none }
def FnHolesWrongFalsely : Prop := fnHolesRow.holds Try.pinned (OpenSpec.ofChange fnHolesWrong)

/- THE SECOND FORM. 'bulk': how many values and letters a reading holds, each counted each time it is reached (what is shared counts as often as it is met; a slice's spare places count too). A statement '..UptoSaid' is the law's where the arguments, and the package variables that the reading takes, are together of bulk at most 1048576: NARROWER than '..Said'. Prove '..Said' where nothing that the law and all that it calls make is longer than what came in: it says more and counts as full. Else prove '..UptoSaid'. A law counts once. -/
mutual
def uptoBulk {H : Type} : DataW H → Nat
  | .lit (.string bytes) => bytes.length + 1
  | .lit _ => 1
  | .nil => 1
  | .ptr d => uptoBulk d + 1
  | .slice elems spare => uptoBulkAll elems + uptoBulkAll spare + 1
  | .agg parts => uptoBulkAll parts + 1
  | .iface _ d => uptoBulk d + 1
  | .map entries => uptoBulkEntries entries + 1
  | .held _ => 1
def uptoBulkAll {H : Type} : List (DataW H) → Nat
  | [] => 0
  | d :: r => uptoBulk d + uptoBulkAll r
def uptoBulkEntries {H : Type} : List (Lit × DataW H) → Nat
  | [] => 0
  | x :: r => uptoBulkEntry x + uptoBulkEntries r
def uptoBulkEntry {H : Type} : Lit × DataW H → Nat
  | (.string bytes, d) => bytes.length + uptoBulk d + 1
  | (_, d) => uptoBulk d + 1
 end
def uptoSmall : (H : Type) → List (DataW H) → Bool := fun _ ds => decide (uptoBulkAll ds ≤ 1048576)
def OpenSpec.upto (s : _root_.Go.ChangeSpec) : _root_.Go.OpenSpec := { _root_.Go.OpenSpec.ofChange s with cond := some uptoSmall }

/-- 'laws.FnExactValidGround', WHERE WHAT IT READS IS OF BULK AT MOST 1048576: true; the input reads as it did. -/
def fnExactValidGroundUptoRow : OpenClaim := { program := "ytlkmjldhhoopcaa", sum := "4dd0f5d5bae9a636e9e10cd55ac863807b3117ae30043255dec57b04353a5190", func := "loop.example/g01099/laws.FnExactValidGround", spec := "fnExactValidGround", unfollowed := true, recurses := true, apart := false, narrowed := true }
def FnExactValidGroundUptoSaid : Prop := fnExactValidGroundUptoRow.holds Try.pinned (OpenSpec.upto fnExactValidGroundSpec)

/-- 'laws.FnLayers', WHERE WHAT IT READS IS OF BULK AT MOST 1048576: true; the input reads as it did. -/
def fnLayersUptoRow : OpenClaim := { program := "ytlkmjldhhoopcaa", sum := "4dd0f5d5bae9a636e9e10cd55ac863807b3117ae30043255dec57b04353a5190", func := "loop.example/g01099/laws.FnLayers", spec := "fnLayers", unfollowed := true, recurses := true, apart := false, narrowed := true }
def FnLayersUptoSaid : Prop := fnLayersUptoRow.holds Try.pinned (OpenSpec.upto fnLayersSpec)

/-- 'laws.FnFaces', WHERE WHAT IT READS IS OF BULK AT MOST 1048576: true; the input reads as it did. -/
def fnFacesUptoRow : OpenClaim := { program := "ytlkmjldhhoopcaa", sum := "4dd0f5d5bae9a636e9e10cd55ac863807b3117ae30043255dec57b04353a5190", func := "loop.example/g01099/laws.FnFaces", spec := "fnFaces", unfollowed := true, recurses := true, apart := false, narrowed := true }
def FnFacesUptoSaid : Prop := fnFacesUptoRow.holds Try.pinned (OpenSpec.upto fnFacesSpec)

/-- 'laws.FnExactClassAt', WHERE WHAT IT READS IS OF BULK AT MOST 1048576: true; the input reads as it did. -/
def fnExactClassAtUptoRow : OpenClaim := { program := "ytlkmjldhhoopcaa", sum := "4dd0f5d5bae9a636e9e10cd55ac863807b3117ae30043255dec57b04353a5190", func := "loop.example/g01099/laws.FnExactClassAt", spec := "fnExactClassAt", unfollowed := true, recurses := true, apart := false, narrowed := true }
def FnExactClassAtUptoSaid : Prop := fnExactClassAtUptoRow.holds Try.pinned (OpenSpec.upto fnExactClassAtSpec)

/-- 'laws.FnExactDropHole', WHERE WHAT IT READS IS OF BULK AT MOST 1048576: true; the input reads as it did. -/
def fnExactDropHoleUptoRow : OpenClaim := { program := "ytlkmjldhhoopcaa", sum := "4dd0f5d5bae9a636e9e10cd55ac863807b3117ae30043255dec57b04353a5190", func := "loop.example/g01099/laws.FnExactDropHole", spec := "fnExactDropHole", unfollowed := true, recurses := true, apart := false, narrowed := true }
def FnExactDropHoleUptoSaid : Prop := fnExactDropHoleUptoRow.holds Try.pinned (OpenSpec.upto fnExactDropHoleSpec)

/-- 'laws.FnExactTopsAt', WHERE WHAT IT READS IS OF BULK AT MOST 1048576: true; the input reads as it did. -/
def fnExactTopsAtUptoRow : OpenClaim := { program := "ytlkmjldhhoopcaa", sum := "4dd0f5d5bae9a636e9e10cd55ac863807b3117ae30043255dec57b04353a5190", func := "loop.example/g01099/laws.FnExactTopsAt", spec := "fnExactTopsAt", unfollowed := true, recurses := true, apart := false, narrowed := true }
def FnExactTopsAtUptoSaid : Prop := fnExactTopsAtUptoRow.holds Try.pinned (OpenSpec.upto fnExactTopsAtSpec)

/-- 'laws.FnBalanced', WHERE WHAT IT READS IS OF BULK AT MOST 1048576: true; the input reads as it did. -/
def fnBalancedUptoRow : OpenClaim := { program := "ytlkmjldhhoopcaa", sum := "4dd0f5d5bae9a636e9e10cd55ac863807b3117ae30043255dec57b04353a5190", func := "loop.example/g01099/laws.FnBalanced", spec := "fnBalanced", unfollowed := true, recurses := true, apart := false, narrowed := true }
def FnBalancedUptoSaid : Prop := fnBalancedUptoRow.holds Try.pinned (OpenSpec.upto fnBalancedSpec)

/-- 'laws.FnHoles', WHERE WHAT IT READS IS OF BULK AT MOST 1048576: true; the input reads as it did. -/
def fnHolesUptoRow : OpenClaim := { program := "ytlkmjldhhoopcaa", sum := "4dd0f5d5bae9a636e9e10cd55ac863807b3117ae30043255dec57b04353a5190", func := "loop.example/g01099/laws.FnHoles", spec := "fnHoles", inPlace := ["slices.overlaps[loop.example/g01099/impl.Hole]"], unfollowed := true, recurses := true, apart := false, narrowed := true }
def FnHolesUptoSaid : Prop := fnHolesUptoRow.holds Try.pinned (OpenSpec.upto fnHolesSpec)

end Rows
end Go.Proofs.Ytlkmjldhhoopcaa
