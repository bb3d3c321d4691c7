/-
  No cell of these rows narrows 'for every input' (looked for: loops, veiled, ifaces, maps, wideKeys, modest, calm, conditions, laid).
  DERIVED. THE GIVEN ROWS OF THIS SEAT. 4 by the template 'for every input the law returns true; each argument reads behind the call as it read before'; 0 by the template 'total and deterministic' (their statements: YtgknckbplbldbaaTotals.lean).
  GIVEN WITH THE SEED: the statements are not yours to turn. If you find one false, say at which input.
  Laid BY PROGRAM, IN A SANDBOX (cutbox-rows.mjs): the forced cells as the released guide's own fill.sh prints them over the translation e179437a099b1d9d… (all of the seat's roots in one cut). By AI agents, Wed Nov 11 2026. No macro, syntax, notation, axiom, sorry.
-/
import Derived.Test.YtgknckbplbldbaaChecked
import GoSem.Claim
import GoSem.ClaimJoined
import GoSem.ClaimMapViews
import Derived.JoinedTies
import Derived.KernelRfl
namespace Go.Proofs.Ytgknckbplbldbaa
/- THE CELL 'sum', in the pinned program and in every row, IS THE sha256 OF THE DUMP (.gsa) THAT YtgknckbplbldbaaProg.lean LOADS. Nothing in Lean hashes anything: it is a label: what it is worth is what the hold of that sum in a sandbox is worth. -/
noncomputable def Try.pinned : Pinned := { name := "ytgknckbplbldbaa", sum := "e179437a099b1d9d0da640f102cb19592e6fbc830931e68b30c1658076624fde", checked := Try.checked }
namespace Rows
def none {H : Type} : Left H := { results := [], args := [] }

/-- 'laws.FnExactJoinAxes': WHATEVER THE INPUT: true; the input reads as it did. -/
def fnExactJoinAxesSpec : ChangeSpec := { name := "fnExactJoinAxes", fn := fun _ => fun
  | [d1, d2] => { results := [.lit (.bool true)], args := [d1, d2] }
  | _ => none }
def fnExactJoinAxesRow : OpenClaim := { program := "ytgknckbplbldbaa", sum := "e179437a099b1d9d0da640f102cb19592e6fbc830931e68b30c1658076624fde", func := "loop.example/g01099/laws.FnExactJoinAxes", spec := "fnExactJoinAxes", unfollowed := true, recurses := true, apart := false }
def FnExactJoinAxesSaid : Prop := fnExactJoinAxesRow.holds Try.pinned (OpenSpec.ofChange fnExactJoinAxesSpec)

/-- ITS FALSE NEIGHBOUR: 'it returns false'. Refute it at one input. -/
def fnExactJoinAxesWrong : ChangeSpec := { name := "fnExactJoinAxes", fn := fun _ => fun
  | [d1, d2] => { results := [.lit (.bool false)], args := [d1, d2] }
  | _ => none }
def FnExactJoinAxesWrongFalsely : Prop := fnExactJoinAxesRow.holds Try.pinned (OpenSpec.ofChange fnExactJoinAxesWrong)

/-- 'laws.FnExactAxisOf': WHATEVER THE INPUT: true; the input reads as it did. -/
def fnExactAxisOfSpec : ChangeSpec := { name := "fnExactAxisOf", fn := fun _ => fun
  | [d] => { results := [.lit (.bool true)], args := [d] }
  | _ => none }
def fnExactAxisOfRow : OpenClaim := { program := "ytgknckbplbldbaa", sum := "e179437a099b1d9d0da640f102cb19592e6fbc830931e68b30c1658076624fde", func := "loop.example/g01099/laws.FnExactAxisOf", spec := "fnExactAxisOf", unfollowed := true, recurses := true, apart := false }
def FnExactAxisOfSaid : Prop := fnExactAxisOfRow.holds Try.pinned (OpenSpec.ofChange fnExactAxisOfSpec)

/-- ITS FALSE NEIGHBOUR: 'it returns false'. Refute it at one input. -/
def fnExactAxisOfWrong : ChangeSpec := { name := "fnExactAxisOf", fn := fun _ => fun
  | [d] => { results := [.lit (.bool false)], args := [d] }
  | _ => none }
def FnExactAxisOfWrongFalsely : Prop := fnExactAxisOfRow.holds Try.pinned (OpenSpec.ofChange fnExactAxisOfWrong)

/-- 'laws.FnExactDeviationsOf': WHATEVER THE INPUT: true; the input reads as it did. -/
def fnExactDeviationsOfSpec : ChangeSpec := { name := "fnExactDeviationsOf", fn := fun _ => fun
  | [d1, d2] => { results := [.lit (.bool true)], args := [d1, d2] }
  | _ => none }
def fnExactDeviationsOfRow : OpenClaim := { program := "ytgknckbplbldbaa", sum := "e179437a099b1d9d0da640f102cb19592e6fbc830931e68b30c1658076624fde", func := "loop.example/g01099/laws.FnExactDeviationsOf", spec := "fnExactDeviationsOf", unfollowed := true, recurses := true, apart := false }
def FnExactDeviationsOfSaid : Prop := fnExactDeviationsOfRow.holds Try.pinned (OpenSpec.ofChange fnExactDeviationsOfSpec)

/-- ITS FALSE NEIGHBOUR: 'it returns false'. Refute it at one input. -/
def fnExactDeviationsOfWrong : ChangeSpec := { name := "fnExactDeviationsOf", fn := fun _ => fun
  | [d1, d2] => { results := [.lit (.bool false)], args := [d1, d2] }
  | _ => none }
def FnExactDeviationsOfWrongFalsely : Prop := fnExactDeviationsOfRow.holds Try.pinned (OpenSpec.ofChange fnExactDeviationsOfWrong)

/-- 'laws.FnExactReverseAxis': WHATEVER THE INPUT: true; the input reads as it did. -/
def fnExactReverseAxisSpec : ChangeSpec := { name := "fnExactReverseAxis", fn := fun _ => fun
  | [d] => { results := [.lit (.bool true)], args := [d] }
  | _ => none }
def fnExactReverseAxisRow : OpenClaim := { program := "ytgknckbplbldbaa", sum := "e179437a099b1d9d0da640f102cb19592e6fbc830931e68b30c1658076624fde", func := "loop.example/g01099/laws.FnExactReverseAxis", spec := "fnExactReverseAxis", unfollowed := true, recurses := true, apart := false }
def FnExactReverseAxisSaid : Prop := fnExactReverseAxisRow.holds Try.pinned (OpenSpec.ofChange fnExactReverseAxisSpec)

/-- ITS FALSE NEIGHBOUR: 'it returns false'. Refute it at one input. -/
def fnExactReverseAxisWrong : ChangeSpec := { name := "fnExactReverseAxis", fn := fun _ => fun
  | [d] => { results := [.lit (.bool false)], args := [d] }
  | _ => none }
def FnExactReverseAxisWrongFalsely : Prop := fnExactReverseAxisRow.holds Try.pinned (OpenSpec.ofChange fnExactReverseAxisWrong)

/- THE SECOND FORM. 'bulk': how many values and letters a reading holds, each counted each time it is reached (what is shared counts as often as it is met; a slice's spare places count too). A statement '..UptoSaid' is the law's where the arguments, and the package variables that the reading takes, are together of bulk at most 1048576: NARROWER than '..Said'. Prove '..Said' where nothing that the law and all that it calls make is longer than what came in: it says more and counts as full. Else prove '..UptoSaid'. A law counts once. -/
mutual
def uptoBulk {H : Type} : DataW H → Nat
  | .lit (.string bytes) => bytes.length + 1
  | .lit _ => 1
  | .nil => 1
  | .ptr d => uptoBulk d + 1
  | .slice elems spare => uptoBulkAll elems + uptoBulkAll spare + 1
  | .agg parts => uptoBulkAll parts + 1
  | .iface _ d => uptoBulk d + 1
  | .map entries => uptoBulkEntries entries + 1
  | .held _ => 1
def uptoBulkAll {H : Type} : List (DataW H) → Nat
  | [] => 0
  | d :: r => uptoBulk d + uptoBulkAll r
def uptoBulkEntries {H : Type} : List (Lit × DataW H) → Nat
  | [] => 0
  | x :: r => uptoBulkEntry x + uptoBulkEntries r
def uptoBulkEntry {H : Type} : Lit × DataW H → Nat
  | (.string bytes, d) => bytes.length + uptoBulk d + 1
  | (_, d) => uptoBulk d + 1
 end
def uptoSmall : (H : Type) → List (DataW H) → Bool := fun _ ds => decide (uptoBulkAll ds ≤ 1048576)
def OpenSpec.upto (s : _root_.Go.ChangeSpec) : _root_.Go.OpenSpec := { _root_.Go.OpenSpec.ofChange s with cond := some uptoSmall }

/-- 'laws.FnExactJoinAxes', WHERE WHAT IT READS IS OF BULK AT MOST 1048576: true; the input reads as it did. -/
def fnExactJoinAxesUptoRow : OpenClaim := { program := "ytgknckbplbldbaa", sum := "e179437a099b1d9d0da640f102cb19592e6fbc830931e68b30c1658076624fde", func := "loop.example/g01099/laws.FnExactJoinAxes", spec := "fnExactJoinAxes", unfollowed := true, recurses := true, apart := false, narrowed := true }
def FnExactJoinAxesUptoSaid : Prop := fnExactJoinAxesUptoRow.holds Try.pinned (OpenSpec.upto fnExactJoinAxesSpec)

/-- 'laws.FnExactAxisOf', WHERE WHAT IT READS IS OF BULK AT MOST 1048576: true; the input reads as it did. -/
def fnExactAxisOfUptoRow : OpenClaim := { program := "ytgknckbplbldbaa", sum := "e179437a099b1d9d0da640f102cb19592e6fbc830931e68b30c1658076624fde", func := "loop.example/g01099/laws.FnExactAxisOf", spec := "fnExactAxisOf", unfollowed := true, recurses := true, apart := false, narrowed := true }
def FnExactAxisOfUptoSaid : Prop := fnExactAxisOfUptoRow.holds Try.pinned (OpenSpec.upto fnExactAxisOfSpec)

/-- 'laws.FnExactDeviationsOf', WHERE WHAT IT READS IS OF BULK AT MOST 1048576: true; the input reads as it did. -/
def fnExactDeviationsOfUptoRow : OpenClaim := { program := "ytgknckbplbldbaa", sum := "e179437a099b1d9d0da640f102cb19592e6fbc830931e68b30c1658076624fde", func := "loop.example/g01099/laws.FnExactDeviationsOf", spec := "fnExactDeviationsOf", unfollowed := true, recurses := true, apart := false, narrowed := true }
def FnExactDeviationsOfUptoSaid : Prop := fnExactDeviationsOfUptoRow.holds Try.pinned (OpenSpec.upto fnExactDeviationsOfSpec)

/-- 'laws.FnExactReverseAxis', WHERE WHAT IT READS IS OF BULK AT MOST 1048576: true; the input reads as it did. -/
def fnExactReverseAxisUptoRow : OpenClaim := { program := "ytgknckbplbldbaa", sum := "e179437a099b1d9d0da640f102cb19592e6fbc830931e68b30c1658076624fde", func := "loop.example/g01099/laws.FnExactReverseAxis", spec := "fnExactReverseAxis", unfollowed := true, recurses := true, apart := false, narrowed := true }
def FnExactReverseAxisUptoSaid : Prop := fnExactReverseAxisUptoRow.holds Try.pinned (OpenSpec.upto fnExactReverseAxisSpec)

end Rows
end Go.Proofs.Ytgknckbplbldbaa
