/-
  No cell of these rows narrows 'for every input' (looked for: loops, veiled, ifaces, maps, wideKeys, modest, calm, conditions, laid).
  DERIVED. THE GIVEN ROWS OF THIS SEAT. 7 by the template 'for every input the law returns true; each argument reads behind the call as it read before'; 0 by the template 'total and deterministic' (their statements: YtbabgpkfppdfnaaTotals.lean).
  GIVEN WITH THE SEED: the statements are not yours to turn. If you find one false, say at which input.
  Laid BY PROGRAM, IN A SANDBOX (cutbox-rows.mjs): the forced cells as the released guide's own fill.sh prints them over the translation c0676d3637b04d14… (all of the seat's roots in one cut). By AI agents, Wed Nov 11 2026. No macro, syntax, notation, axiom, sorry.
-/
import Derived.Test.YtbabgpkfppdfnaaChecked
import GoSem.Claim
import GoSem.ClaimJoined
import GoSem.ClaimMapViews
import Derived.JoinedTies
import Derived.KernelRfl
namespace Go.Proofs.Ytbabgpkfppdfnaa
/- THE CELL 'sum', in the pinned program and in every row, IS THE sha256 OF THE DUMP (.gsa) THAT YtbabgpkfppdfnaaProg.lean LOADS. Nothing in Lean hashes anything: it is a label: what it is worth is what the hold of that sum in a sandbox is worth. -/
noncomputable def Try.pinned : Pinned := { name := "ytbabgpkfppdfnaa", sum := "c0676d3637b04d14c986eb79686fd799306c3338bf5228b067741b07c6b5a291", checked := Try.checked }
namespace Rows
def none {H : Type} : Left H := { results := [], args := [] }

/-- 'laws.FnExactBalanceOf': WHATEVER THE INPUT: true; the input reads as it did. -/
def fnExactBalanceOfSpec : ChangeSpec := { name := "fnExactBalanceOf", fn := fun _ => fun
  | [d1, d2] => { results := [.lit (.bool true)], args := [d1, d2] }
  | _ => none }
def fnExactBalanceOfRow : OpenClaim := { program := "ytbabgpkfppdfnaa", sum := "c0676d3637b04d14c986eb79686fd799306c3338bf5228b067741b07c6b5a291", func := "loop.example/g01099/laws.FnExactBalanceOf", spec := "fnExactBalanceOf", unfollowed := true, recurses := true, apart := false }
def FnExactBalanceOfSaid : Prop := fnExactBalanceOfRow.holds Try.pinned (OpenSpec.ofChange fnExactBalanceOfSpec)

/-- ITS FALSE NEIGHBOUR: 'it returns false'. Refute it at one input. -/
def fnExactBalanceOfWrong : ChangeSpec := { name := "fnExactBalanceOf", fn := fun _ => fun
  | [d1, d2] => { results := [.lit (.bool false)], args := [d1, d2] }
  | _ => none }
def FnExactBalanceOfWrongFalsely : Prop := fnExactBalanceOfRow.holds Try.pinned (OpenSpec.ofChange fnExactBalanceOfWrong)

/-- 'laws.FnExactGreatestExcess': WHATEVER THE INPUT: true; the input reads as it did. -/
def fnExactGreatestExcessSpec : ChangeSpec := { name := "fnExactGreatestExcess", fn := fun _ => fun
  | [d1, d2] => { results := [.lit (.bool true)], args := [d1, d2] }
  | _ => none }
def fnExactGreatestExcessRow : OpenClaim := { program := "ytbabgpkfppdfnaa", sum := "c0676d3637b04d14c986eb79686fd799306c3338bf5228b067741b07c6b5a291", func := "loop.example/g01099/laws.FnExactGreatestExcess", spec := "fnExactGreatestExcess", unfollowed := true, recurses := true, apart := false }
def FnExactGreatestExcessSaid : Prop := fnExactGreatestExcessRow.holds Try.pinned (OpenSpec.ofChange fnExactGreatestExcessSpec)

/-- ITS FALSE NEIGHBOUR: 'it returns false'. Refute it at one input. -/
def fnExactGreatestExcessWrong : ChangeSpec := { name := "fnExactGreatestExcess", fn := fun _ => fun
  | [d1, d2] => { results := [.lit (.bool false)], args := [d1, d2] }
  | _ => none }
def FnExactGreatestExcessWrongFalsely : Prop := fnExactGreatestExcessRow.holds Try.pinned (OpenSpec.ofChange fnExactGreatestExcessWrong)

/-- 'laws.FnExactSumsOf': WHATEVER THE INPUT: true; the input reads as it did. -/
def fnExactSumsOfSpec : ChangeSpec := { name := "fnExactSumsOf", fn := fun _ => fun
  | [d1, d2] => { results := [.lit (.bool true)], args := [d1, d2] }
  | _ => none }
def fnExactSumsOfRow : OpenClaim := { program := "ytbabgpkfppdfnaa", sum := "c0676d3637b04d14c986eb79686fd799306c3338bf5228b067741b07c6b5a291", func := "loop.example/g01099/laws.FnExactSumsOf", spec := "fnExactSumsOf", unfollowed := true, recurses := true, apart := false }
def FnExactSumsOfSaid : Prop := fnExactSumsOfRow.holds Try.pinned (OpenSpec.ofChange fnExactSumsOfSpec)

/-- ITS FALSE NEIGHBOUR: 'it returns false'. Refute it at one input. -/
def fnExactSumsOfWrong : ChangeSpec := { name := "fnExactSumsOf", fn := fun _ => fun
  | [d1, d2] => { results := [.lit (.bool false)], args := [d1, d2] }
  | _ => none }
def FnExactSumsOfWrongFalsely : Prop := fnExactSumsOfRow.holds Try.pinned (OpenSpec.ofChange fnExactSumsOfWrong)

/-- 'laws.FnExactAlarmOf': WHATEVER THE INPUT: true; the input reads as it did. -/
def fnExactAlarmOfSpec : ChangeSpec := { name := "fnExactAlarmOf", fn := fun _ => fun
  | [d1, d2, d3] => { results := [.lit (.bool true)], args := [d1, d2, d3] }
  | _ => none }
def fnExactAlarmOfRow : OpenClaim := { program := "ytbabgpkfppdfnaa", sum := "c0676d3637b04d14c986eb79686fd799306c3338bf5228b067741b07c6b5a291", func := "loop.example/g01099/laws.FnExactAlarmOf", spec := "fnExactAlarmOf", unfollowed := true, recurses := true, apart := false }
def FnExactAlarmOfSaid : Prop := fnExactAlarmOfRow.holds Try.pinned (OpenSpec.ofChange fnExactAlarmOfSpec)

/-- ITS FALSE NEIGHBOUR: 'it returns false'. Refute it at one input. -/
def fnExactAlarmOfWrong : ChangeSpec := { name := "fnExactAlarmOf", fn := fun _ => fun
  | [d1, d2, d3] => { results := [.lit (.bool false)], args := [d1, d2, d3] }
  | _ => none }
def FnExactAlarmOfWrongFalsely : Prop := fnExactAlarmOfRow.holds Try.pinned (OpenSpec.ofChange fnExactAlarmOfWrong)

/-- 'laws.FnExcess': WHATEVER THE INPUT: true; the input reads as it did. -/
def fnExcessSpec : ChangeSpec := { name := "fnExcess", fn := fun _ => fun
  | [d1, d2] => { results := [.lit (.bool true)], args := [d1, d2] }
  | _ => none }
def fnExcessRow : OpenClaim := { program := "ytbabgpkfppdfnaa", sum := "c0676d3637b04d14c986eb79686fd799306c3338bf5228b067741b07c6b5a291", func := "loop.example/g01099/laws.FnExcess", spec := "fnExcess", unfollowed := true, recurses := true, apart := false }
def FnExcessSaid : Prop := fnExcessRow.holds Try.pinned (OpenSpec.ofChange fnExcessSpec)

/-- ITS FALSE NEIGHBOUR: 'it returns false'. Refute it at one input. -/
def fnExcessWrong : ChangeSpec := { name := "fnExcess", fn := fun _ => fun
  | [d1, d2] => { results := [.lit (.bool false)], args := [d1, d2] }
  | _ => none }
def FnExcessWrongFalsely : Prop := fnExcessRow.holds Try.pinned (OpenSpec.ofChange fnExcessWrong)

/-- 'laws.FnExactLeastAllowance': WHATEVER THE INPUT: true; the input reads as it did. -/
def fnExactLeastAllowanceSpec : ChangeSpec := { name := "fnExactLeastAllowance", fn := fun _ => fun
  | [d1, d2] => { results := [.lit (.bool true)], args := [d1, d2] }
  | _ => none }
def fnExactLeastAllowanceRow : OpenClaim := { program := "ytbabgpkfppdfnaa", sum := "c0676d3637b04d14c986eb79686fd799306c3338bf5228b067741b07c6b5a291", func := "loop.example/g01099/laws.FnExactLeastAllowance", spec := "fnExactLeastAllowance", unfollowed := true, recurses := true, apart := false }
def FnExactLeastAllowanceSaid : Prop := fnExactLeastAllowanceRow.holds Try.pinned (OpenSpec.ofChange fnExactLeastAllowanceSpec)

/-- ITS FALSE NEIGHBOUR: 'it returns false'. Refute it at one input. -/
def fnExactLeastAllowanceWrong : ChangeSpec := { name := "fnExactLeastAllowance", fn := fun _ => fun
  | [d1, d2] => { results := [.lit (.bool false)], args := [d1, d2] }
  | _ => none }
def FnExactLeastAllowanceWrongFalsely : Prop := fnExactLeastAllowanceRow.holds Try.pinned (OpenSpec.ofChange fnExactLeastAllowanceWrong)

/-- 'laws.FnSumAlarms': WHATEVER THE INPUT: true; the input reads as it did. -/
def fnSumAlarmsSpec : ChangeSpec := { name := "fnSumAlarms", fn := fun _ => fun
  | [d1, d2] => { results := [.lit (.bool true)], args := [d1, d2] }
  | _ => none }
def fnSumAlarmsRow : OpenClaim := { program := "ytbabgpkfppdfnaa", sum := "c0676d3637b04d14c986eb79686fd799306c3338bf5228b067741b07c6b5a291", func := "loop.example/g01099/laws.FnSumAlarms", spec := "fnSumAlarms", unfollowed := true, recurses := true, apart := false }
def FnSumAlarmsSaid : Prop := fnSumAlarmsRow.holds Try.pinned (OpenSpec.ofChange fnSumAlarmsSpec)

/-- ITS FALSE NEIGHBOUR: 'it returns false'. Refute it at one input. -/
def fnSumAlarmsWrong : ChangeSpec := { name := "fnSumAlarms", fn := fun _ => fun
  | [d1, d2] => { results := [.lit (.bool false)], args := [d1, d2] }
  | _ => none }
def FnSumAlarmsWrongFalsely : Prop := fnSumAlarmsRow.holds Try.pinned (OpenSpec.ofChange fnSumAlarmsWrong)

/- THE SECOND FORM. 'bulk': how many values and letters a reading holds, each counted each time it is reached (what is shared counts as often as it is met; a slice's spare places count too). A statement '..UptoSaid' is the law's where the arguments, and the package variables that the reading takes, are together of bulk at most 1048576: NARROWER than '..Said'. Prove '..Said' where nothing that the law and all that it calls make is longer than what came in: it says more and counts as full. Else prove '..UptoSaid'. A law counts once. -/
mutual
def uptoBulk {H : Type} : DataW H → Nat
  | .lit (.string bytes) => bytes.length + 1
  | .lit _ => 1
  | .nil => 1
  | .ptr d => uptoBulk d + 1
  | .slice elems spare => uptoBulkAll elems + uptoBulkAll spare + 1
  | .agg parts => uptoBulkAll parts + 1
  | .iface _ d => uptoBulk d + 1
  | .map entries => uptoBulkEntries entries + 1
  | .held _ => 1
def uptoBulkAll {H : Type} : List (DataW H) → Nat
  | [] => 0
  | d :: r => uptoBulk d + uptoBulkAll r
def uptoBulkEntries {H : Type} : List (Lit × DataW H) → Nat
  | [] => 0
  | x :: r => uptoBulkEntry x + uptoBulkEntries r
def uptoBulkEntry {H : Type} : Lit × DataW H → Nat
  | (.string bytes, d) => bytes.length + uptoBulk d + 1
  | (_, d) => uptoBulk d + 1
 end
def uptoSmall : (H : Type) → List (DataW H) → Bool := fun _ ds => decide (uptoBulkAll ds ≤ 1048576)
def OpenSpec.upto (s : _root_.Go.ChangeSpec) : _root_.Go.OpenSpec := { _root_.Go.OpenSpec.ofChange s with cond := some uptoSmall }

/-- 'laws.FnExactBalanceOf', WHERE WHAT IT READS IS OF BULK AT MOST 1048576: true; the input reads as it did. -/
def fnExactBalanceOfUptoRow : OpenClaim := { program := "ytbabgpkfppdfnaa", sum := "c0676d3637b04d14c986eb79686fd799306c3338bf5228b067741b07c6b5a291", func := "loop.example/g01099/laws.FnExactBalanceOf", spec := "fnExactBalanceOf", unfollowed := true, recurses := true, apart := false, narrowed := true }
def FnExactBalanceOfUptoSaid : Prop := fnExactBalanceOfUptoRow.holds Try.pinned (OpenSpec.upto fnExactBalanceOfSpec)

/-- 'laws.FnExactGreatestExcess', WHERE WHAT IT READS IS OF BULK AT MOST 1048576: true; the input reads as it did. -/
def fnExactGreatestExcessUptoRow : OpenClaim := { program := "ytbabgpkfppdfnaa", sum := "c0676d3637b04d14c986eb79686fd799306c3338bf5228b067741b07c6b5a291", func := "loop.example/g01099/laws.FnExactGreatestExcess", spec := "fnExactGreatestExcess", unfollowed := true, recurses := true, apart := false, narrowed := true }
def FnExactGreatestExcessUptoSaid : Prop := fnExactGreatestExcessUptoRow.holds Try.pinned (OpenSpec.upto fnExactGreatestExcessSpec)

/-- 'laws.FnExactSumsOf', WHERE WHAT IT READS IS OF BULK AT MOST 1048576: true; the input reads as it did. -/
def fnExactSumsOfUptoRow : OpenClaim := { program := "ytbabgpkfppdfnaa", sum := "c0676d3637b04d14c986eb79686fd799306c3338bf5228b067741b07c6b5a291", func := "loop.example/g01099/laws.FnExactSumsOf", spec := "fnExactSumsOf", unfollowed := true, recurses := true, apart := false, narrowed := true }
def FnExactSumsOfUptoSaid : Prop := fnExactSumsOfUptoRow.holds Try.pinned (OpenSpec.upto fnExactSumsOfSpec)

/-- 'laws.FnExactAlarmOf', WHERE WHAT IT READS IS OF BULK AT MOST 1048576: true; the input reads as it did. -/
def fnExactAlarmOfUptoRow : OpenClaim := { program := "ytbabgpkfppdfnaa", sum := "c0676d3637b04d14c986eb79686fd799306c3338bf5228b067741b07c6b5a291", func := "loop.example/g01099/laws.FnExactAlarmOf", spec := "fnExactAlarmOf", unfollowed := true, recurses := true, apart := false, narrowed := true }
def FnExactAlarmOfUptoSaid : Prop := fnExactAlarmOfUptoRow.holds Try.pinned (OpenSpec.upto fnExactAlarmOfSpec)

/-- 'laws.FnExcess', WHERE WHAT IT READS IS OF BULK AT MOST 1048576: true; the input reads as it did. -/
def fnExcessUptoRow : OpenClaim := { program := "ytbabgpkfppdfnaa", sum := "c0676d3637b04d14c986eb79686fd799306c3338bf5228b067741b07c6b5a291", func := "loop.example/g01099/laws.FnExcess", spec := "fnExcess", unfollowed := true, recurses := true, apart := false, narrowed := true }
def FnExcessUptoSaid : Prop := fnExcessUptoRow.holds Try.pinned (OpenSpec.upto fnExcessSpec)

/-- 'laws.FnExactLeastAllowance', WHERE WHAT IT READS IS OF BULK AT MOST 1048576: true; the input reads as it did. -/
def fnExactLeastAllowanceUptoRow : OpenClaim := { program := "ytbabgpkfppdfnaa", sum := "c0676d3637b04d14c986eb79686fd799306c3338bf5228b067741b07c6b5a291", func := "loop.example/g01099/laws.FnExactLeastAllowance", spec := "fnExactLeastAllowance", unfollowed := true, recurses := true, apart := false, narrowed := true }
def FnExactLeastAllowanceUptoSaid : Prop := fnExactLeastAllowanceUptoRow.holds Try.pinned (OpenSpec.upto fnExactLeastAllowanceSpec)

/-- 'laws.FnSumAlarms', WHERE WHAT IT READS IS OF BULK AT MOST 1048576: true; the input reads as it did. -/
def fnSumAlarmsUptoRow : OpenClaim := { program := "ytbabgpkfppdfnaa", sum := "c0676d3637b04d14c986eb79686fd799306c3338bf5228b067741b07c6b5a291", func := "loop.example/g01099/laws.FnSumAlarms", spec := "fnSumAlarms", unfollowed := true, recurses := true, apart := false, narrowed := true }
def FnSumAlarmsUptoSaid : Prop := fnSumAlarmsUptoRow.holds Try.pinned (OpenSpec.upto fnSumAlarmsSpec)

end Rows
end Go.Proofs.Ytbabgpkfppdfnaa
