/-
  No cell of these rows narrows 'for every input' (looked for: loops, veiled, ifaces, maps, wideKeys, modest, calm, conditions, laid).
  DERIVED. THE GIVEN ROWS OF THIS SEAT. 7 by the template 'for every input the law returns true; each argument reads behind the call as it read before'; 0 by the template 'total and deterministic' (their statements: YtncdmooobfomeaaTotals.lean).
  GIVEN WITH THE SEED: the statements are not yours to turn. If you find one false, say at which input.
  Laid BY PROGRAM, IN A SANDBOX (cutbox-rows.mjs): the forced cells as the released guide's own fill.sh prints them over the translation 256c2d95f871c3c2… (all of the seat's roots in one cut). By AI agents, Wed Nov 11 2026. No macro, syntax, notation, axiom, sorry.
-/
import Derived.Test.YtncdmooobfomeaaChecked
import GoSem.Claim
import GoSem.ClaimJoined
import GoSem.ClaimMapViews
import Derived.JoinedTies
import Derived.KernelRfl
namespace Go.Proofs.Ytncdmooobfomeaa
/- THE CELL 'sum', in the pinned program and in every row, IS THE sha256 OF THE DUMP (.gsa) THAT YtncdmooobfomeaaProg.lean LOADS. Nothing in Lean hashes anything: it is a label: what it is worth is what the hold of that sum in a sandbox is worth. -/
noncomputable def Try.pinned : Pinned := { name := "ytncdmooobfomeaa", sum := "256c2d95f871c3c244816b9006b7093bc5550c67bba4caa54d2321f8cf795a34", checked := Try.checked }
namespace Rows
def none {H : Type} : Left H := { results := [], args := [] }

/-- 'laws.FnGaps': WHATEVER THE INPUT: true; the input reads as it did. -/
def fnGapsSpec : ChangeSpec := { name := "fnGaps", fn := fun _ => fun
  | [d1, d2] => { results := [.lit (.bool true)], args := [d1, d2] }
  | _ => none }
def fnGapsRow : OpenClaim := { program := "ytncdmooobfomeaa", sum := "256c2d95f871c3c244816b9006b7093bc5550c67bba4caa54d2321f8cf795a34", func := "loop.example/g01099/laws.FnGaps", spec := "fnGaps", unfollowed := true, recurses := true, apart := false }
def FnGapsSaid : Prop := fnGapsRow.holds Try.pinned (OpenSpec.ofChange fnGapsSpec)

/-- ITS FALSE NEIGHBOUR: 'it returns false'. Refute it at one input. -/
def fnGapsWrong : ChangeSpec := { name := "fnGaps", fn := fun _ => fun
  | [d1, d2] => { results := [.lit (.bool false)], args := [d1, d2] }
  | _ => none }
def FnGapsWrongFalsely : Prop := fnGapsRow.holds Try.pinned (OpenSpec.ofChange fnGapsWrong)

/-- 'laws.FnExactOutlookOf': WHATEVER THE INPUT: true; the input reads as it did. -/
def fnExactOutlookOfSpec : ChangeSpec := { name := "fnExactOutlookOf", fn := fun _ => fun
  | [d1, d2] => { results := [.lit (.bool true)], args := [d1, d2] }
  | _ => none }
def fnExactOutlookOfRow : OpenClaim := { program := "ytncdmooobfomeaa", sum := "256c2d95f871c3c244816b9006b7093bc5550c67bba4caa54d2321f8cf795a34", func := "loop.example/g01099/laws.FnExactOutlookOf", spec := "fnExactOutlookOf", unfollowed := true, recurses := true, apart := false }
def FnExactOutlookOfSaid : Prop := fnExactOutlookOfRow.holds Try.pinned (OpenSpec.ofChange fnExactOutlookOfSpec)

/-- ITS FALSE NEIGHBOUR: 'it returns false'. Refute it at one input. -/
def fnExactOutlookOfWrong : ChangeSpec := { name := "fnExactOutlookOf", fn := fun _ => fun
  | [d1, d2] => { results := [.lit (.bool false)], args := [d1, d2] }
  | _ => none }
def FnExactOutlookOfWrongFalsely : Prop := fnExactOutlookOfRow.holds Try.pinned (OpenSpec.ofChange fnExactOutlookOfWrong)

/-- 'laws.FnKeys': WHATEVER THE INPUT: true; the input reads as it did. -/
def fnKeysSpec : ChangeSpec := { name := "fnKeys", fn := fun _ => fun
  | [d1, d2] => { results := [.lit (.bool true)], args := [d1, d2] }
  | _ => none }
def fnKeysRow : OpenClaim := { program := "ytncdmooobfomeaa", sum := "256c2d95f871c3c244816b9006b7093bc5550c67bba4caa54d2321f8cf795a34", func := "loop.example/g01099/laws.FnKeys", spec := "fnKeys", unfollowed := true, recurses := true, apart := false }
def FnKeysSaid : Prop := fnKeysRow.holds Try.pinned (OpenSpec.ofChange fnKeysSpec)

/-- ITS FALSE NEIGHBOUR: 'it returns false'. Refute it at one input. -/
def fnKeysWrong : ChangeSpec := { name := "fnKeys", fn := fun _ => fun
  | [d1, d2] => { results := [.lit (.bool false)], args := [d1, d2] }
  | _ => none }
def FnKeysWrongFalsely : Prop := fnKeysRow.holds Try.pinned (OpenSpec.ofChange fnKeysWrong)

/-- 'laws.FnExactBestKey': WHATEVER THE INPUT: true; the input reads as it did. -/
def fnExactBestKeySpec : ChangeSpec := { name := "fnExactBestKey", fn := fun _ => fun
  | [d] => { results := [.lit (.bool true)], args := [d] }
  | _ => none }
def fnExactBestKeyRow : OpenClaim := { program := "ytncdmooobfomeaa", sum := "256c2d95f871c3c244816b9006b7093bc5550c67bba4caa54d2321f8cf795a34", func := "loop.example/g01099/laws.FnExactBestKey", spec := "fnExactBestKey", unfollowed := true, recurses := true, apart := false }
def FnExactBestKeySaid : Prop := fnExactBestKeyRow.holds Try.pinned (OpenSpec.ofChange fnExactBestKeySpec)

/-- ITS FALSE NEIGHBOUR: 'it returns false'. Refute it at one input. -/
def fnExactBestKeyWrong : ChangeSpec := { name := "fnExactBestKey", fn := fun _ => fun
  | [d] => { results := [.lit (.bool false)], args := [d] }
  | _ => none }
def FnExactBestKeyWrongFalsely : Prop := fnExactBestKeyRow.holds Try.pinned (OpenSpec.ofChange fnExactBestKeyWrong)

/-- 'laws.FnCycles': WHATEVER THE INPUT: true; the input reads as it did. -/
def fnCyclesSpec : ChangeSpec := { name := "fnCycles", fn := fun _ => fun
  | [d1, d2] => { results := [.lit (.bool true)], args := [d1, d2] }
  | _ => none }
def fnCyclesRow : OpenClaim := { program := "ytncdmooobfomeaa", sum := "256c2d95f871c3c244816b9006b7093bc5550c67bba4caa54d2321f8cf795a34", func := "loop.example/g01099/laws.FnCycles", spec := "fnCycles", unfollowed := true, recurses := true, apart := false }
def FnCyclesSaid : Prop := fnCyclesRow.holds Try.pinned (OpenSpec.ofChange fnCyclesSpec)

/-- ITS FALSE NEIGHBOUR: 'it returns false'. Refute it at one input. -/
def fnCyclesWrong : ChangeSpec := { name := "fnCycles", fn := fun _ => fun
  | [d1, d2] => { results := [.lit (.bool false)], args := [d1, d2] }
  | _ => none }
def FnCyclesWrongFalsely : Prop := fnCyclesRow.holds Try.pinned (OpenSpec.ofChange fnCyclesWrong)

/-- 'laws.FnExactDoCycles': WHATEVER THE INPUT: true; the input reads as it did. -/
def fnExactDoCyclesSpec : ChangeSpec := { name := "fnExactDoCycles", fn := fun _ => fun
  | [d1, d2] => { results := [.lit (.bool true)], args := [d1, d2] }
  | _ => none }
def fnExactDoCyclesRow : OpenClaim := { program := "ytncdmooobfomeaa", sum := "256c2d95f871c3c244816b9006b7093bc5550c67bba4caa54d2321f8cf795a34", func := "loop.example/g01099/laws.FnExactDoCycles", spec := "fnExactDoCycles", unfollowed := true, recurses := true, apart := false }
def FnExactDoCyclesSaid : Prop := fnExactDoCyclesRow.holds Try.pinned (OpenSpec.ofChange fnExactDoCyclesSpec)

/-- ITS FALSE NEIGHBOUR: 'it returns false'. Refute it at one input. -/
def fnExactDoCyclesWrong : ChangeSpec := { name := "fnExactDoCycles", fn := fun _ => fun
  | [d1, d2] => { results := [.lit (.bool false)], args := [d1, d2] }
  | _ => none }
def FnExactDoCyclesWrongFalsely : Prop := fnExactDoCyclesRow.holds Try.pinned (OpenSpec.ofChange fnExactDoCyclesWrong)

/-- 'laws.FnExactTubeOf': WHATEVER THE INPUT: true; the input reads as it did. -/
def fnExactTubeOfSpec : ChangeSpec := { name := "fnExactTubeOf", fn := fun _ => fun
  | [d1, d2] => { results := [.lit (.bool true)], args := [d1, d2] }
  | _ => none }
def fnExactTubeOfRow : OpenClaim := { program := "ytncdmooobfomeaa", sum := "256c2d95f871c3c244816b9006b7093bc5550c67bba4caa54d2321f8cf795a34", func := "loop.example/g01099/laws.FnExactTubeOf", spec := "fnExactTubeOf", unfollowed := true, recurses := true, apart := false }
def FnExactTubeOfSaid : Prop := fnExactTubeOfRow.holds Try.pinned (OpenSpec.ofChange fnExactTubeOfSpec)

/-- ITS FALSE NEIGHBOUR: 'it returns false'. Refute it at one input. -/
def fnExactTubeOfWrong : ChangeSpec := { name := "fnExactTubeOf", fn := fun _ => fun
  | [d1, d2] => { results := [.lit (.bool false)], args := [d1, d2] }
  | _ => none }
def FnExactTubeOfWrongFalsely : Prop := fnExactTubeOfRow.holds Try.pinned (OpenSpec.ofChange fnExactTubeOfWrong)

/- THE SECOND FORM. 'bulk': how many values and letters a reading holds, each counted each time it is reached (what is shared counts as often as it is met; a slice's spare places count too). A statement '..UptoSaid' is the law's where the arguments, and the package variables that the reading takes, are together of bulk at most 1048576: NARROWER than '..Said'. Prove '..Said' where nothing that the law and all that it calls make is longer than what came in: it says more and counts as full. Else prove '..UptoSaid'. A law counts once. -/
mutual
def uptoBulk {H : Type} : DataW H → Nat
  | .lit (.string bytes) => bytes.length + 1
  | .lit _ => 1
  | .nil => 1
  | .ptr d => uptoBulk d + 1
  | .slice elems spare => uptoBulkAll elems + uptoBulkAll spare + 1
  | .agg parts => uptoBulkAll parts + 1
  | .iface _ d => uptoBulk d + 1
  | .map entries => uptoBulkEntries entries + 1
  | .held _ => 1
def uptoBulkAll {H : Type} : List (DataW H) → Nat
  | [] => 0
  | d :: r => uptoBulk d + uptoBulkAll r
def uptoBulkEntries {H : Type} : List (Lit × DataW H) → Nat
  | [] => 0
  | x :: r => uptoBulkEntry x + uptoBulkEntries r
def uptoBulkEntry {H : Type} : Lit × DataW H → Nat
  | (.string bytes, d) => bytes.length + uptoBulk d + 1
  | (_, d) => uptoBulk d + 1
 end
def uptoSmall : (H : Type) → List (DataW H) → Bool := fun _ ds => decide (uptoBulkAll ds ≤ 1048576)
def OpenSpec.upto (s : _root_.Go.ChangeSpec) : _root_.Go.OpenSpec := { _root_.Go.OpenSpec.ofChange s with cond := some uptoSmall }

/-- 'laws.FnGaps', WHERE WHAT IT READS IS OF BULK AT MOST 1048576: true; the input reads as it did. -/
def fnGapsUptoRow : OpenClaim := { program := "ytncdmooobfomeaa", sum := "256c2d95f871c3c244816b9006b7093bc5550c67bba4caa54d2321f8cf795a34", func := "loop.example/g01099/laws.FnGaps", spec := "fnGaps", unfollowed := true, recurses := true, apart := false, narrowed := true }
def FnGapsUptoSaid : Prop := fnGapsUptoRow.holds Try.pinned (OpenSpec.upto fnGapsSpec)

/-- 'laws.FnExactOutlookOf', WHERE WHAT IT READS IS OF BULK AT MOST 1048576: true; the input reads as it did. -/
def fnExactOutlookOfUptoRow : OpenClaim := { program := "ytncdmooobfomeaa", sum := "256c2d95f871c3c244816b9006b7093bc5550c67bba4caa54d2321f8cf795a34", func := "loop.example/g01099/laws.FnExactOutlookOf", spec := "fnExactOutlookOf", unfollowed := true, recurses := true, apart := false, narrowed := true }
def FnExactOutlookOfUptoSaid : Prop := fnExactOutlookOfUptoRow.holds Try.pinned (OpenSpec.upto fnExactOutlookOfSpec)

/-- 'laws.FnKeys', WHERE WHAT IT READS IS OF BULK AT MOST 1048576: true; the input reads as it did. -/
def fnKeysUptoRow : OpenClaim := { program := "ytncdmooobfomeaa", sum := "256c2d95f871c3c244816b9006b7093bc5550c67bba4caa54d2321f8cf795a34", func := "loop.example/g01099/laws.FnKeys", spec := "fnKeys", unfollowed := true, recurses := true, apart := false, narrowed := true }
def FnKeysUptoSaid : Prop := fnKeysUptoRow.holds Try.pinned (OpenSpec.upto fnKeysSpec)

/-- 'laws.FnExactBestKey', WHERE WHAT IT READS IS OF BULK AT MOST 1048576: true; the input reads as it did. -/
def fnExactBestKeyUptoRow : OpenClaim := { program := "ytncdmooobfomeaa", sum := "256c2d95f871c3c244816b9006b7093bc5550c67bba4caa54d2321f8cf795a34", func := "loop.example/g01099/laws.FnExactBestKey", spec := "fnExactBestKey", unfollowed := true, recurses := true, apart := false, narrowed := true }
def FnExactBestKeyUptoSaid : Prop := fnExactBestKeyUptoRow.holds Try.pinned (OpenSpec.upto fnExactBestKeySpec)

/-- 'laws.FnCycles', WHERE WHAT IT READS IS OF BULK AT MOST 1048576: true; the input reads as it did. -/
def fnCyclesUptoRow : OpenClaim := { program := "ytncdmooobfomeaa", sum := "256c2d95f871c3c244816b9006b7093bc5550c67bba4caa54d2321f8cf795a34", func := "loop.example/g01099/laws.FnCycles", spec := "fnCycles", unfollowed := true, recurses := true, apart := false, narrowed := true }
def FnCyclesUptoSaid : Prop := fnCyclesUptoRow.holds Try.pinned (OpenSpec.upto fnCyclesSpec)

/-- 'laws.FnExactDoCycles', WHERE WHAT IT READS IS OF BULK AT MOST 1048576: true; the input reads as it did. -/
def fnExactDoCyclesUptoRow : OpenClaim := { program := "ytncdmooobfomeaa", sum := "256c2d95f871c3c244816b9006b7093bc5550c67bba4caa54d2321f8cf795a34", func := "loop.example/g01099/laws.FnExactDoCycles", spec := "fnExactDoCycles", unfollowed := true, recurses := true, apart := false, narrowed := true }
def FnExactDoCyclesUptoSaid : Prop := fnExactDoCyclesUptoRow.holds Try.pinned (OpenSpec.upto fnExactDoCyclesSpec)

/-- 'laws.FnExactTubeOf', WHERE WHAT IT READS IS OF BULK AT MOST 1048576: true; the input reads as it did. -/
def fnExactTubeOfUptoRow : OpenClaim := { program := "ytncdmooobfomeaa", sum := "256c2d95f871c3c244816b9006b7093bc5550c67bba4caa54d2321f8cf795a34", func := "loop.example/g01099/laws.FnExactTubeOf", spec := "fnExactTubeOf", unfollowed := true, recurses := true, apart := false, narrowed := true }
def FnExactTubeOfUptoSaid : Prop := fnExactTubeOfUptoRow.holds Try.pinned (OpenSpec.upto fnExactTubeOfSpec)

end Rows
end Go.Proofs.Ytncdmooobfomeaa
