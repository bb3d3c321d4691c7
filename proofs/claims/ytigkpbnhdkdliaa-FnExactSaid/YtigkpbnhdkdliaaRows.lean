/-
  No cell of these rows narrows 'for every input' (looked for: loops, veiled, ifaces, maps, wideKeys, modest, calm, conditions, laid).
  DERIVED. THE GIVEN ROWS OF THIS SEAT. 4 by the template 'for every input the law returns true; each argument reads behind the call as it read before'; 0 by the template 'total and deterministic' (their statements: YtigkpbnhdkdliaaTotals.lean).
  GIVEN WITH THE SEED: the statements are not yours to turn. If you find one false, say at which input.
  Laid BY PROGRAM, IN A SANDBOX (cutbox-rows.mjs): the forced cells as the released guide's own fill.sh prints them over the translation ba9c26d08470c8bb… (all of the seat's roots in one cut). By AI agents, Wed Nov 11 2026. No macro, syntax, notation, axiom, sorry.
-/
import Derived.Test.YtigkpbnhdkdliaaChecked
import GoSem.Claim
import GoSem.ClaimJoined
import GoSem.ClaimMapViews
import Derived.JoinedTies
import Derived.KernelRfl
namespace Go.Proofs.Ytigkpbnhdkdliaa
/- THE CELL 'sum', in the pinned program and in every row, IS THE sha256 OF THE DUMP (.gsa) THAT YtigkpbnhdkdliaaProg.lean LOADS. Nothing in Lean hashes anything: it is a label: what it is worth is what the hold of that sum in a sandbox is worth. -/
noncomputable def Try.pinned : Pinned := { name := "ytigkpbnhdkdliaa", sum := "ba9c26d08470c8bb56c375c23ac3026e4dc23746fa40294b5fcc9cac946ba2a6", checked := Try.checked }
namespace Rows
def none {H : Type} : Left H := { results := [], args := [] }

/-- 'laws.FnExact': WHATEVER THE INPUT: true; the input reads as it did. -/
def fnExactSpec : ChangeSpec := { name := "fnExact", fn := fun _ => fun
  | [d1, d2] => { results := [.lit (.bool true)], args := [d1, d2] }
  | _ => none }
def fnExactRow : OpenClaim := { program := "ytigkpbnhdkdliaa", sum := "ba9c26d08470c8bb56c375c23ac3026e4dc23746fa40294b5fcc9cac946ba2a6", func := "loop.example/g01099/laws.FnExact", spec := "fnExact", recurses := true, plainKeys := false, apart := false }
def FnExactSaid : Prop := fnExactRow.holds Try.pinned (OpenSpec.ofChange fnExactSpec)

/-- ITS FALSE NEIGHBOUR: 'it returns false'. Refute it at one input. -/
def fnExactWrong : ChangeSpec := { name := "fnExact", fn := fun _ => fun
  | [d1, d2] => { results := [.lit (.bool false)], args := [d1, d2] }
  | _ => none }
def FnExactWrongFalsely : Prop := fnExactRow.holds Try.pinned (OpenSpec.ofChange fnExactWrong)

/-- 'laws.FnExactFarthestOffset': WHATEVER THE INPUT: true; the input reads as it did. -/
def fnExactFarthestOffsetSpec : ChangeSpec := { name := "fnExactFarthestOffset", fn := fun _ => fun
  | [d1, d2] => { results := [.lit (.bool true)], args := [d1, d2] }
  | _ => none }
def fnExactFarthestOffsetRow : OpenClaim := { program := "ytigkpbnhdkdliaa", sum := "ba9c26d08470c8bb56c375c23ac3026e4dc23746fa40294b5fcc9cac946ba2a6", func := "loop.example/g01099/laws.FnExactFarthestOffset", spec := "fnExactFarthestOffset", plainKeys := false, apart := false }
def FnExactFarthestOffsetSaid : Prop := fnExactFarthestOffsetRow.holds Try.pinned (OpenSpec.ofChange fnExactFarthestOffsetSpec)

/-- ITS FALSE NEIGHBOUR: 'it returns false'. Refute it at one input. -/
def fnExactFarthestOffsetWrong : ChangeSpec := { name := "fnExactFarthestOffset", fn := fun _ => fun
  | [d1, d2] => { results := [.lit (.bool false)], args := [d1, d2] }
  | _ => none }
def FnExactFarthestOffsetWrongFalsely : Prop := fnExactFarthestOffsetRow.holds Try.pinned (OpenSpec.ofChange fnExactFarthestOffsetWrong)

/-- 'laws.FnExactPlanBoth': WHATEVER THE INPUT: true; the input reads as it did. -/
def fnExactPlanBothSpec : ChangeSpec := { name := "fnExactPlanBoth", fn := fun _ => fun
  | [d1, d2, d3] => { results := [.lit (.bool true)], args := [d1, d2, d3] }
  | _ => none }
def fnExactPlanBothRow : OpenClaim := { program := "ytigkpbnhdkdliaa", sum := "ba9c26d08470c8bb56c375c23ac3026e4dc23746fa40294b5fcc9cac946ba2a6", func := "loop.example/g01099/laws.FnExactPlanBoth", spec := "fnExactPlanBoth", plainKeys := false, apart := false }
def FnExactPlanBothSaid : Prop := fnExactPlanBothRow.holds Try.pinned (OpenSpec.ofChange fnExactPlanBothSpec)

/-- ITS FALSE NEIGHBOUR: 'it returns false'. Refute it at one input. -/
def fnExactPlanBothWrong : ChangeSpec := { name := "fnExactPlanBoth", fn := fun _ => fun
  | [d1, d2, d3] => { results := [.lit (.bool false)], args := [d1, d2, d3] }
  | _ => none }
def FnExactPlanBothWrongFalsely : Prop := fnExactPlanBothRow.holds Try.pinned (OpenSpec.ofChange fnExactPlanBothWrong)

/-- 'laws.FnExactOffsetsAfter': WHATEVER THE INPUT: true; the input reads as it did. -/
def fnExactOffsetsAfterSpec : ChangeSpec := { name := "fnExactOffsetsAfter", fn := fun _ => fun
  | [d1, d2, d3, d4] => { results := [.lit (.bool true)], args := [d1, d2, d3, d4] }
  | _ => none }
def fnExactOffsetsAfterRow : OpenClaim := { program := "ytigkpbnhdkdliaa", sum := "ba9c26d08470c8bb56c375c23ac3026e4dc23746fa40294b5fcc9cac946ba2a6", func := "loop.example/g01099/laws.FnExactOffsetsAfter", spec := "fnExactOffsetsAfter", recurses := true, plainKeys := false, apart := false }
def FnExactOffsetsAfterSaid : Prop := fnExactOffsetsAfterRow.holds Try.pinned (OpenSpec.ofChange fnExactOffsetsAfterSpec)

/-- ITS FALSE NEIGHBOUR: 'it returns false'. Refute it at one input. -/
def fnExactOffsetsAfterWrong : ChangeSpec := { name := "fnExactOffsetsAfter", fn := fun _ => fun
  | [d1, d2, d3, d4] => { results := [.lit (.bool false)], args := [d1, d2, d3, d4] }
  | _ => none }
def FnExactOffsetsAfterWrongFalsely : Prop := fnExactOffsetsAfterRow.holds Try.pinned (OpenSpec.ofChange fnExactOffsetsAfterWrong)

/- THE SECOND FORM. 'bulk': how many values and letters a reading holds, each counted each time it is reached (what is shared counts as often as it is met; a slice's spare places count too). A statement '..UptoSaid' is the law's where the arguments, and the package variables that the reading takes, are together of bulk at most 1048576: NARROWER than '..Said'. Prove '..Said' where nothing that the law and all that it calls make is longer than what came in: it says more and counts as full. Else prove '..UptoSaid'. A law counts once. -/
mutual
def uptoBulk {H : Type} : DataW H → Nat
  | .lit (.string bytes) => bytes.length + 1
  | .lit _ => 1
  | .nil => 1
  | .ptr d => uptoBulk d + 1
  | .slice elems spare => uptoBulkAll elems + uptoBulkAll spare + 1
  | .agg parts => uptoBulkAll parts + 1
  | .iface _ d => uptoBulk d + 1
  | .map entries => uptoBulkEntries entries + 1
  | .held _ => 1
def uptoBulkAll {H : Type} : List (DataW H) → Nat
  | [] => 0
  | d :: r => uptoBulk d + uptoBulkAll r
def uptoBulkEntries {H : Type} : List (Lit × DataW H) → Nat
  | [] => 0
  | x :: r => uptoBulkEntry x + uptoBulkEntries r
def uptoBulkEntry {H : Type} : Lit × DataW H → Nat
  | (.string bytes, d) => bytes.length + uptoBulk d + 1
  | (_, d) => uptoBulk d + 1
 end
def uptoSmall : (H : Type) → List (DataW H) → Bool := fun _ ds => decide (uptoBulkAll ds ≤ 1048576)
def OpenSpec.upto (s : _root_.Go.ChangeSpec) : _root_.Go.OpenSpec := { _root_.Go.OpenSpec.ofChange s with cond := some uptoSmall }

/-- 'laws.FnExact', WHERE WHAT IT READS IS OF BULK AT MOST 1048576: true; the input reads as it did. -/
def fnExactUptoRow : OpenClaim := { program := "ytigkpbnhdkdliaa", sum := "ba9c26d08470c8bb56c375c23ac3026e4dc23746fa40294b5fcc9cac946ba2a6", func := "loop.example/g01099/laws.FnExact", spec := "fnExact", recurses := true, plainKeys := false, apart := false, narrowed := true }
def FnExactUptoSaid : Prop := fnExactUptoRow.holds Try.pinned (OpenSpec.upto fnExactSpec)

/-- 'laws.FnExactFarthestOffset', WHERE WHAT IT READS IS OF BULK AT MOST 1048576: true; the input reads as it did. -/
def fnExactFarthestOffsetUptoRow : OpenClaim := { program := "ytigkpbnhdkdliaa", sum := "ba9c26d08470c8bb56c375c23ac3026e4dc23746fa40294b5fcc9cac946ba2a6", func := "loop.example/g01099/laws.FnExactFarthestOffset", spec := "fnExactFarthestOffset", plainKeys := false, apart := false, narrowed := true }
def FnExactFarthestOffsetUptoSaid : Prop := fnExactFarthestOffsetUptoRow.holds Try.pinned (OpenSpec.upto fnExactFarthestOffsetSpec)

/-- 'laws.FnExactPlanBoth', WHERE WHAT IT READS IS OF BULK AT MOST 1048576: true; the input reads as it did. -/
def fnExactPlanBothUptoRow : OpenClaim := { program := "ytigkpbnhdkdliaa", sum := "ba9c26d08470c8bb56c375c23ac3026e4dc23746fa40294b5fcc9cac946ba2a6", func := "loop.example/g01099/laws.FnExactPlanBoth", spec := "fnExactPlanBoth", plainKeys := false, apart := false, narrowed := true }
def FnExactPlanBothUptoSaid : Prop := fnExactPlanBothUptoRow.holds Try.pinned (OpenSpec.upto fnExactPlanBothSpec)

/-- 'laws.FnExactOffsetsAfter', WHERE WHAT IT READS IS OF BULK AT MOST 1048576: true; the input reads as it did. -/
def fnExactOffsetsAfterUptoRow : OpenClaim := { program := "ytigkpbnhdkdliaa", sum := "ba9c26d08470c8bb56c375c23ac3026e4dc23746fa40294b5fcc9cac946ba2a6", func := "loop.example/g01099/laws.FnExactOffsetsAfter", spec := "fnExactOffsetsAfter", recurses := true, plainKeys := false, apart := false, narrowed := true }
def FnExactOffsetsAfterUptoSaid : Prop := fnExactOffsetsAfterUptoRow.holds Try.pinned (OpenSpec.upto fnExactOffsetsAfterSpec)

end Rows
end Go.Proofs.Ytigkpbnhdkdliaa
