/-
  DERIVED. GIVEN WITH THE SEED: THE CARDS: each row of YtmgelocefebldaaGreatDoorRows.lean that lists a variable, with what it lists TIED to the program's text (the seventh form; the later family's looks); each row that meets fmt, with fmt's text TOLD by the authors' own Lean function (tested against real Go, not proved from fmt's source: count such statements apart). THE CARD IS WHAT COUNTS. Prove the row's statement (the work); the ties are given (YtmgelocefebldaaGreatDoorTie.lean); close each card by the builder's one call (the guide's Derived/Test/ToyasCard.lean, 'card_holds'). Laid BY PROGRAM, IN A SANDBOX (cutbox-door.mjs). By AI agents, Wed Nov 11 2026. No macro, syntax, notation, axiom, sorry.
-/
import Derived.Test.YtmgelocefebldaaGreatDoorRows
import GoSem.ClaimSeven
namespace Go.Proofs.YtmgelocefebldaaGreatDoor
namespace Rows

/-- THE TIED CARD OF 'laws.FnTubes'. -/
def fnTubesCard : Claim7 := { stood := { row := fnTubesRow, standIns := [], harness := (true, "cac374991edd58b2df1583c834180f6144e740538ef484d2e7ddd84e6ecef994"), looks := true }, kinds := [], alts := [], laidByText := true, laidKinds := [.data, .data, .data, .data, .sentinel, .sentinel, .pinned], laidTests := true, laidLooks := .later }
def FnTubesCardSaid : Prop := Claim7.holds Tryz.pinned (.plain (OpenSpec.ofChange fnTubesSpec)) fnTubesCard

/-- THE SECOND FORM's CARD OF 'laws.FnTubes'. -/
def fnTubesUptoCard : Claim7 := { stood := { row := fnTubesUptoRow, standIns := [], harness := (true, "cac374991edd58b2df1583c834180f6144e740538ef484d2e7ddd84e6ecef994"), looks := true }, kinds := [], alts := [], laidByText := true, laidKinds := [.data, .data, .data, .data, .sentinel, .sentinel, .pinned], laidTests := true, laidLooks := .later }
def FnTubesUptoCardSaid : Prop := Claim7.holds Tryz.pinned (.plain (OpenSpec.upto fnTubesSpec)) fnTubesUptoCard
end Rows
end Go.Proofs.YtmgelocefebldaaGreatDoor
