/-
  DERIVED. GIVEN WITH THE SEED: THE CARDS: each row of YtgknckbplbldbaaDoorRows.lean that lists a variable, with what it lists TIED to the program's text (the seventh form; the later family's looks); each row that meets fmt, with fmt's text TOLD by the authors' own Lean function (tested against real Go, not proved from fmt's source: count such statements apart). THE CARD IS WHAT COUNTS. Prove the row's statement (the work); the ties are given (YtgknckbplbldbaaDoorTie.lean); close each card by the builder's one call (the guide's Derived/Test/ToyasCard.lean, 'card_holds'). Laid BY PROGRAM, IN A SANDBOX (cutbox-door.mjs). By AI agents, Wed Nov 11 2026. No macro, syntax, notation, axiom, sorry.
-/
import Derived.Test.YtgknckbplbldbaaDoorRows
import GoSem.ClaimSeven
namespace Go.Proofs.YtgknckbplbldbaaDoor
namespace Rows

/-- THE TIED CARD OF 'laws.FnExactAxisText'. -/
def fnExactAxisTextCard : Claim7 := { stood := { row := fnExactAxisTextRow, standIns := [], harness := (true, "356e0c2b1a519a3cd539595a0091329c23314db43c164a167a3f633887ffebad"), looks := true }, kinds := [], alts := [], laidByText := true, laidKinds := [.data, .data, .data], laidTests := true, laidLooks := .later }
def FnExactAxisTextCardSaid : Prop := Claim7.holds Tryd.pinned (.plain (OpenSpec.ofChange fnExactAxisTextSpec)) fnExactAxisTextCard

/-- THE TIED CARD OF 'laws.FnExactReadAxis'. -/
def fnExactReadAxisCard : Claim7 := { stood := { row := fnExactReadAxisRow, standIns := [], harness := (true, "356e0c2b1a519a3cd539595a0091329c23314db43c164a167a3f633887ffebad"), looks := true }, kinds := [], alts := [], laidByText := true, laidKinds := [.data, .data, .data, .data, .sentinel, .sentinel, .pinned], laidTests := true, laidLooks := .later }
def FnExactReadAxisCardSaid : Prop := Claim7.holds Tryd.pinned (.plain (OpenSpec.ofChange fnExactReadAxisSpec)) fnExactReadAxisCard

/-- THE SECOND FORM's CARD OF 'laws.FnExactAxisText'. -/
def fnExactAxisTextUptoCard : Claim7 := { stood := { row := fnExactAxisTextUptoRow, standIns := [], harness := (true, "356e0c2b1a519a3cd539595a0091329c23314db43c164a167a3f633887ffebad"), looks := true }, kinds := [], alts := [], laidByText := true, laidKinds := [.data, .data, .data], laidTests := true, laidLooks := .later }
def FnExactAxisTextUptoCardSaid : Prop := Claim7.holds Tryd.pinned (.plain (OpenSpec.upto fnExactAxisTextSpec)) fnExactAxisTextUptoCard

/-- THE SECOND FORM's CARD OF 'laws.FnExactReadAxis'. -/
def fnExactReadAxisUptoCard : Claim7 := { stood := { row := fnExactReadAxisUptoRow, standIns := [], harness := (true, "356e0c2b1a519a3cd539595a0091329c23314db43c164a167a3f633887ffebad"), looks := true }, kinds := [], alts := [], laidByText := true, laidKinds := [.data, .data, .data, .data, .sentinel, .sentinel, .pinned], laidTests := true, laidLooks := .later }
def FnExactReadAxisUptoCardSaid : Prop := Claim7.holds Tryd.pinned (.plain (OpenSpec.upto fnExactReadAxisSpec)) fnExactReadAxisUptoCard
end Rows
end Go.Proofs.YtgknckbplbldbaaDoor
