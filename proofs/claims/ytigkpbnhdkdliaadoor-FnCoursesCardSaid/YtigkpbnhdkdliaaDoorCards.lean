/-
  DERIVED. GIVEN WITH THE SEED: THE CARDS: each row of YtigkpbnhdkdliaaDoorRows.lean that lists a variable, with what it lists TIED to the program's text (the seventh form; the later family's looks); each row that meets fmt, with fmt's text TOLD by the authors' own Lean function (tested against real Go, not proved from fmt's source: count such statements apart). THE CARD IS WHAT COUNTS. Prove the row's statement (the work); the ties are given (YtigkpbnhdkdliaaDoorTie.lean); close each card by the builder's one call (the guide's Derived/Test/ToyasCard.lean, 'card_holds'). Laid BY PROGRAM, IN A SANDBOX (cutbox-door.mjs). By AI agents, Wed Nov 11 2026. No macro, syntax, notation, axiom, sorry.
-/
import Derived.Test.YtigkpbnhdkdliaaDoorRows
import GoSem.ClaimSeven
namespace Go.Proofs.YtigkpbnhdkdliaaDoor
namespace Rows

/-- THE TIED CARD OF 'laws.FnExactCourseText'. -/
def fnExactCourseTextCard : Claim7 := { stood := { row := fnExactCourseTextRow, standIns := [], harness := (true, "112f94345557fa9cc6384d59c5726fcee048e7802db05b71adcb6fa6844a44b0"), looks := true }, kinds := [], alts := [], laidByText := true, laidKinds := [.data, .data, .data], laidTests := true, laidLooks := .later }
def FnExactCourseTextCardSaid : Prop := Claim7.holds Tryd.pinned (.plain (OpenSpec.ofChange fnExactCourseTextSpec)) fnExactCourseTextCard

/-- THE TIED CARD OF 'laws.FnExactReadCourse'. -/
def fnExactReadCourseCard : Claim7 := { stood := { row := fnExactReadCourseRow, standIns := [], harness := (true, "112f94345557fa9cc6384d59c5726fcee048e7802db05b71adcb6fa6844a44b0"), looks := true }, kinds := [], alts := [], laidByText := true, laidKinds := [.data, .data, .data, .data, .sentinel, .sentinel, .pinned], laidTests := true, laidLooks := .later }
def FnExactReadCourseCardSaid : Prop := Claim7.holds Tryd.pinned (.plain (OpenSpec.ofChange fnExactReadCourseSpec)) fnExactReadCourseCard

/-- THE TIED CARD OF 'laws.FnCourses'. -/
def fnCoursesCard : Claim7 := { stood := { row := fnCoursesRow, standIns := [], harness := (true, "112f94345557fa9cc6384d59c5726fcee048e7802db05b71adcb6fa6844a44b0"), looks := true }, kinds := [], alts := [], laidByText := true, laidKinds := [.data, .data, .data, .data, .sentinel, .sentinel, .pinned], laidTests := true, laidLooks := .later }
def FnCoursesCardSaid : Prop := Claim7.holds Tryd.pinned (.plain (OpenSpec.ofChange fnCoursesSpec)) fnCoursesCard

/-- THE SECOND FORM's CARD OF 'laws.FnExactCourseText'. -/
def fnExactCourseTextUptoCard : Claim7 := { stood := { row := fnExactCourseTextUptoRow, standIns := [], harness := (true, "112f94345557fa9cc6384d59c5726fcee048e7802db05b71adcb6fa6844a44b0"), looks := true }, kinds := [], alts := [], laidByText := true, laidKinds := [.data, .data, .data], laidTests := true, laidLooks := .later }
def FnExactCourseTextUptoCardSaid : Prop := Claim7.holds Tryd.pinned (.plain (OpenSpec.upto fnExactCourseTextSpec)) fnExactCourseTextUptoCard

/-- THE SECOND FORM's CARD OF 'laws.FnExactReadCourse'. -/
def fnExactReadCourseUptoCard : Claim7 := { stood := { row := fnExactReadCourseUptoRow, standIns := [], harness := (true, "112f94345557fa9cc6384d59c5726fcee048e7802db05b71adcb6fa6844a44b0"), looks := true }, kinds := [], alts := [], laidByText := true, laidKinds := [.data, .data, .data, .data, .sentinel, .sentinel, .pinned], laidTests := true, laidLooks := .later }
def FnExactReadCourseUptoCardSaid : Prop := Claim7.holds Tryd.pinned (.plain (OpenSpec.upto fnExactReadCourseSpec)) fnExactReadCourseUptoCard

/-- THE SECOND FORM's CARD OF 'laws.FnCourses'. -/
def fnCoursesUptoCard : Claim7 := { stood := { row := fnCoursesUptoRow, standIns := [], harness := (true, "112f94345557fa9cc6384d59c5726fcee048e7802db05b71adcb6fa6844a44b0"), looks := true }, kinds := [], alts := [], laidByText := true, laidKinds := [.data, .data, .data, .data, .sentinel, .sentinel, .pinned], laidTests := true, laidLooks := .later }
def FnCoursesUptoCardSaid : Prop := Claim7.holds Tryd.pinned (.plain (OpenSpec.upto fnCoursesSpec)) fnCoursesUptoCard
end Rows
end Go.Proofs.YtigkpbnhdkdliaaDoor
