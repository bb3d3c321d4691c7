import Derived.Test.YtigkpbnhdkdliaaDoorXFnCoursesF
import Derived.Test.YtigkpbnhdkdliaaDoorRvM3
namespace Go.Proofs.YtigkpbnhdkdliaaDoor
/-- The plain statement that is left of the law. -/
def PureFnCourses : Prop := ∀ (e0 : List Int) (e1 : List Int), Go.Rv.Wf (.sl (.int .u8)) e0 → Go.Rv.Wf (.sl (.int .u8)) e1 → ∃ k, R.laws_FnCourses.f k e0 e1 = some true
end Go.Proofs.YtigkpbnhdkdliaaDoor
