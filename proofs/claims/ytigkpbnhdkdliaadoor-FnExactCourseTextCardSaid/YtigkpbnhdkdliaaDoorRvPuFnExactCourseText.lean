import Derived.Test.YtigkpbnhdkdliaaDoorXFnExactCourseTextF
import Derived.Test.YtigkpbnhdkdliaaDoorRvM3
namespace Go.Proofs.YtigkpbnhdkdliaaDoor
/-- The plain statement that is left of the law. -/
def PureFnExactCourseText : Prop := ∀ (e0 : (Int × Int × Int)), Go.Rv.Wf (.pair (.int .i64) (.pair (.int .i64) (.int .i64))) e0 → ∃ k, R.laws_FnExactCourseText.f k e0.1 e0.2.1 e0.2.2 = some true
end Go.Proofs.YtigkpbnhdkdliaaDoor
