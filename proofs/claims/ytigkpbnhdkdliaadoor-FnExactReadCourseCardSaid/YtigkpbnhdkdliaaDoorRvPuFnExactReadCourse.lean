import Derived.Test.YtigkpbnhdkdliaaDoorXFnExactReadCourseF
import Derived.Test.YtigkpbnhdkdliaaDoorRvM3
namespace Go.Proofs.YtigkpbnhdkdliaaDoor
/-- The plain statement that is left of the law. -/
def PureFnExactReadCourse : Prop := ∀ (e0 : ByteArray), Go.Rv.Wf .str e0 → ∃ k, R.laws_FnExactReadCourse.f k e0 = some true
end Go.Proofs.YtigkpbnhdkdliaaDoor
