import Derived.Test.YtigkpbnhdkdliaaXFnExactOffsetsAfterF
import Derived.Test.YtigkpbnhdkdliaaRvM4
namespace Go.Proofs.Ytigkpbnhdkdliaa
/-- The plain statement that is left of the law. -/
def PureFnExactOffsetsAfter : Prop := ∀ (e0 : (Int × Int)) (e1 : (Int × Int × Int)) (e2 : Int) (e3 : Int), Go.Rv.Wf (.pair (.int .i64) (.int .i64)) e0 → Go.Rv.Wf (.pair (.int .i64) (.pair (.int .i64) (.int .i64))) e1 → Go.Rv.Wf (.int .i64) e2 → Go.Rv.Wf (.int .i64) e3 → ∃ k, R.laws_FnExactOffsetsAfter.f k e0.1 e0.2 e1.1 e1.2.1 e1.2.2 e2 e3 = some true
end Go.Proofs.Ytigkpbnhdkdliaa
