import Derived.Test.YtkmnllcccgnliaaXFnExactSplitAxisF
import Derived.Test.YtkmnllcccgnliaaRvRow
namespace Go.Proofs.Ytkmnllcccgnliaa
/-- The plain statement that is left of the law. -/
def PureFnExactSplitAxis : Prop := ∀ (e0 : ((Int × Int × Int × Int) × List (Int × Int × Int))) (e1 : Int), Go.Rv.Wf (.pair (.pair (.int .i64) (.pair (.int .i64) (.pair (.int .i64) (.int .i64)))) (.sl (.pair (.int .i64) (.pair (.int .i64) (.int .i64))))) e0 → Go.Rv.Wf (.int .i64) e1 → ∃ k, R.laws_FnExactSplitAxis.f k e0.1.1 e0.1.2.1 e0.1.2.2.1 e0.1.2.2.2 e0.2 e1 = some true
end Go.Proofs.Ytkmnllcccgnliaa
