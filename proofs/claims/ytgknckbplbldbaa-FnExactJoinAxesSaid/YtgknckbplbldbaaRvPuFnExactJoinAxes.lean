import Derived.Test.YtgknckbplbldbaaXFnExactJoinAxesF
import Derived.Test.YtgknckbplbldbaaRvM3
namespace Go.Proofs.Ytgknckbplbldbaa
/-- The plain statement that is left of the law. -/
def PureFnExactJoinAxes : Prop := ∀ (e0 : ((Int × Int × Int × Int) × List (Int × Int × Int))) (e1 : ((Int × Int × Int × Int) × List (Int × Int × Int))), Go.Rv.Wf (.pair (.pair (.int .i64) (.pair (.int .i64) (.pair (.int .i64) (.int .i64)))) (.sl (.pair (.int .i64) (.pair (.int .i64) (.int .i64))))) e0 → Go.Rv.Wf (.pair (.pair (.int .i64) (.pair (.int .i64) (.pair (.int .i64) (.int .i64)))) (.sl (.pair (.int .i64) (.pair (.int .i64) (.int .i64))))) e1 → ∃ k, R.laws_FnExactJoinAxes.f k e0.1.1 e0.1.2.1 e0.1.2.2.1 e0.1.2.2.2 e0.2 e1.1.1 e1.1.2.1 e1.1.2.2.1 e1.1.2.2.2 e1.2 = some true
end Go.Proofs.Ytgknckbplbldbaa
