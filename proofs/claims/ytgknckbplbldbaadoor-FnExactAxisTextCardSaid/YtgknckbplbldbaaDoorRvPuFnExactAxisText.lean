import Derived.Test.YtgknckbplbldbaaDoorXFnExactAxisTextF
import Derived.Test.YtgknckbplbldbaaDoorRvM3
namespace Go.Proofs.YtgknckbplbldbaaDoor
/-- The plain statement that is left of the law. -/
def PureFnExactAxisText : Prop := ∀ (e0 : ((Int × Int × Int × Int) × List (Int × Int × Int))), Go.Rv.Wf (.pair (.pair (.int .i64) (.pair (.int .i64) (.pair (.int .i64) (.int .i64)))) (.sl (.pair (.int .i64) (.pair (.int .i64) (.int .i64))))) e0 → ∃ k, R.laws_FnExactAxisText.f k e0.1.1 e0.1.2.1 e0.1.2.2.1 e0.1.2.2.2 e0.2 = some true
end Go.Proofs.YtgknckbplbldbaaDoor
