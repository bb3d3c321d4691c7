import Derived.Test.YtigkpbnhdkdliaaXFnExactFarthestOffsetF
import Derived.Test.YtigkpbnhdkdliaaRvM4
namespace Go.Proofs.Ytigkpbnhdkdliaa
/-- The plain statement that is left of the law. -/
def PureFnExactFarthestOffset : Prop := ∀ (e0 : (Int × Int)) (e1 : (Int × Int × Int)), Go.Rv.Wf (.pair (.int .i64) (.int .i64)) e0 → Go.Rv.Wf (.pair (.int .i64) (.pair (.int .i64) (.int .i64))) e1 → ∃ k, R.laws_FnExactFarthestOffset.f k e0.1 e0.2 e1.1 e1.2.1 e1.2.2 = some true
end Go.Proofs.Ytigkpbnhdkdliaa
