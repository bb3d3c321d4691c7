import Derived.Test.YtncdmooobfomeaaXFnExactTubeOfF
import Derived.Test.YtncdmooobfomeaaRvRow
namespace Go.Proofs.Ytncdmooobfomeaa
/-- The plain statement that is left of the law. -/
def PureFnExactTubeOf : Prop := ∀ (e0 : ((Int × Int × Int × Int) × (Int × Int × Int × Int) × Int)) (e1 : List (Int × Int × Int × Int)), Go.Rv.Wf (.pair (.pair (.int .i64) (.pair (.int .i64) (.pair (.int .i64) (.int .i64)))) (.pair (.pair (.int .i64) (.pair (.int .i64) (.pair (.int .i64) (.int .i64)))) (.int .i64))) e0 → Go.Rv.Wf (.sl (.pair (.int .i64) (.pair (.int .i64) (.pair (.int .i64) (.int .i64))))) e1 → ∃ k, R.laws_FnExactTubeOf.f k e0.1.1 e0.1.2.1 e0.1.2.2.1 e0.1.2.2.2 e0.2.1.1 e0.2.1.2.1 e0.2.1.2.2.1 e0.2.1.2.2.2 e0.2.2 e1 = some true
end Go.Proofs.Ytncdmooobfomeaa
