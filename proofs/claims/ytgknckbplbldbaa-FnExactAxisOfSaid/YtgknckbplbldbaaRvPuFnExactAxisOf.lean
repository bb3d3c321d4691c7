import Derived.Test.YtgknckbplbldbaaXFnExactAxisOfF
import Derived.Test.YtgknckbplbldbaaRvRow
namespace Go.Proofs.Ytgknckbplbldbaa
/-- The plain statement that is left of the law. -/
def PureFnExactAxisOf : Prop := ∀ (e0 : List (Int × Int × Int × Int)), Go.Rv.Wf (.sl (.pair (.int .i64) (.pair (.int .i64) (.pair (.int .i64) (.int .i64))))) e0 → ∃ k, R.laws_FnExactAxisOf.f k e0 = some true
end Go.Proofs.Ytgknckbplbldbaa
