import Derived.Test.YtlkmjldhhoopcaaXFnExactTopsAtF
import Derived.Test.YtlkmjldhhoopcaaRvM3
namespace Go.Proofs.Ytlkmjldhhoopcaa
/-- The plain statement that is left of the law. -/
def PureFnExactTopsAt : Prop := ∀ (e0 : (List Int × List (Int × List Int))) (e1 : Int), Go.Rv.Wf (.pair (.sl (.int .i64)) (.sl (.pair (.int .i64) (.sl (.int .i64))))) e0 → Go.Rv.Wf (.int .i64) e1 → ∃ k, R.laws_FnExactTopsAt.f k e0.1 e0.2 e1 = some true
end Go.Proofs.Ytlkmjldhhoopcaa
