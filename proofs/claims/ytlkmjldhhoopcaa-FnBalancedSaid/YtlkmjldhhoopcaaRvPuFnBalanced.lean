import Derived.Test.YtlkmjldhhoopcaaXFnBalancedF
import Derived.Test.YtlkmjldhhoopcaaRvM3
namespace Go.Proofs.Ytlkmjldhhoopcaa
/-- The plain statement that is left of the law. -/
def PureFnBalanced : Prop := ∀ (e0 : List Int) (e1 : List Int), Go.Rv.Wf (.sl (.int .u8)) e0 → Go.Rv.Wf (.sl (.int .u8)) e1 → ∃ k, R.laws_FnBalanced.f k e0 e1 = some true
end Go.Proofs.Ytlkmjldhhoopcaa
