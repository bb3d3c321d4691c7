import Derived.Test.YtigkpbnhdkdliaaXFnExactF
import Derived.Test.YtigkpbnhdkdliaaRvM5
namespace Go.Proofs.Ytigkpbnhdkdliaa
/-- The plain statement that is left of the law. -/
def PureFnExact : Prop := ∀ (e0 : List Int) (e1 : List Int), Go.Rv.Wf (.sl (.int .u8)) e0 → Go.Rv.Wf (.sl (.int .u8)) e1 → ∃ k, R.laws_FnExact.f k e0 e1 = some true
end Go.Proofs.Ytigkpbnhdkdliaa
