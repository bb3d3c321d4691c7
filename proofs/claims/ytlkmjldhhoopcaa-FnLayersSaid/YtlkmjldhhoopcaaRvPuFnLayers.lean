import Derived.Test.YtlkmjldhhoopcaaXFnLayersF
import Derived.Test.YtlkmjldhhoopcaaRvRow
namespace Go.Proofs.Ytlkmjldhhoopcaa
/-- The plain statement that is left of the law. -/
def PureFnLayers : Prop := ∀ (e0 : List Int) (e1 : List Int), Go.Rv.Wf (.sl (.int .u8)) e0 → Go.Rv.Wf (.sl (.int .u8)) e1 → ∃ k, R.laws_FnLayers.f k e0 e1 = some true
end Go.Proofs.Ytlkmjldhhoopcaa
