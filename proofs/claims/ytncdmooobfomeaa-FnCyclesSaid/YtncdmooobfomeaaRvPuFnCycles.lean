import Derived.Test.YtncdmooobfomeaaXFnCyclesF
import Derived.Test.YtncdmooobfomeaaRvRow
namespace Go.Proofs.Ytncdmooobfomeaa
/-- The plain statement that is left of the law. -/
def PureFnCycles : Prop := ∀ (e0 : List Int) (e1 : List Int), Go.Rv.Wf (.sl (.int .u8)) e0 → Go.Rv.Wf (.sl (.int .u8)) e1 → ∃ k, R.laws_FnCycles.f k e0 e1 = some true
end Go.Proofs.Ytncdmooobfomeaa
