import Derived.Test.YtmgelocefebldaaGreatDoorXFnTubesF
import Derived.Test.YtmgelocefebldaaGreatDoorRvM3
namespace Go.Proofs.YtmgelocefebldaaGreatDoor
/-- The plain statement that is left of the law. -/
def PureFnTubes : Prop := ∀ (e0 : List Int) (e1 : List Int), Go.Rv.Wf (.sl (.int .u8)) e0 → Go.Rv.Wf (.sl (.int .u8)) e1 → ∃ k, R.laws_FnTubes.f k e0 e1 = some true
end Go.Proofs.YtmgelocefebldaaGreatDoor
