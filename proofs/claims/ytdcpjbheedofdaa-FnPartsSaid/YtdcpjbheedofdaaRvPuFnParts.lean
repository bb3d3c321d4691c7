import Derived.Test.YtdcpjbheedofdaaXFnPartsF
import Derived.Test.YtdcpjbheedofdaaRvM3
namespace Go.Proofs.Ytdcpjbheedofdaa
/-- The plain statement that is left of the law. -/
def PureFnParts : Prop := ∀ (e0 : List Int) (e1 : List Int), Go.Rv.Wf (.sl (.int .u8)) e0 → Go.Rv.Wf (.sl (.int .u8)) e1 → ∃ k, R.laws_FnParts.f k e0 e1 = some true
end Go.Proofs.Ytdcpjbheedofdaa
