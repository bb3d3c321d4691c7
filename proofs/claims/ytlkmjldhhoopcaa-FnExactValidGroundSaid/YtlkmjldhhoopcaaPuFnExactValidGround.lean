-- written by wip/tools/myprint.py for this claim (out of the translation; functions by hand where the printer stops). Lean checks it.
import Derived.Test.YtlkmjldhhoopcaaGy4
import Derived.Test.YtlkmjldhhoopcaaArgs
namespace Go.Proofs.Ytlkmjldhhoopcaa.G
open Go.RowKit Go.Proofs.YtlkmjldhhoopcaaW.PrintWords Go.Proofs.Ytlkmjldhhoopcaa.K
/-- The plain statement that is left of the law. -/
def laws_FnExactValidGround.Pure : Prop := ∀ (l0_0 : List Int) (l0_1 : List (S96)), (l0_0.length ≤ 9223372036854775807) → (∀ x_ ∈ l0_0, ((Lit.int .i64 x_).wf = true)) → (l0_1.length ≤ 9223372036854775807) → (∀ x_ ∈ l0_1, W96 x_) → ∃ k, laws_FnExactValidGround.f k l0_0 l0_1 = some true
end Go.Proofs.Ytlkmjldhhoopcaa.G
