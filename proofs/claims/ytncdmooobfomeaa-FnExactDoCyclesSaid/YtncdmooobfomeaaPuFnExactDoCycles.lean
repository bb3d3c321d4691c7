-- written by wip/tools/myprint.py for this claim (out of the translation; functions by hand where the printer stops). Lean checks it.
import Derived.Test.YtncdmooobfomeaaGy15
import Derived.Test.YtncdmooobfomeaaArgs
namespace Go.Proofs.Ytncdmooobfomeaa.G
open Go.RowKit Go.Proofs.YtncdmooobfomeaaW.PrintWords Go.Proofs.Ytncdmooobfomeaa.K
/-- The plain statement that is left of the law. -/
def laws_FnExactDoCycles.Pure : Prop := ∀ (a0_0 : Int) (a0_1 : Int) (a0_2 : Int) (a0_3 : Int) (a0_4 : Int) (a0_5 : Int) (a0_6 : Int) (a0_7 : Int) (a0_8 : Int) (l1 : List (S101)), ((Lit.int .i64 a0_0).wf = true) → ((Lit.int .i64 a0_1).wf = true) → ((Lit.int .i64 a0_2).wf = true) → ((Lit.int .i64 a0_3).wf = true) → ((Lit.int .i64 a0_4).wf = true) → ((Lit.int .i64 a0_5).wf = true) → ((Lit.int .i64 a0_6).wf = true) → ((Lit.int .i64 a0_7).wf = true) → ((Lit.int .i64 a0_8).wf = true) → (l1.length ≤ 9223372036854775807) → (∀ x_ ∈ l1, W101 x_) → ∃ k, laws_FnExactDoCycles.f k a0_0 a0_1 a0_2 a0_3 a0_4 a0_5 a0_6 a0_7 a0_8 l1 = some true
end Go.Proofs.Ytncdmooobfomeaa.G
