/- The plain statement of the law on the texts of courses. -/
import Derived.Test.YtigkpbnhdkdliaaDoorXFnExactCourseTextCt
import Derived.Test.YtigkpbnhdkdliaaDoorRvPuFnExactCourseText
namespace Go.Proofs.YtigkpbnhdkdliaaDoor.Pure
open Go.Rv Go.Rv.Tx Go.Proofs.YtigkpbnhdkdliaaDoor.R
set_option linter.unusedVariables false
theorem FnExactCourseText : PureFnExactCourseText := by
  intro e0 _
  refine W.yes (laws_FnExactCourseText.w (W.bindN (fun k => rfl) (W.bindE (specText_w _ _ _) (W.bindN (fun k => rfl) (W.bindE (implText_w _ _ _) ?_)))))
  rw [eq_bs]
  exact W.nde rfl (W.ret rfl)
end Go.Proofs.YtigkpbnhdkdliaaDoor.Pure
