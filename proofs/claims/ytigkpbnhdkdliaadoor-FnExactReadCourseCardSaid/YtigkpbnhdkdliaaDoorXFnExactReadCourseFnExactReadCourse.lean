/- The plain statement of the law on the courses of texts. -/
import Derived.Test.YtigkpbnhdkdliaaDoorXFnExactReadCourseRdc
import Derived.Test.YtigkpbnhdkdliaaDoorRvPuFnExactReadCourse
namespace Go.Proofs.YtigkpbnhdkdliaaDoor.Pure
open Go.Rv Go.Rv.Tx Go.Proofs.YtigkpbnhdkdliaaDoor.R
set_option linter.unusedVariables false
theorem FnExactReadCourse : PureFnExactReadCourse := by
  intro e0 _
  rw [← bs_bl e0]
  generalize bl e0 = l
  refine W.yes (laws_FnExactReadCourse.w ?_)
  rw [len_bs]
  refine W.di (fun _ => W.ret rfl) (fun h => ?_)
  refine W.bindE (specRead_w l (by omega)) (W.bindE (implRead_w l (by omega)) ?_)
  refine W.bindN (t := true) (fun k => by unfold laws_eqCourse.f; simp) (W.ne rfl ?_)
  exact W.ne (by simp) (W.ret rfl)
end Go.Proofs.YtigkpbnhdkdliaaDoor.Pure
