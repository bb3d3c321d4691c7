/- The program's AxisOf answers what the reference's does, for all arguments, and its result is new memory: the plain statement. No condition beyond the row's own bounds. -/
import Derived.Test.YtgknckbplbldbaaXFnExactAxisOfAxL
import Derived.Test.YtgknckbplbldbaaRvPuFnExactAxisOf
namespace Go.Proofs.Ytgknckbplbldbaa.Pure
open Go.Rv Go.Rv.Ax R
set_option linter.unusedVariables false
theorem FnExactAxisOf : PureFnExactAxisOf := by
  intro q hw
  refine W.yes (laws_FnExactAxisOf.w ?_)
  by_cases hq : q.length ≤ 1048576
  case neg => exact W.bindN (fun k => szPoseS_eq k q _ (by omega) hw.1) (W.dt (by rw [if_pos (by omega)]; omega) (W.ret rfl))
  have hv := ofV_length q hq
  refine W.bindN (fun k => szPoseS_eq k q _ (by omega) (by omega)) (W.de (by rw [if_neg (by omega)]; omega) ?_)
  refine W.bindE (toPoseS_w q hq) (W.bindE (specAxisOf_w q hq) (W.bindE (toPoseS_w q hq) (W.bindE (implAxisOf_w q hq) (W.bindE (eqAxis_w _ _ _ _ _ hv) (W.ne rfl (W.e (by simp) ?_))))))
  refine laws_FnExactAxisOf.w0 ?_
  refine W.bindE (toPoseS_w q hq) (W.bindE (eqPoseS_w q hq) (W.ne rfl (W.bindE (markPoseS_w q 1 hq (by omega)) (W.de (by simp only; omega) (W.bindE (eqAxis_w _ _ _ _ _ hv) (W.ne rfl (W.e (by simp) ?_)))))))
  refine laws_FnExactAxisOf.w1 ?_
  refine W.bindE (markAxis_w _ _ _ _ _ hv) (W.bindE (heldAxis_w _ _ _ _ _ hv) (W.de (by omega) (W.nde rfl ?_)))
  refine W.bindE (toPoseS_w q hq) (W.bindE (implAxisOf_w q hq) (W.bindE (eqAxis_w _ _ _ _ _ hv) (W.ne rfl (W.e (by simp) ?_))))
  exact W.bindE (heldAxis_w _ _ _ _ _ hv) (W.de (by omega) (W.nde rfl (W.ret rfl)))
end Go.Proofs.Ytgknckbplbldbaa.Pure
