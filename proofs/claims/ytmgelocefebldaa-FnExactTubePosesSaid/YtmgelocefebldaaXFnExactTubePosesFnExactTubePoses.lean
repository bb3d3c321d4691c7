/- The program's TubePoses answers what the reference's does, for all arguments, and its result is new memory: the plain statement. -/
import Derived.Test.YtmgelocefebldaaXFnExactTubePosesRngQ
import Derived.Test.YtmgelocefebldaaXFnExactTubePosesFr
import Derived.Test.YtmgelocefebldaaRvPuFnExactTubePoses
namespace Go.Proofs.Ytmgelocefebldaa.Pure
open Go.Rv Go.Rv.Ax R
set_option linter.unusedVariables false
set_option linter.unusedSimpArgs false
theorem FnExactTubePoses : PureFnExactTubePoses := by
  rintro ⟨a, b, c, d⟩ l hw hl
  show ∃ k, laws_FnExactTubePoses.f k a b c d l = some true
  refine W.yes (laws_FnExactTubePoses.w ?_)
  by_cases hq : l.length ≤ 1048576
  case neg => exact W.bindN (fun k => szRingS_eq k l _ (by omega) hl.1) (W.dt (by rw [if_pos (by omega)]; omega) (W.ret rfl))
  have hv : (tubePV (a, b, c, d) l).1.length ≤ 1048576 := Nat.le_trans (tubePV_length _ l) (by omega)
  have hS := specTubePosesV_w (a, b, c, d) l hq
  have hI := implTubePosesV_w (a, b, c, d) l hq
  refine W.bindN (fun k => szRingS_eq k l _ (by omega) hl.1) (W.de (by rw [if_neg (by omega)]; omega) ?_)
  refine W.bindN (fun k => rfl) (W.bindE (toRingS_w l hq) (W.bindE hS (W.bindE (toRingS_w l hq) (W.bindN (fun k => rfl) (W.bindE hI (W.bindE (eqPoseS_w _ hv) (W.ne rfl (W.e (by simp) (laws_FnExactTubePoses.w0 ?_)))))))))
  refine W.bindE (toRingS_w l hq) (W.bindE (eqRingS_w l hq) (W.ne rfl (W.bindE (markRingS_w l 1 hq (by omega)) (W.de (by simp only; omega) (W.bindE (eqPoseS_w _ hv) (W.ne rfl (W.e (by simp) (laws_FnExactTubePoses.w1 ?_))))))))
  refine W.bindE (markPoseS_w _ 1 hv (by omega)) (W.bindE (heldPoseS_w _ 1 hv (by omega)) (W.de (by omega) (W.nde rfl ?_)))
  refine W.bindN (fun k => rfl) (W.bindE (toRingS_w l hq) (W.bindE hI (W.bindE (eqPoseS_w _ hv) (W.ne rfl (W.e (by simp) ?_)))))
  exact W.bindE (heldPoseS_w _ 1 hv (by omega)) (W.de (by omega) (W.nde rfl (W.ret rfl)))
end Go.Proofs.Ytmgelocefebldaa.Pure
