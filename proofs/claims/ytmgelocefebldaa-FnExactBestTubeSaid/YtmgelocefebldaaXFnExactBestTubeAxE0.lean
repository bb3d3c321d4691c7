/- Equality of axes with themselves. -/
import Derived.Test.YtmgelocefebldaaXFnExactBestTubeFr
import Derived.Test.YtmgelocefebldaaXFnExactBestTubeAxP
namespace Go.Proofs.Ytmgelocefebldaa.R
open Go.Rv Go.Rv.Ax
set_option linter.unusedVariables false
set_option linter.unusedSimpArgs false
theorem eqPose_eq (k : Nat) (a b c d : Int) : laws_eqPose.f k a b c d a b c d = some true := by simp [laws_eqPose.f]
theorem eqAxis_w (a b c d : Int) (l : List Cu) (hl : l.length ≤ 1048576) : W (fun k _ => laws_eqAxis.f k a b c d l a b c d l) (· = true) :=
  laws_eqAxis.w (W.bindN (fun k => eqPose_eq k a b c d) (W.ne rfl (W.bindE (eqCurveS_w l hl) (W.ne rfl (W.ret rfl)))))
end Go.Proofs.Ytmgelocefebldaa.R
