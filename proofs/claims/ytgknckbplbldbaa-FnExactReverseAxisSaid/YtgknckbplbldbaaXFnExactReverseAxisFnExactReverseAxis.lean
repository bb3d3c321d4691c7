/- The program's ReverseAxis answers what the reference's does, for all arguments, and its result is new memory: the plain statement. No condition beyond the row's own bounds. -/
import Derived.Test.YtgknckbplbldbaaXFnExactReverseAxisAxR
import Derived.Test.YtgknckbplbldbaaXFnExactReverseAxisAxK
import Derived.Test.YtgknckbplbldbaaRvPuFnExactReverseAxis
namespace Go.Proofs.Ytgknckbplbldbaa.Pure
open Go.Rv Go.Rv.Ax R
set_option linter.unusedVariables false
theorem FnExactReverseAxis : PureFnExactReverseAxis := by
  rintro ⟨⟨a, b, c, d⟩, l⟩ hw
  show ∃ k, laws_FnExactReverseAxis.f k a b c d l = some true
  refine W.yes (laws_FnExactReverseAxis.w ?_)
  by_cases hq : l.length ≤ 1048576
  case neg => exact W.bindE (szAxis_w a b c d l hw.2.1) (W.dt (by rw [if_pos (by omega)]; omega) (W.ret rfl))
  have hv := revV_length (a, b, c, d) l
  refine W.bindE (szAxis_w a b c d l hw.2.1) (W.de (by rw [if_neg (by omega)]; omega) ?_)
  refine W.bindE (toAxis_w (a, b, c, d) l hq) (W.bindE (specRev_w (a, b, c, d) l) (W.bindE (toAxis_w (a, b, c, d) l hq) (W.bindE (implRev_w (a, b, c, d) l) (W.bindE (eqAxis_w _ _ _ _ _ hv) (W.ne rfl (W.e (by simp) ?_))))))
  refine laws_FnExactReverseAxis.w0 ?_
  refine W.bindE (toAxis_w (a, b, c, d) l hq) (W.bindE (eqAxis_w _ _ _ _ _ hq) (W.ne rfl (W.bindE (markAxis_w _ _ _ _ _ hq) (W.de (by simp only; omega) (W.bindE (eqAxis_w _ _ _ _ _ hv) (W.ne rfl (W.e (by simp) ?_)))))))
  refine laws_FnExactReverseAxis.w1 ?_
  refine W.bindE (markAxis_w _ _ _ _ _ hv) (W.bindE (heldAxis_w _ _ _ _ _ hv) (W.de (by omega) (W.nde rfl ?_)))
  refine W.bindE (toAxis_w (a, b, c, d) l hq) (W.bindE (implRev_w (a, b, c, d) l) (W.bindE (eqAxis_w _ _ _ _ _ hv) (W.ne rfl (W.e (by simp) ?_))))
  exact W.bindE (heldAxis_w _ _ _ _ _ hv) (W.de (by omega) (W.nde rfl (W.ret rfl)))
end Go.Proofs.Ytgknckbplbldbaa.Pure
