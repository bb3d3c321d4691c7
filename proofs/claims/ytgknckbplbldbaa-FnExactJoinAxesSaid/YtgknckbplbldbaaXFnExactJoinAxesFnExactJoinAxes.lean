/- The program's JoinAxes answers what the reference's does, for all arguments, and its result is new memory: the plain statement. No condition beyond the rows' own bounds. -/
import Derived.Test.YtgknckbplbldbaaXFnExactJoinAxesJoinS
import Derived.Test.YtgknckbplbldbaaXFnExactJoinAxesAxE
import Derived.Test.YtgknckbplbldbaaXFnExactJoinAxesAxK
import Derived.Test.YtgknckbplbldbaaRvPuFnExactJoinAxes
namespace Go.Proofs.Ytgknckbplbldbaa.Pure
open Go.Rv Go.Rv.Ax R
set_option linter.unusedVariables false
theorem szAxisG_w (a b c d : Int) (l : List Cu) (n : Int) (hn : 0 ≤ n ∧ n ≤ 1048576) (hl : l.length ≤ 9223372036854775807) : W (fun k _ => laws_szAxis.f k a b c d l n) (· = if n < (l.length : Int) then -1 else n - (l.length : Int)) := by
  refine laws_szAxis.w (W.bindN (fun k => szCurveS_eq k l _ (by omega) hl) ?_)
  split
  · exact W.dt (by omega) (W.ret rfl)
  · exact W.de (by omega) (W.ret rfl)
theorem FnExactJoinAxes : PureFnExactJoinAxes := by
  rintro ⟨⟨a, b, c, d⟩, l⟩ ⟨⟨e, f, g, h⟩, m⟩ hw hw'
  show ∃ k, laws_FnExactJoinAxes.f k a b c d l e f g h m = some true
  refine W.yes (laws_FnExactJoinAxes.w ?_)
  by_cases hq : l.length ≤ 1048576
  case neg => exact W.bindE (szAxis_w a b c d l hw.2.1) (W.dt (by rw [if_pos (by omega)]; omega) (W.ret rfl))
  refine W.bindE (szAxis_w a b c d l hw.2.1) (W.de (by rw [if_neg (by omega)]; omega) ?_)
  rw [if_neg (by omega)]
  by_cases hr : (m.length : Int) ≤ 1048576 - (l.length : Int)
  case neg => exact W.bindE (szAxisG_w e f g h m _ (by omega) hw'.2.1) (W.dt (by rw [if_pos (by omega)]; omega) (W.ret rfl))
  refine W.bindE (szAxisG_w e f g h m _ (by omega) hw'.2.1) (W.de (by rw [if_neg (by omega)]; omega) ?_)
  have hv := joinV_small (a, b, c, d) l (e, f, g, h) m
  have hr' : m.length ≤ 1048576 := by omega
  refine W.bindE (toAxis_w (a, b, c, d) l hq) (W.bindE (toAxis_w (e, f, g, h) m hr') (W.bindE (specJoin_w (a, b, c, d) l (e, f, g, h) m) (W.bindE (toAxis_w (a, b, c, d) l hq) (W.bindE (toAxis_w (e, f, g, h) m hr') (W.bindE (implJoin_w (a, b, c, d) l (e, f, g, h) m hq hr') (W.bindE (eqAxis_w _ _ _ _ _ hv) (W.ne rfl (W.e (by simp) ?_))))))))
  refine laws_FnExactJoinAxes.w0 ?_
  refine W.bindE (toAxis_w (a, b, c, d) l hq) (W.bindE (eqAxis_w _ _ _ _ _ hq) (W.ne rfl (W.bindE (toAxis_w (e, f, g, h) m hr') (W.bindE (eqAxis_w _ _ _ _ _ hr') (W.ne rfl ?_)))))
  refine W.bindE (markAxis_w _ _ _ _ _ hq) (W.bindE (markAxisG_w _ _ _ _ _ _ hr' (by simp only; omega)) (W.de (by simp only; omega) (W.bindE (eqAxis_w _ _ _ _ _ hv) (W.ne rfl (W.e (by simp) ?_)))))
  refine laws_FnExactJoinAxes.w1 ?_
  refine W.bindE (markAxis_w _ _ _ _ _ hv) (W.bindE (heldAxis_w _ _ _ _ _ hv) (W.de (by omega) (W.nde rfl ?_)))
  refine W.bindE (toAxis_w (a, b, c, d) l hq) (W.bindE (toAxis_w (e, f, g, h) m hr') (W.bindE (implJoin_w (a, b, c, d) l (e, f, g, h) m hq hr') (W.bindE (eqAxis_w _ _ _ _ _ hv) (W.ne rfl (W.e (by simp) ?_)))))
  exact W.bindE (heldAxis_w _ _ _ _ _ hv) (W.de (by omega) (W.nde rfl (W.ret rfl)))
end Go.Proofs.Ytgknckbplbldbaa.Pure
