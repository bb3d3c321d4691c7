/- The plain statement of the law on the texts of axes. -/
import Derived.Test.YtgknckbplbldbaaDoorXFnExactAxisTextTxAs
import Derived.Test.YtgknckbplbldbaaDoorXFnExactAxisTextTxAi
import Derived.Test.YtgknckbplbldbaaDoorXFnExactAxisTextAxE0
import Derived.Test.YtgknckbplbldbaaDoorXFnExactAxisTextAxK
import Derived.Test.YtgknckbplbldbaaDoorRvPuFnExactAxisText
namespace Go.Proofs.YtgknckbplbldbaaDoor.Pure
open Go.Rv Go.Rv.Tx Go.Rv.Ax Go.Proofs.YtgknckbplbldbaaDoor.R
set_option linter.unusedVariables false
theorem specAxisText_w (p : Po) (l : List Cu) : W (fun k _ => spec_AxisText.f k p.1 p.2.1 p.2.2.1 p.2.2.2 l) (· = if Ok p l then (bs (aText p l), true) else (bs [], false)) := by
  refine spec_AxisText.w (W.bindE (specIs_w p l) ?_)
  by_cases h : Ok p l
  · have hi := ok_i h
    have h8 := h.2.1.2
    rw [if_pos h]
    exact W.nde h (W.bindE (specText_w p l hi.1 (by omega) hi.2) (W.ret rfl))
  · rw [if_neg h]
    exact W.ndt h (W.ret rfl)
theorem FnExactAxisText : PureFnExactAxisText := by
  rintro ⟨⟨a, b, c, d⟩, l⟩ hw
  show ∃ k, laws_FnExactAxisText.f k a b c d l = some true
  refine W.yes (laws_FnExactAxisText.w ?_)
  by_cases hq : l.length ≤ 1048576
  case neg => exact W.bindE (szAxis_w a b c d l hw.2.1) (W.dt (by rw [if_pos (by omega)]; omega) (W.ret rfl))
  refine W.bindE (szAxis_w a b c d l hw.2.1) (W.de (by rw [if_neg (by omega)]; omega) ?_)
  refine W.bindE (toAxis_w (a, b, c, d) l hq) (W.bindE (specAxisText_w (a, b, c, d) l) (W.bindE (toAxis_w (a, b, c, d) l hq) (W.bindE (implText_w (a, b, c, d) l) ?_)))
  refine W.ne ?_ (W.e (by simp) ?_)
  · split <;> simp [eq_bs]
  exact W.bindE (toAxis_w (a, b, c, d) l hq) (W.bindE (eqAxis_w a b c d l hq) (W.ne rfl (W.ret rfl)))
end Go.Proofs.YtgknckbplbldbaaDoor.Pure
