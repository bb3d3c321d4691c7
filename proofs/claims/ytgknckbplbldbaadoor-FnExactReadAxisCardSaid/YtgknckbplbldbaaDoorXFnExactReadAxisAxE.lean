/- What the rows' own helpers on axes answer. -/
import Derived.Test.YtgknckbplbldbaaDoorXFnExactReadAxisAxP
import Derived.Test.YtgknckbplbldbaaDoorXFnExactReadAxisFr
import Derived.Test.YtgknckbplbldbaaDoorXFnExactReadAxisAxE0
namespace Go.Proofs.YtgknckbplbldbaaDoor.R
open Go.Rv Go.Rv.Ax
set_option linter.unusedVariables false
set_option linter.unusedSimpArgs false
theorem heldAxisG_w (a b c d : Int) (l : List Cu) (s : Int) (hl : l.length ≤ 1048576) (hs : 1 ≤ s ∧ s ≤ 1000000000) : W (fun k _ => laws_heldAxis.f k a b c d (mkCurveS s l) s) (· = s + 3 * (l.length : Int)) :=
  laws_heldAxis.w (W.bindE (heldCurveS_w l s hl (by omega)) (W.de (by omega) (W.ret rfl)))
theorem markAxisG_w (a b c d : Int) (l : List Cu) (s : Int) (hl : l.length ≤ 1048576) (hs : 1 ≤ s ∧ s ≤ 1000000000) : W (fun k _ => laws_markAxis.f k a b c d l s) (· = (s + 3 * (l.length : Int), mkCurveS s l)) :=
  laws_markAxis.w (W.bindE (markCurveS_w l s hl (by omega)) (W.ret rfl))
theorem heldAxis_w (a b c d : Int) (l : List Cu) (hl : l.length ≤ 1048576) : W (fun k _ => laws_heldAxis.f k a b c d (mkCurveS 1 l) 1) (· = 1 + 3 * (l.length : Int)) := heldAxisG_w a b c d l 1 hl (by omega)
theorem markAxis_w (a b c d : Int) (l : List Cu) (hl : l.length ≤ 1048576) : W (fun k _ => laws_markAxis.f k a b c d l 1) (· = (1 + 3 * (l.length : Int), mkCurveS 1 l)) := markAxisG_w a b c d l 1 hl (by omega)
end Go.Proofs.YtgknckbplbldbaaDoor.R
