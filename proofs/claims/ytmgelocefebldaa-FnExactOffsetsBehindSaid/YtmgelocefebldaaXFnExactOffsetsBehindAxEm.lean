/- Marks of axes. -/
import Derived.Test.YtmgelocefebldaaXFnExactOffsetsBehindAxP
import Derived.Test.YtmgelocefebldaaXFnExactOffsetsBehindFr
namespace Go.Proofs.Ytmgelocefebldaa.R
open Go.Rv Go.Rv.Ax
set_option linter.unusedVariables false
set_option linter.unusedSimpArgs false
theorem markAxisG_w (a b c d : Int) (l : List Cu) (s : Int) (hl : l.length ≤ 1048576) (hs : 1 ≤ s ∧ s ≤ 1000000000) : W (fun k _ => laws_markAxis.f k a b c d l s) (· = (s + 3 * (l.length : Int), mkCurveS s l)) :=
  laws_markAxis.w (W.bindE (markCurveS_w l s hl (by omega)) (W.ret rfl))
theorem markAxis_w (a b c d : Int) (l : List Cu) (hl : l.length ≤ 1048576) : W (fun k _ => laws_markAxis.f k a b c d l 1) (· = (1 + 3 * (l.length : Int), mkCurveS 1 l)) := markAxisG_w a b c d l 1 hl (by omega)
end Go.Proofs.Ytmgelocefebldaa.R
