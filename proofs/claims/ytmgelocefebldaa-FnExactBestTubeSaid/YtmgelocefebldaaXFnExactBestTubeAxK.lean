/- Axes as arguments of a row: their size, their copies. -/
import Derived.Test.YtmgelocefebldaaXFnExactBestTubeAxE0
namespace Go.Proofs.Ytmgelocefebldaa.R
open Go.Rv Go.Rv.Ax
set_option linter.unusedVariables false
theorem szAxis_w (a b c d : Int) (l : List Cu) (hl : l.length ≤ 9223372036854775807) : W (fun k _ => laws_szAxis.f k a b c d l 1048576) (· = if (1048576 : Int) < (l.length : Int) then -1 else 1048576 - (l.length : Int)) := by
  refine laws_szAxis.w (W.bindN (fun k => szCurveS_eq k l _ (by omega) hl) ?_)
  split
  · exact W.dt (by omega) (W.ret rfl)
  · exact W.de (by omega) (W.ret rfl)
theorem toAxis_w (p : Po) (l : List Cu) (hl : l.length ≤ 1048576) : W (fun k _ => laws_toAxis.f k p.1 p.2.1 p.2.2.1 p.2.2.2 l) (· = (p.1, p.2.1, p.2.2.1, p.2.2.2, l)) :=
  laws_toAxis.w (W.bindN (t := p) (fun k => rfl) (W.bindE (toCurveS_w l hl) (W.ret rfl)))
end Go.Proofs.Ytmgelocefebldaa.R
