/- The number of rings of a valid axis, by the reference. -/
import Derived.Test.YtmgelocefebldaaXFnBestAxT
namespace Go.Proofs.Ytmgelocefebldaa.R
open Go.Rv Go.Rv.Ax
set_option linter.unusedVariables false
set_option linter.unusedSimpArgs false
theorem specRings_w {p : Po} {l : List Cu} (h : Ok p l) : W (fun k _ => spec_l02Rings.f k p.1 p.2.1 p.2.2.1 p.2.2.2 l) (· = ((tl l).length : Int)) :=
  spec_l02Rings.w (W.bindE (specTurnsOk_w h) (W.ret rfl))
end Go.Proofs.Ytmgelocefebldaa.R
