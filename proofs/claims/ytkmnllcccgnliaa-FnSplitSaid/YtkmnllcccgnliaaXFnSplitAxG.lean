/- The number of rings of a valid axis. -/
import Derived.Test.YtkmnllcccgnliaaXFnSplitAxW
namespace Go.Proofs.Ytkmnllcccgnliaa.R
open Go.Rv Go.Rv.Ax
set_option linter.unusedVariables false
set_option linter.unusedSimpArgs false
theorem ringsOf_w {p : Po} {l : List Cu} (h : Ok p l) : W (fun k _ => impl_RingsOf.f k p.1 p.2.1 p.2.2.1 p.2.2.2 l) (· = (((tl l).length : Int), true)) := by
  refine impl_RingsOf.w (W.bindE (implPoses_w p l) ?_)
  have h1 := h.len
  have h2 := poses_length p l
  rw [posesV_ok h]
  refine W.ne rfl (W.ret ?_)
  rw [w64 (by simp only; omega) (by simp only; omega)]
  simp only [Prod.mk.injEq, and_true]; omega
end Go.Proofs.Ytkmnllcccgnliaa.R
