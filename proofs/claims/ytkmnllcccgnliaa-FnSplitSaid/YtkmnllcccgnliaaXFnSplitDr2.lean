/- The axes that the reference draws are valid: as the laws draw them. -/
import Derived.Test.YtkmnllcccgnliaaXFnSplitDr2b
namespace Go.Proofs.Ytkmnllcccgnliaa.R
open Go.Rv Go.Rv.Ax
set_option linter.unusedVariables false
set_option linter.unusedSimpArgs false
theorem r8Axis_w {c : List Int} (h : ∀ b ∈ c, 0 ≤ b ∧ b ≤ 255) : W (fun k _ => spec_R8Axis.f k c) (fun r => Ok (r.1, r.2.1, r.2.2.1, r.2.2.2.1) r.2.2.2.2) :=
  spec_R8Axis.w (W.bind (from_w h) fun t ht => W.bind (drawOk_w ht (by omega)) fun u hu => W.ret hu.1)
end Go.Proofs.Ytkmnllcccgnliaa.R
