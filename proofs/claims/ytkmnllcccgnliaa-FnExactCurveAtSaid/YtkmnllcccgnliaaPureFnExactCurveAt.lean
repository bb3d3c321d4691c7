/- The program's CurveAt answers what the reference's does, for all arguments, and leaves its argument as it was: the plain statement. No condition beyond the row's own bounds. -/
import Derived.Test.YtkmnllcccgnliaaFrAxis
import Derived.Test.YtkmnllcccgnliaaAxisR
import Derived.Test.YtkmnllcccgnliaaPuFnExactCurveAt
import Derived.Test.YtkmnllcccgnliaaGy8
namespace Go.Proofs.Ytkmnllcccgnliaa.Pure
open Go.RowKit Go.Proofs.Ytkmnllcccgnliaa.G Go.Proofs.Ytkmnllcccgnliaa.K Go.Proofs.YtkmnllcccgnliaaW.PrintWords Go.Proofs.YtkmnllcccgnliaaW.PrintLast
set_option linter.unusedSimpArgs false

theorem FnExactCurveAt : laws_FnExactCurveAt.Pure := by
  intro a b c d l n _ _ _ _ hl _ _
  refine Ev.rounds (g := fun k => laws_FnExactCurveAt.f k a b c d l n) ?_
  unfold laws_FnExactCurveAt.f
  refine szAxis_case a b c d l hl fun hl' => ?_
  have hm : (l.map toC).length ≤ 1048576 := by simpa using hl'
  refine Ev.bind (toAxis_ev a b c d l hl') ?_
  try simp only [if_true, bne_self_eq_false, Bool.false_eq_true, if_false]
  refine Ev.bind (specCurveAt_ev ⟨a, b, c, d⟩ (l.map toC) n) ?_
  try simp only [if_true, bne_self_eq_false, Bool.false_eq_true, if_false]
  refine Ev.bind (toAxis_ev a b c d l hl') ?_
  try simp only [if_true, bne_self_eq_false, Bool.false_eq_true, if_false]
  refine Ev.bind (implCurveAt_ev ⟨a, b, c, d⟩ (l.map toC) n) ?_
  try simp only [if_true, bne_self_eq_false, Bool.false_eq_true, if_false]
  refine Ev.step (fun k => by rw [laws_FnExactCurveAt.j0, if_neg (by simp)]) ?_
  refine Ev.bind (toAxis_ev a b c d l hl') ?_
  try simp only [if_true, bne_self_eq_false, Bool.false_eq_true, if_false]
  refine Ev.bind (eqAxis_ev a b c d (l.map toC) hm) ?_
  try simp only [if_true, bne_self_eq_false, Bool.false_eq_true, if_false]
  exact Ev.now _
end Go.Proofs.Ytkmnllcccgnliaa.Pure
