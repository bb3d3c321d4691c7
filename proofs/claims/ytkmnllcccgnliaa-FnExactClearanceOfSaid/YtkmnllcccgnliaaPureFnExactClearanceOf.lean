/- The program's ClearanceOf answers what the reference's does, for all arguments, and leaves its arguments as they were: the plain statement. No condition beyond the row's own bounds. -/
import Derived.Test.YtkmnllcccgnliaaFrAxis
import Derived.Test.YtkmnllcccgnliaaAxisC
import Derived.Test.YtkmnllcccgnliaaPuFnExactClearanceOf
import Derived.Test.YtkmnllcccgnliaaGy11
namespace Go.Proofs.Ytkmnllcccgnliaa.Pure
open Go.RowKit Go.Proofs.Ytkmnllcccgnliaa.G Go.Proofs.Ytkmnllcccgnliaa.K Go.Proofs.YtkmnllcccgnliaaW.PrintWords Go.Proofs.YtkmnllcccgnliaaW.PrintLast
set_option linter.unusedSimpArgs false

theorem FnExactClearanceOf : laws_FnExactClearanceOf.Pure := by
  intro a b c d l z0 z1 z2 z3 z4 _ _ _ _ hl _ _ _ _ _ _
  refine Ev.rounds (g := fun k => laws_FnExactClearanceOf.f k a b c d l z0 z1 z2 z3 z4) ?_
  unfold laws_FnExactClearanceOf.f
  refine szAxis_case a b c d l hl fun hl' => ?_
  have hm : (l.map toC).length ≤ 1048576 := by simpa using hl'
  refine Ev.bind (toAxis_ev a b c d l hl') ?_
  try simp only [if_true, bne_self_eq_false, Bool.false_eq_true, if_false]
  refine Ev.bind (Ev.now (z0, z1, z2, z3, z4)) ?_
  try simp only [if_true, bne_self_eq_false, Bool.false_eq_true, if_false]
  refine Ev.bind (specClr_ev ⟨a, b, c, d⟩ (l.map toC) z0 z1 z2 z3 z4) ?_
  try simp only [if_true, bne_self_eq_false, Bool.false_eq_true, if_false]
  refine Ev.bind (toAxis_ev a b c d l hl') ?_
  try simp only [if_true, bne_self_eq_false, Bool.false_eq_true, if_false]
  refine Ev.bind (Ev.now (z0, z1, z2, z3, z4)) ?_
  try simp only [if_true, bne_self_eq_false, Bool.false_eq_true, if_false]
  refine Ev.bind (implClr_ev ⟨a, b, c, d⟩ (l.map toC) z0 z1 z2 z3 z4) ?_
  try simp only [if_true, bne_self_eq_false, Bool.false_eq_true, if_false]
  refine Ev.step (fun k => by rw [laws_FnExactClearanceOf.j0, if_neg (by simp)]) ?_
  refine Ev.bind (toAxis_ev a b c d l hl') ?_
  try simp only [if_true, bne_self_eq_false, Bool.false_eq_true, if_false]
  refine Ev.bind (eqAxis_ev a b c d (l.map toC) hm) ?_
  try simp only [if_true, bne_self_eq_false, Bool.false_eq_true, if_false]
  exact Ev.now _
end Go.Proofs.Ytkmnllcccgnliaa.Pure
