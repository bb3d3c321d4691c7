/- The program's NormalAxis answers what the reference's does, for all arguments; its result is new memory: the plain statement. No condition beyond the row's own bounds. -/
import Derived.Test.YtkmnllcccgnliaaFrAxis
import Derived.Test.YtkmnllcccgnliaaAxisN
import Derived.Test.YtkmnllcccgnliaaPuFnExactNormalAxis
import Derived.Test.YtkmnllcccgnliaaGy16
namespace Go.Proofs.Ytkmnllcccgnliaa.Pure
open Go.RowKit Go.Proofs.Ytkmnllcccgnliaa.G Go.Proofs.Ytkmnllcccgnliaa.K Go.Proofs.YtkmnllcccgnliaaW.PrintWords Go.Proofs.YtkmnllcccgnliaaW.PrintLast
set_option linter.unusedSimpArgs false

theorem FnExactNormalAxis : laws_FnExactNormalAxis.Pure := by
  intro a b c d l _ _ _ _ hl _
  refine Ev.rounds (g := fun k => laws_FnExactNormalAxis.f k a b c d l) ?_
  unfold laws_FnExactNormalAxis.f
  refine szAxis_case a b c d l hl fun hl' => ?_
  have hm : (l.map toC).length ≤ 1048576 := by simpa using hl'
  have hv := norV_length ⟨a, b, c, d⟩ (l.map toC) hm
  refine Ev.bind (toAxis_ev a b c d l hl') ?_
  try simp only [if_true, bne_self_eq_false, Bool.false_eq_true, if_false]
  refine Ev.bind (specNormal_ev ⟨a, b, c, d⟩ (l.map toC) hm) ?_
  try simp only [if_true, bne_self_eq_false, Bool.false_eq_true, if_false]
  refine Ev.bind (toAxis_ev a b c d l hl') ?_
  try simp only [if_true, bne_self_eq_false, Bool.false_eq_true, if_false]
  refine Ev.bind (implNormal_ev ⟨a, b, c, d⟩ (l.map toC) hm) ?_
  try simp only [if_true, bne_self_eq_false, Bool.false_eq_true, if_false]
  refine Ev.bind (eqAxis_ev _ _ _ _ _ hv) ?_
  try simp only [if_true, bne_self_eq_false, Bool.false_eq_true, if_false]
  refine Ev.step (fun k => by rw [laws_FnExactNormalAxis.j0, if_neg (by simp)]) ?_
  refine Ev.bind (toAxis_ev a b c d l hl') ?_
  try simp only [if_true, bne_self_eq_false, Bool.false_eq_true, if_false]
  refine Ev.bind (eqAxis_ev a b c d (l.map toC) hm) ?_
  try simp only [if_true, bne_self_eq_false, Bool.false_eq_true, if_false]
  refine Ev.bind (markAxis_ev a b c d (l.map toC) 1 hm (by omega) (by omega)) ?_
  try simp only [if_true, bne_self_eq_false, Bool.false_eq_true, if_false]
  refine ite_ev_neg (by omega) ?_
  refine Ev.bind (eqAxis_ev _ _ _ _ _ hv) ?_
  try simp only [if_true, bne_self_eq_false, Bool.false_eq_true, if_false]
  refine Ev.step (fun k => by rw [laws_FnExactNormalAxis.j1, if_neg (by simp)]) ?_
  refine Ev.bind (markAxis_ev _ _ _ _ _ 1 hv (by omega) (by omega)) ?_
  try simp only [if_true, bne_self_eq_false, Bool.false_eq_true, if_false]
  refine Ev.bind (heldAxis_ev _ _ _ _ _ 1 hv (by omega) (by omega)) ?_
  try simp only [if_true, bne_self_eq_false, Bool.false_eq_true, if_false]
  refine ite_ev_neg (by omega) ?_
  refine Ev.bind (toAxis_ev a b c d l hl') ?_
  try simp only [if_true, bne_self_eq_false, Bool.false_eq_true, if_false]
  refine Ev.bind (implNormal_ev ⟨a, b, c, d⟩ (l.map toC) hm) ?_
  try simp only [if_true, bne_self_eq_false, Bool.false_eq_true, if_false]
  refine Ev.bind (eqAxis_ev _ _ _ _ _ hv) ?_
  try simp only [if_true, bne_self_eq_false, Bool.false_eq_true, if_false]
  refine Ev.step (fun k => by rw [laws_FnExactNormalAxis.j2, if_neg (by simp)]) ?_
  refine Ev.bind (heldAxis_ev _ _ _ _ _ 1 hv (by omega) (by omega)) ?_
  try simp only [if_true, bne_self_eq_false, Bool.false_eq_true, if_false]
  refine ite_ev_neg (by omega) ?_
  exact Ev.now _
end Go.Proofs.Ytkmnllcccgnliaa.Pure
