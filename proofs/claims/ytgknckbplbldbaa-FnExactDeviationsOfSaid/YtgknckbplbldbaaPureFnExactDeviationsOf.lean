/- The program's DeviationsOf answers what the reference's does, for all arguments; its result is new memory: the plain statement. No condition beyond the row's own bounds. -/
import Derived.Test.YtgknckbplbldbaaFrAxisM
import Derived.Test.YtgknckbplbldbaaFrToP
import Derived.Test.YtgknckbplbldbaaFrPosesM
import Derived.Test.YtgknckbplbldbaaIntsB
import Derived.Test.YtgknckbplbldbaaAxisD
import Derived.Test.YtgknckbplbldbaaPuFnExactDeviationsOf
import Derived.Test.YtgknckbplbldbaaGy3
namespace Go.Proofs.Ytgknckbplbldbaa.Pure
open Go.RowKit Go.Proofs.Ytgknckbplbldbaa.G Go.Proofs.Ytgknckbplbldbaa.K Go.Proofs.YtgknckbplbldbaaW.PrintWords Go.Proofs.YtgknckbplbldbaaW.PrintLast
set_option linter.unusedSimpArgs false

theorem FnExactDeviationsOf : laws_FnExactDeviationsOf.Pure := by
  intro a b c d l q _ _ _ _ hl _ hq _
  refine Ev.rounds (g := fun k => laws_FnExactDeviationsOf.f k a b c d l q) ?_
  unfold laws_FnExactDeviationsOf.f
  rw [szAxis_eq _ _ _ _ _ _ (by omega) (by omega) hl]
  simp only [Option.bind_some]
  by_cases hc : (l.length : Int) ≤ 1048576
  case neg =>
    refine Ev.congr (fun k => ?_) (Ev.now true)
    rw [if_neg hc, if_pos (by omega)]
  rw [if_pos hc]
  refine ite_ev_neg (by omega) ?_
  refine szPoseS_case q _ (by omega) (by omega) hq fun hq' => ?_
  have hl' : l.length ≤ 1048576 := by omega
  have hm : (l.map toC).length ≤ 1048576 := by simpa using hl'
  have hmq : (q.map toP).length ≤ 1048576 := by simpa using hq'
  have hv := devV_length ⟨a, b, c, d⟩ (l.map toC) (q.map toP)
  refine Ev.bind (toAxis_ev a b c d l hl') ?_
  try simp only [if_true, bne_self_eq_false, Bool.false_eq_true, if_false]
  refine Ev.bind (toPoseS_ev q hq') ?_
  try simp only [if_true, bne_self_eq_false, Bool.false_eq_true, if_false]
  refine Ev.bind (specDev_ev ⟨a, b, c, d⟩ (l.map toC) (q.map toP) hmq) ?_
  try simp only [if_true, bne_self_eq_false, Bool.false_eq_true, if_false]
  refine Ev.bind (toAxis_ev a b c d l hl') ?_
  try simp only [if_true, bne_self_eq_false, Bool.false_eq_true, if_false]
  refine Ev.bind (toPoseS_ev q hq') ?_
  try simp only [if_true, bne_self_eq_false, Bool.false_eq_true, if_false]
  refine Ev.bind (implDev_ev ⟨a, b, c, d⟩ (l.map toC) (q.map toP) hmq) ?_
  try simp only [if_true, bne_self_eq_false, Bool.false_eq_true, if_false]
  refine Ev.bind (eqInts_ev _ (by omega)) ?_
  try simp only [if_true, bne_self_eq_false, Bool.false_eq_true, if_false]
  refine Ev.step (fun k => by rw [laws_FnExactDeviationsOf.j0, if_neg (by simp)]) ?_
  refine Ev.bind (toAxis_ev a b c d l hl') ?_
  try simp only [if_true, bne_self_eq_false, Bool.false_eq_true, if_false]
  refine Ev.bind (eqAxis_ev a b c d (l.map toC) hm) ?_
  try simp only [if_true, bne_self_eq_false, Bool.false_eq_true, if_false]
  refine Ev.bind (toPoseS_ev q hq') ?_
  try simp only [if_true, bne_self_eq_false, Bool.false_eq_true, if_false]
  refine Ev.bind (eqPoseS_ev (q.map toP) hmq) ?_
  try simp only [if_true, bne_self_eq_false, Bool.false_eq_true, if_false]
  refine Ev.bind (markAxis_ev a b c d (l.map toC) 1 hm (by omega) (by omega)) ?_
  try simp only [if_true, bne_self_eq_false, Bool.false_eq_true, if_false]
  refine Ev.bind (markPoseS_ev (q.map toP) _ hmq (by omega) (by omega)) ?_
  try simp only [if_true, bne_self_eq_false, Bool.false_eq_true, if_false]
  refine ite_ev_neg (by omega) ?_
  refine Ev.bind (eqInts_ev _ (by omega)) ?_
  try simp only [if_true, bne_self_eq_false, Bool.false_eq_true, if_false]
  refine Ev.step (fun k => by rw [laws_FnExactDeviationsOf.j1, if_neg (by simp)]) ?_
  refine Ev.bind (markInts_ev _ 1 (by omega) (by omega) (by omega)) ?_
  try simp only [if_true, bne_self_eq_false, Bool.false_eq_true, if_false]
  refine Ev.bind (heldInts_ev _ 1 (by omega) (by omega) (by omega)) ?_
  try simp only [if_true, bne_self_eq_false, Bool.false_eq_true, if_false]
  refine ite_ev_neg (by omega) ?_
  refine Ev.bind (toAxis_ev a b c d l hl') ?_
  try simp only [if_true, bne_self_eq_false, Bool.false_eq_true, if_false]
  refine Ev.bind (toPoseS_ev q hq') ?_
  try simp only [if_true, bne_self_eq_false, Bool.false_eq_true, if_false]
  refine Ev.bind (implDev_ev ⟨a, b, c, d⟩ (l.map toC) (q.map toP) hmq) ?_
  try simp only [if_true, bne_self_eq_false, Bool.false_eq_true, if_false]
  refine Ev.bind (eqInts_ev _ (by omega)) ?_
  try simp only [if_true, bne_self_eq_false, Bool.false_eq_true, if_false]
  refine Ev.step (fun k => by rw [laws_FnExactDeviationsOf.j2, if_neg (by simp)]) ?_
  refine Ev.bind (heldInts_ev _ 1 (by omega) (by omega) (by omega)) ?_
  try simp only [if_true, bne_self_eq_false, Bool.false_eq_true, if_false]
  refine ite_ev_neg (by omega) ?_
  exact Ev.now _
end Go.Proofs.Ytgknckbplbldbaa.Pure
