/- The program's DoCycles answers what the reference's does, for all arguments, and leaves its arguments as they were: the plain statement. No condition beyond the row's own bounds. -/
import Derived.Test.YtncdmooobfomeaaCycles
import Derived.Test.YtncdmooobfomeaaFrCycle
import Derived.Test.YtncdmooobfomeaaPuFnExactDoCycles
import Derived.Test.YtncdmooobfomeaaGy15
import Derived.Test.YtncdmooobfomeaaGy6
namespace Go.Proofs.Ytncdmooobfomeaa.Pure
open Go.RowKit Go.Proofs.Ytncdmooobfomeaa.G Go.Proofs.Ytncdmooobfomeaa.K Go.Proofs.YtncdmooobfomeaaW.PrintWords Go.Proofs.YtncdmooobfomeaaW.PrintLast
set_option linter.unusedSimpArgs false

theorem FnExactDoCycles : laws_FnExactDoCycles.Pure := by
  intro a b c d e f g h i l _ _ _ _ _ _ _ _ _ hl _
  refine Ev.rounds (g := fun k => laws_FnExactDoCycles.f k a b c d e f g h i l) ?_
  unfold laws_FnExactDoCycles.f
  refine szCycleS_case l hl fun hl' => ?_
  have hm : (l.map toCy).length ≤ 1048576 := by simpa using hl'
  refine Ev.bind (a := (a, b, c, d, e, f, g, h, i)) (Ev.now _) ?_
  refine Ev.bind (toCycleS_ev l hl') ?_
  refine Ev.bind (specDoCycles_ev ⟨a, b, c, d, e, f, g, h, i⟩ (l.map toCy)) ?_
  refine Ev.bind (toCycleS_ev l hl') ?_
  refine Ev.bind (a := (a, b, c, d, e, f, g, h, i)) (Ev.now _) ?_
  refine Ev.bind (implDoCycles_ev ⟨a, b, c, d, e, f, g, h, i⟩ (l.map toCy)) ?_
  rw [eqMachine_self]
  simp only [Option.bind_some, if_true, bne_self_eq_false]
  refine Ev.step (fun k => by rw [laws_FnExactDoCycles.j0, if_neg (by simp)]) ?_
  refine Ev.bind (toCycleS_ev l hl') ?_
  try simp only [if_true, bne_self_eq_false, Bool.false_eq_true, if_false]
  refine Ev.bind (eqCycleS_ev (l.map toCy) hm) ?_
  try simp only [if_true, bne_self_eq_false, Bool.false_eq_true, if_false]
  exact Ev.now _
end Go.Proofs.Ytncdmooobfomeaa.Pure
