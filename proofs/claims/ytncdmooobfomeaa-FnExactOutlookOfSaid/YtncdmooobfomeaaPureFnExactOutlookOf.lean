/- The program's OutlookOf answers what the reference's does, for all arguments: the plain statement. No condition beyond the row's own bounds. -/
import Derived.Test.YtncdmooobfomeaaOutlook
import Derived.Test.YtncdmooobfomeaaPuFnExactOutlookOf
import Derived.Test.YtncdmooobfomeaaGy12
import Derived.Test.YtncdmooobfomeaaGy6
namespace Go.Proofs.Ytncdmooobfomeaa.Pure
open Go.RowKit Go.Proofs.Ytncdmooobfomeaa.G Go.Proofs.Ytncdmooobfomeaa.K Go.Proofs.YtncdmooobfomeaaW.PrintWords Go.Proofs.YtncdmooobfomeaaW.PrintLast
set_option linter.unusedSimpArgs false

theorem specOutlookOf_ev (m : Mac) (key : Int) : Ev (fun k => spec_OutlookOf.f k m.a m.b m.c m.d m.e m.f m.g m.h m.i key) (if okM m then outV m key else (0, false)) := by
  unfold spec_OutlookOf.f
  refine Ev.bind (specIs_ev m) ?_
  by_cases ho : okM m = true
  case neg =>
    rw [if_neg ho]
    exact ite_ev_neg ho (Ev.now _)
  rw [if_pos ho]
  refine ite_ev_pos ho ?_
  rw [l00In_eq]
  simp only [Option.bind_some]
  by_cases hk : inR 0 15 key = true
  · refine ite_ev_pos hk ?_
    exact Ev.bind (specOut_ev m key) (Ev.now _)
  · rw [outV_bad m key hk]
    exact ite_ev_neg hk (Ev.now _)
theorem FnExactOutlookOf : laws_FnExactOutlookOf.Pure := by
  intro a b c d e f g h i key _ _ _ _ _ _ _ _ _ _
  refine Ev.rounds (g := fun k => laws_FnExactOutlookOf.f k a b c d e f g h i key) ?_
  unfold laws_FnExactOutlookOf.f
  refine Ev.bind (a := (a, b, c, d, e, f, g, h, i)) (Ev.now _) ?_
  refine Ev.bind (specOutlookOf_ev ⟨a, b, c, d, e, f, g, h, i⟩ key) ?_
  refine Ev.bind (a := (a, b, c, d, e, f, g, h, i)) (Ev.now _) ?_
  refine Ev.bind (implOut_ev ⟨a, b, c, d, e, f, g, h, i⟩ key) ?_
  simp only [if_true, bne_self_eq_false, Bool.false_eq_true, if_false]
  exact Ev.now _
end Go.Proofs.Ytncdmooobfomeaa.Pure
