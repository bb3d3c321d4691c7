/- The program's AlarmOf answers what the reference's does, for all arguments, and leaves its argument as it was: the plain statement. No condition beyond the row's own bounds. -/
import Derived.Test.YtbabgpkfppdfnaaInts
import Derived.Test.YtbabgpkfppdfnaaMuck
import Derived.Test.YtbabgpkfppdfnaaGx10
namespace Go.Proofs.Ytbabgpkfppdfnaa.Pure
open Go.RowKit Go.Proofs.Ytbabgpkfppdfnaa.G Go.Proofs.Ytbabgpkfppdfnaa.K Go.Proofs.YtbabgpkfppdfnaaW.PrintWords Go.Proofs.YtbabgpkfppdfnaaW.PrintLast

theorem FnExactAlarmOf : laws_FnExactAlarmOf.Pure := by
  intro l0 a1 a2 _ _ _ _ _
  obtain ⟨k, hk⟩ : ∃ k, k = 1048580 := ⟨_, rfl⟩
  refine ⟨k + 1, ?_⟩
  unfold laws_FnExactAlarmOf.f
  by_cases h : (l0.length : Int) > 1048576
  · rw [if_pos h]
  · rw [if_neg h]
    simp only [toInt64S_eq l0 (k + 1) (by omega) (by omega), specAlarmOf_eq l0 a1 a2 (k + 1) (by omega) (by omega), implAlarm_eq l0 a1 a2 (k + 1) (by omega) (by omega), Option.bind_some, if_true, bne_self_eq_false]
    simp only [laws_FnExactAlarmOf.j0, toInt64S_eq l0 k (by omega) (by omega), eqInt64S_self l0 k (by omega) (by omega), Option.bind_some]
    simp
end Go.Proofs.Ytbabgpkfppdfnaa.Pure
