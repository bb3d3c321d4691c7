/- The program's LeastAllowance answers what the reference's does, for all arguments, and leaves its argument as it was: the plain statement. No condition beyond the row's own bounds. -/
import Derived.Test.YtbabgpkfppdfnaaInts
import Derived.Test.YtbabgpkfppdfnaaMuckL
import Derived.Test.YtbabgpkfppdfnaaGx13
namespace Go.Proofs.Ytbabgpkfppdfnaa.Pure
open Go.RowKit Go.Proofs.Ytbabgpkfppdfnaa.G Go.Proofs.Ytbabgpkfppdfnaa.K Go.Proofs.YtbabgpkfppdfnaaW.PrintWords Go.Proofs.YtbabgpkfppdfnaaW.PrintLast

theorem FnExactLeastAllowance : laws_FnExactLeastAllowance.Pure := by
  intro l0 a1 _ _ _ _
  by_cases h : (l0.length : Int) > 1048576
  · exact ⟨0, by unfold laws_FnExactLeastAllowance.f; rw [if_pos h]⟩
  obtain ⟨r, ok, _, _, h1⟩ := least_both l0 a1 (by omega)
  obtain ⟨k, hk⟩ : ∃ k, k = 2048600 := ⟨_, rfl⟩
  refine ⟨k + 1, ?_⟩
  unfold laws_FnExactLeastAllowance.f
  rw [if_neg h]
  simp only [toInt64S_eq l0 (k + 1) (by omega) (by omega), (h1 (k + 1) (by omega)).1, (h1 (k + 1) (by omega)).2, Option.bind_some, if_true, bne_self_eq_false]
  simp only [laws_FnExactLeastAllowance.j0, toInt64S_eq l0 k (by omega) (by omega), eqInt64S_self l0 k (by omega) (by omega), Option.bind_some]
  simp
end Go.Proofs.Ytbabgpkfppdfnaa.Pure
