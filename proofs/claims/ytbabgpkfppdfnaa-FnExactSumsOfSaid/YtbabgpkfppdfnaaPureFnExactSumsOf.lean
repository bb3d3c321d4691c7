/- The program's SumsOf answers what the reference's does, for all arguments; its result is new memory: the plain statement. No condition beyond the row's own bounds. -/
import Derived.Test.YtbabgpkfppdfnaaInts
import Derived.Test.YtbabgpkfppdfnaaMuck
import Derived.Test.YtbabgpkfppdfnaaGx8
namespace Go.Proofs.Ytbabgpkfppdfnaa.Pure
open Go.RowKit Go.Proofs.Ytbabgpkfppdfnaa.G Go.Proofs.Ytbabgpkfppdfnaa.K Go.Proofs.YtbabgpkfppdfnaaW.PrintWords Go.Proofs.YtbabgpkfppdfnaaW.PrintLast

theorem FnExactSumsOf : laws_FnExactSumsOf.Pure := by
  intro l0 a1 _ _ _ _
  obtain ⟨k, hk⟩ : ∃ k, k = 1048580 := ⟨_, rfl⟩
  refine ⟨k + 1 + 1 + 1, ?_⟩
  unfold laws_FnExactSumsOf.f
  by_cases h : (l0.length : Int) > 1048576
  · rw [if_pos h]
  · rw [if_neg h]
    have hv := sumsV_length l0 a1
    simp only [toInt64S_eq l0 (k + 1 + 1 + 1) (by omega) (by omega), specSumsOf_eq l0 a1 (k + 1 + 1 + 1) (by omega) (by omega), implSumsOf_eq l0 a1 (k + 1 + 1 + 1) (by omega) (by omega), eqInt64S_self (sumsV l0 a1).1 (k + 1 + 1 + 1) (by omega) (by omega), Option.bind_some, if_true, bne_self_eq_false]
    simp only [laws_FnExactSumsOf.j0, toInt64S_eq l0 (k + 1 + 1) (by omega) (by omega), eqInt64S_self l0 (k + 1 + 1) (by omega) (by omega), markInt64S_eq l0 1 (k + 1 + 1) (by omega) (by omega) (by omega) (by omega), eqInt64S_self (sumsV l0 a1).1 (k + 1 + 1) (by omega) (by omega), Option.bind_some, if_true, bne_self_eq_false, Bool.false_eq_true, if_false]
    rw [if_neg (by omega)]
    simp only [laws_FnExactSumsOf.j1, markInt64S_eq (sumsV l0 a1).1 1 (k + 1) (by omega) (by omega) (by omega) (by omega), heldInt64S_eq (sumsV l0 a1).1.length 1 (k + 1) (by omega) (by omega) (by omega) (by omega), toInt64S_eq l0 (k + 1) (by omega) (by omega), implSumsOf_eq l0 a1 (k + 1) (by omega) (by omega), eqInt64S_self (sumsV l0 a1).1 (k + 1) (by omega) (by omega), Option.bind_some, if_true, bne_self_eq_false, Bool.false_eq_true, if_false]
    rw [if_neg (by omega)]
    simp only [laws_FnExactSumsOf.j2, heldInt64S_eq (sumsV l0 a1).1.length 1 k (by omega) (by omega) (by omega) (by omega), Option.bind_some, if_true, Bool.false_eq_true, if_false]
    rw [if_neg (by omega)]
    try rfl
end Go.Proofs.Ytbabgpkfppdfnaa.Pure
