/- The program's BalanceOf answers what the reference's does, for all arguments; its result is new memory: the plain statement. No condition beyond the row's own bounds. -/
import Derived.Test.YtbabgpkfppdfnaaInts
import Derived.Test.YtbabgpkfppdfnaaMuckB
import Derived.Test.YtbabgpkfppdfnaaGx4
namespace Go.Proofs.Ytbabgpkfppdfnaa.Pure
open Go.RowKit Go.Proofs.Ytbabgpkfppdfnaa.G Go.Proofs.Ytbabgpkfppdfnaa.K Go.Proofs.YtbabgpkfppdfnaaW.PrintWords Go.Proofs.YtbabgpkfppdfnaaW.PrintLast

theorem FnExactBalanceOf : laws_FnExactBalanceOf.Pure := by
  intro l0 l1 _ _ _ _ _ _
  obtain ⟨k, hk⟩ : ∃ k, k = 2097160 := ⟨_, rfl⟩
  refine ⟨k + 1 + 1 + 1, ?_⟩
  unfold laws_FnExactBalanceOf.f
  by_cases h : (l0.length : Int) > 1048576
  · rw [if_pos h]
  by_cases h' : (l1.length : Int) > 1048576
  · rw [if_neg h, if_pos h']
  rw [if_neg h, if_neg h']
  have hv := balV_length l0 l1
  have hT0 : ∀ k, 1048580 ≤ k → laws_toInt64S.f k l0 = some l0 := fun k hk => toInt64S_eq l0 k (by omega) (by omega)
  have hT1 : ∀ k, 1048580 ≤ k → laws_toInt64S.f k l1 = some l1 := fun k hk => toInt64S_eq l1 k (by omega) (by omega)
  have hE0 : ∀ k, 1048580 ≤ k → laws_eqInt64S.f k l0 l0 = some true := fun k hk => eqInt64S_self l0 k (by omega) (by omega)
  have hE1 : ∀ k, 1048580 ≤ k → laws_eqInt64S.f k l1 l1 = some true := fun k hk => eqInt64S_self l1 k (by omega) (by omega)
  have hEv : ∀ k, 1048580 ≤ k → laws_eqInt64S.f k (balV l0 l1).1 (balV l0 l1).1 = some true := fun k hk => eqInt64S_self _ k (by omega) (by omega)
  have hI : ∀ k, 2097160 ≤ k → impl_BalanceOf.f k l0 l1 = some (balV l0 l1) := fun k hk => implBal_eq l0 l1 k (by omega) (by omega) (by omega)
  simp only [hT0 _ (show 1048580 ≤ k + 1 + 1 + 1 by omega), hT1 _ (show 1048580 ≤ k + 1 + 1 + 1 by omega), hEv _ (show 1048580 ≤ k + 1 + 1 + 1 by omega), hI _ (show 2097160 ≤ k + 1 + 1 + 1 by omega), specBal_eq l0 l1 (k + 1 + 1 + 1) (by omega) (by omega) (by omega), Option.bind_some, if_true, bne_self_eq_false]
  simp only [laws_FnExactBalanceOf.j0, hT0 _ (show 1048580 ≤ k + 1 + 1 by omega), hT1 _ (show 1048580 ≤ k + 1 + 1 by omega), hE0 _ (show 1048580 ≤ k + 1 + 1 by omega), hE1 _ (show 1048580 ≤ k + 1 + 1 by omega), hEv _ (show 1048580 ≤ k + 1 + 1 by omega), markInt64S_eq l0 1 (k + 1 + 1) (by omega) (by omega) (by omega) (by omega), markInt64S_eq l1 (1 + l0.length) (k + 1 + 1) (by omega) (by omega) (by omega) (by omega), Option.bind_some, if_true, bne_self_eq_false, Bool.false_eq_true, if_false]
  rw [if_neg (by omega)]
  simp only [laws_FnExactBalanceOf.j1, markInt64S_eq (balV l0 l1).1 1 (k + 1) (by omega) (by omega) (by omega) (by omega), heldInt64S_eq (balV l0 l1).1.length 1 (k + 1) (by omega) (by omega) (by omega) (by omega), hT0 _ (show 1048580 ≤ k + 1 by omega), hT1 _ (show 1048580 ≤ k + 1 by omega), hI _ (show 2097160 ≤ k + 1 by omega), hEv _ (show 1048580 ≤ k + 1 by omega), Option.bind_some, if_true, bne_self_eq_false, Bool.false_eq_true, if_false]
  rw [if_neg (by omega)]
  simp only [laws_FnExactBalanceOf.j2, heldInt64S_eq (balV l0 l1).1.length 1 k (by omega) (by omega) (by omega) (by omega), Option.bind_some, if_true, Bool.false_eq_true, if_false]
  rw [if_neg (by omega)]
  try rfl
end Go.Proofs.Ytbabgpkfppdfnaa.Pure
