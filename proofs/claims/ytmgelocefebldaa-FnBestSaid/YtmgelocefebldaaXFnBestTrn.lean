/- Rings: what is valid, and how they turn. -/
import Derived.Test.YtmgelocefebldaaXFnBestAxV
import Derived.Test.YtmgelocefebldaaXFnBestTrnI
namespace Go.Proofs.Ytmgelocefebldaa.R
open Go.Rv Go.Rv.Ax
set_option linter.unusedVariables false
set_option linter.unusedSimpArgs false
theorem turn_eq (k : Nat) (x y : Int) (h : ringB x y = true) : spec_l03Turn.f k x y = some (turnV x y) ∧ impl_Ring_turn.f k x y = some (turnV x y) := by
  simp only [ringB, Bool.and_eq_true, inR_iff] at h
  unfold turnV spec_l03Turn.f impl_Ring_turn.f T.impl_Ring_turn.f
  have hx : x = 0 ∨ x = 1 := by omega
  rcases hx with rfl | rfl
  · simp
  · rw [w64 (by omega) (by omega)]
    have hy : y = 0 ∨ y = 1 ∨ y = 2 ∨ y = 3 ∨ y = 4 ∨ y = 5 ∨ y = 6 ∨ y = 7 ∨ y = 8 ∨ y = 9 ∨ y = 10 ∨ y = 11 ∨ y = 12 ∨ y = 13 ∨ y = 14 ∨ y = 15 := by omega
    rcases hy with rfl | rfl | rfl | rfl | rfl | rfl | rfl | rfl | rfl | rfl | rfl | rfl | rfl | rfl | rfl | rfl <;> simp [T.impl_Ring_turn.tab, rd]
theorem ring_eq (k : Nat) (x y : Int) : spec_l03Is.f k x y = some (ringB x y) ∧ impl_ValidRing.f k x y = some (ringB x y) := by
  unfold spec_l03Is.f impl_ValidRing.f ringB
  simp only [l00In_eq, within_eq, Option.bind_some]
  cases inR 0 1 x <;> simp
end Go.Proofs.Ytmgelocefebldaa.R
