/- Rings: what is valid, and how they turn. -/
import Derived.Test.YtmgelocefebldaaXFnBestAxVi
namespace Go.Proofs.Ytmgelocefebldaa.R
open Go.Rv Go.Rv.Ax
set_option linter.unusedVariables false
set_option linter.unusedSimpArgs false
def turnV (x y : Int) : Int × Int := (T.impl_Ring_turn.f x y).getD (0, 0)
def ringB (x y : Int) : Bool := inR 0 1 x && inR 0 15 y
theorem turnI_eq (k : Nat) (x y : Int) (h : ringB x y = true) : impl_Ring_turn.f k x y = some (turnV x y) := by
  simp only [ringB, Bool.and_eq_true, inR_iff] at h
  unfold turnV impl_Ring_turn.f T.impl_Ring_turn.f
  have hx : x = 0 ∨ x = 1 := by omega
  rcases hx with rfl | rfl
  · simp
  · have hy : y = 0 ∨ y = 1 ∨ y = 2 ∨ y = 3 ∨ y = 4 ∨ y = 5 ∨ y = 6 ∨ y = 7 ∨ y = 8 ∨ y = 9 ∨ y = 10 ∨ y = 11 ∨ y = 12 ∨ y = 13 ∨ y = 14 ∨ y = 15 := by omega
    rcases hy with rfl | rfl | rfl | rfl | rfl | rfl | rfl | rfl | rfl | rfl | rfl | rfl | rfl | rfl | rfl | rfl <;> simp [T.impl_Ring_turn.tab]
theorem ringI_eq (k : Nat) (x y : Int) : impl_ValidRing.f k x y = some (ringB x y) := by
  unfold impl_ValidRing.f ringB
  simp only [within_eq, Option.bind_some]
  cases inR 0 1 x <;> simp
theorem turn_ok {x y : Int} (h : ringB x y = true) : okT (turnV x y).1 (turnV x y).2 = true := by
  simp only [ringB, Bool.and_eq_true, inR_iff] at h
  have hx : x = 0 ∨ x = 1 := by omega
  rcases hx with rfl | rfl
  · rfl
  · have hy : y = 0 ∨ y = 1 ∨ y = 2 ∨ y = 3 ∨ y = 4 ∨ y = 5 ∨ y = 6 ∨ y = 7 ∨ y = 8 ∨ y = 9 ∨ y = 10 ∨ y = 11 ∨ y = 12 ∨ y = 13 ∨ y = 14 ∨ y = 15 := by omega
    rcases hy with rfl | rfl | rfl | rfl | rfl | rfl | rfl | rfl | rfl | rfl | rfl | rfl | rfl | rfl | rfl | rfl <;> rfl
end Go.Proofs.Ytmgelocefebldaa.R
