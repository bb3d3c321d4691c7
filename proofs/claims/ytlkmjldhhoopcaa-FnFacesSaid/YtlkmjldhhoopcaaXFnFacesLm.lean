/- The lesser and the greater of two numbers. -/
import Derived.Test.YtlkmjldhhoopcaaXFnFacesGnd6
namespace Go.Proofs.Ytlkmjldhhoopcaa.R
open Go.Rv Go.Rv.Ax
set_option linter.unusedVariables false
set_option linter.unusedSimpArgs false
theorem least_eq (k : Nat) (a b : Int) : laws_r8Least.f k a b = some (if a < b then a else b) := by
  unfold laws_r8Least.f
  by_cases h : a < b
  · rw [if_pos (by simpa using h), if_pos h]
  · rw [if_neg (by simpa using h), if_neg h]
theorem most_eq (k : Nat) (a b : Int) : laws_r8Most2.f k a b = some (if b < a then a else b) := by
  unfold laws_r8Most2.f
  by_cases h : b < a
  · rw [if_pos (by simpa using h), if_pos h]
  · rw [if_neg (by simpa using h), if_neg h]
end Go.Proofs.Ytlkmjldhhoopcaa.R
