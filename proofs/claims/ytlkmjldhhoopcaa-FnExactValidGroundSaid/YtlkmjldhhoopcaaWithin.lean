/- Bounds, in the program and in the reference. -/
import Derived.Test.YtlkmjldhhoopcaaKit
import Derived.Test.YtlkmjldhhoopcaaGy2
import Derived.Test.YtlkmjldhhoopcaaGy0
namespace Go.Proofs.Ytlkmjldhhoopcaa.K
open Go.RowKit Go.Proofs.Ytlkmjldhhoopcaa.G Go.Proofs.YtlkmjldhhoopcaaW.PrintWords Go.Proofs.YtlkmjldhhoopcaaW.PrintLast
def inR (lo hi x : Int) : Bool := decide (lo ≤ x) && decide (x ≤ hi)
theorem inR_iff {lo hi x : Int} : inR lo hi x = true ↔ lo ≤ x ∧ x ≤ hi := by simp [inR]
theorem within_eq (x lo hi : Int) : impl_within.f x lo hi = some (inR lo hi x) := by
  unfold impl_within.f inR
  by_cases h : lo ≤ x <;> simp [h]
theorem l00In_eq (x lo hi : Int) : spec_l00In.f x lo hi = some (inR lo hi x) := by
  unfold spec_l00In.f inR
  by_cases h : lo ≤ x <;> simp [h]
def allIn (lo hi : Int) (l : List Int) : Bool := l.all fun x => decide (lo ≤ x) && decide (x ≤ hi)
theorem areWithin_eq (l : List Int) (lo hi : Int) : impl_areWithin.f l lo hi = some (allIn lo hi l) := rfl
end Go.Proofs.Ytlkmjldhhoopcaa.K
