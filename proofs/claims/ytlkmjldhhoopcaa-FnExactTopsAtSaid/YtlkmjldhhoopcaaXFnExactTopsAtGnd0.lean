/- The ground: what the reference draws is valid, and what the program's functions say of a valid one. -/
import Derived.Test.YtlkmjldhhoopcaaXFnExactTopsAtAxB
import Derived.Test.YtlkmjldhhoopcaaRvM3
namespace Go.Proofs.Ytlkmjldhhoopcaa.R
open Go.Rv Go.Rv.Ax
set_option linter.unusedVariables false
set_option linter.unusedSimpArgs false
abbrev Ho := Int × List Int
def dn (l : List Int) : Prop := l.Pairwise fun a b => b ≤ a
def hOk (n : Nat) (h : Ho) : Prop := (0 ≤ h.1 ∧ h.1 ≤ 60) ∧ h.2.length = n ∧ (∀ x ∈ h.2, -100000 ≤ x ∧ x ≤ 100000) ∧ dn h.2
def gOk (D : List Int) (H : List Ho) : Prop := (1 ≤ D.length ∧ D.length ≤ 4) ∧ (∀ x ∈ D, 1 ≤ x ∧ x ≤ 3000) ∧ (1 ≤ H.length ∧ H.length ≤ 6) ∧ (∀ h ∈ H, hOk D.length h) ∧ H.Pairwise fun a b => a.1 < b.1
theorem dn_snoc {l : List Int} {x : Int} (h : dn l) (hx : ∀ y ∈ l, x ≤ y) : dn (l ++ [x]) := by
  unfold dn; rw [List.pairwise_append]
  exact ⟨h, by simp, fun a ha b hb => by simp at hb; subst hb; exact hx a ha⟩
/-- the tops of what is drawn -/
def tOk (l : List Int) : Prop := ∀ x ∈ l, -40000 ≤ x ∧ x ≤ 8000
end Go.Proofs.Ytlkmjldhhoopcaa.R
