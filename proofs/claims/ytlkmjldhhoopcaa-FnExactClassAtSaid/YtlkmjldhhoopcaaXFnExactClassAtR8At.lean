/- A number of a code. -/
import Derived.Test.YtlkmjldhhoopcaaXFnExactClassAtAxB
namespace Go.Proofs.Ytlkmjldhhoopcaa.R
open Go.Rv Go.Rv.Ax
set_option linter.unusedVariables false
set_option linter.unusedSimpArgs false
theorem cut_at {α : Type} (l : List α) (i : Int) (h : 0 ≤ i ∧ i < l.length) : ∃ A u B, l = A ++ u :: B ∧ (A.length : Int) = i :=
  ⟨l.take i.toNat, l[i.toNat]'(by omega), l.drop (i.toNat + 1), by simp, by simp; omega⟩
theorem r8At_w {c : List Int} (h : ∀ b ∈ c, 0 ≤ b ∧ b ≤ 255) (j n : Int) (hj : 0 ≤ j) (hn : 1 ≤ n) : W (fun k _ => laws_r8At.f k c j n) (fun (r : Int) => 0 ≤ r ∧ r < n) := by
  refine laws_r8At.w (W.di (fun _ => W.ret ⟨Int.le_refl 0, by omega⟩) (fun h1 => W.di (fun _ => W.ret ⟨Int.le_refl 0, by omega⟩) (fun h2 => W.t hj (W.t (by omega) (W.e (by omega) (W.ret ?_))))))
  obtain ⟨A, q, B, e, hA⟩ := cut_at c j (by omega)
  have hq : rd 0 c j = q := by rw [e, ← hA]; exact rd_mid _ _ _
  have := h q (by rw [e]; simp)
  rw [hq, w64 (by omega) (by omega)]
  exact ⟨Int.tmod_nonneg _ (by omega), Int.tmod_lt_of_pos _ (by omega)⟩
end Go.Proofs.Ytlkmjldhhoopcaa.R
