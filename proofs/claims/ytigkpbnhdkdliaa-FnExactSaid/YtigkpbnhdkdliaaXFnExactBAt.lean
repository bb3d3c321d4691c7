/- Numbers of bytes that are drawn. -/
import Derived.Test.YtigkpbnhdkdliaaXFnExactO
import Derived.Test.YtigkpbnhdkdliaaRvM5
namespace Go.Proofs.Ytigkpbnhdkdliaa.R
open Go.Rv
set_option linter.unusedVariables false
set_option linter.unusedSimpArgs false
theorem wfu {n : Int} (h : Go.Rv.Wf (.int .u8) n) : 0 ≤ n ∧ n ≤ 255 := by
  have h : (Lit.int .u8 n).wf = true := h
  simp only [Lit.wf, Bool.and_eq_true] at h
  have h1 : (0 : Int) ≤ n := of_decide_eq_true h.1
  have h2 : n ≤ (255 : Int) := of_decide_eq_true h.2
  exact ⟨h1, h2⟩
theorem b10At_w {c : List Int} (h : ∀ b ∈ c, 0 ≤ b ∧ b ≤ 255) (j n : Int) (hj : 0 ≤ j ∧ j ≤ 1000) (hn : n ≤ 100000000000) : W (fun k _ => laws_b10At.f k c j n) (fun (r : Int) => 0 ≤ r ∧ (r = 0 ∨ r < n)) := by
  refine laws_b10At.w (W.di (fun h1 => W.ret (by omega)) (fun h0 => (W.di (fun h1 => W.t hj.1 (W.t h1 (W.e (by omega) (W.ret ?_)))) (fun h1 => W.e (by omega) (W.ret ?_)))))
  · rw [rd_ofNat hj.1 h1]
    have hb := h c[j.toNat] (List.getElem_mem _)
    rw [w64 (by omega) (by omega)]
    exact ⟨Int.tmod_nonneg _ (by omega), .inr (Int.tmod_lt_of_pos _ (by omega))⟩
  · rw [w64 (i := j * 37) (by omega) (by omega), w64 (i := j * 37 + 11) (by omega) (by omega)]
    exact ⟨Int.tmod_nonneg _ (by omega), .inr (Int.tmod_lt_of_pos _ (by omega))⟩
theorem b10Long_w (c d : List Int) : W (fun k _ => laws_b10Long.f k c d) (· = (decide (1048576 < c.length) || decide (1048576 < d.length))) := by
  refine laws_b10Long.w (W.di (fun h => W.ret ?_) (fun h => W.ret ?_))
  · have : 1048576 < c.length := by omega
    simp [this]
  · have : ¬ 1048576 < c.length := by omega
    simp only [this, decide_false, Bool.false_or]
    congr 1
    simp only [eq_iff_iff]
    omega
end Go.Proofs.Ytigkpbnhdkdliaa.R
