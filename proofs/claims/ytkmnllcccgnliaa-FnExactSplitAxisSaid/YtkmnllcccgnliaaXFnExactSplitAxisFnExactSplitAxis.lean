/- The program's SplitAxis answers what the reference's does, for all arguments, and its results are new memory: the plain statement. No condition beyond the row's own bounds. -/
import Derived.Test.YtkmnllcccgnliaaXFnExactSplitAxisAxK
import Derived.Test.YtkmnllcccgnliaaXFnExactSplitAxisAxS
import Derived.Test.YtkmnllcccgnliaaRvPuFnExactSplitAxis
namespace Go.Proofs.Ytkmnllcccgnliaa.Pure
open Go.Rv Go.Rv.Ax R
set_option linter.unusedVariables false
theorem splitV_small (p : Po) (l : List Cu) (n : Int) : (splitV p l n).2.2.2.2.1.length ≤ 1000 ∧ (splitV p l n).2.2.2.2.2.2.2.2.2.1.length ≤ 1000 := by
  unfold splitV
  split
  · rename_i h
    have h1 := (Ok_small h.1).1
    have h2 := splitL_length l n
    exact ⟨Nat.le_trans h2.1 h1, Nat.le_trans h2.2 h1⟩
  · exact ⟨Nat.zero_le _, Nat.zero_le _⟩
theorem FnExactSplitAxis : PureFnExactSplitAxis := by
  rintro ⟨⟨a, b, c, d⟩, l⟩ n hw hn
  show ∃ k, laws_FnExactSplitAxis.f k a b c d l n = some true
  have hn := Go.Rv.wf_i64 hn
  refine W.yes (laws_FnExactSplitAxis.w ?_)
  by_cases hq : l.length ≤ 1048576
  case neg => exact W.bindE (szAxis_w a b c d l hw.2.1) (W.dt (by rw [if_pos (by omega)]; omega) (W.ret rfl))
  obtain ⟨hv, hu⟩ := splitV_small (a, b, c, d) l n
  have hv' : (splitV (a, b, c, d) l n).2.2.2.2.1.length ≤ 1048576 := by omega
  have hu' : (splitV (a, b, c, d) l n).2.2.2.2.2.2.2.2.2.1.length ≤ 1048576 := by omega
  refine W.bindE (szAxis_w a b c d l hw.2.1) (W.de (by rw [if_neg (by omega)]; omega) ?_)
  refine W.bindE (toAxis_w (a, b, c, d) l hq) (W.bindE (specSplit_w (a, b, c, d) l n hn) (W.bindE (toAxis_w (a, b, c, d) l hq) (W.bindE (implSplit_w (a, b, c, d) l n hn) (W.bindE (eqAxis_w _ _ _ _ _ hv') (W.ne rfl (W.bindE (eqAxis_w _ _ _ _ _ hu') (W.ne rfl (W.e (by simp) ?_))))))))
  refine laws_FnExactSplitAxis.w0 ?_
  refine W.bindE (toAxis_w (a, b, c, d) l hq) (W.bindE (eqAxis_w _ _ _ _ _ hq) (W.ne rfl (W.bindE (markAxis_w _ _ _ _ _ hq) (W.de (by simp only; omega) (W.bindE (eqAxis_w _ _ _ _ _ hv') (W.ne rfl (W.bindE (eqAxis_w _ _ _ _ _ hu') (W.ne rfl (W.e (by simp) ?_)))))))))
  refine laws_FnExactSplitAxis.w1 ?_
  refine W.bindE (markAxis_w _ _ _ _ _ hv') (W.bindE (markAxisG_w _ _ _ _ _ _ hu' (by simp only; omega)) (W.bindE (heldAxis_w _ _ _ _ _ hv') (W.de (by omega) (W.bindE (heldAxisG_w _ _ _ _ _ _ hu' (by omega)) (W.de (by omega) (W.nde rfl ?_))))))
  refine W.bindE (toAxis_w (a, b, c, d) l hq) (W.bindE (implSplit_w (a, b, c, d) l n hn) (W.bindE (eqAxis_w _ _ _ _ _ hv') (W.ne rfl (W.bindE (eqAxis_w _ _ _ _ _ hu') (W.ne rfl (W.e (by simp) ?_))))))
  refine laws_FnExactSplitAxis.w2 ?_
  exact W.bindE (heldAxis_w _ _ _ _ _ hv') (W.de (by omega) (W.bindE (heldAxisG_w _ _ _ _ _ _ hu' (by omega)) (W.de (by omega) (W.nde rfl (W.ret rfl)))))
end Go.Proofs.Ytkmnllcccgnliaa.Pure
