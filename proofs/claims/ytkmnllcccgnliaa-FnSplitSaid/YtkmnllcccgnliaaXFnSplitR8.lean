/- Axes and poses equal to themselves; the normal axis. -/
import Derived.Test.YtkmnllcccgnliaaXFnSplitAxN
import Derived.Test.YtkmnllcccgnliaaXFnSplitAxM0
import Derived.Test.YtkmnllcccgnliaaXFnSplitAxM1
namespace Go.Proofs.Ytkmnllcccgnliaa.R
open Go.Rv Go.Rv.Ax
set_option linter.unusedVariables false
set_option linter.unusedSimpArgs false
theorem normal_w {p : Po} {l : List Cu} (h : Ok p l) : W (fun k _ => impl_NormalAxis.f k p.1 p.2.1 p.2.2.1 p.2.2.2 l) (· = (p.1, p.2.1, p.2.2.1, p.2.2.2, merge l, true)) := by
  have h8 := h.2.1
  exact impl_NormalAxis.w (W.bindE (validAxis_w p l) (W.ne (by simp [h]) (W.bindE (implMerge_w l (by omega) h.nn (by have := h.2.2.2.1; omega)) (W.ret rfl))))
theorem r8Axes_w (p : Po) (l : List Cu) (hl : l.length ≤ 1048576) : W (fun k _ => laws_r8Axes.f k p.1 p.2.1 p.2.2.1 p.2.2.2 l p.1 p.2.1 p.2.2.1 p.2.2.2 l) (· = true) := by
  refine laws_r8Axes.w (W.ne (by simp) (W.nde rfl (laws_r8Axes.w0 ?_)))
  have key : ∀ (rest pre : List Cu), l = pre ++ rest → W (fun k m => (laws_r8Axes.cs k m).2 p.1 p.2.1 p.2.2.1 p.2.2.2 l p.1 p.2.1 p.2.2.1 p.2.2.2 l (pre.length : Int)) (· = true) := by
    intro rest
    induction rest with
    | nil => intro pre e; exact laws_r8Axes.w1 (W.de (by rw [e]; simp) (W.ret rfl))
    | cons x rest ih =>
      intro pre e
      have hlen : l.length = pre.length + (rest.length + 1) := by rw [e]; simp
      refine laws_r8Axes.w1 (W.dt (by omega) (W.t (by omega) (W.t (by omega) (W.t (by omega) (W.t (by omega) (W.ne (by simp) ?_))))))
      have := ih (pre ++ [x]) (by simp [e])
      rw [w64 (by omega) (by omega)]
      simpa using this
  exact key l [] rfl
theorem r8Poses_w (l : List Po) (hl : l.length ≤ 1048576) : W (fun k _ => laws_r8Poses.f k l l) (· = true) := by
  refine laws_r8Poses.w (W.nde rfl ?_)
  have key : ∀ (rest pre : List Po), l = pre ++ rest → W (fun k m => (laws_r8Poses.cs k m) l l (pre.length : Int)) (· = true) := by
    intro rest
    induction rest with
    | nil => intro pre e; exact laws_r8Poses.w0 (W.de (by rw [e]; simp) (W.ret rfl))
    | cons x rest ih =>
      intro pre e
      have hlen : l.length = pre.length + (rest.length + 1) := by rw [e]; simp
      refine laws_r8Poses.w0 (W.dt (by omega) (W.t (by omega) (W.t (by omega) (W.t (by omega) (W.t (by omega) (W.ne (by simp) ?_))))))
      have := ih (pre ++ [x]) (by simp [e])
      rw [w64 (by omega) (by omega)]
      simpa using this
  exact key l [] rfl
end Go.Proofs.Ytkmnllcccgnliaa.R
