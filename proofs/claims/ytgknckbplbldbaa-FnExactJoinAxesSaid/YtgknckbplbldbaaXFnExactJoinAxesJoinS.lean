/- Joining axes: what the reference answers. -/
import Derived.Test.YtgknckbplbldbaaXFnExactJoinAxesJoin
import Derived.Test.YtgknckbplbldbaaXFnExactJoinAxesAxS1
namespace Go.Proofs.Ytgknckbplbldbaa.R
open Go.Rv Go.Rv.Ax
set_option linter.unusedVariables false
set_option linter.unusedSimpArgs false
theorem specJoin_w (p : Po) (l : List Cu) (q : Po) (m : List Cu) : W (fun k _ => spec_JoinAxes.f k p.1 p.2.1 p.2.2.1 p.2.2.2 l q.1 q.2.1 q.2.2.1 q.2.2.2 m) (· = joinV p l q m) := by
  refine spec_JoinAxes.w (W.bindE (specIs_w p l) ?_)
  refine W.ni (fun h => W.ret ?_) (fun h => ?_)
  · rw [joinV, if_neg (fun e => by simp [e.1] at h)]
  have h1 : Ok p l := of_decide_eq_true h
  refine W.bindE (specIs_w q m) (W.ni (fun h => W.ret ?_) (fun h => ?_))
  · rw [joinV, if_neg (fun e => by simp [e.2.1] at h)]
  have h2 : Ok q m := of_decide_eq_true h
  have hpl := poses_length p l
  have hl8 := h1.2.1
  have hm8 := h2.2.1
  have hlast := lastPose p l
  rw [show ((poses p l).length : Int) - 1 = ((tl l).length : Int) by omega] at hlast
  refine W.bindE (specPoses_w h1) (W.bindE (specRings_w h1) (W.t (by omega) (W.t (by omega) ?_)))
  rw [hlast]
  refine W.ni (fun h => W.ret ?_) (fun h => ?_)
  · rw [joinV, if_neg]
    intro h'
    rw [(poseEqJ (endP p (tl l)) q).2 h'.2.2.1.symm] at h
    cases h
  have h3 := ((poseEqJ (endP p (tl l)) q).1 h).symm
  refine spec_JoinAxes.w0 (W.t (by simp only [List.length_nil]; omega) (W.t (by simp only [List.nil_append]; omega) ?_))
  rw [List.nil_append]
  refine W.bindE (specIs_w p (l ++ m)) (W.ni (fun h => W.ret ?_) (fun h => W.ret ?_))
  · rw [joinV, if_neg (fun e => by simp [e.2.2.2] at h)]
  · rw [joinV, if_pos ⟨h1, h2, h3, of_decide_eq_true h⟩]
theorem joinV_small (p : Po) (l : List Cu) (q : Po) (m : List Cu) : (joinV p l q m).2.2.2.2.1.length ≤ 1048576 := by
  unfold joinV
  split
  · rename_i h
    have := h.2.2.2.2.1
    dsimp only; omega
  · exact Nat.zero_le _
end Go.Proofs.Ytgknckbplbldbaa.R
