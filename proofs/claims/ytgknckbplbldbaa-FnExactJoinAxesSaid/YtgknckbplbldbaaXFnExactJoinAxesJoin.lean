/- Joining axes: what the program answers. -/
import Derived.Test.YtgknckbplbldbaaXFnExactJoinAxesAxW
import Derived.Test.YtgknckbplbldbaaXFnExactJoinAxesAxM0
namespace Go.Proofs.Ytgknckbplbldbaa.R
open Go.Rv Go.Rv.Ax
set_option linter.unusedVariables false
set_option linter.unusedSimpArgs false
theorem concat_w (l m : List Cu) (hl : l.length ≤ 1048576) (hm : m.length ≤ 1048576) : W (fun k _ => slices_Concat_Curve.f k [l, m]) (· = l ++ m) := by
  have r0 : rd [] [l, m] 0 = l := rfl
  have r1 : rd [] [l, m] 1 = m := rfl
  have w1 : wrap64 ((0 : Int) + 1) = 1 := w64 (by omega) (by omega)
  have w2 : wrap64 ((1 : Int) + 1) = 2 := w64 (by omega) (by omega)
  have hb : (([l, m] : List (List Cu)).length : Int) = 2 := rfl
  refine slices_Concat_Curve.w ?_
  rw [hb]
  refine slices_Concat_Curve.w0 (W.dt (by omega) (W.t (by omega) (W.t (by rw [hb]; omega) ?_)))
  rw [r0, w1, w64 (i := (0 : Int) + (l.length : Int)) (by omega) (by omega)]
  refine W.de (by omega) (slices_Concat_Curve.w0 (W.dt (by omega) (W.t (by omega) (W.t (by rw [hb]; omega) ?_))))
  rw [r1, w2, w64 (i := (0 : Int) + (l.length : Int) + (m.length : Int)) (by omega) (by omega)]
  refine W.de (by omega) (slices_Concat_Curve.w0 (W.de (by omega) ?_))
  refine W.bindN (t := ([] : List Cu)) (fun k => ?_) ?_
  · unfold slices_Grow_Curve.f T.growF
    rw [if_pos (by omega), if_pos (by omega)]
  rw [hb]
  refine slices_Concat_Curve.w1 (W.dt (by omega) (W.t (by omega) (W.t (by rw [hb]; omega) ?_)))
  rw [r0, w1]
  refine W.t (by simp only [List.length_nil]; omega) (slices_Concat_Curve.w1 (W.dt (by omega) (W.t (by omega) (W.t (by rw [hb]; omega) ?_))))
  rw [r1, w2]
  refine W.t (by simp; omega) (slices_Concat_Curve.w1 (W.de (by omega) (W.ret rfl)))
abbrev JoR := Int × Int × Int × Int × List Cu × Bool
def joinV (p : Po) (l : List Cu) (q : Po) (m : List Cu) : JoR := if Ok p l ∧ Ok q m ∧ q = endP p (tl l) ∧ Ok p (l ++ m) then (p.1, p.2.1, p.2.2.1, p.2.2.2, l ++ m, true) else (0, 0, 0, 0, [], false)
theorem poseEqJ (a b : Po) : ((decide (a.1 = b.1) && (decide (a.2.1 = b.2.1) && (decide (a.2.2.1 = b.2.2.1) && (decide (a.2.2.2 = b.2.2.2) && true)))) = true) ↔ a = b := by
  obtain ⟨a1, a2, a3, a4⟩ := a
  obtain ⟨b1, b2, b3, b4⟩ := b
  simp
theorem lastPose (p : Po) (l : List Cu) : rd (0, (0, (0, 0))) (poses p l) (((poses p l).length : Int) - 1) = endP p (tl l) := by
  obtain ⟨pre, e, hl⟩ := last_scan p (tl l)
  have hpl := poses_length p l
  rw [show ((poses p l).length : Int) - 1 = (pre.length : Int) by omega]
  show rd _ (p :: scan p (tl l)) _ = _
  rw [e]; exact rd_mid _ _ _
theorem implJoin_w (p : Po) (l : List Cu) (q : Po) (m : List Cu) (hl : l.length ≤ 1048576) (hm : m.length ≤ 1048576) : W (fun k _ => impl_JoinAxes.f k p.1 p.2.1 p.2.2.1 p.2.2.2 l q.1 q.2.1 q.2.2.1 q.2.2.2 m) (· = joinV p l q m) := by
  refine impl_JoinAxes.w (W.bindE (implPoses_w p l) (W.bindE (concat_w l m hl hm) ?_))
  by_cases h1 : Ok p l
  case neg =>
    rw [posesV_no h1]
    exact W.nt rfl (W.ret (by rw [joinV, if_neg fun h => h1 h.1]))
  rw [posesV_ok h1]
  have hlen := h1.len
  have hpl := poses_length p l
  refine W.ne rfl (W.bindE (validAxis_w q m) ?_)
  by_cases h2 : Ok q m
  case neg => exact W.nt (by simp [h2]) (W.ret (by rw [joinV, if_neg fun h => h2 h.2.1]))
  refine W.ne (by simp [h2]) ?_
  dsimp only
  rw [w64 (i := ((poses p l).length : Int) - 1) (by omega) (by omega), lastPose]
  refine W.t (by omega) (W.t (by omega) (W.ni (fun h => W.ret ?_) (fun h => ?_)))
  · rw [joinV, if_neg]
    intro h'
    rw [(poseEqJ q (endP p (tl l))).2 h'.2.2.1] at h
    cases h
  · have h3 := (poseEqJ q (endP p (tl l))).1 h
    refine W.bindE (validAxis_w p (l ++ m)) ?_
    by_cases h4 : Ok p (l ++ m)
    · exact W.ne (by simp [h4]) (W.ret (by rw [joinV, if_pos ⟨h1, h2, h3, h4⟩]))
    · exact W.nt (by simp [h4]) (W.ret (by rw [joinV, if_neg fun h => h4 h.2.2.2]))
end Go.Proofs.Ytgknckbplbldbaa.R
