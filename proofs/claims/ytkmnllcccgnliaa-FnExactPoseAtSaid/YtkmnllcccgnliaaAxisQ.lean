/- What PoseAt answers, in the program and in the reference. -/
import Derived.Test.YtkmnllcccgnliaaAxis
import Derived.Test.YtkmnllcccgnliaaEvKit
import Derived.Test.YtkmnllcccgnliaaGy7
namespace Go.Proofs.Ytkmnllcccgnliaa.K
open Go.RowKit Go.Proofs.Ytkmnllcccgnliaa.G Go.Proofs.YtkmnllcccgnliaaW.PrintWords Go.Proofs.YtkmnllcccgnliaaW.PrintLast Go.Proofs.YtkmnllcccgnliaaW.PrintMore
set_option linter.unusedVariables false
set_option linter.unusedSimpArgs false

def poseAtV (s : Po) (l : List Cu) (n : Int) : Int × Int × Int × Int × Bool :=
  match axV s l with
  | some ps => if inR 0 ((ps.length : Int) - 1) n then ((rd_T28 ps n).f0, (rd_T28 ps n).f1, (rd_T28 ps n).f2, (rd_T28 ps n).f3, true) else (0, 0, 0, 0, false)
  | none => (0, 0, 0, 0, false)
theorem implPoseAt_ev (s : Po) (l : List Cu) (n : Int) : Ev (fun k => impl_PoseAt.f k s.f0 s.f1 s.f2 s.f3 l n) (poseAtV s l n) := by
  unfold impl_PoseAt.f poseAtV
  refine Ev.bind (implPoses_ev s l) ?_
  cases e : axV s l with
  | none => exact Ev.now _
  | some ps =>
    have h6 := (axV_spec e).2.2.2.2.2.1
    simp only [if_true]
    rw [w64 (by omega) (by omega), within_eq]
    simp only [Option.bind_some]
    by_cases h : inR 0 ((ps.length : Int) - 1) n = true
    · have hb := inR_iff.1 h
      rw [if_pos h, if_pos h, if_pos (by omega), if_pos (by omega)]
      exact Ev.now _
    · rw [if_neg h, if_neg h]
      exact Ev.now _
theorem specPoseAt_ev (s : Po) (l : List Cu) (n : Int) : Ev (fun k => spec_PoseAt.f k s.f0 s.f1 s.f2 s.f3 l n) (poseAtV s l n) := by
  unfold spec_PoseAt.f poseAtV
  refine Ev.bind (specIs_ev s l) ?_
  cases e : axV s l with
  | none => exact Ev.now _
  | some ps =>
    simp only [Option.isSome_some, if_true]
    refine Ev.bind (specRings_ev e) ?_
    rw [l00In_eq]
    simp only [Option.bind_some]
    by_cases h : inR 0 ((ps.length : Int) - 1) n = true
    · have hb := inR_iff.1 h
      rw [if_pos h]
      refine ite_ev_pos h ?_
      refine Ev.bind (specPoses_ev e) ?_
      rw [if_pos (by omega), if_pos (by omega)]
      exact Ev.now _
    · rw [if_neg h]
      exact ite_ev_neg h (Ev.now _)

end Go.Proofs.Ytkmnllcccgnliaa.K
