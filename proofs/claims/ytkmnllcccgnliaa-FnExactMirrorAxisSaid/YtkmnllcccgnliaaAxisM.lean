/- What MirrorAxis answers, in the program and in the reference. -/
import Derived.Test.YtkmnllcccgnliaaAxisV
import Derived.Test.YtkmnllcccgnliaaGy12
namespace Go.Proofs.Ytkmnllcccgnliaa.K
open Go.RowKit Go.Proofs.Ytkmnllcccgnliaa.G Go.Proofs.YtkmnllcccgnliaaW.PrintWords Go.Proofs.YtkmnllcccgnliaaW.PrintLast Go.Proofs.YtkmnllcccgnliaaW.PrintMore
set_option linter.unusedVariables false
set_option linter.unusedSimpArgs false

def mirC (c : Cu) : Cu := ⟨c.f0, wrap64 (-c.f1), c.f2⟩
def mirV (s : Po) (l : List Cu) : Int × Int × Int × Int × List Cu × Bool :=
  if (axV s l).isSome = true then (wrap64 (-s.f0), s.f1, wrap64 (-s.f2), s.f3, l.map mirC, true) else (0, 0, 0, 0, [], false)
theorem mirV_length (s : Po) (l : List Cu) (hl : l.length ≤ 1048576) : (mirV s l).2.2.2.2.1.length ≤ 1048576 := by
  unfold mirV
  split <;> simp [hl]
theorem specMirror_ev (s : Po) (l : List Cu) (hl : l.length ≤ 1048576) : Ev (fun k => spec_MirrorAxis.f k s.f0 s.f1 s.f2 s.f3 l) (mirV s l) := by
  unfold spec_MirrorAxis.f mirV
  refine Ev.bind (specIs_ev s l) ?_
  cases h : (axV s l).isSome with
  | false => exact Ev.now _
  | true =>
    simp only [if_true]
    generalize wrap64 (-s.f0) = p0
    generalize wrap64 (-s.f2) = p2
    refine ⟨l.length + 1, fun k hk => ?_⟩
    refine (loop_all 0 l (fun k (acc : List Cu) i => spec_MirrorAxis.l0 k i s.f0 s.f1 s.f2 s.f3 l p0 s.f1 p2 s.f3 acc) (fun acc r => (p0, s.f1, p2, s.f3, acc ++ r.map mirC, true)) (fun acc i => acc.length = i) ?_ ?_ k [] (by omega) rfl).trans (by simp)
    · intro k acc _ _
      rw [spec_MirrorAxis.l0, if_neg (by omega)]
      simp
    · intro k acc pre x rest _ e h1 ih
      have hlen : l.length = pre.length + (rest.length + 1) := by rw [e]; simp
      have e1 : rd_T69 l (pre.length : Int) = x := by rw [e]; exact rdC_mid _ _ _
      rw [spec_MirrorAxis.l0, if_pos (by omega), if_pos (by omega), if_pos (by omega), e1, w64 (i := (pre.length : Int) + 1) (by omega) (by omega)]
      refine (ih (acc ++ [mirC x]) (by simp [h1])).trans (by simp)
theorem implMirror_ev (s : Po) (l : List Cu) (hl : l.length ≤ 1048576) : Ev (fun k => impl_MirrorAxis.f k s.f0 s.f1 s.f2 s.f3 l) (mirV s l) := by
  unfold impl_MirrorAxis.f mirV
  refine Ev.bind (implValid_ev s l) ?_
  cases h : (axV s l).isSome with
  | false => exact Ev.now _
  | true =>
    simp only [if_true]
    generalize wrap64 (-s.f0) = p0
    generalize wrap64 (-s.f2) = p2
    refine ⟨l.length + 1, fun k hk => ?_⟩
    refine (loop_all 0 l (fun k (acc : List Cu) i => impl_MirrorAxis.l0 k l l.length i p0 s.f1 p2 s.f3 acc) (fun acc r => (p0, s.f1, p2, s.f3, acc ++ r.map mirC, true)) (fun acc i => acc.length = i) ?_ ?_ k [] (by omega) rfl).trans (by simp)
    · intro k acc _ _
      rw [impl_MirrorAxis.l0, if_neg (by omega)]
      simp
    · intro k acc pre x rest _ e h1 ih
      have hlen : l.length = pre.length + (rest.length + 1) := by rw [e]; simp
      have e1 : rd_T69 l (pre.length : Int) = x := by rw [e]; exact rdC_mid _ _ _
      rw [impl_MirrorAxis.l0, if_pos (by omega), if_pos (by omega), if_pos (by omega), if_pos (by omega), e1, w64 (i := (pre.length : Int) + 1) (by omega) (by omega)]
      refine (ih (acc ++ [mirC x]) (by simp [h1])).trans (by simp)
end Go.Proofs.Ytkmnllcccgnliaa.K
