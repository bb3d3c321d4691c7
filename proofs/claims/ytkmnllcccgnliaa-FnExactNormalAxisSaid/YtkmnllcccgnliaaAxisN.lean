/- What NormalAxis answers, in the program and in the reference. -/
import Derived.Test.YtkmnllcccgnliaaAxisV
import Derived.Test.YtkmnllcccgnliaaGy15
import Derived.Test.YtkmnllcccgnliaaGy14
namespace Go.Proofs.Ytkmnllcccgnliaa.K
open Go.RowKit Go.Proofs.Ytkmnllcccgnliaa.G Go.Proofs.YtkmnllcccgnliaaW.PrintWords Go.Proofs.YtkmnllcccgnliaaW.PrintLast Go.Proofs.YtkmnllcccgnliaaW.PrintMore
set_option linter.unusedVariables false
set_option linter.unusedSimpArgs false

/-- One more curve behind curves that are merged: joined to the last one if it turns as that one does. -/
def mstep (acc : List Cu) (c : Cu) : List Cu :=
  if 0 < acc.length ∧ (rd_T69 acc ((acc.length : Int) - 1)).f1 = c.f1 ∧ (rd_T69 acc ((acc.length : Int) - 1)).f2 = c.f2 then
    acc.set ((acc.length : Int) - 1).toNat ⟨wrap64 ((rd_T69 acc ((acc.length : Int) - 1)).f0 + c.f0), (rd_T69 acc ((acc.length : Int) - 1)).f1, (rd_T69 acc ((acc.length : Int) - 1)).f2⟩
  else acc ++ [c]
theorem mstep_length (acc : List Cu) (c : Cu) : (mstep acc c).length ≤ acc.length + 1 := by
  unfold mstep
  split <;> simp
def mergeV (l : List Cu) : List Cu := l.foldl mstep []
theorem mergeV_length (l : List Cu) : (mergeV l).length ≤ l.length := by
  have : ∀ (l acc : List Cu), (l.foldl mstep acc).length ≤ acc.length + l.length := by
    intro l
    induction l with
    | nil => intro acc; simp
    | cons c l ih =>
      intro acc
      have h1 := ih (mstep acc c)
      have h2 := mstep_length acc c
      simp only [List.foldl_cons, List.length_cons]; omega
  unfold mergeV
  simpa using this l []
theorem specMerge_ev (l : List Cu) (hl : l.length ≤ 1048576) : Ev (fun k => spec_l02Merge.f k l) (mergeV l) := by
  unfold spec_l02Merge.f mergeV
  refine ⟨l.length + 1, fun k hk => ?_⟩
  refine loop_all 0 l (fun k (acc : List Cu) i => spec_l02Merge.l0 k l acc i) (fun acc r => r.foldl mstep acc) (fun acc i => acc.length ≤ i) ?_ ?_ k [] (by omega) (by simp)
  · intro k acc _ _
    rw [spec_l02Merge.l0, if_neg (by omega)]
    simp
  · intro k acc pre x rest _ e h1 ih
    have hlen : l.length = pre.length + (rest.length + 1) := by rw [e]; simp
    have e1 : rd_T69 l (pre.length : Int) = x := by rw [e]; exact rdC_mid _ _ _
    have ew : wrap64 ((acc.length : Int) - 1) = (acc.length : Int) - 1 := w64 (by omega) (by omega)
    have h2 := mstep_length acc x
    have hr := ih (mstep acc x) (by omega)
    have hX : (⟨x.f0, x.f1, x.f2⟩ : Cu) = x := rfl
    rw [List.foldl_cons, ← hr]
    rw [spec_l02Merge.l0, if_pos (by omega), e1, ew, w64 (i := (pre.length : Int) + 1) (by omega) (by omega)]
    unfold mstep
    by_cases hz : 0 < acc.length
    · rw [if_pos (by omega), if_pos (by omega), if_pos (by omega), if_pos (by omega)]
      by_cases ha : (rd_T69 acc ((acc.length : Int) - 1)).f1 = x.f1
      · rw [if_pos ha]
        by_cases hb : (rd_T69 acc ((acc.length : Int) - 1)).f2 = x.f2
        · rw [if_pos hb, if_pos ⟨hz, ha, hb⟩]
        · rw [if_neg hb, if_pos (by omega), if_neg (fun h => hb h.2.2)]
      · rw [if_neg ha, if_pos (by omega), if_neg (fun h => ha h.2.1)]
    · rw [if_neg (by omega), if_pos (by omega), if_pos (by omega), if_neg (fun h => hz h.1)]
theorem implMerge_ev (l : List Cu) (hl : l.length ≤ 1048576) : Ev (fun k => impl_merged.f k l) (mergeV l) := by
  unfold impl_merged.f mergeV
  refine ⟨l.length + 1, fun k hk => ?_⟩
  refine loop_all 0 l (fun k (acc : List Cu) i => impl_merged.l0 k acc l l.length i) (fun acc r => r.foldl mstep acc) (fun acc i => acc.length ≤ i) ?_ ?_ k [] (by omega) (by simp)
  · intro k acc _ _
    rw [impl_merged.l0, if_neg (by omega)]
    simp
  · intro k acc pre x rest _ e h1 ih
    have hlen : l.length = pre.length + (rest.length + 1) := by rw [e]; simp
    have e1 : rd_T69 l (pre.length : Int) = x := by rw [e]; exact rdC_mid _ _ _
    have ew : wrap64 ((acc.length : Int) - 1) = (acc.length : Int) - 1 := w64 (by omega) (by omega)
    have h2 := mstep_length acc x
    have hr := ih (mstep acc x) (by omega)
    rw [List.foldl_cons, ← hr]
    rw [impl_merged.l0, if_pos (by omega), if_pos (by omega), if_pos (by omega), e1, ew, w64 (i := (pre.length : Int) + 1) (by omega) (by omega)]
    unfold mstep
    by_cases hz : 0 < acc.length
    · rw [if_pos (by omega), if_pos (by omega), if_pos (by omega)]
      by_cases ha : (rd_T69 acc ((acc.length : Int) - 1)).f1 = x.f1
      · rw [if_pos ha]
        by_cases hb : (rd_T69 acc ((acc.length : Int) - 1)).f2 = x.f2
        · rw [if_pos hb, if_pos ⟨hz, ha, hb⟩]
        · rw [if_neg hb, if_pos (by omega), if_neg (fun h => hb h.2.2)]
      · rw [if_neg ha, if_pos (by omega), if_neg (fun h => ha h.2.1)]
    · rw [if_neg (by omega), if_pos (by omega), if_neg (fun h => hz h.1)]
def norV (s : Po) (l : List Cu) : Int × Int × Int × Int × List Cu × Bool :=
  if (axV s l).isSome = true then (s.f0, s.f1, s.f2, s.f3, mergeV l, true) else (0, 0, 0, 0, [], false)
theorem norV_length (s : Po) (l : List Cu) (hl : l.length ≤ 1048576) : (norV s l).2.2.2.2.1.length ≤ 1048576 := by
  have := mergeV_length l
  unfold norV
  split
  · simp only; omega
  · simp
theorem specNormal_ev (s : Po) (l : List Cu) (hl : l.length ≤ 1048576) : Ev (fun k => spec_NormalAxis.f k s.f0 s.f1 s.f2 s.f3 l) (norV s l) := by
  unfold spec_NormalAxis.f norV
  refine Ev.bind (specIs_ev s l) ?_
  cases h : (axV s l).isSome with
  | false => exact Ev.now _
  | true =>
    simp only [if_true]
    exact Ev.bind (specMerge_ev l hl) (Ev.now _)
theorem implNormal_ev (s : Po) (l : List Cu) (hl : l.length ≤ 1048576) : Ev (fun k => impl_NormalAxis.f k s.f0 s.f1 s.f2 s.f3 l) (norV s l) := by
  unfold impl_NormalAxis.f norV
  refine Ev.bind (implValid_ev s l) ?_
  cases h : (axV s l).isSome with
  | false => exact Ev.now _
  | true =>
    simp only [if_true]
    exact Ev.bind (implMerge_ev l hl) (Ev.now _)
end Go.Proofs.Ytkmnllcccgnliaa.K
