/- What OutlookOf answers, in the program and in the reference. -/
import Derived.Test.YtncdmooobfomeaaShield
import Derived.Test.YtncdmooobfomeaaGy9
import Derived.Test.YtncdmooobfomeaaGy10
import Derived.Test.YtncdmooobfomeaaGy11
namespace Go.Proofs.Ytncdmooobfomeaa.K
open Go.RowKit Go.Proofs.Ytncdmooobfomeaa.G Go.Proofs.YtncdmooobfomeaaW.PrintWords Go.Proofs.YtncdmooobfomeaaW.PrintLast Go.Proofs.YtncdmooobfomeaaW.PrintMore
set_option linter.unusedVariables false
set_option linter.unusedSimpArgs false

def leastV (m : Mac) : Int := min (min (min (rd (gapsV m) 0) (rd (gapsV m) 1)) (rd (gapsV m) 2)) (rd (gapsV m) 3)
theorem leastStep (G : List Int) (hG : G.length = 4) (i j : Int) (h0 : 0 ≤ i) (h4 : i < 4) (j0 : 0 ≤ j) (j4 : j < 4) (R : Int) (h : Ev (fun k => spec_l04Least.l0 k G (if rd G i < rd G j then i else j) (i + 1)) R) :
    Ev (fun k => spec_l04Least.l0 k G j i) R := by
  refine Ev.step (fun k => ?_) h
  rw [spec_l04Least.l0, if_pos h4, if_pos h0, if_pos (by omega), if_pos j0, if_pos (by omega), w64 (by omega) (by omega)]
  split <;> rfl
theorem pick_bound (G : List Int) (i j : Int) (h : 0 ≤ i ∧ i < 4) (h' : 0 ≤ j ∧ j < 4) : 0 ≤ (if rd G i < rd G j then i else j) ∧ (if rd G i < rd G j then i else j) < 4 := by
  split <;> omega
theorem pick_val (G : List Int) (i j : Int) : rd G (if rd G i < rd G j then i else j) = min (rd G j) (rd G i) := by
  split <;> omega
theorem specLeast_ev (m : Mac) : ∃ j, 0 ≤ j ∧ j < 4 ∧ rd (gapsV m) j = leastV m ∧ Ev (fun k => spec_l04Least.f k m.a m.b m.c m.d m.e m.f m.g m.h m.i) j := by
  have hG : (gapsV m).length = 4 := rfl
  unfold spec_l04Least.f leastV
  rw [specGaps_eq]
  simp only [Option.bind_some]
  generalize gapsV m = G at hG
  obtain ⟨j1, e1⟩ : ∃ j, j = (if rd G 1 < rd G 0 then (1 : Int) else 0) := ⟨_, rfl⟩
  obtain ⟨j2, e2⟩ : ∃ j, j = (if rd G 2 < rd G j1 then (2 : Int) else j1) := ⟨_, rfl⟩
  obtain ⟨j3, e3⟩ : ∃ j, j = (if rd G 3 < rd G j2 then (3 : Int) else j2) := ⟨_, rfl⟩
  have b1 : 0 ≤ j1 ∧ j1 < 4 := by rw [e1]; exact pick_bound G 1 0 (by omega) (by omega)
  have b2 : 0 ≤ j2 ∧ j2 < 4 := by rw [e2]; exact pick_bound G 2 j1 (by omega) b1
  have b3 : 0 ≤ j3 ∧ j3 < 4 := by rw [e3]; exact pick_bound G 3 j2 (by omega) b2
  have v1 : rd G j1 = min (rd G 0) (rd G 1) := by rw [e1]; exact pick_val G 1 0
  have v2 : rd G j2 = min (rd G j1) (rd G 2) := by rw [e2]; exact pick_val G 2 j1
  have v3 : rd G j3 = min (rd G j2) (rd G 3) := by rw [e3]; exact pick_val G 3 j2
  refine ⟨j3, b3.1, b3.2, by rw [v3, v2, v1], ?_⟩
  refine leastStep G hG 1 0 (by omega) (by omega) (by omega) (by omega) _ ?_
  rw [← e1]
  refine leastStep G hG 2 j1 (by omega) (by omega) b1.1 b1.2 _ ?_
  rw [← e2]
  refine leastStep G hG 3 j2 (by omega) (by omega) b2.1 b2.2 _ ?_
  rw [← e3]
  refine Ev.step (f := fun _ => some j3) (fun k => ?_) (Ev.now _)
  rw [spec_l04Least.l0, if_neg (by omega)]
theorem implMin_eq (m : Mac) : slices_Min_int64_int64.f (gapsV m) = some (leastV m) := min4 _ _ _ _
def outV (m : Mac) (key : Int) : Int × Bool :=
  if (buildV m 1 key).2 = true then
    if (pushV (buildV m 1 key).1 0 0).2 = true then
      if (buildV (pushV (buildV m 1 key).1 0 0).1 0 0).2 = true then (leastV (buildV (pushV (buildV m 1 key).1 0 0).1 0 0).1, true) else (0, false)
    else (0, false)
  else (0, false)
theorem specOut_ev (m : Mac) (key : Int) : Ev (fun k => spec_l04Outlook.f k m.a m.b m.c m.d m.e m.f m.g m.h m.i key) (outV m key) := by
  unfold spec_l04Outlook.f outV
  refine Ev.bind (specBuild_ev m 1 key) ?_
  by_cases h1 : (buildV m 1 key).2 = true
  case neg =>
    rw [if_neg h1]
    exact ite_ev_neg h1 (Ev.now _)
  rw [if_pos h1]
  refine ite_ev_pos h1 ?_
  generalize buildV m 1 key = p1 at h1 ⊢
  refine Ev.bind (specPush_ev p1.1 0 0) ?_
  by_cases h2 : (pushV p1.1 0 0).2 = true
  case neg =>
    rw [if_neg h2]
    exact ite_ev_neg h2 (Ev.now _)
  rw [if_pos h2]
  refine ite_ev_pos h2 ?_
  generalize pushV p1.1 0 0 = p2 at h2 ⊢
  refine Ev.bind (specBuild_ev p2.1 0 0) ?_
  by_cases h3 : (buildV p2.1 0 0).2 = true
  case neg =>
    rw [if_neg h3]
    exact ite_ev_neg h3 (Ev.now _)
  rw [if_pos h3]
  refine ite_ev_pos h3 ?_
  generalize buildV p2.1 0 0 = p3 at h3 ⊢
  obtain ⟨j, j0, j4, hj, hE⟩ := specLeast_ev p3.1
  refine Ev.bind (a := gapsV p3.1) (Ev.now _) ?_
  refine Ev.bind hE ?_
  refine ite_ev_pos j0 (ite_ev_pos (by show j < 4; exact j4) ?_)
  rw [hj]
  exact Ev.now _
theorem outV_bad (m : Mac) (key : Int) (h : ¬ inR 0 15 key = true) : outV m key = (0, false) := by
  simp only [Bool.not_eq_true] at h
  unfold outV buildV ringB
  rw [h, Bool.and_false]
  rfl
theorem implOut_ev (m : Mac) (key : Int) : Ev (fun k => impl_OutlookOf.f k m.a m.b m.c m.d m.e m.f m.g m.h m.i key) (if okM m then outV m key else (0, false)) := by
  unfold impl_OutlookOf.f
  refine Ev.bind (implBuild_ev m 1 key) ?_
  by_cases ho : okM m = true
  case neg =>
    rw [if_neg ho, if_neg ho]
    refine ite_ev_neg ?_ (Ev.now _)
    simp [T10, z9]
  rw [if_pos ho, if_pos ho]
  unfold outV
  by_cases h1 : (buildV m 1 key).2 = true
  case neg =>
    rw [if_neg h1]
    exact ite_ev_neg h1 (Ev.now _)
  rw [if_pos h1]
  refine ite_ev_pos h1 ?_
  have o1 : okM (buildV m 1 key).1 = true := buildV_ok (m := m) (x := 1) (y := key) (by rw [← h1])
  generalize buildV m 1 key = p1 at h1 o1 ⊢
  refine Ev.bind (implPush_ev p1.1 0 0) ?_
  rw [if_pos o1]
  by_cases h2 : (pushV p1.1 0 0).2 = true
  case neg =>
    rw [if_neg h2]
    exact ite_ev_neg h2 (Ev.now _)
  rw [if_pos h2]
  refine ite_ev_pos h2 ?_
  have o2 : okM (pushV p1.1 0 0).1 = true := pushV_ok (m := p1.1) (x := 0) (y := 0) (by rw [← h2])
  generalize pushV p1.1 0 0 = p2 at h2 o2 ⊢
  refine Ev.bind (implBuild_ev p2.1 0 0) ?_
  rw [if_pos o2]
  by_cases h3 : (buildV p2.1 0 0).2 = true
  case neg =>
    rw [if_neg h3]
    exact ite_ev_neg h3 (Ev.now _)
  rw [if_pos h3]
  refine ite_ev_pos h3 ?_
  generalize buildV p2.1 0 0 = p3 at h3 ⊢
  refine Ev.bind (a := gapsV p3.1) (Ev.now _) ?_
  refine Ev.bind (a := leastV p3.1) ?_ (Ev.now _)
  refine Ev.congr (fun k => ?_) (Ev.now _)
  exact implMin_eq p3.1
theorem okM_least {m : Mac} (h : okM m = true) : 0 ≤ leastV m := by
  unfold okM four at h
  unfold leastV
  simp only [Bool.and_eq_true, Bool.not_eq_true', decide_eq_false_iff_not] at h
  omega
theorem outV_nonneg (m : Mac) (key : Int) (h : (outV m key).2 = true) : 0 ≤ (outV m key).1 := by
  unfold outV at h ⊢
  split at h
  case isFalse => cases h
  rename_i h1
  rw [if_pos h1]
  split at h
  case isFalse => cases h
  rename_i h2
  rw [if_pos h2]
  split at h
  case isFalse => cases h
  rename_i h3
  rw [if_pos h3]
  exact okM_least (buildV_ok (m := (pushV (buildV m 1 key).1 0 0).1) (x := 0) (y := 0) (by rw [← h3]))
end Go.Proofs.Ytncdmooobfomeaa.K
