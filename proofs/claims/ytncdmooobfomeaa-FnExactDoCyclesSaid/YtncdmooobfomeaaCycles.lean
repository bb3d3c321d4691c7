/- What DoCycles answers, in the program and in the reference. -/
import Derived.Test.YtncdmooobfomeaaShield
import Derived.Test.YtncdmooobfomeaaGy9
import Derived.Test.YtncdmooobfomeaaGy10
import Derived.Test.YtncdmooobfomeaaGy11
import Derived.Test.YtncdmooobfomeaaGy12
namespace Go.Proofs.Ytncdmooobfomeaa.K
open Go.RowKit Go.Proofs.Ytncdmooobfomeaa.G Go.Proofs.YtncdmooobfomeaaW.PrintWords Go.Proofs.YtncdmooobfomeaaW.PrintLast Go.Proofs.YtncdmooobfomeaaW.PrintMore
set_option linter.unusedVariables false
set_option linter.unusedSimpArgs false

abbrev Cy := S58
theorem rdCy_mid (pre : List Cy) (x : Cy) (rest : List Cy) : rd_T58 (pre ++ x :: rest) (pre.length : Int) = x := by simp [rd_T58]
def cycleV (m : Mac) (c : Cy) : Mac × Bool := if (pushV m c.f0 c.f1).2 = true then buildV (pushV m c.f0 c.f1).1 c.f2.f0 c.f2.f1 else z9
theorem specCycle_ev (m : Mac) (c : Cy) : Ev (fun k => spec_l04Cycle.f k m.a m.b m.c m.d m.e m.f m.g m.h m.i c.f0 c.f1 c.f2.f0 c.f2.f1) (T10 (cycleV m c)) := by
  unfold spec_l04Cycle.f cycleV
  refine Ev.bind (specPush_ev m c.f0 c.f1) ?_
  by_cases h1 : (pushV m c.f0 c.f1).2 = true
  case neg =>
    rw [if_neg h1]
    exact ite_ev_neg h1 (Ev.now _)
  rw [if_pos h1]
  refine ite_ev_pos h1 ?_
  exact Ev.bind (specBuild_ev (pushV m c.f0 c.f1).1 c.f2.f0 c.f2.f1) (Ev.now _)
theorem implCycle_ev (m : Mac) (c : Cy) (ho : okM m = true) : Ev (fun k => impl_Machine_cycle.f k m.a m.b m.c m.d m.e m.f m.g m.h m.i c.f0 c.f1 c.f2.f0 c.f2.f1) (T10 (cycleV m c)) := by
  unfold impl_Machine_cycle.f cycleV
  refine Ev.bind (implPush_ev m c.f0 c.f1) ?_
  rw [if_pos ho]
  by_cases h1 : (pushV m c.f0 c.f1).2 = true
  case neg =>
    rw [if_neg h1]
    exact ite_ev_neg h1 (Ev.now _)
  rw [if_pos h1]
  refine ite_ev_pos h1 ?_
  have o1 : okM (pushV m c.f0 c.f1).1 = true := pushV_ok (m := m) (x := c.f0) (y := c.f1) (by rw [← h1])
  refine Ev.bind (implBuild_ev (pushV m c.f0 c.f1).1 c.f2.f0 c.f2.f1) ?_
  rw [if_pos o1]
  exact Ev.now _
theorem cycleV_ok {m : Mac} {c : Cy} (h : (cycleV m c).2 = true) : okM (cycleV m c).1 = true := by
  unfold cycleV at h ⊢
  split at h
  · rename_i h1
    rw [if_pos h1]
    exact buildV_ok (m := (pushV m c.f0 c.f1).1) (x := c.f2.f0) (y := c.f2.f1) (by rw [← h])
  · cases h
def T11 (m : Mac) (n : Int) (b : Bool) : Int × Int × Int × Int × Int × Int × Int × Int × Int × Int × Bool := (m.a, m.b, m.c, m.d, m.e, m.f, m.g, m.h, m.i, n, b)
/-- The machine behind the cycles that can be done, and how many these are. -/
def doL : Mac → Int → List Cy → Mac × Int
  | m, n, [] => (m, n)
  | m, n, c :: l => if (cycleV m c).2 = true then doL (cycleV m c).1 (n + 1) l else (m, n)
theorem specDo_ev (l : List Cy) (hl : l.length ≤ 1048576) : ∀ (rest pre : List Cy) (m : Mac), l = pre ++ rest →
    Ev (fun k => spec_DoCycles.l0 k l pre.length m.a m.b m.c m.d m.e m.f m.g m.h m.i) (T11 (doL m pre.length rest).1 (doL m pre.length rest).2 true) := by
  intro rest
  induction rest with
  | nil =>
    intro pre m e
    refine Ev.step (fun k => ?_) (Ev.now _)
    rw [spec_DoCycles.l0, if_neg (by rw [e]; simp)]
    have : (l.length : Int) = (pre.length : Int) := by rw [e]; simp
    rw [this]; rfl
  | cons c rest ih =>
    intro pre m e
    have hlen : l.length = pre.length + (rest.length + 1) := by rw [e]; simp
    have e1 : rd_T58 l (pre.length : Int) = c := by rw [e]; exact rdCy_mid _ _ _
    have ew : wrap64 ((pre.length : Int) + 1) = ((pre ++ [c]).length : Int) := by rw [w64 (by omega) (by omega)]; simp
    have ep : ((pre ++ [c]).length : Int) = (pre.length : Int) + 1 := by simp
    refine Ev.step (f := fun k => (spec_l04Cycle.f k m.a m.b m.c m.d m.e m.f m.g m.h m.i c.f0 c.f1 c.f2.f0 c.f2.f1).bind fun b => if b.2.2.2.2.2.2.2.2.2 = true then spec_DoCycles.l0 k l ((pre ++ [c]).length : Nat) b.1 b.2.1 b.2.2.1 b.2.2.2.1 b.2.2.2.2.1 b.2.2.2.2.2.1 b.2.2.2.2.2.2.1 b.2.2.2.2.2.2.2.1 b.2.2.2.2.2.2.2.2.1 else some (m.a, m.b, m.c, m.d, m.e, m.f, m.g, m.h, m.i, (pre.length : Int), true)) (fun k => ?_) ?_
    · rw [spec_DoCycles.l0, if_pos (by omega), if_pos (by omega), e1, ew]
    · refine Ev.bind (specCycle_ev m c) ?_
      by_cases h1 : (cycleV m c).2 = true
      · refine ite_ev_pos h1 ?_
        have := ih (pre ++ [c]) (cycleV m c).1 (by simp [e])
        have ed : doL m pre.length (c :: rest) = doL (cycleV m c).1 ((pre ++ [c]).length : Nat) rest := by rw [doL, if_pos h1, ep]
        rw [ed]; exact this
      · have ed : doL m pre.length (c :: rest) = (m, (pre.length : Int)) := by rw [doL, if_neg h1]
        rw [ed]
        exact ite_ev_neg h1 (Ev.now _)
theorem implDo_ev (l : List Cy) (hl : l.length ≤ 1048576) : ∀ (rest pre : List Cy) (m : Mac), l = pre ++ rest → okM m = true →
    Ev (fun k => impl_DoCycles.l0 k l l l.length pre.length m.a m.b m.c m.d m.e m.f m.g m.h m.i) (T11 (doL m pre.length rest).1 (doL m pre.length rest).2 true) := by
  intro rest
  induction rest with
  | nil =>
    intro pre m e ho
    refine Ev.step (fun k => ?_) (Ev.now _)
    rw [impl_DoCycles.l0, if_neg (by rw [e]; simp)]
    have : (l.length : Int) = (pre.length : Int) := by rw [e]; simp
    rw [this]; rfl
  | cons c rest ih =>
    intro pre m e ho
    have hlen : l.length = pre.length + (rest.length + 1) := by rw [e]; simp
    have e1 : rd_T58 l (pre.length : Int) = c := by rw [e]; exact rdCy_mid _ _ _
    have ew : wrap64 ((pre.length : Int) + 1) = ((pre ++ [c]).length : Int) := by rw [w64 (by omega) (by omega)]; simp
    have ep : ((pre ++ [c]).length : Int) = (pre.length : Int) + 1 := by simp
    refine Ev.step (f := fun k => (impl_Machine_cycle.f k m.a m.b m.c m.d m.e m.f m.g m.h m.i c.f0 c.f1 c.f2.f0 c.f2.f1).bind fun b => if b.2.2.2.2.2.2.2.2.2 = true then impl_DoCycles.l0 k l l l.length ((pre ++ [c]).length : Nat) b.1 b.2.1 b.2.2.1 b.2.2.2.1 b.2.2.2.2.1 b.2.2.2.2.2.1 b.2.2.2.2.2.2.1 b.2.2.2.2.2.2.2.1 b.2.2.2.2.2.2.2.2.1 else some (m.a, m.b, m.c, m.d, m.e, m.f, m.g, m.h, m.i, (pre.length : Int), true)) (fun k => ?_) ?_
    · rw [impl_DoCycles.l0, if_pos (by omega), if_pos (by omega), if_pos (by omega), e1, ew]
    · refine Ev.bind (implCycle_ev m c ho) ?_
      by_cases h1 : (cycleV m c).2 = true
      · refine ite_ev_pos h1 ?_
        have := ih (pre ++ [c]) (cycleV m c).1 (by simp [e]) (cycleV_ok h1)
        have ed : doL m pre.length (c :: rest) = doL (cycleV m c).1 ((pre ++ [c]).length : Nat) rest := by rw [doL, if_pos h1, ep]
        rw [ed]; exact this
      · have ed : doL m pre.length (c :: rest) = (m, (pre.length : Int)) := by rw [doL, if_neg h1]
        rw [ed]
        exact ite_ev_neg h1 (Ev.now _)
def doV (m : Mac) (l : List Cy) : Int × Int × Int × Int × Int × Int × Int × Int × Int × Int × Bool :=
  if okM m = true ∧ l.length ≤ 20 then T11 (doL m 0 l).1 (doL m 0 l).2 true else (0, 0, 0, 0, 0, 0, 0, 0, 0, 0, false)
theorem specDoCycles_ev (m : Mac) (l : List Cy) : Ev (fun k => spec_DoCycles.f k m.a m.b m.c m.d m.e m.f m.g m.h m.i l) (doV m l) := by
  have hbad : Ev (fun k => spec_DoCycles.j0 k l true m.a m.b m.c m.d m.e m.f m.g m.h m.i) (0, 0, 0, 0, 0, 0, 0, 0, 0, 0, false) := by
    refine Ev.step (f := fun _ => some (0, 0, 0, 0, 0, 0, 0, 0, 0, 0, false)) (fun k => ?_) (Ev.now _)
    rw [spec_DoCycles.j0, if_pos rfl]
  unfold spec_DoCycles.f doV
  refine Ev.bind (specIs_ev m) ?_
  by_cases ho : okM m = true
  case neg =>
    rw [if_neg (fun h => ho h.1)]
    exact ite_ev_neg ho hbad
  refine ite_ev_pos ho ?_
  by_cases hl : l.length ≤ 20
  · rw [if_pos ⟨ho, hl⟩]
    have hd : decide ((l.length : Int) > 20) = false := by simp; omega
    rw [hd]
    refine Ev.step (f := fun k => spec_DoCycles.l0 k l 0 m.a m.b m.c m.d m.e m.f m.g m.h m.i) (fun k => by rw [spec_DoCycles.j0, if_neg (by simp)]) ?_
    exact specDo_ev l (by omega) l [] m rfl
  · rw [if_neg (fun h => hl h.2)]
    have hd : decide ((l.length : Int) > 20) = true := by simp; omega
    rw [hd]; exact hbad
theorem implDoCycles_ev (m : Mac) (l : List Cy) : Ev (fun k => impl_DoCycles.f k m.a m.b m.c m.d m.e m.f m.g m.h m.i l) (doV m l) := by
  have hbad : Ev (fun k => impl_DoCycles.j0 k l true m.a m.b m.c m.d m.e m.f m.g m.h m.i) (0, 0, 0, 0, 0, 0, 0, 0, 0, 0, false) := by
    refine Ev.step (f := fun _ => some (0, 0, 0, 0, 0, 0, 0, 0, 0, 0, false)) (fun k => ?_) (Ev.now _)
    rw [impl_DoCycles.j0, if_pos rfl]
  unfold impl_DoCycles.f doV
  rw [implValid_eq]
  simp only [Option.bind_some]
  by_cases ho : okM m = true
  case neg =>
    rw [if_neg (fun h => ho h.1)]
    exact ite_ev_neg ho hbad
  refine ite_ev_pos ho ?_
  by_cases hl : l.length ≤ 20
  · rw [if_pos ⟨ho, hl⟩]
    have hd : decide ((l.length : Int) > 20) = false := by simp; omega
    rw [hd]
    refine Ev.step (f := fun k => impl_DoCycles.l0 k l l l.length 0 m.a m.b m.c m.d m.e m.f m.g m.h m.i) (fun k => by rw [impl_DoCycles.j0, if_neg (by simp)]) ?_
    exact implDo_ev l (by omega) l [] m rfl ho
  · rw [if_neg (fun h => hl h.2)]
    have hd : decide ((l.length : Int) > 20) = true := by simp; omega
    rw [hd]; exact hbad
end Go.Proofs.Ytncdmooobfomeaa.K
