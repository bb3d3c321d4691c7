/- What CurveAt answers, in the program and in the reference. -/
import Derived.Test.YtkmnllcccgnliaaAxis
import Derived.Test.YtkmnllcccgnliaaEvKit
import Derived.Test.YtkmnllcccgnliaaGy8
namespace Go.Proofs.Ytkmnllcccgnliaa.K
open Go.RowKit Go.Proofs.Ytkmnllcccgnliaa.G Go.Proofs.YtkmnllcccgnliaaW.PrintWords Go.Proofs.YtkmnllcccgnliaaW.PrintLast Go.Proofs.YtkmnllcccgnliaaW.PrintMore
set_option linter.unusedVariables false
set_option linter.unusedSimpArgs false

/-- The program's turns. -/
theorem implTurnsRing_ev (l : List Cu) (n i r : Int) (c : Cu) (R : List Cu) (hn : 0 ≤ r ∧ r ≤ 60) :
    ∀ (j : Nat) (acc : List Cu), (j : Int) ≤ r → acc.length + j ≤ 10000 →
    Ev (fun k => impl_Axis_turns.l0 k (acc ++ List.replicate j ⟨1, c.f1, c.f2⟩) l n (wrap64 (i + 1))) R →
    Ev (fun k => impl_Axis_turns.l1 k acc l n i r (r - j) c.f0 c.f1 c.f2) R := by
  intro j
  induction j with
  | zero =>
    intro acc hj ha hR
    refine Ev.step (fun k => ?_) (by simpa using hR)
    rw [impl_Axis_turns.l1, if_neg (by omega)]
  | succ j ih =>
    intro acc hj ha hR
    have e3 : r - ((j + 1 : Nat) : Int) + 1 = r - (j : Int) := by omega
    refine Ev.step (f := fun k => impl_Axis_turns.l1 k (acc ++ [⟨1, c.f1, c.f2⟩]) l n i r (r - (j : Int)) c.f0 c.f1 c.f2) (fun k => ?_) ?_
    · rw [impl_Axis_turns.l1, if_pos (by omega), if_pos (by omega), w64 (by omega) (by omega), e3]
    · refine ih _ (by omega) (by simp; omega) ?_
      simpa [List.replicate_succ] using hR
theorem implTurns_ev (s : Po) (l : List Cu) (hl : l.length ≤ 100) (hc : ∀ c ∈ l, 0 ≤ c.f0 ∧ c.f0 ≤ 60) : Ev (fun k => impl_Axis_turns.f k s.f0 s.f1 s.f2 s.f3 l) (turnsL l) := by
  have key : ∀ (rest pre acc : List Cu), l = pre ++ rest → acc.length + 60 * rest.length ≤ 6000 → Ev (fun k => impl_Axis_turns.l0 k acc l l.length pre.length) (acc ++ turnsL rest) := by
    intro rest
    induction rest with
    | nil =>
      intro pre acc e ha
      refine Ev.step (fun k => ?_) (Ev.now _)
      rw [impl_Axis_turns.l0, if_neg (by rw [e]; simp)]
      simp [turnsL]
    | cons c rest ih =>
      intro pre acc e ha
      have hlen : l.length = pre.length + (rest.length + 1) := by rw [e]; simp
      have hcc := hc c (by rw [e]; simp)
      have e1 : rd_T69 l (pre.length : Int) = c := by rw [e]; exact rdC_mid _ _ _
      simp only [List.length_cons] at ha
      refine Ev.step (f := fun k => impl_Axis_turns.l1 k acc l l.length pre.length c.f0 0 c.f0 c.f1 c.f2) (fun k => ?_) ?_
      · rw [impl_Axis_turns.l0, if_pos (by omega), if_pos (by omega), if_pos (by omega), e1]
      · have := implTurnsRing_ev l l.length pre.length c.f0 c (acc ++ turnsL (c :: rest)) hcc c.f0.toNat acc (by omega) (by omega) ?_
        · have e6 : c.f0 - (c.f0.toNat : Int) = 0 := by omega
          rw [e6] at this
          exact this
        · have := ih (pre ++ [c]) (acc ++ List.replicate c.f0.toNat ⟨1, c.f1, c.f2⟩) (by simp [e]) (by simp; omega)
          have et : turnsL (c :: rest) = List.replicate c.f0.toNat ⟨1, c.f1, c.f2⟩ ++ turnsL rest := rfl
          rw [et, ← List.append_assoc, w64 (by omega) (by omega)]
          simpa using this
  have := key l [] [] rfl (by simp; omega)
  simpa [impl_Axis_turns.f] using this
def curveAtV (s : Po) (l : List Cu) (n : Int) : Int × Int × Bool :=
  match axV s l with
  | some ps => if inR 0 ((ps.length : Int) - 2) n then ((rd_T69 (turnsL l) n).f1, (rd_T69 (turnsL l) n).f2, true) else (0, 0, false)
  | none => (0, 0, false)
theorem implRingsOf_ev (s : Po) (l : List Cu) : Ev (fun k => impl_RingsOf.f k s.f0 s.f1 s.f2 s.f3 l) (match axV s l with | some ps => ((ps.length : Int) - 1, true) | none => (0, false)) := by
  unfold impl_RingsOf.f
  refine Ev.bind (implPoses_ev s l) ?_
  cases e : axV s l with
  | none => exact Ev.now _
  | some ps =>
    have h6 := (axV_spec e).2.2.2.2.2.1
    simp only [if_true]
    rw [w64 (by omega) (by omega)]
    exact Ev.now _
theorem implCurveAt_ev (s : Po) (l : List Cu) (n : Int) : Ev (fun k => impl_CurveAt.f k s.f0 s.f1 s.f2 s.f3 l n) (curveAtV s l n) := by
  unfold impl_CurveAt.f curveAtV
  refine Ev.bind (implRingsOf_ev s l) ?_
  cases e : axV s l with
  | none => exact Ev.now _
  | some ps =>
    obtain ⟨h1, h2, h3, h4, h5, h6, h9, h7, h8⟩ := axV_spec e
    simp only [if_true]
    have e2 : (ps.length : Int) - 1 - 1 = (ps.length : Int) - 2 := by omega
    rw [w64 (by omega) (by omega), within_eq, e2]
    simp only [Option.bind_some]
    by_cases h : inR 0 ((ps.length : Int) - 2) n = true
    · have hb := inR_iff.1 h
      rw [if_pos h]
      refine ite_ev_pos h ?_
      refine Ev.bind (implTurns_ev s l (by omega) (fun c hc => by have := h8 c hc; omega)) ?_
      rw [if_pos (by omega), if_pos (by omega)]
      exact Ev.now _
    · rw [if_neg h]
      exact ite_ev_neg h (Ev.now _)
theorem specCurveAt_ev (s : Po) (l : List Cu) (n : Int) : Ev (fun k => spec_CurveAt.f k s.f0 s.f1 s.f2 s.f3 l n) (curveAtV s l n) := by
  unfold spec_CurveAt.f curveAtV
  refine Ev.bind (specIs_ev s l) ?_
  cases e : axV s l with
  | none => exact Ev.now _
  | some ps =>
    obtain ⟨h1, h2, h3, h4, h5, h6, h9, h7, h8⟩ := axV_spec e
    simp only [Option.isSome_some, if_true]
    refine Ev.bind (specRings_ev e) ?_
    have e2 : (ps.length : Int) - 1 - 1 = (ps.length : Int) - 2 := by omega
    rw [w64 (by omega) (by omega), l00In_eq, e2]
    simp only [Option.bind_some]
    by_cases h : inR 0 ((ps.length : Int) - 2) n = true
    · have hb := inR_iff.1 h
      rw [if_pos h]
      refine ite_ev_pos h ?_
      refine Ev.bind (specTurns_ev s l (by omega) (fun c hc => by have := h8 c hc; omega)) ?_
      rw [if_pos (by omega), if_pos (by omega)]
      exact Ev.now _
    · rw [if_neg h]
      exact ite_ev_neg h (Ev.now _)
end Go.Proofs.Ytkmnllcccgnliaa.K
