/- The frame of the laws on cycles: copies, equality with itself. -/
import Derived.Test.YtncdmooobfomeaaEvKit
import Derived.Test.YtncdmooobfomeaaGy12
import Derived.Test.YtncdmooobfomeaaGy13
import Derived.Test.YtncdmooobfomeaaGy14
import Derived.Test.YtncdmooobfomeaaGy10
namespace Go.Proofs.Ytncdmooobfomeaa.K
open Go.RowKit Go.Proofs.Ytncdmooobfomeaa.G Go.Proofs.YtncdmooobfomeaaW.PrintWords Go.Proofs.YtncdmooobfomeaaW.PrintLast
set_option linter.unusedVariables false
set_option linter.unusedSimpArgs false

def toCy (x : S101) : S58 := ⟨x.f0, x.f1, ⟨x.f2.f0, x.f2.f1⟩⟩
theorem toCycleS_ev (l : List S101) (hl : l.length ≤ 1048576) : Ev (fun k => laws_toCycleS.f k l) (l.map toCy) := by
  unfold laws_toCycleS.f
  refine ite_ev_pos (by omega) (ite_ev_pos (by omega) ?_)
  have key : ∀ (rest pre : List S101) (acc : List S58), l = pre ++ rest → acc.length = l.length → acc.take pre.length = pre.map toCy → Ev (fun k => laws_toCycleS.l0 k l acc pre.length) (l.map toCy) := by
    intro rest
    induction rest with
    | nil =>
      intro pre acc e h1 h2
      refine Ev.step (fun k => ?_) (Ev.now _)
      rw [laws_toCycleS.l0, if_neg (by rw [e]; simp)]
      have : acc = l.map toCy := by
        rw [e, List.append_nil] at h1 ⊢
        rw [← h2, ← h1, List.take_length]
      rw [this]
    | cons x rest ih =>
      intro pre acc e h1 h2
      have hlen : l.length = pre.length + (rest.length + 1) := by rw [e]; simp
      have e1 : rd_T101 l (pre.length : Int) = x := by rw [e]; simp [rd_T101]
      have e2 : ((pre.length : Int)).toNat = pre.length := by omega
      have ew : wrap64 ((pre.length : Int) + 1) = ((pre ++ [x]).length : Int) := by rw [w64 (by omega) (by omega)]; simp
      refine Ev.step (fun k => ?_) (ih (pre ++ [x]) (acc.set pre.length (toCy x)) (by simp [e]) (by simpa using h1) ?_)
      · rw [laws_toCycleS.l0, if_pos (by omega), if_pos (by omega), e1]
        unfold laws_toCycle.f laws_toRing.f
        simp only [Option.bind_some]
        rw [if_pos (by omega), e2, ew]; rfl
      · rw [List.length_append, List.length_singleton, List.take_add_one, List.take_set_of_le (Nat.le_refl _), h2, List.getElem?_set_self (by omega)]
        simp
  simpa using key l [] (List.replicate ((l.length : Int) : Int).toNat z58) rfl (by simp) rfl
theorem eqCycleS_ev (l : List S58) (hl : l.length ≤ 1048576) : Ev (fun k => laws_eqCycleS.f k l l) true := by
  unfold laws_eqCycleS.f
  refine ite_ev_pos rfl ?_
  have key : ∀ (rest pre : List S58), l = pre ++ rest → Ev (fun k => laws_eqCycleS.l0 k l l pre.length) true := by
    intro rest
    induction rest with
    | nil =>
      intro pre e
      refine Ev.step (fun k => ?_) (Ev.now _)
      rw [laws_eqCycleS.l0, if_neg (by rw [e]; simp)]
    | cons x rest ih =>
      intro pre e
      have hlen : l.length = pre.length + (rest.length + 1) := by rw [e]; simp
      have ew : wrap64 ((pre.length : Int) + 1) = ((pre ++ [x]).length : Int) := by rw [w64 (by omega) (by omega)]; simp
      refine Ev.step (fun k => ?_) (ih (pre ++ [x]) (by simp [e]))
      rw [laws_eqCycleS.l0, if_pos (by omega), if_pos (by omega), if_pos (by omega)]
      unfold laws_eqCycle.f laws_eqRing.f
      simp only [if_true, Option.bind_some]
      rw [ew]
  exact key l [] rfl
theorem eqMachine_self (a b c d e f g h i : Int) : laws_eqMachine.f a b c d e f g h i a b c d e f g h i = some true := by
  unfold laws_eqMachine.f laws_eqPose.f
  simp
theorem szCycleS_case (l : List S101) (hl : l.length ≤ 9223372036854775807) {g : Nat → Option Bool}
    (h : l.length ≤ 1048576 → Ev g true) : Ev (fun k => (laws_szCycleS.f l 1048576).bind fun t => if t < 0 then some true else g k) true := by
  unfold laws_szCycleS.f
  rw [w64 (by omega) (by omega)]
  by_cases hc : (l.length : Int) ≤ 1048576
  · refine Ev.congr (fun k => ?_) (h (by omega))
    rw [if_neg (by omega)]
    simp only [Option.bind_some]
    rw [if_neg (by omega)]
  · refine Ev.congr (fun k => ?_) (Ev.now true)
    rw [if_pos (by omega)]
    simp only [Option.bind_some]
    rw [if_pos (by omega)]
end Go.Proofs.Ytncdmooobfomeaa.K
