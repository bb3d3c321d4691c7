/- The frame of the laws on axes: an axis equals itself, its marks are held; in the form 'from some round on'. -/
import Derived.Test.YtkmnllcccgnliaaFrTo
import Derived.Test.YtkmnllcccgnliaaEvKit
import Derived.Test.YtkmnllcccgnliaaFrCurve
import Derived.Test.YtkmnllcccgnliaaGy1
import Derived.Test.YtkmnllcccgnliaaGy4
import Derived.Test.YtkmnllcccgnliaaGy6
namespace Go.Proofs.Ytkmnllcccgnliaa.K
open Go.RowKit Go.Proofs.Ytkmnllcccgnliaa.G Go.Proofs.YtkmnllcccgnliaaW.PrintWords Go.Proofs.YtkmnllcccgnliaaW.PrintLast
set_option linter.unusedVariables false
set_option linter.unusedSimpArgs false

theorem toAxis_ev (a b c d : Int) (l : List S105) (hl : l.length ≤ 1048576) : Ev (fun k => laws_toAxis.f k a b c d l) (a, b, c, d, l.map toC) :=
  ⟨l.length + 1, fun k hk => toAxis_eq a b c d l k hl (by omega)⟩
theorem eqPoseP_self (x0 x1 x2 x3 : Int) : laws_eqPose.f x0 x1 x2 x3 x0 x1 x2 x3 = some true := by
  unfold laws_eqPose.f
  simp
theorem eqAxis_ev (a b c d : Int) (l : List S69) (hl : l.length ≤ 1048576) : Ev (fun k => laws_eqAxis.f k a b c d l a b c d l) true :=
  ⟨l.length + 1, fun k hk => by dsimp only; unfold laws_eqAxis.f; rw [eqPoseP_self, eqCurveS_self l k hl (by omega)]; rfl⟩
theorem markAxis_ev (a b c d : Int) (l : List S69) (n : Int) (hl : l.length ≤ 1048576) (h0 : 0 ≤ n) (hn : n ≤ 1000000000000) : Ev (fun k => laws_markAxis.f k a b c d l n) (n + 3 * l.length, iotaCurve n l.length) :=
  ⟨l.length + 1, fun k hk => by dsimp only; unfold laws_markAxis.f; rw [markCurveS_eq l n k hl h0 hn (by omega)]; rfl⟩
theorem heldAxis_ev (a b c d : Int) (m : Nat) (n : Int) (hl : m ≤ 1048576) (h0 : 0 ≤ n) (hn : n ≤ 1000000000000) : Ev (fun k => laws_heldAxis.f k a b c d (iotaCurve n m) n) (n + 3 * m) :=
  ⟨m + 1, fun k hk => by
    dsimp only
    unfold laws_heldAxis.f
    rw [heldCurveS_eq m n k hl h0 hn (by omega)]
    simp only [Option.bind_some]
    rw [if_neg (by omega)]⟩
theorem szAxis_case (a b c d : Int) (l : List S105) (hl : l.length ≤ 9223372036854775807) {g : Nat → Option Bool}
    (h : l.length ≤ 1048576 → Ev g true) : Ev (fun k => (laws_szAxis.f a b c d l 1048576).bind fun t => if t < 0 then some true else g k) true := by
  rw [szAxis_eq _ _ _ _ _ _ (by omega) (by omega) hl]
  simp only [Option.bind_some]
  by_cases hc : (l.length : Int) ≤ 1048576
  · refine Ev.congr (fun k => ?_) (h (by omega))
    rw [if_pos hc, if_neg (by omega)]
  · refine Ev.congr (fun k => ?_) (Ev.now true)
    rw [if_neg hc, if_pos (by omega)]
end Go.Proofs.Ytkmnllcccgnliaa.K
