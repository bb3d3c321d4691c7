/- What the rows' own helpers on axes answer. -/
import Derived.Test.YtgknckbplbldbaaXFnExactReverseAxisAxO
import Derived.Test.YtgknckbplbldbaaXFnExactReverseAxisFr
namespace Go.Proofs.Ytgknckbplbldbaa.R
open Go.Rv Go.Rv.Ax
open RowKit (wrap64)
set_option linter.unusedVariables false
set_option linter.unusedSimpArgs false
theorem eqPose_eq (k : Nat) (a b c d : Int) : laws_eqPose.f k a b c d a b c d = some true := by simp [laws_eqPose.f]
theorem eqAxis_w (a b c d : Int) (l : List Cu) (hl : l.length ≤ 1048576) : W (fun k _ => laws_eqAxis.f k a b c d l a b c d l) (· = true) :=
  laws_eqAxis.w (W.bindN (fun k => eqPose_eq k a b c d) (W.ne rfl (W.bindE (eqCurveS_w l hl) (W.ne rfl (W.ret rfl)))))
theorem heldAxis_w (a b c d : Int) (l : List Cu) (hl : l.length ≤ 1048576) : W (fun k _ => laws_heldAxis.f k a b c d (mkCurveS 1 l) 1) (· = 1 + 3 * (l.length : Int)) :=
  laws_heldAxis.w (W.bindE (heldCurveS_w l 1 hl (by omega)) (W.de (by omega) (W.ret rfl)))
theorem markAxis_w (a b c d : Int) (l : List Cu) (hl : l.length ≤ 1048576) : W (fun k _ => laws_markAxis.f k a b c d l 1) (· = (1 + 3 * (l.length : Int), mkCurveS 1 l)) :=
  laws_markAxis.w (W.bindE (markCurveS_w l 1 hl (by omega)) (W.ret rfl))
theorem ofV_length (l : List Po) (hl : l.length ≤ 1048576) : (ofV l).2.2.2.2.1.length ≤ 1048576 := by
  cases l with
  | nil => exact Nat.zero_le _
  | cons p l =>
    simp only [ofV]
    split
    · have h1 := merge_length (turns p l)
      have h2 := turns_length l p
      simp only [List.length_cons] at hl
      exact Nat.le_trans h1 (by omega)
    · exact Nat.zero_le _
end Go.Proofs.Ytgknckbplbldbaa.R
