/- What the rows' own helpers answer: copies, comparisons, marks. Written by wip/rev/genfr.py. -/
import Derived.Test.YtgknckbplbldbaaDoorXFnExactAxisTextO
namespace Go.Proofs.YtgknckbplbldbaaDoor.R
open Go.Rv
set_option linter.unusedVariables false
set_option linter.unusedSimpArgs false
set_option maxRecDepth 100000
theorem szCurveS_eq (k : Nat) (xs : List (Int × Int × Int)) (a : Int) (h : 0 ≤ a ∧ a ≤ 1000000000000) (hl : xs.length ≤ 9223372036854775807) : laws_szCurveS.f k xs a = some (if a < (xs.length : Int) then -1 else a - (xs.length : Int)) := by
  unfold laws_szCurveS.f; rw [w64 (by omega) (by omega)]
  by_cases hc : a - (xs.length : Int) < 0
  · rw [if_pos (by simpa using hc), if_pos (by omega)]
  · rw [if_neg (by simpa using hc), if_neg (by omega)]
theorem toCurveS_w (xs : List (Int × Int × Int)) (hl : xs.length ≤ 1048576) : W (fun k _ => laws_toCurveS.f k xs) (· = xs) := by
  have key : ∀ (rest pre : List (Int × Int × Int)), xs = pre ++ rest → W (fun k m => (laws_toCurveS.cs k m) xs (pre ++ List.replicate rest.length (0, (0, 0))) (pre.length : Int)) (· = xs) := by
    intro rest
    induction rest with
    | nil => intro pre e; exact laws_toCurveS.w0 (W.de (by rw [e]; simp) (W.ret (by rw [e]; simp)))
    | cons x rest ih =>
      intro pre e
      have hlen : xs.length = pre.length + (rest.length + 1) := by rw [e]; simp
      have hx : rd (0, (0, 0)) xs (pre.length : Int) = x := by rw [e]; exact rd_mid _ _ _
      refine laws_toCurveS.w0 (W.dt (by omega) (W.t (by omega) (W.t (by omega) ?_)))
      rw [hx]
      refine W.bindN (t := x) (fun k => rfl) ?_
      refine W.t (by omega) (W.t (by simp; omega) ?_)
      have := ih (pre ++ [x]) (by simp [e])
      rw [w64 (by omega) (by omega), Int.toNat_natCast, List.set_append_right _ _ (Nat.le_refl _)]
      simpa [List.replicate_succ] using this
  refine laws_toCurveS.w (W.t (by omega) (W.t (by omega) (W.t (by omega) ?_)))
  simpa using key xs [] rfl
theorem eqCurveS_w (xs : List (Int × Int × Int)) (hl : xs.length ≤ 1048576) : W (fun k _ => laws_eqCurveS.f k xs xs) (· = true) := by
  have key : ∀ (rest pre : List (Int × Int × Int)), xs = pre ++ rest → W (fun k m => (laws_eqCurveS.cs k m) xs xs (pre.length : Int)) (· = true) := by
    intro rest
    induction rest with
    | nil => intro pre e; exact laws_eqCurveS.w0 (W.de (by rw [e]; simp) (W.ret rfl))
    | cons x rest ih =>
      intro pre e
      have hlen : xs.length = pre.length + (rest.length + 1) := by rw [e]; simp
      have hx : rd (0, (0, 0)) xs (pre.length : Int) = x := by rw [e]; exact rd_mid _ _ _
      have := ih (pre ++ [x]) (by simp [e])
      refine laws_eqCurveS.w0 (W.dt (by omega) (W.t (by omega) (W.t (by omega) (W.t (by omega) (W.t (by omega) ?_)))))
      rw [hx, w64 (by omega) (by omega)]
      refine W.bindN (t := true) (fun k => by simp [laws_eqCurve.f]) (W.ne rfl (by simpa using this))
  exact laws_eqCurveS.w (W.nde rfl (key xs [] rfl))
end Go.Proofs.YtgknckbplbldbaaDoor.R
