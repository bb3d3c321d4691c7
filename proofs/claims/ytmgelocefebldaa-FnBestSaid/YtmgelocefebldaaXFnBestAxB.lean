/- What the program's functions on bounds answer. -/
import Derived.Test.YtmgelocefebldaaXFnBestO
import Derived.Test.YtmgelocefebldaaXFnBestAxP
namespace Go.Proofs.Ytmgelocefebldaa.R
open Go.Rv Go.Rv.Ax
set_option linter.unusedVariables false
set_option linter.unusedSimpArgs false
theorem within_eq (k : Nat) (x lo hi : Int) : impl_within.f k x lo hi = some (inR lo hi x) := by
  unfold impl_within.f inR
  by_cases h : lo ≤ x <;> simp [h]
/-! ### areWithin, valid poses -/
theorem index_w (xs : List Int) (lo hi : Int) (hl : xs.length ≤ 1048576) : ∀ (rest pre : List Int), xs = pre ++ rest →
    W (fun k m => (slices_IndexFunc_int64_areWithin_1.cs k m) xs lo hi (xs.length : Int) (pre.length : Int)) (fun r => decide (0 ≤ r) = !rest.all (inR lo hi)) := by
  intro rest
  induction rest with
  | nil =>
    intro pre e
    refine slices_IndexFunc_int64_areWithin_1.w0 (W.de (by rw [e]; simp) (W.ret ?_))
    simp
  | cons x rest ih =>
    intro pre e
    have hlen : xs.length = pre.length + (rest.length + 1) := by rw [e]; simp
    have hx : rd 0 xs (pre.length : Int) = x := by rw [e]; exact rd_mid _ _ _
    refine slices_IndexFunc_int64_areWithin_1.w0 (W.dt (by omega) (W.t (by omega) (W.t (by omega) ?_)))
    rw [hx]
    refine W.bindN (t := !inR lo hi x) (fun k => by unfold impl_areWithin_1.f; rw [within_eq]; rfl) ?_
    refine W.ni (fun h => W.ret ?_) (fun h => ?_)
    · simp [h]
    · have := ih (pre ++ [x]) (by simp [e])
      rw [w64 (by omega) (by omega)]
      simpa [h] using this
theorem areWithin_w (xs : List Int) (lo hi : Int) (hl : xs.length ≤ 1048576) : W (fun k _ => impl_areWithin.f k xs lo hi) (· = xs.all (inR lo hi)) := by
  refine impl_areWithin.w (W.bind (Q := fun r => r = !xs.all (inR lo hi)) ?_ fun t ht => W.ret (by rw [ht]; simp))
  refine slices_ContainsFunc_int64_areWithin_1.w (W.bind (slices_IndexFunc_int64_areWithin_1.w (index_w xs lo hi hl xs [] rfl)) fun t ht => W.ret ht)
end Go.Proofs.Ytmgelocefebldaa.R
