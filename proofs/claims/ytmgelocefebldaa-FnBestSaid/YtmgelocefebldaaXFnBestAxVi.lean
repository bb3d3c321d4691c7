/- What the program's small functions answer: bounds, poses, turns. -/
import Derived.Test.YtmgelocefebldaaXFnBestAxB
namespace Go.Proofs.Ytmgelocefebldaa.R
open Go.Rv Go.Rv.Ax
set_option linter.unusedVariables false
set_option linter.unusedSimpArgs false
theorem nxt_eq {p : Po} {c : Cu} (hp : okP p = true) (ht : okT c.2.1 c.2.2 = true) : (wrap64 (p.1 + p.2.2.1), wrap64 (p.2.1 + p.2.2.2), wrap64 (p.2.2.1 + c.2.1), wrap64 (p.2.2.2 + c.2.2)) = nxt p c := by
  rw [okP_iff] at hp; rw [okT_iff] at ht
  rw [w64 (by omega) (by omega), w64 (by omega) (by omega), w64 (by omega) (by omega), w64 (by omega) (by omega)]
  rfl
theorem implNext_eq (k : Nat) {p : Po} {c : Cu} (hp : okP p = true) (ht : okT c.2.1 c.2.2 = true) : impl_Pose_next.f k p.1 p.2.1 p.2.2.1 p.2.2.2 c.2.1 c.2.2 = some (nxt p c) := congrArg some (nxt_eq hp ht)
/-! ### valid poses -/
theorem validPose_w (p : Po) : W (fun k _ => impl_ValidPose.f k p.1 p.2.1 p.2.2.1 p.2.2.2) (· = okP p) := by
  refine impl_ValidPose.w (W.bindE (areWithin_w _ _ _ (by simp)) ?_)
  refine W.bi (fun h => W.bindE (areWithin_w _ _ _ (by simp)) (W.ret ?_)) (fun h => W.ret ?_)
  · simp only [List.all_cons, List.all_nil, Bool.and_true, Bool.and_eq_true] at h
    simp [okP, h.1, h.2]
  · simp only [List.all_cons, List.all_nil, Bool.and_true] at h
    rw [okP, ← Bool.and_assoc, h, Bool.false_and]
theorem isTurn_w (b r : Int) : W (fun k _ => impl_isTurn.f k b r) (· = okT b r) :=
  impl_isTurn.w (W.bindE (areWithin_w _ _ _ (by simp)) (W.ret (by simp [okT])))
end Go.Proofs.Ytmgelocefebldaa.R
