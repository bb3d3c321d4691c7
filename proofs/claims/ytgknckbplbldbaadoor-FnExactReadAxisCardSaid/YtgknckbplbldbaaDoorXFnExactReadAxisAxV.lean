/- What the program's and the reference's small functions answer: bounds, poses, turns. -/
import Derived.Test.YtgknckbplbldbaaDoorXFnExactReadAxisAxB
namespace Go.Proofs.YtgknckbplbldbaaDoor.R
open Go.Rv Go.Rv.Ax
set_option linter.unusedVariables false
set_option linter.unusedSimpArgs false
theorem l00In_eq (k : Nat) (x lo hi : Int) : spec_l00In.f k x lo hi = some (inR lo hi x) := by
  unfold spec_l00In.f inR
  by_cases h : lo ≤ x <;> simp [h]
theorem specPose_eq (k : Nat) (p : Po) : spec_l02Pose.f k p.1 p.2.1 p.2.2.1 p.2.2.2 = some (okP p) := by
  unfold spec_l02Pose.f okP
  simp only [l00In_eq, Option.bind_some]
  cases inR (-100000) 100000 p.1 <;> cases inR (-100000) 100000 p.2.1 <;> cases inR (-400) 400 p.2.2.1 <;> simp
theorem specTurn_eq (k : Nat) (b r : Int) : spec_l02Turn.f k b r = some (okT b r) := by
  unfold spec_l02Turn.f okT
  simp only [l00In_eq, Option.bind_some]
  cases inR (-12) 12 b <;> simp
theorem nxt_eq {p : Po} {c : Cu} (hp : okP p = true) (ht : okT c.2.1 c.2.2 = true) : (wrap64 (p.1 + p.2.2.1), wrap64 (p.2.1 + p.2.2.2), wrap64 (p.2.2.1 + c.2.1), wrap64 (p.2.2.2 + c.2.2)) = nxt p c := by
  rw [okP_iff] at hp; rw [okT_iff] at ht
  rw [w64 (by omega) (by omega), w64 (by omega) (by omega), w64 (by omega) (by omega), w64 (by omega) (by omega)]
  rfl
theorem specNext_eq (k : Nat) {p : Po} {c : Cu} (hp : okP p = true) (ht : okT c.2.1 c.2.2 = true) : spec_l02Next.f k p.1 p.2.1 p.2.2.1 p.2.2.2 c.2.1 c.2.2 = some (nxt p c) := congrArg some (nxt_eq hp ht)
theorem implNext_eq (k : Nat) {p : Po} {c : Cu} (hp : okP p = true) (ht : okT c.2.1 c.2.2 = true) : impl_Pose_next.f k p.1 p.2.1 p.2.2.1 p.2.2.2 c.2.1 c.2.2 = some (nxt p c) := congrArg some (nxt_eq hp ht)
/-! ### valid poses -/
theorem validPose_w (p : Po) : W (fun k _ => impl_ValidPose.f k p.1 p.2.1 p.2.2.1 p.2.2.2) (· = okP p) := by
  refine impl_ValidPose.w (W.bindE (areWithin_w _ _ _ (by simp)) ?_)
  refine W.bi (fun h => W.bindE (areWithin_w _ _ _ (by simp)) (W.ret ?_)) (fun h => W.ret ?_)
  · simp only [List.all_cons, List.all_nil, Bool.and_true, Bool.and_eq_true] at h
    simp [okP, h.1, h.2]
  · simp only [List.all_cons, List.all_nil, Bool.and_true] at h
    rw [okP, ← Bool.and_assoc, h, Bool.false_and]
theorem isTurn_w (b r : Int) : W (fun k _ => impl_isTurn.f k b r) (· = okT b r) :=
  impl_isTurn.w (W.bindE (areWithin_w _ _ _ (by simp)) (W.ret (by simp [okT])))
end Go.Proofs.YtgknckbplbldbaaDoor.R
