/- What the program's and the reference's small functions answer: bounds, poses, turns. -/
import Derived.Test.YtncdmooobfomeaaXFnCyclesO
import Derived.Test.YtncdmooobfomeaaXFnCyclesAxP
namespace Go.Proofs.Ytncdmooobfomeaa.R
open Go.Rv Go.Rv.Ax
open RowKit (wrap64)
set_option linter.unusedVariables false
set_option linter.unusedSimpArgs false
theorem l00In_eq (k : Nat) (x lo hi : Int) : spec_l00In.f k x lo hi = some (inR lo hi x) := by
  unfold spec_l00In.f inR
  by_cases h : lo ≤ x <;> simp [h]
theorem within_eq (k : Nat) (x lo hi : Int) : impl_within.f k x lo hi = some (inR lo hi x) := by
  unfold impl_within.f inR
  by_cases h : lo ≤ x <;> simp [h]
theorem specPose_eq (k : Nat) (p : Po) : spec_l02Pose.f k p.1 p.2.1 p.2.2.1 p.2.2.2 = some (okP p) := by
  unfold spec_l02Pose.f okP
  simp only [l00In_eq, Option.bind_some]
  cases inR (-100000) 100000 p.1 <;> cases inR (-100000) 100000 p.2.1 <;> cases inR (-400) 400 p.2.2.1 <;> simp
theorem specTurn_eq (k : Nat) (b r : Int) : spec_l02Turn.f k b r = some (okT b r) := by
  unfold spec_l02Turn.f okT
  simp only [l00In_eq, Option.bind_some]
  cases inR (-12) 12 b <;> simp
theorem nxt_eq {p : Po} {c : Cu} (hp : okP p = true) (ht : okT c.2.1 c.2.2 = true) : (wrap64 (p.1 + p.2.2.1), wrap64 (p.2.1 + p.2.2.2), wrap64 (p.2.2.1 + c.2.1), wrap64 (p.2.2.2 + c.2.2)) = nxt p c := by
  rw [okP_iff] at hp; rw [okT_iff] at ht
  rw [w64 (by omega) (by omega), w64 (by omega) (by omega), w64 (by omega) (by omega), w64 (by omega) (by omega)]
  rfl
theorem specNext_eq (k : Nat) {p : Po} {c : Cu} (hp : okP p = true) (ht : okT c.2.1 c.2.2 = true) : spec_l02Next.f k p.1 p.2.1 p.2.2.1 p.2.2.2 c.2.1 c.2.2 = some (nxt p c) := congrArg some (nxt_eq hp ht)
theorem implNext_eq (k : Nat) {p : Po} {c : Cu} (hp : okP p = true) (ht : okT c.2.1 c.2.2 = true) : impl_Pose_next.f k p.1 p.2.1 p.2.2.1 p.2.2.2 c.2.1 c.2.2 = some (nxt p c) := congrArg some (nxt_eq hp ht)
/-! ### areWithin, valid poses -/
theorem index_w (xs : List Int) (lo hi : Int) (hl : xs.length ≤ 1048576) : ∀ (rest pre : List Int), xs = pre ++ rest →
    W (fun k m => (slices_IndexFunc_int64_areWithin_1.cs k m) xs lo hi (xs.length : Int) (pre.length : Int)) (fun r => decide (0 ≤ r) = !rest.all (inR lo hi)) := by
  intro rest
  induction rest with
  | nil =>
    intro pre e
    refine slices_IndexFunc_int64_areWithin_1.w0 (W.de (by rw [e]; simp) (W.ret ?_))
    simp
  | cons x rest ih =>
    intro pre e
    have hlen : xs.length = pre.length + (rest.length + 1) := by rw [e]; simp
    have hx : rd 0 xs (pre.length : Int) = x := by rw [e]; exact rd_mid _ _ _
    refine slices_IndexFunc_int64_areWithin_1.w0 (W.dt (by omega) (W.t (by omega) (W.t (by omega) ?_)))
    rw [hx]
    refine W.bindN (t := !inR lo hi x) (fun k => by unfold impl_areWithin_1.f; rw [within_eq]; rfl) ?_
    refine W.ni (fun h => W.ret ?_) (fun h => ?_)
    · simp [h]
    · have := ih (pre ++ [x]) (by simp [e])
      rw [w64 (by omega) (by omega)]
      simpa [h] using this
theorem areWithin_w (xs : List Int) (lo hi : Int) (hl : xs.length ≤ 1048576) : W (fun k _ => impl_areWithin.f k xs lo hi) (· = xs.all (inR lo hi)) := by
  refine impl_areWithin.w (W.bind (Q := fun r => r = !xs.all (inR lo hi)) ?_ fun t ht => W.ret (by rw [ht]; simp))
  refine slices_ContainsFunc_int64_areWithin_1.w (W.bind (slices_IndexFunc_int64_areWithin_1.w (index_w xs lo hi hl xs [] rfl)) fun t ht => W.ret ht)
theorem validPose_w (p : Po) : W (fun k _ => impl_ValidPose.f k p.1 p.2.1 p.2.2.1 p.2.2.2) (· = okP p) := by
  refine impl_ValidPose.w (W.bindE (areWithin_w _ _ _ (by simp)) ?_)
  refine W.bi (fun h => W.bindE (areWithin_w _ _ _ (by simp)) (W.ret ?_)) (fun h => W.ret ?_)
  · simp only [List.all_cons, List.all_nil, Bool.and_true, Bool.and_eq_true] at h
    simp [okP, h.1, h.2]
  · simp only [List.all_cons, List.all_nil, Bool.and_true] at h
    rw [okP, ← Bool.and_assoc, h, Bool.false_and]
theorem isTurn_w (b r : Int) : W (fun k _ => impl_isTurn.f k b r) (· = okT b r) :=
  impl_isTurn.w (W.bindE (areWithin_w _ _ _ (by simp)) (W.ret (by simp [okT])))
end Go.Proofs.Ytncdmooobfomeaa.R
