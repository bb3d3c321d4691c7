/- What the reference's small functions answer: bounds, poses, turns. -/
import Derived.Test.YtmgelocefebldaaXFnBestAxVi
namespace Go.Proofs.Ytmgelocefebldaa.R
open Go.Rv Go.Rv.Ax
set_option linter.unusedVariables false
set_option linter.unusedSimpArgs false
theorem l00In_eq (k : Nat) (x lo hi : Int) : spec_l00In.f k x lo hi = some (inR lo hi x) := by
  unfold spec_l00In.f inR
  by_cases h : lo ≤ x <;> simp [h]
theorem specPose_eq (k : Nat) (p : Po) : spec_l02Pose.f k p.1 p.2.1 p.2.2.1 p.2.2.2 = some (okP p) := by
  unfold spec_l02Pose.f okP
  simp only [l00In_eq, Option.bind_some]
  cases inR (-100000) 100000 p.1 <;> cases inR (-100000) 100000 p.2.1 <;> cases inR (-400) 400 p.2.2.1 <;> simp
theorem specTurn_eq (k : Nat) (b r : Int) : spec_l02Turn.f k b r = some (okT b r) := by
  unfold spec_l02Turn.f okT
  simp only [l00In_eq, Option.bind_some]
  cases inR (-12) 12 b <;> simp
theorem specNext_eq (k : Nat) {p : Po} {c : Cu} (hp : okP p = true) (ht : okT c.2.1 c.2.2 = true) : spec_l02Next.f k p.1 p.2.1 p.2.2.1 p.2.2.2 c.2.1 c.2.2 = some (nxt p c) := congrArg some (nxt_eq hp ht)
end Go.Proofs.Ytmgelocefebldaa.R
