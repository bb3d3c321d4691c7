/- The frame at lists of poses, in the form 'from some round on'. -/
import Derived.Test.YtkmnllcccgnliaaFrPose
namespace Go.Proofs.Ytkmnllcccgnliaa.K
open Go.RowKit Go.Proofs.Ytkmnllcccgnliaa.G Go.Proofs.YtkmnllcccgnliaaW.PrintWords Go.Proofs.YtkmnllcccgnliaaW.PrintLast

theorem eqPoseS_ev (l : List S28) (hl : l.length ≤ 1048576) : Ev (fun k => laws_eqPoseS.f k l l) true := ⟨l.length + 1, fun k hk => eqPoseS_self l k hl (by omega)⟩
theorem markPoseS_ev (l : List S28) (n : Int) (hl : l.length ≤ 1048576) (h0 : 0 ≤ n) (hn : n ≤ 1000000000000) : Ev (fun k => laws_markPoseS.f k l n) (n + 4 * l.length, iotaPose n l.length) :=
  ⟨l.length + 1, fun k hk => markPoseS_eq l n k hl h0 hn (by omega)⟩
theorem heldPoseS_ev (m : Nat) (n : Int) (hl : m ≤ 1048576) (h0 : 0 ≤ n) (hn : n ≤ 1000000000000) : Ev (fun k => laws_heldPoseS.f k (iotaPose n m) n) (n + 4 * m) :=
  ⟨m + 1, fun k hk => heldPoseS_eq m n k hl h0 hn (by omega)⟩
end Go.Proofs.Ytkmnllcccgnliaa.K
