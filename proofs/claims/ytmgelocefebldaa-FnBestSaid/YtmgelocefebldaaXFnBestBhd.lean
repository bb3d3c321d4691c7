/- The reference's next pose; rings that fit behind an axis. -/
import Derived.Test.YtmgelocefebldaaXFnBestOffs
import Derived.Test.YtmgelocefebldaaXFnBestTrn
import Derived.Test.YtmgelocefebldaaXFnBestAxT
import Derived.Test.YtmgelocefebldaaXFnBestAxS1
namespace Go.Proofs.Ytmgelocefebldaa.R
open Go.Rv Go.Rv.Ax
set_option linter.unusedVariables false
set_option linter.unusedSimpArgs false
theorem nextPB_w {p : Po} {c : Cu} (hp : okP p = true) (hc : okT c.2.1 c.2.2 = true) : W (fun k _ => spec_NextPose.f k p.1 p.2.1 p.2.2.1 p.2.2.2 c.2.1 c.2.2) (· = nextV p c) := by
  refine spec_NextPose.w (W.bindN (fun k => specPose_eq k p) (W.ne hp (W.bindN (fun k => specTurn_eq k _ _) (W.ne hc (spec_NextPose.w0 (W.bindN (fun k => specNext_eq k hp hc) (W.bindN (fun k => specPose_eq k (nxt p c)) ?_)))))))
  unfold nextV
  cases h : okP (nxt p c)
  · exact W.nt rfl (W.ret (by simp))
  · exact W.ne rfl (W.ret (by simp))
theorem behindB_w (p : Po) (l : List Cu) (b n : Int) (hb : -9223372036854775808 ≤ b ∧ b ≤ 9223372036854775807) (hn : 0 ≤ n) : W (fun k _ => spec_l03Behind.f k p.1 p.2.1 p.2.2.1 p.2.2.2 l b n) (· = (decide (Ok p l) && (decide (0 ≤ b) && decide (b + n ≤ ((tl l).length : Int))))) := by
  refine spec_l03Behind.w ?_
  by_cases h : Ok p l
  case neg => exact W.bindE (t := (0, false)) (spec_RingsOf.w (W.bindE (specIs_w p l) (W.nt (by simp [h]) (W.ret rfl)))) (W.e (by simp) (W.ret (by simp [h])))
  have hlen := h.len
  refine W.bindE (t := (((tl l).length : Int), true)) (spec_RingsOf.w (W.bindE (specIs_w p l) (W.ne (by simp [h]) (W.bindE (specRings_w h) (W.ret rfl))))) (W.t rfl (W.bindN (fun k => l00In_eq k _ _ _) ?_))
  dsimp only
  by_cases h1 : 0 ≤ b ∧ b ≤ ((tl l).length : Int)
  case neg =>
    refine W.e (by rw [inR_no.2 h1]; simp) (W.ret ?_)
    symm
    simp only [Bool.and_eq_false_iff, decide_eq_false_iff_not]
    omega
  refine W.t (inR_iff.2 h1) ?_
  rw [w64 (i := ((tl l).length : Int) - b) (by omega) (by omega)]
  refine W.bindN (fun k => l00In_eq k _ _ _) (W.ret ?_)
  rw [Bool.eq_iff_iff, inR_iff]
  simp only [Bool.and_eq_true, decide_eq_true_eq]
  constructor
  · intro h'; exact ⟨h, h1.1, by omega⟩
  · intro h'; omega
end Go.Proofs.Ytmgelocefebldaa.R
