/- The plain statement of the law on the axes of texts. -/
import Derived.Test.YtgknckbplbldbaaDoorXFnExactReadAxisRaI
import Derived.Test.YtgknckbplbldbaaDoorXFnExactReadAxisAxE0
import Derived.Test.YtgknckbplbldbaaDoorXFnExactReadAxisAxE
import Derived.Test.YtgknckbplbldbaaDoorRvPuFnExactReadAxis
namespace Go.Proofs.YtgknckbplbldbaaDoor.Pure
open Go.Rv Go.Rv.Tx Go.Rv.Ax Go.Proofs.YtgknckbplbldbaaDoor.R
set_option linter.unusedVariables false
theorem tail_w {l : List UInt8} (hl : l.length ≤ 1048576) (p : Po) (cs : List Cu) (b : Bool) (hc : cs.length ≤ 1048576) (hr : W (fun k _ => spec_ReadAxis.f k (bs l)) (· = (p.1, p.2.1, p.2.2.1, p.2.2.2, cs, b))) (hi : W (fun k _ => impl_ReadAxis.f k (bs l)) (· = (p.1, p.2.1, p.2.2.1, p.2.2.2, cs, b))) :
    ∃ k, laws_FnExactReadAxis.f k (bs l) = some true := by
  refine W.yes (laws_FnExactReadAxis.w ?_)
  rw [len_bs]
  refine W.de (by omega) (W.bindE hr (W.bindE hi (W.bindE (eqAxis_w _ _ _ _ _ hc) (W.ne rfl (W.e (by simp) ?_)))))
  refine laws_FnExactReadAxis.w0 ?_
  refine W.bindE (markAxis_w _ _ _ _ _ hc) (W.bindE (heldAxis_w _ _ _ _ _ hc) (W.de (by omega) (W.nde rfl ?_)))
  refine W.bindE hi (W.bindE (eqAxis_w _ _ _ _ _ hc) (W.ne rfl (W.e (by simp) ?_)))
  exact W.bindE (heldAxis_w _ _ _ _ _ hc) (W.de (by omega) (W.nde rfl (W.ret rfl)))
theorem FnExactReadAxis : PureFnExactReadAxis := by
  intro e0 _
  rw [← bs_bl e0]
  generalize bl e0 = l
  by_cases hl : l.length ≤ 1048576
  case neg =>
    refine W.yes (laws_FnExactReadAxis.w ?_)
    rw [len_bs]
    exact W.dt (by omega) (W.ret rfl)
  obtain ⟨v, hv, hn⟩ := implRead_w' l hl
  rcases hv with ⟨p, cs, ho, rfl, rfl⟩ | ⟨hno, rfl⟩
  · exact tail_w hl p cs true (by have := ho.2.1.2; omega) (specRead_yes p cs ho hl) ⟨_, rfl, hn⟩
  · exact tail_w hl (0, 0, 0, 0) [] false (by simp) (specRead_no l hl hno) ⟨_, rfl, hn⟩
end Go.Proofs.YtgknckbplbldbaaDoor.Pure
