/- The program's text of an axis. -/
import Derived.Test.YtgknckbplbldbaaDoorXFnExactAxisTextTxJ
import Derived.Test.YtgknckbplbldbaaDoorXFnExactAxisTextTxA
import Derived.Test.YtgknckbplbldbaaDoorXFnExactAxisTextAxM0
namespace Go.Proofs.YtgknckbplbldbaaDoor.R
open Go.Rv Go.Rv.Tx Go.Rv.Ax
set_option linter.unusedVariables false
set_option linter.unusedSimpArgs false
theorem implTextLoop_w (l : List Cu) (hl : l.length ≤ 1000) (hi : ∀ x ∈ l, cuI x) : ∀ (rest pre : List Cu) (o : List UInt8), l = pre ++ rest → o.length ≤ 87 + 66 * pre.length →
    W (fun k m => (impl_AxisText.cs k m) (bs o) l (l.length : Int) (pre.length : Int)) (· = (bs (o ++ cusT rest), true)) := by
  intro rest
  induction rest with
  | nil =>
    intro pre o e ho
    refine impl_AxisText.w0 (W.de (by rw [e]; simp) (W.ret ?_))
    simp [cusT]
  | cons x rest ih =>
    intro pre o e ho
    have hlen : l.length = pre.length + (rest.length + 1) := by rw [e]; simp
    have hx : rd (0, (0, 0)) l (pre.length : Int) = x := by rw [e]; exact rd_mid _ _ _
    have hc := hi x (by rw [e]; simp)
    have l1 := itoa_len' hc.1
    have l2 := itoa_len' hc.2.1
    have l3 := itoa_len' hc.2.2
    have e59 : ByteArray.mk #[59] = bs [59] := rfl
    have e58 : ByteArray.mk #[58] = bs [58] := rfl
    have e44 : ByteArray.mk #[44] = bs [44] := rfl
    refine impl_AxisText.w0 (W.dt (by omega) (W.t (by omega) (W.t (by omega) ?_)))
    rw [hx, e59, e58, e44]
    refine W.bindN (fun k => fmt_eq k _ hc.1.1 hc.1.2) ?_
    rw [fit_bs _ _ (by simp; omega), cat_bs]
    refine W.t rfl ?_
    rw [fit_bs _ _ (by simp; omega), cat_bs]
    refine W.t rfl (W.bindE (decimals_w [x.2.1, x.2.2] [44] (fun y hy => ?_) (by simp) (by simp)) ?_)
    · simp only [List.mem_cons, List.not_mem_nil, or_false] at hy
      rcases hy with rfl | rfl
      · exact hc.2.1
      · exact hc.2.2
    have ej : Lib.join ([x.2.1, x.2.2].map Lib.itoa) [44] = Lib.itoa x.2.1 ++ ([44] ++ Lib.itoa x.2.2) := by simp [Lib.join, List.intercalate, List.intersperse]
    rw [ej, fit_bs _ _ (by simp; omega), cat_bs]
    refine W.t rfl ?_
    rw [fit_bs _ _ (by simp; omega), cat_bs, w64 (by omega) (by omega)]
    refine W.t rfl ?_
    have ec : [59] ++ Lib.itoa x.1 ++ [58] ++ (Lib.itoa x.2.1 ++ ([44] ++ Lib.itoa x.2.2)) = cuT x := by simp [cuT]
    rw [ec]
    have := ih (pre ++ [x]) (o ++ cuT x) (by simp [e]) (by have := cuT_len hc; simp; omega)
    refine W.mono (W.congr this fun k m => by simp) ?_
    rintro v rfl
    simp [cusT]
theorem implText_w (p : Po) (l : List Cu) : W (fun k _ => impl_AxisText.f k p.1 p.2.1 p.2.2.1 p.2.2.2 l) (· = if Ok p l then (bs (aText p l), true) else (bs [], false)) := by
  refine impl_AxisText.w (W.bindE (validAxis_w p l) ?_)
  by_cases h : Ok p l
  · have hi := ok_i h
    have h8 := h.2.1.2
    rw [if_pos h]
    refine W.nde h (W.bindN (t := [p.1, p.2.1, p.2.2.1, p.2.2.2]) (fun k => rfl) ?_)
    refine W.bindE (decimals_w [p.1, p.2.1, p.2.2.1, p.2.2.2] [44] (fun y hy => ?_) (by simp) (by simp)) ?_
    · simp only [List.mem_cons, List.not_mem_nil, or_false] at hy
      rcases hy with rfl | rfl | rfl | rfl
      · exact hi.1.1
      · exact hi.1.2.1
      · exact hi.1.2.2.1
      · exact hi.1.2.2.2
    have ep : Lib.join ([p.1, p.2.1, p.2.2.1, p.2.2.2].map Lib.itoa) [44] = poT p := by simp [Lib.join, List.intercalate, List.intersperse, poT]
    rw [ep]
    exact implTextLoop_w l (by omega) hi.2 l [] (poT p) rfl (by have := poT_len hi.1; simp; omega)
  · rw [if_neg h]
    exact W.ndt h (W.ret rfl)
end Go.Proofs.YtgknckbplbldbaaDoor.R
