/- The reference's text of an axis. -/
import Derived.Test.YtgknckbplbldbaaDoorXFnExactReadAxisTxD
import Derived.Test.YtgknckbplbldbaaDoorXFnExactReadAxisTxA
namespace Go.Proofs.YtgknckbplbldbaaDoor.R
open Go.Rv Go.Rv.Tx Go.Rv.Ax
set_option linter.unusedVariables false
set_option linter.unusedSimpArgs false
theorem dec_w' {n : Int} (h : i64 n) : W (fun k _ => spec_l01Dec.f k n) (· = bs (Lib.itoa n)) := l01Dec_w n h.1 h.2
theorem specTextLoop_w (a b c d : Int) (l : List Cu) (hl : l.length ≤ 1000) (hi : ∀ x ∈ l, cuI x) : ∀ (rest pre : List Cu) (o : List UInt8), l = pre ++ rest → o.length ≤ 87 + 66 * pre.length →
    W (fun k m => (spec_l02Text.cs k m) a b c d l (bs o) (pre.length : Int)) (· = bs (o ++ cusT rest)) := by
  intro rest
  induction rest with
  | nil =>
    intro pre o e ho
    refine spec_l02Text.w0 (W.de (by rw [e]; simp) (W.ret ?_))
    simp [cusT]
  | cons x rest ih =>
    intro pre o e ho
    have hlen : l.length = pre.length + (rest.length + 1) := by rw [e]; simp
    have hx : rd (0, (0, 0)) l (pre.length : Int) = x := by rw [e]; exact rd_mid _ _ _
    have hc := hi x (by rw [e]; simp)
    have l1 := itoa_len' hc.1
    have l2 := itoa_len' hc.2.1
    have l3 := itoa_len' hc.2.2
    have e59 : ByteArray.mk #[59] = bs [59] := rfl
    have e58 : ByteArray.mk #[58] = bs [58] := rfl
    have e44 : ByteArray.mk #[44] = bs [44] := rfl
    refine spec_l02Text.w0 (W.dt (by omega) (W.t (by omega) (W.t (by omega) ?_)))
    rw [hx, e59, e58, e44]
    refine W.bindE (dec_w' hc.1) ?_
    rw [fit_bs _ _ (by simp; omega), cat_bs]
    refine W.t rfl ?_
    rw [fit_bs _ _ (by simp; omega), cat_bs]
    refine W.t rfl (W.bindE (dec_w' hc.2.1) ?_)
    rw [fit_bs _ _ (by simp; omega), cat_bs]
    refine W.t rfl ?_
    rw [fit_bs _ _ (by simp; omega), cat_bs]
    refine W.t rfl (W.bindE (dec_w' hc.2.2) ?_)
    rw [fit_bs _ _ (by simp; omega), cat_bs]
    refine W.t rfl ?_
    rw [fit_bs _ _ (by simp; omega), cat_bs, w64 (by omega) (by omega)]
    refine W.t rfl ?_
    have ec : [59] ++ Lib.itoa x.1 ++ [58] ++ Lib.itoa x.2.1 ++ [44] ++ Lib.itoa x.2.2 = cuT x := by simp [cuT]
    rw [ec]
    have := ih (pre ++ [x]) (o ++ cuT x) (by simp [e]) (by have := cuT_len hc; simp; omega)
    refine W.mono (W.congr this fun k m => by simp) ?_
    rintro v rfl
    simp [cusT]
theorem specText_w (p : Po) (l : List Cu) (hp : poI p) (hl : l.length ≤ 1000) (hi : ∀ x ∈ l, cuI x) : W (fun k _ => spec_l02Text.f k p.1 p.2.1 p.2.2.1 p.2.2.2 l) (· = bs (aText p l)) := by
  have l1 := itoa_len' hp.1
  have l2 := itoa_len' hp.2.1
  have l3 := itoa_len' hp.2.2.1
  have l4 := itoa_len' hp.2.2.2
  have e44 : ByteArray.mk #[44] = bs [44] := rfl
  refine spec_l02Text.w ?_
  rw [e44]
  refine W.bindE (dec_w' hp.1) ?_
  rw [fit_bs _ _ (by simp; omega), cat_bs]
  refine W.t rfl (W.bindE (dec_w' hp.2.1) ?_)
  rw [fit_bs _ _ (by simp; omega), cat_bs]
  refine W.t rfl ?_
  rw [fit_bs _ _ (by simp; omega), cat_bs]
  refine W.t rfl (W.bindE (dec_w' hp.2.2.1) ?_)
  rw [fit_bs _ _ (by simp; omega), cat_bs]
  refine W.t rfl ?_
  rw [fit_bs _ _ (by simp; omega), cat_bs]
  refine W.t rfl (W.bindE (dec_w' hp.2.2.2) ?_)
  rw [fit_bs _ _ (by simp; omega), cat_bs]
  refine W.t rfl ?_
  have ep : Lib.itoa p.1 ++ [44] ++ Lib.itoa p.2.1 ++ [44] ++ Lib.itoa p.2.2.1 ++ [44] ++ Lib.itoa p.2.2.2 = poT p := by simp [poT]
  rw [ep]
  exact specTextLoop_w _ _ _ _ l hl hi l [] (poT p) rfl (by have := poT_len hp; simp; omega)
end Go.Proofs.YtgknckbplbldbaaDoor.R
