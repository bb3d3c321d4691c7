/- What the reference draws first: a valid pose. -/
import Derived.Test.YtmgelocefebldaaXFnBestSrcA
import Derived.Test.YtmgelocefebldaaXFnBestSrc
import Derived.Test.YtmgelocefebldaaRvM5
import Derived.Test.YtmgelocefebldaaXFnBestAxV
namespace Go.Proofs.Ytmgelocefebldaa.R
open Go.Rv Go.Rv.Ax
set_option linter.unusedVariables false
set_option linter.unusedSimpArgs false
theorem wf_u8 {n : Int} (h : Wf (.int .u8) n) : 0 ≤ n ∧ n ≤ 255 := by
  have h : (Lit.int .u8 n).wf = true := h
  simp only [Lit.wf, Bool.and_eq_true] at h
  have h1 : (0 : Int) ≤ n := of_decide_eq_true h.1
  have h2 : n ≤ (255 : Int) := of_decide_eq_true h.2
  exact ⟨h1, h2⟩
theorem drawPose_w {c : List Int} {a s m : Int} (h : Sr c a m) (hm : m ≤ 900000) : W (fun k _ => spec_l02DrawPose.f k c a s) (fun r => okP (r.1, r.2.1, r.2.2.1, r.2.2.2.1) = true ∧ Sr r.2.2.2.2.1 r.2.2.2.2.2.1 (m + 20)) := by
  refine spec_l02DrawPose.w (W.bind (pick_w h (by omega)) fun t1 h1 => W.bind (pick_w h1.2 (by omega)) fun t2 h2 => W.bind (pick_w h2.2 (by omega)) fun t3 h3 => W.bind (pick_w h3.2 (by omega)) fun t4 h4 => W.bind (one_w h4.2 (by omega)) fun t5 h5 => ?_)
  have b1 := h1.1; have b2 := h2.1; have b3 := h3.1; have b4 := h4.1
  rw [w64 (i := t2.1 - 50) (by omega) (by omega), w64 (i := t3.1 - 10) (by omega) (by omega), w64 (i := t4.1 - 10) (by omega) (by omega), w64 (i := t1.1 - 50) (by omega) (by omega)]
  have fin : ∀ (x w : Int), (x = -100000 ∨ x = 99990 ∨ x = 100000 ∨ (-50 ≤ x ∧ x ≤ 50)) → (w = -400 ∨ w = 395 ∨ w = 400 ∨ (-10 ≤ w ∧ w ≤ 10)) → okP (x, t2.1 - 50, t3.1 - 10, w) = true := fun x w hx hw => by
    rw [okP_iff]; simp only; omega
  refine W.bi (fun _ => W.bind (among_w h5 (by omega) (by simp)) fun t6 h6 => W.bind (one_w h6.2 (by omega)) fun t7 h7 => W.bi (fun _ => W.bind (among_w h7 (by omega) (by simp)) fun t8 h8 => W.ret ⟨fin _ _ ?_ ?_, h8.2.le (by omega)⟩) (fun _ => W.ret ⟨fin _ _ ?_ ?_, h7.le (by omega)⟩)) (fun _ => W.bind (one_w h5 (by omega)) fun t9 h9 => W.bi (fun _ => W.bind (among_w h9 (by omega) (by simp)) fun t10 h10 => W.ret ⟨fin _ _ ?_ ?_, h10.2.le (by omega)⟩) (fun _ => W.ret ⟨fin _ _ ?_ ?_, h9.le (by omega)⟩))
  · have := h6.1; simp at this; try dsimp only
    omega
  · have := h8.1; simp at this; try dsimp only
    omega
  · have := h6.1; simp at this; try dsimp only
    omega
  · try dsimp only
    omega
  · try dsimp only
    omega
  · have := h10.1; simp at this; try dsimp only
    omega
  · try dsimp only
    omega
  · try dsimp only
    omega
end Go.Proofs.Ytmgelocefebldaa.R
