/- Rings along an axis: offsets and squares (the program). -/
import Derived.Test.YtmgelocefebldaaXFnBestOffsI
namespace Go.Proofs.Ytmgelocefebldaa.R
open Go.Rv Go.Rv.Ax
set_option linter.unusedVariables false
set_option linter.unusedSimpArgs false
theorem implSq_w (p : Po) (l : List Cu) (b : Int) (s : Po) (t : List Ri) (hl : t.length ≤ 1048576) : W (fun k _ => impl_SquaresOf.f k p.1 p.2.1 p.2.2.1 p.2.2.2 l b s.1 s.2.1 s.2.2.1 s.2.2.2 t) (· = sqV p l b s t) := by
  refine impl_SquaresOf.w (W.bindE (implOff_w p l b s t hl) ?_)
  have h2 := offV_two (p := p) (l := l) (b := b) (s := s) (t := t)
  unfold sqV
  cases hb : (offV p l b s t).2
  · exact W.nt rfl (W.ret (by simp))
  refine W.ne rfl ?_
  simp only [if_true]
  generalize (offV p l b s t).1 = L at *
  have key : ∀ (rest pre : List (List Int)) (acc : Int), L = pre ++ rest → acc + sqs rest = sqs L → (0 ≤ acc ∧ acc ≤ 80000000000 * (pre.length : Int)) → W (fun k m => (impl_SquaresOf.cs k m) L acc L (L.length : Int) (pre.length : Int)) (· = (sqs L, true)) := by
    intro rest
    induction rest with
    | nil =>
      intro pre acc e ha hb
      exact impl_SquaresOf.w0 (W.de (by rw [e]; simp) (W.ret (by rw [← ha]; simp [sqs])))
    | cons x rest ih =>
      intro pre acc e ha hacc
      have hlen : L.length = pre.length + (rest.length + 1) := by rw [e]; simp
      have hx : rd [] L (pre.length : Int) = x := by rw [e]; exact rd_mid _ _ _
      have hp : ((pre ++ [x]).length : Int) = (pre.length : Int) + 1 := by simp
      have ht := h2.2 x (by rw [e]; simp)
      have hbd := sq1_bd ht
      have hxl := ht.1
      refine impl_SquaresOf.w0 (W.dt (by omega) (W.t (by omega) (W.t (by omega) ?_)))
      rw [hx, sq1_eq ht, w64 (i := acc + sq1 x) (by omega) (by omega), w64 (i := (pre.length : Int) + 1) (by omega) (by omega)]
      refine W.t (by omega) (W.t (by omega) (W.t (by omega) (W.t (by omega) (W.t (by omega) (W.t (by omega) (W.t (by omega) (W.t (by omega) ?_)))))))
      have := ih (pre ++ [x]) (acc + sq1 x) (by simp [e]) (by rw [← ha, sqs]; omega) (by rw [hp]; omega)
      rw [hp] at this
      exact this
  exact key L [] 0 rfl (by omega) (by simp)
end Go.Proofs.Ytmgelocefebldaa.R
