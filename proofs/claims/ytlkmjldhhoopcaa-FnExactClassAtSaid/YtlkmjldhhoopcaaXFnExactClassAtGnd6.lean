/- The ground: the class of a height; a number of a code. -/
import Derived.Test.YtlkmjldhhoopcaaXFnExactClassAtGnd5
import Derived.Test.YtlkmjldhhoopcaaXFnExactClassAtR8At
namespace Go.Proofs.Ytlkmjldhhoopcaa.R
open Go.Rv Go.Rv.Ax
set_option linter.unusedVariables false
set_option linter.unusedSimpArgs false
theorem wf_u8' {n : Int} (h : Go.Rv.Wf (.int .u8) n) : 0 ≤ n ∧ n ≤ 255 := by
  have h : (Lit.int .u8 n).wf = true := h
  simp only [Lit.wf, Bool.and_eq_true] at h
  have h1 : (0 : Int) ≤ n := of_decide_eq_true h.1
  have h2 : n ≤ (255 : Int) := of_decide_eq_true h.2
  exact ⟨h1, h2⟩
def clsR (ht : Int) : List Int → Int → Int → Int
  | [], _, c => c
  | x :: l, k, c => clsR ht l (k + 1) (if ht < x then k else c)
theorem class_w {D : List Int} {H : List Ho} (g : gOk D H) (r : Int) (hr : 0 ≤ r ∧ r ≤ 60) (ht : Int) : W (fun k _ => impl_Ground_class.f k D H r ht) (· = clsR ht (topsGo none H r) 0 (-1)) := by
  have hT := (topsP g r).len
  have hD := g.1
  refine impl_Ground_class.w (W.bindE (tops_w g r hr) ?_)
  generalize topsGo none H r = T at *
  have key : ∀ (rest pre : List Int) (c : Int), T = pre ++ rest → clsR ht rest (pre.length : Int) c = clsR ht T 0 (-1) → W (fun k i => (impl_Ground_class.cs k i) ht c T (T.length : Int) (pre.length : Int)) (· = clsR ht T 0 (-1)) := by
    intro rest
    induction rest with
    | nil => intro pre c e hc; exact impl_Ground_class.w0 (W.de (by rw [e]; simp) (W.ret hc))
    | cons x rest ih =>
      intro pre c e hc
      have hlen : T.length = pre.length + (rest.length + 1) := by rw [e]; simp
      have hx : rd 0 T (pre.length : Int) = x := by rw [e]; exact rd_mid _ _ _
      have hp : ((pre ++ [x]).length : Int) = (pre.length : Int) + 1 := by simp
      refine impl_Ground_class.w0 (W.dt (by omega) (W.t (by omega) (W.t (by omega) ?_)))
      rw [hx, w64 (by omega) (by omega)]
      refine W.di (fun h => ?_) (fun h => ?_)
      · have := ih (pre ++ [x]) (pre.length : Int) (by simp [e]) (by rw [hp, ← hc, clsR, if_pos h])
        rw [hp] at this; exact this
      · have := ih (pre ++ [x]) c (by simp [e]) (by rw [hp, ← hc, clsR, if_neg h])
        rw [hp] at this; exact this
  exact key T [] (-1) rfl rfl
end Go.Proofs.Ytlkmjldhhoopcaa.R
