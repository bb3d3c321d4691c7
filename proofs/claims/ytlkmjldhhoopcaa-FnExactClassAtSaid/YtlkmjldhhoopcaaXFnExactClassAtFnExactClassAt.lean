/- The program's ClassAt answers what the reference's does, for all arguments: the plain statement. -/
import Derived.Test.YtlkmjldhhoopcaaXFnExactClassAtGndS
import Derived.Test.YtlkmjldhhoopcaaXFnExactClassAtGndE
import Derived.Test.YtlkmjldhhoopcaaRvPuFnExactClassAt
namespace Go.Proofs.Ytlkmjldhhoopcaa.Pure
open Go.Rv Go.Rv.Ax R
set_option linter.unusedVariables false
open Classical in
noncomputable def clsV (D : List Int) (H : List Ho) (r ht : Int) : Int × Bool := if gOk D H ∧ (0 ≤ r ∧ r ≤ 60) ∧ (-100000 ≤ ht ∧ ht ≤ 100000) then (clsR ht (topsGo none H r) 0 (-1), true) else (0, false)
theorem specCls_w (D : List Int) (H : List Ho) (r ht : Int) (hD : D.length ≤ 1048576) (hH : H.length ≤ 1048576) (hh : ∀ h ∈ H, h.2.length ≤ 1048576) : W (fun k _ => spec_ClassAt.f k D H r ht) (· = clsV D H r ht) := by
  refine spec_ClassAt.w (W.bind (specValid_w D H hD hH hh) fun b hb => W.ni (fun hf => W.ret ?_) (fun hg => ?_))
  · rw [clsV, if_neg fun e => by rw [hb.2 e.1] at hf; cases hf]
  have g := hb.1 hg
  refine W.bindE (spec_l06Ring.w (W.bindN (fun k => l00InG_eq k _ _ _) (W.ret rfl))) (W.ni (fun hf => W.ret ?_) (fun h1 => ?_))
  · rw [clsV, if_neg fun e => by rw [inR_no] at hf; exact hf e.2.1]
  have h1 := inR_iff.1 h1
  refine W.bindE (spec_l06Height.w (W.bindN (fun k => l00InG_eq k _ _ _) (W.ret rfl))) (W.ni (fun hf => W.ret ?_) (fun h2 => ?_))
  · rw [clsV, if_neg fun e => by rw [inR_no] at hf; exact hf e.2.2]
  have h2 := inR_iff.1 h2
  have hT := (topsP g r).len
  have hg1 := g.1
  refine W.bindE (specAt_w g r h1) (W.bindE (specClass_w _ ht (by omega)) (W.ret ?_))
  rw [clsV, if_pos ⟨g, h1, h2⟩]
theorem implCls_w (D : List Int) (H : List Ho) (r ht : Int) (hD : D.length ≤ 1048576) (hH : H.length ≤ 1048576) (hh : ∀ h ∈ H, h.2.length ≤ 1048576) : W (fun k _ => impl_ClassAt.f k D H r ht) (· = clsV D H r ht) := by
  refine impl_ClassAt.w (W.bind (validV_w D H hD hH hh) fun b hb => W.ni (fun hf => W.ret ?_) (fun hg => ?_))
  · rw [clsV, if_neg fun e => by rw [hb.2 e.1] at hf; cases hf]
  have g := hb.1 hg
  refine W.bindE (t := inR 0 60 r && inR (-100000) 100000 ht) (impl_isPlace.w (W.bindN (fun k => within_eq k _ _ _) (W.bi (fun h => W.bindN (fun k => within_eq k _ _ _) (W.ret (by rw [h]; rfl))) (fun h => W.ret (by rw [h]; rfl))))) (W.ni (fun hf => W.ret ?_) (fun h1 => ?_))
  · rw [clsV, if_neg fun e => by rw [inR_iff.2 e.2.1, inR_iff.2 e.2.2] at hf; cases hf]
  rw [Bool.and_eq_true] at h1
  have h2 := inR_iff.1 h1.1
  have h3 := inR_iff.1 h1.2
  refine W.bindE (class_w g r h2 ht) (W.ret ?_)
  rw [clsV, if_pos ⟨g, h2, h3⟩]
theorem FnExactClassAt : PureFnExactClassAt := by
  rintro ⟨D, H⟩ r ht hw hr hh
  show ∃ k, laws_FnExactClassAt.f k D H r ht = some true
  refine W.yes (laws_FnExactClassAt.w ?_)
  refine W.bind (szGround_w D H hw.1.1 hw.2.1 fun h hm => (hw.2.2 h hm).2.1) fun (t : Int) ht' => W.di (fun _ => W.ret rfl) (fun hn => ?_)
  rcases ht' with h | ⟨hD, hH, hh⟩
  · exact (hn h).elim
  refine W.bindE (toGround_w D H hD hH hh) (W.bindE (specCls_w D H r ht hD hH hh) (W.bindE (toGround_w D H hD hH hh) (W.bindE (implCls_w D H r ht hD hH hh) (W.nde rfl (W.e (by simp) ?_)))))
  exact W.bindE (toGround_w D H hD hH hh) (W.bindE (eqGround_w D H hD hH hh) (W.ne rfl (W.ret rfl)))
end Go.Proofs.Ytlkmjldhhoopcaa.Pure
