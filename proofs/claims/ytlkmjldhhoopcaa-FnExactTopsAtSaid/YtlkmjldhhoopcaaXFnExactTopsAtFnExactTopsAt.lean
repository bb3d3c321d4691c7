/- The program's TopsAt answers what the reference's does, for all arguments, and its result is new memory: the plain statement. -/
import Derived.Test.YtlkmjldhhoopcaaXFnExactTopsAtGndT
import Derived.Test.YtlkmjldhhoopcaaXFnExactTopsAtGndE
import Derived.Test.YtlkmjldhhoopcaaRvPuFnExactTopsAt
namespace Go.Proofs.Ytlkmjldhhoopcaa.Pure
open Go.Rv Go.Rv.Ax R
set_option linter.unusedVariables false
open Classical in
noncomputable def topsV (D : List Int) (H : List Ho) (r : Int) : List Int × Bool := if gOk D H ∧ (0 ≤ r ∧ r ≤ 60) then (topsGo none H r, true) else ([], false)
theorem topsV_small (D : List Int) (H : List Ho) (r : Int) : (topsV D H r).1.length ≤ 1000 := by
  unfold topsV
  split
  · rename_i h
    have h1 := (topsP h.1 r).len
    have h2 := h.1.1
    dsimp only; omega
  · exact Nat.zero_le _
theorem specTops_law (D : List Int) (H : List Ho) (r : Int) (hD : D.length ≤ 1048576) (hH : H.length ≤ 1048576) (hh : ∀ h ∈ H, h.2.length ≤ 1048576) : W (fun k _ => spec_TopsAt.f k D H r) (· = topsV D H r) := by
  refine spec_TopsAt.w (W.bind (specValid_w D H hD hH hh) fun b hb => W.ni (fun hf => W.ret ?_) (fun hg => ?_))
  · rw [topsV, if_neg fun e => by rw [hb.2 e.1] at hf; cases hf]
  have g := hb.1 hg
  refine W.bindE (spec_l06Ring.w (W.bindN (fun k => l00InG_eq k _ _ _) (W.ret rfl))) (W.ni (fun hf => W.ret ?_) (fun h1 => ?_))
  · rw [topsV, if_neg fun e => by rw [inR_no] at hf; exact hf e.2]
  have h1 := inR_iff.1 h1
  refine W.bindE (specAt_w g r h1) (W.ret ?_)
  rw [topsV, if_pos ⟨g, h1⟩]
theorem implTops_law (D : List Int) (H : List Ho) (r : Int) (hD : D.length ≤ 1048576) (hH : H.length ≤ 1048576) (hh : ∀ h ∈ H, h.2.length ≤ 1048576) : W (fun k _ => impl_TopsAt.f k D H r) (· = topsV D H r) := by
  refine impl_TopsAt.w (W.bind (validV_w D H hD hH hh) fun b hb => W.ni (fun hf => W.ret ?_) (fun hg => ?_))
  · rw [topsV, if_neg fun e => by rw [hb.2 e.1] at hf; cases hf]
  have g := hb.1 hg
  refine W.bindN (fun k => within_eq k _ _ _) (W.ni (fun hf => W.ret ?_) (fun h1 => ?_))
  · rw [topsV, if_neg fun e => by rw [inR_no] at hf; exact hf e.2]
  have h1 := inR_iff.1 h1
  refine W.bindE (tops_w g r h1) (W.ret ?_)
  rw [topsV, if_pos ⟨g, h1⟩]
theorem sum_nn (hs : List (Int × List Int)) : 0 ≤ (hs.map fun h => 1 + (h.2.length : Int)).sum := by
  induction hs with
  | nil => simp
  | cons x hs ih => rw [List.map_cons, List.sum_cons]; omega
theorem FnExactTopsAt : PureFnExactTopsAt := by
  rintro ⟨D, H⟩ r hw hr
  show ∃ k, laws_FnExactTopsAt.f k D H r = some true
  refine W.yes (laws_FnExactTopsAt.w ?_)
  refine W.bind (szGround_w D H hw.1.1 hw.2.1 fun h hm => (hw.2.2 h hm).2.1) fun (t : Int) ht' => W.di (fun _ => W.ret rfl) (fun hn => ?_)
  rcases ht' with h | ⟨hD, hH, hh⟩
  · exact (hn h).elim
  have hv := topsV_small D H r
  have hv' : (topsV D H r).1.length ≤ 1048576 := by omega
  refine W.bindE (toGround_w D H hD hH hh) (W.bindE (specTops_law D H r hD hH hh) (W.bindE (toGround_w D H hD hH hh) (W.bindE (implTops_law D H r hD hH hh) (W.bindE (eqInt64S_w _ hv') (W.ne rfl (W.e (by simp) ?_))))))
  refine laws_FnExactTopsAt.w0 (W.bindE (toGround_w D H hD hH hh) (W.bindE (eqGround_w D H hD hH hh) (W.ne rfl ?_)))
  refine W.bindE (t := 1 + (D.length : Int) + (H.map fun h => 1 + (h.2.length : Int)).sum) (laws_markGround.w ?_) (W.de (by have := sum_nn H; omega) ?_)
  · unfold T.markGF
    refine W.dt hD (W.t ?_ (W.t (by omega) (W.ret rfl)))
    simp only [T.hok, Bool.and_eq_true, decide_eq_true_eq, List.all_eq_true]
    exact ⟨hH, fun x hx => hh x hx⟩
  refine W.bindE (eqInt64S_w _ hv') (W.ne rfl (W.e (by simp) (laws_FnExactTopsAt.w1 ?_)))
  refine W.bindE (markInt64S_w _ 1 hv' (by omega)) (W.bindE (heldInt64S_w _ 1 hv' (by omega)) (W.de (by omega) (W.nde rfl ?_)))
  refine W.bindE (toGround_w D H hD hH hh) (W.bindE (implTops_law D H r hD hH hh) (W.bindE (eqInt64S_w _ hv') (W.ne rfl (W.e (by simp) ?_))))
  exact W.bindE (heldInt64S_w _ 1 hv' (by omega)) (W.de (by omega) (W.nde rfl (W.ret rfl)))
end Go.Proofs.Ytlkmjldhhoopcaa.Pure
