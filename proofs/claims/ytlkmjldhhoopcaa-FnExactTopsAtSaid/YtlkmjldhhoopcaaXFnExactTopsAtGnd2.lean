/- The ground: a valid one is found valid by the program. -/
import Derived.Test.YtlkmjldhhoopcaaXFnExactTopsAtGnd0
namespace Go.Proofs.Ytlkmjldhhoopcaa.R
open Go.Rv Go.Rv.Ax
set_option linter.unusedVariables false
set_option linter.unusedSimpArgs false
theorem dn_at {l : List Int} (h : dn l) {i j : Nat} (hij : i < j) (hj : j < l.length) : rd 0 l (j : Int) ≤ rd 0 l (i : Int) := by
  rw [rd_at hj, rd_at (show i < l.length by omega)]
  exact List.pairwise_iff_getElem.1 h i j _ _ hij
theorem isHole_w {n : Nat} {h : Ho} (ho : hOk n h) (hn : n ≤ 1000) : W (fun k _ => impl_isHole.f k h.1 h.2 (n : Int)) (· = true) := by
  obtain ⟨h1, h2, h3, h4⟩ := ho
  have hall : h.2.all (inR (-100000) 100000) = true := List.all_eq_true.2 fun x hx => inR_iff.2 (h3 x hx)
  refine impl_isHole.w (W.bindN (fun k => within_eq k _ _ _) (W.ne (inR_iff.2 h1) (W.nde (by rw [h2]) (W.bindE (areWithin_w _ _ _ (by omega)) (W.ne hall (impl_isHole.w0 ?_))))))
  have key : ∀ (d j : Nat), 1 ≤ j → n ≤ j + d → W (fun k i => (impl_isHole.cs k i).2 (n : Int) h.1 h.2 (j : Int)) (· = true) := by
    intro d
    induction d with
    | zero => intro j h1 hj; exact impl_isHole.w1 (W.de (by omega) (W.ret rfl))
    | succ d ih =>
      intro j h1 hj
      by_cases hjn : j < n
      · have hd := dn_at h4 (i := j - 1) (j := j) (by omega) (by omega)
        rw [show ((j - 1 : Nat) : Int) = (j : Int) - 1 by omega] at hd
        refine impl_isHole.w1 (W.dt (by omega) ?_)
        rw [w64 (i := (j : Int) - 1) (by omega) (by omega), w64 (i := (j : Int) + 1) (by omega) (by omega)]
        exact W.t (by omega) (W.t (by omega) (W.t (by omega) (W.t (by omega) (W.de (by omega) (ih (j + 1) (by omega) (by omega))))))
      · exact impl_isHole.w1 (W.de (by omega) (W.ret rfl))
  exact key n 1 (by omega) (by omega)
theorem valid_w {D : List Int} {H : List Ho} (g : gOk D H) : W (fun k _ => impl_ValidGround.f k D H) (· = true) := by
  obtain ⟨h1, h2, h3, h4, h5⟩ := g
  have hall : D.all (inR 1 3000) = true := List.all_eq_true.2 fun x hx => inR_iff.2 (h2 x hx)
  refine impl_ValidGround.w (W.bindN (fun k => within_eq k _ _ _) (W.ne (inR_iff.2 (by omega)) (W.bindE (areWithin_w _ _ _ (by omega)) (W.ne hall (W.bindN (fun k => within_eq k _ _ _) (W.ne (inR_iff.2 (by omega)) (impl_ValidGround.w0 ?_)))))))
  have key : ∀ (rest pre : List Ho), H = pre ++ rest → W (fun k i => (impl_ValidGround.cs k i).2 D H H (H.length : Int) (pre.length : Int)) (· = true) := by
    intro rest
    induction rest with
    | nil => intro pre e; exact impl_ValidGround.w1 (W.de (by rw [e]; simp) (W.ret rfl))
    | cons x rest ih =>
      intro pre e
      have hlen : H.length = pre.length + (rest.length + 1) := by rw [e]; simp
      have hx : rd (0, []) H (pre.length : Int) = x := by rw [e]; exact rd_mid _ _ _
      have next := ih (pre ++ [x]) (by simp [e])
      have hp : ((pre ++ [x]).length : Int) = (pre.length : Int) + 1 := by simp
      rw [hp] at next
      refine impl_ValidGround.w1 (W.dt (by omega) (W.t (by omega) (W.t (by omega) ?_)))
      rw [hx, w64 (i := (pre.length : Int) + 1) (by omega) (by omega), w64 (i := (pre.length : Int) - 1) (by omega) (by omega)]
      refine W.bindE (isHole_w (h4 x (by rw [e]; simp)) (by omega)) (W.ne rfl (W.di (fun hpos => ?_) (fun _ => next)))
      rcases List.eq_nil_or_concat pre with rfl | ⟨q, y, rfl⟩
      · simp at hpos
      · rw [List.concat_eq_append] at *
        have hy : rd (0, []) H (((q ++ [y]).length : Int) - 1) = y := by
          rw [show ((q ++ [y]).length : Int) - 1 = (q.length : Int) by simp, e, List.append_assoc]; exact rd_mid _ _ _
        have hlt : y.1 < x.1 := by
          rw [e, List.pairwise_append] at h5
          exact h5.2.2 y (by simp) x (by simp)
        rw [hy]
        exact W.t (by omega) (W.t (by omega) (W.de (by omega) next))
  exact key H [] rfl
theorem clone_w (l : List Int) (h : 1 ≤ l.length ∧ l.length ≤ 1000) : W (fun k _ => slices_Clone_int64.f k l) (· = l) :=
  slices_Clone_int64.w (W.t (by omega) (W.t (by simp only [List.length_nil]; omega) (W.ret (List.nil_append l))))
end Go.Proofs.Ytlkmjldhhoopcaa.R
