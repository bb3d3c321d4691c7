/- The ground: what the program's tops answer. -/
import Derived.Test.YtlkmjldhhoopcaaXFnExactTopsAtGnd3
namespace Go.Proofs.Ytlkmjldhhoopcaa.R
open Go.Rv Go.Rv.Ax
set_option linter.unusedVariables false
set_option linter.unusedSimpArgs false
theorem topsGo_lt {prev : Option Ho} {h : Ho} {t : List Ho} {r : Int} (hh : ¬r ≤ h.1) : topsGo prev (h :: t) r = topsGo (some h) t r := by
  cases prev <;> simp [topsGo, hh]
theorem topsGo_none {h : Ho} {t : List Ho} {r : Int} (hh : r ≤ h.1) : topsGo none (h :: t) r = h.2 := by simp [topsGo, hh]
theorem topsGo_some {p h : Ho} {t : List Ho} {r : Int} (hh : r ≤ h.1) : topsGo (some p) (h :: t) r = if h.1 = r then h.2 else List.zipWith (fun a b => mid a b (r - p.1) (h.1 - p.1)) p.2 h.2 := by simp [topsGo, hh]
theorem topsGo_skip (r : Int) (p : Ho) (R : List Ho) : ∀ (q : List Ho) (prev : Option Ho), (∀ g ∈ q ++ [p], g.1 < r) → topsGo prev (q ++ p :: R) r = topsGo (some p) R r
  | [], prev, h => by
    have := h p (by simp)
    show topsGo prev (p :: R) r = _
    exact topsGo_lt (by omega)
  | g :: q, prev, h => by
    have := h g (by simp)
    show topsGo prev (g :: (q ++ p :: R)) r = _
    rw [topsGo_lt (by omega)]
    exact topsGo_skip r p R q (some g) fun x hx => h x (by simp at hx ⊢; exact .inr hx)
theorem mul_small {u e : Int} (hu : -200000 ≤ u ∧ u ≤ 200000) (he : 0 ≤ e ∧ e ≤ 60) : -12000000 ≤ u * e ∧ u * e ≤ 12000000 := by
  have h1 := Int.mul_le_mul_of_nonneg_right hu.1 he.1
  have h2 := Int.mul_le_mul_of_nonneg_right hu.2 he.1
  omega
theorem tops_w {D : List Int} {H : List Ho} (g : gOk D H) (r : Int) (hr : 0 ≤ r ∧ r ≤ 60) : W (fun k _ => impl_Ground_tops.f k D H r) (· = topsGo none H r) := by
  obtain ⟨g1, g2, g3, g4, g5⟩ := g
  refine impl_Ground_tops.w (W.bind (behind_w H r (by omega)) fun (i : Int) hi => ?_)
  rcases hi with ⟨hi, hall⟩ | ⟨A, h, B, e, hi, hrh, hA⟩
  · obtain ⟨q, p, e⟩ : ∃ q p, H = q ++ [p] := by
      rcases List.eq_nil_or_concat H with e | ⟨q, p, e⟩
      · rw [e] at g3; simp at g3
      · exact ⟨q, p, by rw [e, List.concat_eq_append]⟩
    have hl : H.length = q.length + 1 := by rw [e]; simp
    have hx : rd (0, []) H (q.length : Int) = p := by rw [e]; exact rd_mid _ _ _
    have hp := g4 p (by rw [e]; simp)
    have ht : topsGo none H r = p.2 := by
      rw [e, topsGo_skip r p [] q none (by rw [← e]; exact hall)]; rfl
    refine W.dt (by omega) ?_
    rw [w64 (i := (H.length : Int) - 1) (by omega) (by omega), show (H.length : Int) - 1 = (q.length : Int) by omega, hx, ht]
    exact W.t (by omega) (W.t (by omega) (W.bindE (clone_w p.2 (by have := hp.2.1; omega)) (W.ret rfl)))
  · have hl : H.length = A.length + (B.length + 1) := by rw [e]; simp
    have hx : rd (0, []) H (A.length : Int) = h := by rw [e]; exact rd_mid _ _ _
    have hh := g4 h (by rw [e]; simp)
    have hc := clone_w h.2 (by have := hh.2.1; omega)
    subst hi
    refine W.de (by omega) (W.di (fun h0 => ?_) (fun h0 => W.t (by omega) (W.t (by omega) ?_)))
    · have : A = [] := List.eq_nil_of_length_eq_zero (by omega)
      subst this
      have ht : topsGo none H r = h.2 := by rw [e]; exact topsGo_none hrh
      rw [hx, ht]
      exact W.t (by omega) (W.t (by omega) (W.bindE hc (W.ret rfl)))
    · obtain ⟨q, p, rfl⟩ : ∃ q p, A = q ++ [p] := by
        rcases List.eq_nil_or_concat A with e' | ⟨q, p, e'⟩
        · rw [e'] at h0; simp at h0
        · exact ⟨q, p, by rw [e', List.concat_eq_append]⟩
      have hq : ((q ++ [p]).length : Int) = (q.length : Int) + 1 := by simp
      have hql : (q ++ [p]).length = q.length + 1 := by simp
      have e' : H = q ++ p :: h :: B := by rw [e]; simp
      have hy : rd (0, []) H (q.length : Int) = p := by rw [e']; exact rd_mid _ _ _
      have hp := g4 p (by rw [e']; simp)
      have hpr := hA p (by simp)
      have ht : topsGo none H r = if h.1 = r then h.2 else List.zipWith (fun a b => mid a b (r - p.1) (h.1 - p.1)) p.2 h.2 := by
        rw [e', topsGo_skip r p (h :: B) q none hA, topsGo_some hrh]
      rw [hx, ht]
      refine W.di (fun hr' => ?_) (fun hr' => ?_)
      · rw [if_pos hr']
        exact W.t (by omega) (W.t (by omega) (W.bindE hc (W.ret rfl)))
      · rw [if_neg hr']
        refine impl_Ground_tops.w0 ?_
        rw [hq, w64 (i := (q.length : Int) + 1 - 1) (by omega) (by omega), show (q.length : Int) + 1 - 1 = (q.length : Int) by omega, hy]
        rw [hq] at hx
        rw [hx]
        refine W.t (by omega) (W.t (by omega) (W.t (by omega) (W.t (by omega) ?_)))
        have hp1 := hp.1
        have hh1 := hh.1
        have key : ∀ (rest pre qre qest : List Int), p.2 = pre ++ rest → h.2 = qre ++ qest → pre.length = qre.length →
            W (fun k i => (impl_Ground_tops.cs k i).2 r p.1 p.2 h.1 h.2 (List.zipWith (fun a b => mid a b (r - p.1) (h.1 - p.1)) pre qre) p.2 (p.2.length : Int) (pre.length : Int)) (· = List.zipWith (fun a b => mid a b (r - p.1) (h.1 - p.1)) p.2 h.2) := by
          intro rest
          induction rest with
          | nil =>
            intro pre qre qest e1 e2 el
            refine impl_Ground_tops.w1 (W.de (by rw [e1]; simp) (W.ret ?_))
            rw [e1, e2, List.zipWith_append el]; simp
          | cons x rest ih =>
            intro pre qre qest e1 e2 el
            have l1 : p.2.length = pre.length + (rest.length + 1) := by rw [e1]; simp
            have l2 : h.2.length = qre.length + qest.length := by rw [e2]; simp
            have l3 := hp.2.1
            have l4 := hh.2.1
            obtain ⟨y, qest, rfl⟩ : ∃ y z, qest = y :: z := by
              cases qest with
              | nil => simp at l2; omega
              | cons y z => exact ⟨y, z, rfl⟩
            have hrx : rd 0 p.2 (pre.length : Int) = x := by rw [e1]; exact rd_mid _ _ _
            have hry : rd 0 h.2 (pre.length : Int) = y := by rw [e2, el]; exact rd_mid _ _ _
            have bx := hp.2.2.1 x (by rw [e1]; simp)
            have bY := hh.2.2.1 y (by rw [e2]; simp)
            have bm := mul_small (u := y - x) (e := r - p.1) (by omega) (by omega)
            have bw := mid_within (a := x) (b := y) (e := r - p.1) (d := h.1 - p.1) bx bY (by omega) (by omega)
            have hz : (List.zipWith (fun a b => mid a b (r - p.1) (h.1 - p.1)) pre qre).length = pre.length := by simp; omega
            refine impl_Ground_tops.w1 (W.dt (by omega) (W.t (by omega) (W.t (by omega) (W.t (by omega) (W.t (by omega) ?_)))))
            rw [hrx, hry, w64 (i := y - x) (by omega) (by omega), w64 (i := r - p.1) (by omega) (by omega), w64 (i := (y - x) * (r - p.1)) (by omega) (by omega), w64 (i := h.1 - p.1) (by omega) (by omega)]
            refine W.bindN (fun k => floor_eq k _ _ (by omega) (by omega)) ?_
            have hm : wrap64 (x + (y - x) * (r - p.1) / (h.1 - p.1)) = mid x y (r - p.1) (h.1 - p.1) := w64 (by unfold mid at bw; omega) (by unfold mid at bw; omega)
            rw [hm, w64 (i := (pre.length : Int) + 1) (by omega) (by omega)]
            refine W.t (by omega) ?_
            have := ih (pre ++ [x]) (qre ++ [y]) qest (by simp [e1]) (by simp [e2]) (by simp [el])
            rw [List.zipWith_append el] at this
            simpa using this
        exact key p.2 [] [] h.2 rfl rfl rfl
end Go.Proofs.Ytlkmjldhhoopcaa.R
