/- A run of turns, by the program. -/
import Derived.Test.YtigkpbnhdkdliaaXFnExactStI
import Derived.Test.YtigkpbnhdkdliaaXFnExactSm
namespace Go.Proofs.Ytigkpbnhdkdliaa.R
open Go.Rv Go.Rv.St
set_option linter.unusedVariables false
set_option linter.unusedSimpArgs false
theorem runI_w {M H : Int} (hL : Lim M H) {c : C} (hc : ins M c = true) (ts : List Int) (hl : ts.length ≤ 40) (ht : ∀ t ∈ ts, -M ≤ t ∧ t ≤ M) : W (fun k _ => impl_RunCourse.f k M H c.1 c.2.1 c.2.2 ts) (· = runB (runV M H c ts)) := by
  have hM2 := hL.b
  refine impl_RunCourse.w (W.bindE (validI_w M H c) (W.ne (by rw [lim_iff.2 hL, hc]; rfl) (W.de (by omega) (impl_RunCourse.w0 ?_))))
  have key : ∀ (rest pre : List Int) (c : C) (acc : List C), ts = pre ++ rest → ins M c = true → acc.length = pre.length → W (fun k m => (impl_RunCourse.cs k m).2 M H c.1 c.2.1 c.2.2 acc ts (ts.length : Int) (pre.length : Int)) (· = runB ((runV M H c rest).map (acc ++ ·))) := by
    intro rest
    induction rest with
    | nil => intro pre c acc e hc ha; exact impl_RunCourse.w1 (W.de (by rw [e]; simp) (W.ret (by simp [runV, runB])))
    | cons t rest ih =>
      intro pre c acc e hc ha
      have hlen : ts.length = pre.length + (rest.length + 1) := by rw [e]; simp
      have hx : rd 0 ts (pre.length : Int) = t := by rw [e]; exact rd_mid _ _ _
      have htt := ht t (by rw [e]; simp)
      refine impl_RunCourse.w1 (W.dt (by omega) (W.t (by omega) (W.t (by omega) ?_)))
      rw [hx, w64 (i := (pre.length : Int) + 1) (by omega) (by omega)]
      refine W.bindE (nextI_w hL (small_ins hL hc) (t := t) (by omega)) ?_
      unfold nxV
      cases hq : nxo M H c t with
      | false => exact W.nt (by simp) (W.ret (by simp [runV, hq, runB]))
      | true =>
        refine W.ne rfl (W.t (by omega) ?_)
        have := ih (pre ++ [t]) (stp c t) (acc ++ [stp c t]) (by simp [e]) (nxo_ins hq) (by simp [ha])
        have e1 : ((pre ++ [t]).length : Int) = (pre.length : Int) + 1 := by simp
        rw [e1] at this
        refine this.mono fun v hv => hv.trans ?_
        simp only [runV, if_pos hq]
        cases runV M H (stp c t) rest <;> simp
  have := key ts [] c [] rfl hc rfl
  refine this.mono fun v hv => hv.trans ?_
  cases runV M H c ts <;> rfl
theorem ends_run {M H : Int} : ∀ (l : List Int) (c : C), ends M H c l → ∃ r, runV M H c l = some r ∧ r.length = l.length ∧ (0 < l.length → rd (0, (0, 0)) r ((l.length : Int) - 1) = home)
  | [], c, h => ⟨[], rfl, rfl, fun h => by simp at h⟩
  | t :: l, c, h => by
    obtain ⟨r, h1, h2, h3⟩ := ends_run l _ h.2
    refine ⟨stp c t :: r, by simp only [runV, if_pos h.1, h1]; rfl, by simp [h2], fun _ => ?_⟩
    cases l with
    | nil =>
      have h4 : stp c t = home := h.2
      have hr : r = [] := List.length_eq_zero_iff.1 h2
      subst hr
      simp [rd, h4]
    | cons u l =>
      have h5 := h3 (by simp)
      rw [show (((u :: l).length : Int) - 1) = (l.length : Int) by simp] at h5
      rw [show (((t :: u :: l).length : Int) - 1) = ((l.length + 1 : Nat) : Int) by simp]
      unfold rd at h5 ⊢
      simpa using h5
end Go.Proofs.Ytigkpbnhdkdliaa.R
