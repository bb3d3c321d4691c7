/- The reference's turns and poses. -/
import Derived.Test.YtmgelocefebldaaXFnBestAxW
namespace Go.Proofs.Ytmgelocefebldaa.R
open Go.Rv Go.Rv.Ax
set_option linter.unusedVariables false
set_option linter.unusedSimpArgs false
theorem specTurns_w (p : Po) (l : List Cu) (hl : l.length ≤ 1000) (hc : ∀ c ∈ l, 0 ≤ c.1 ∧ c.1 ≤ 1000) : W (fun k _ => spec_l02Turns.f k p.1 p.2.1 p.2.2.1 p.2.2.2 l) (· = tl l) := by
  have hb : ∀ pre : List Cu, (∀ c ∈ pre, 0 ≤ c.1 ∧ c.1 ≤ 1000) → (tl pre).length ≤ 1000 * pre.length := by
    intro pre
    induction pre with
    | nil => intro _; simp [tl]
    | cons c pre ih =>
      intro h
      have h1 := ih fun d hd => h d (by simp [hd])
      have h2 := h c (by simp)
      rw [tl_cons, List.length_append, List.length_replicate, List.length_cons]; omega
  have key : ∀ (rest pre : List Cu), l = pre ++ rest → W (fun k m => (spec_l02Turns.cs k m).1 p.1 p.2.1 p.2.2.1 p.2.2.2 l (tl pre) (pre.length : Int)) (· = tl l) := by
    intro rest
    induction rest with
    | nil =>
      intro pre e
      exact spec_l02Turns.w0 (W.de (by rw [e]; simp) (W.ret (by rw [e]; simp)))
    | cons c rest ih =>
      intro pre e
      have hlen : l.length = pre.length + (rest.length + 1) := by rw [e]; simp
      have hx : rd (0, (0, 0)) l (pre.length : Int) = c := by rw [e]; exact rd_mid _ _ _
      have hcc := hc c (by rw [e]; simp)
      have hbp := hb pre fun d hd => hc d (by rw [e]; simp [hd])
      refine spec_l02Turns.w0 (W.dt (by omega) ?_)
      have ring : ∀ (n j : Nat), j + n = c.1.toNat → W (fun k m => (spec_l02Turns.cs k m).2 p.1 p.2.1 p.2.2.1 p.2.2.2 l (tl pre ++ List.replicate j (un c)) (pre.length : Int) (j : Int)) (· = tl l) := by
        intro n
        induction n with
        | zero =>
          intro j hj
          refine spec_l02Turns.w1 (W.t (by omega) (W.t (by omega) ?_))
          rw [hx]
          refine W.de (by omega) ?_
          have := ih (pre ++ [c]) (by simp [e])
          rw [tl_full, ← show j = c.1.toNat by omega] at this
          rw [w64 (by omega) (by omega)]
          simpa using this
        | succ n ihn =>
          intro j hj
          refine spec_l02Turns.w1 (W.t (by omega) (W.t (by omega) ?_))
          rw [hx]
          refine W.dt (by omega) (W.t (by omega) (W.t (by omega) (W.t (by omega) (W.t (by omega) (W.t (by simp; omega) ?_)))))
          have := ihn (j + 1) (by omega)
          rw [List.replicate_succ', ← List.append_assoc] at this
          rw [w64 (by omega) (by omega)]
          simpa [un] using this
      have := ring c.1.toNat 0 (by omega)
      simpa using this
  exact spec_l02Turns.w (key l [] rfl)
theorem Ok_small {p : Po} {l : List Cu} (h : Ok p l) : l.length ≤ 1000 ∧ ∀ c ∈ l, 0 ≤ c.1 ∧ c.1 ≤ 1000 := by
  refine ⟨by have := h.2.1; omega, fun c hc => ⟨h.nn c hc, ?_⟩⟩
  have h1 := sumR_mem h.nn hc
  have h2 := h.2.2.2.1
  omega
theorem specTurnsOk_w {p : Po} {l : List Cu} (h : Ok p l) : W (fun k _ => spec_l02Turns.f k p.1 p.2.1 p.2.2.1 p.2.2.2 l) (· = tl l) := specTurns_w p l (Ok_small h).1 (Ok_small h).2
theorem specPoses_w {p : Po} {l : List Cu} (h : Ok p l) : W (fun k _ => spec_l02Poses.f k p.1 p.2.1 p.2.2.1 p.2.2.2 l) (· = poses p l) := by
  have hln := h.len
  refine spec_l02Poses.w (W.bindE (specTurnsOk_w h) ?_)
  have key : ∀ (rest pre : List Cu), tl l = pre ++ rest → W (fun k m => (spec_l02Poses.cs k m) (p :: scan p pre) (tl l) (pre.length : Int)) (· = poses p l) := by
    intro rest
    induction rest with
    | nil =>
      intro pre e
      exact spec_l02Poses.w0 (W.de (by rw [e]; simp) (W.ret (by rw [poses, e]; simp)))
    | cons c rest ih =>
      intro pre e
      have hlen : (tl l).length = pre.length + (rest.length + 1) := by rw [e]; simp
      have hx : rd (0, (0, 0)) (tl l) (pre.length : Int) = c := by rw [e]; exact rd_mid _ _ _
      obtain ⟨z, hz, hzl⟩ := last_scan p pre
      have hn : (p :: scan p pre).length = pre.length + 1 := by simp [scan_length]
      have hy : rd (0, (0, (0, 0))) (p :: scan p pre) (pre.length : Int) = endP p pre := by rw [hz, ← hzl]; exact rd_mid _ _ _
      have hok : ∀ q ∈ scan p pre, okP q = true := fun q hq => h.2.2.2.2 q (by rw [e, scan_app]; simp [hq])
      have ht := okT_tl h c (by rw [e]; simp)
      refine spec_l02Poses.w0 (W.dt (by omega) (W.t (by omega) (W.t (by omega) (W.t (by omega) (W.t (by omega) (W.t (by omega) (W.t (by omega) ?_)))))))
      rw [hx, hy]
      refine W.bindN (fun k => specNext_eq k (endP_mem _ _ hok h.1) ht) (W.t (by omega) ?_)
      have := ih (pre ++ [c]) (by simp [e])
      rw [scan_snoc] at this
      rw [w64 (by omega) (by omega)]
      simpa using this
  exact key (tl l) [] rfl
end Go.Proofs.Ytmgelocefebldaa.R
