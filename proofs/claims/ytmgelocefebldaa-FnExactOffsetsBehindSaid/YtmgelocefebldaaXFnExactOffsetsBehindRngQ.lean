/- Rings: the poses of a tube (the reference). -/
import Derived.Test.YtmgelocefebldaaXFnExactOffsetsBehindRngP
import Derived.Test.YtmgelocefebldaaXFnExactOffsetsBehindRngS
namespace Go.Proofs.Ytmgelocefebldaa.R
open Go.Rv Go.Rv.Ax
set_option linter.unusedVariables false
set_option linter.unusedSimpArgs false
theorem specNextP_w {p : Po} {c : Cu} (hp : okP p = true) (hc : okT c.2.1 c.2.2 = true) : W (fun k _ => spec_NextPose.f k p.1 p.2.1 p.2.2.1 p.2.2.2 c.2.1 c.2.2) (· = nextV p c) := by
  refine spec_NextPose.w (W.bindN (fun k => specPose_eq k p) (W.ne hp (W.bindN (fun k => specTurn_eq k _ _) (W.ne hc (spec_NextPose.w0 (W.bindN (fun k => specNext_eq k hp hc) (W.bindN (fun k => specPose_eq k (nxt p c)) ?_)))))))
  unfold nextV
  cases h : okP (nxt p c)
  · exact W.nt rfl (W.ret (by simp))
  · exact W.ne rfl (W.ret (by simp))
theorem specTubePoses_w (p : Po) (t : List Ri) (hl : t.length ≤ 60) (hv : ∀ r ∈ t, ringB r.1 r.2 = true) : W (fun k _ => spec_l03Poses.f k p.1 p.2.1 p.2.2.1 p.2.2.2 t) (· = tubeP p t) := by
  refine spec_l03Poses.w (W.bindE (spec_ValidPose.w (W.bindN (fun k => specPose_eq k p) (W.ret rfl))) ?_)
  unfold tubeP
  cases hp : okP p
  · exact W.nt rfl (W.ret (by simp))
  refine W.ne rfl ?_
  simp only [if_true]
  have key : ∀ (rest pre : List Ri) (acc : List Po) (q : Po), t = pre ++ rest → (∃ a, acc = a ++ [q]) → acc.length = pre.length + 1 → okP q = true → W (fun k m => (spec_l03Poses.cs k m) t acc (pre.length : Int)) (· = tgo acc q rest) := by
    intro rest
    induction rest with
    | nil => intro pre acc q e _ _ _; exact spec_l03Poses.w0 (W.de (by rw [e]; simp) (W.ret rfl))
    | cons r rest ih =>
      rintro pre acc q e ⟨a, rfl⟩ hal hq
      have hlen : t.length = pre.length + (rest.length + 1) := by rw [e]; simp
      have hx : rd (0, 0) t (pre.length : Int) = r := by rw [e]; exact rd_mid _ _ _
      have hpl : ((pre ++ [r]).length : Int) = (pre.length : Int) + 1 := by simp
      have hal' : a.length = pre.length := by simpa using hal
      have hr := hv r (by rw [e]; simp)
      have hy : rd (0, (0, (0, 0))) (a ++ [q]) (pre.length : Int) = q := by
        rw [show (pre.length : Int) = (a.length : Int) by omega]; exact rd_mid _ _ _
      refine spec_l03Poses.w0 (W.dt (by omega) (W.t (by omega) (W.t (by omega) ?_)))
      rw [hx, w64 (i := (pre.length : Int) + 1) (by omega) (by omega), hy]
      refine W.bindN (fun k => (turn_eq k r.1 r.2 hr).1) (W.t (by omega) (W.t (by omega) (W.bindE (specNextP_w (c := cuOf r) hq (turn_ok hr)) ?_)))
      rw [tgo]
      unfold nextV
      cases hn : okP (nxt q (cuOf r))
      · exact W.nt rfl (W.ret (by simp))
      · refine W.ne rfl (W.t (by omega) ?_)
        simp only [if_true]
        have := ih (pre ++ [r]) (a ++ [q] ++ [nxt q (cuOf r)]) (nxt q (cuOf r)) (by simp [e]) ⟨_, rfl⟩ (by simp; omega) hn
        rw [hpl] at this
        exact this
  exact key t [] [p] p rfl ⟨[], rfl⟩ rfl hp
end Go.Proofs.Ytmgelocefebldaa.R
