/- Rings: the poses of a tube (the program). -/
import Derived.Test.YtmgelocefebldaaXFnBestRng
namespace Go.Proofs.Ytmgelocefebldaa.R
open Go.Rv Go.Rv.Ax
set_option linter.unusedVariables false
set_option linter.unusedSimpArgs false
def cuOf (r : Ri) : Cu := (1, turnV r.1 r.2)
def tgo (acc : List Po) (p : Po) : List Ri → List Po × Bool
  | [] => (acc, true)
  | r :: t => if okP (nxt p (cuOf r)) then tgo (acc ++ [nxt p (cuOf r)]) (nxt p (cuOf r)) t else ([], false)
def tubeP (p : Po) (t : List Ri) : List Po × Bool := if okP p then tgo [p] p t else ([], false)
def tubePV (p : Po) (t : List Ri) : List Po × Bool := if tubeB t then tubeP p t else ([], false)
def nextV (p : Po) (c : Cu) : Int × Int × Int × Int × Bool := if okP (nxt p c) then ((nxt p c).1, (nxt p c).2.1, (nxt p c).2.2.1, (nxt p c).2.2.2, true) else (0, 0, 0, 0, false)
theorem implNextP_w {p : Po} {c : Cu} (hp : okP p = true) (hc : okT c.2.1 c.2.2 = true) : W (fun k _ => impl_NextPose.f k p.1 p.2.1 p.2.2.1 p.2.2.2 c.2.1 c.2.2) (· = nextV p c) := by
  refine impl_NextPose.w (W.bindE (validPose_w p) (W.ne hp (W.bindE (isTurn_w _ _) (W.ne hc (W.bindN (fun k => implNext_eq k hp hc) (W.bindE (validPose_w (nxt p c)) ?_))))))
  unfold nextV
  cases h : okP (nxt p c)
  · exact W.nt rfl (W.ret (by simp))
  · exact W.ne rfl (W.bindN (fun k => implNext_eq k hp hc) (W.ret (by simp)))
theorem chn_rings : ∀ (t : List Ri) (q : Option Int), chn q t = true → ∀ r ∈ t, ringB r.1 r.2 = true
  | [], _, _, r, hr => by cases hr
  | x :: t, q, h, r, hr => by
    rw [chn_cons, Bool.and_eq_true, Bool.and_eq_true] at h
    rcases List.mem_cons.1 hr with rfl | hr
    · exact h.1
    · exact chn_rings t _ h.2.2 r hr
theorem tube_rings {t : List Ri} (h : tubeB t = true) : t.length ≤ 60 ∧ ∀ r ∈ t, ringB r.1 r.2 = true := by
  unfold tubeB at h
  rw [Bool.and_eq_true, decide_eq_true_eq] at h
  exact ⟨by omega, chn_rings t none h.1⟩
theorem implTubePoses_w (p : Po) (t : List Ri) (hl : t.length ≤ 60) (hv : ∀ r ∈ t, ringB r.1 r.2 = true) : W (fun k _ => impl_tubePoses.f k p.1 p.2.1 p.2.2.1 p.2.2.2 t) (· = tubeP p t) := by
  refine impl_tubePoses.w (W.bindE (validPose_w p) ?_)
  unfold tubeP
  cases hp : okP p
  · exact W.nt rfl (W.ret (by simp))
  refine W.ne rfl ?_
  simp only [if_true]
  have key : ∀ (rest pre : List Ri) (acc : List Po) (q : Po), t = pre ++ rest → (∃ a, acc = a ++ [q]) → acc.length = pre.length + 1 → okP q = true → W (fun k m => (impl_tubePoses.cs k m) acc t (t.length : Int) (pre.length : Int)) (· = tgo acc q rest) := by
    intro rest
    induction rest with
    | nil => intro pre acc q e _ _ _; exact impl_tubePoses.w0 (W.de (by rw [e]; simp) (W.ret rfl))
    | cons r rest ih =>
      rintro pre acc q e ⟨a, rfl⟩ hal hq
      have hlen : t.length = pre.length + (rest.length + 1) := by rw [e]; simp
      have hx : rd (0, 0) t (pre.length : Int) = r := by rw [e]; exact rd_mid _ _ _
      have hpl : ((pre ++ [r]).length : Int) = (pre.length : Int) + 1 := by simp
      have hal' : a.length = pre.length := by simpa using hal
      have hA : ((a ++ [q]).length : Int) = (pre.length : Int) + 1 := by simp; omega
      have hr := hv r (by rw [e]; simp)
      have hy : rd (0, (0, (0, 0))) (a ++ [q]) ((pre.length : Int) + 1 - 1) = q := by
        rw [show (pre.length : Int) + 1 - 1 = (a.length : Int) by omega]; exact rd_mid _ _ _
      refine impl_tubePoses.w0 (W.dt (by omega) (W.t (by omega) (W.t (by omega) ?_)))
      rw [hx, hA, w64 (i := (pre.length : Int) + 1) (by omega) (by omega), w64 (i := (pre.length : Int) + 1 - 1) (by omega) (by omega), hy]
      refine W.t (by omega) (W.t (by omega) (W.bindN (fun k => turnI_eq k r.1 r.2 hr) (W.bindN (fun k => rfl) (W.bindN (fun k => turnI_eq k r.1 r.2 hr) (W.bindN (fun k => rfl) (W.bindE (implNextP_w (c := cuOf r) hq (turn_ok hr)) ?_))))))
      rw [tgo]
      unfold nextV
      cases hn : okP (nxt q (cuOf r))
      · exact W.nt rfl (W.ret (by simp))
      · refine W.ne rfl (W.t (by omega) ?_)
        simp only [if_true]
        have := ih (pre ++ [r]) (a ++ [q] ++ [nxt q (cuOf r)]) (nxt q (cuOf r)) (by simp [e]) ⟨_, rfl⟩ (by simp; omega) hn
        rw [hpl] at this
        exact this
  exact key t [] [p] p rfl ⟨[], rfl⟩ rfl hp
theorem implTubePosesV_w (p : Po) (t : List Ri) (hl : t.length ≤ 1048576) : W (fun k _ => impl_TubePoses.f k p.1 p.2.1 p.2.2.1 p.2.2.2 t) (· = tubePV p t) := by
  refine impl_TubePoses.w (W.bindE (validTube_w t hl) ?_)
  unfold tubePV
  cases h : tubeB t
  · exact W.nt rfl (W.ret (by simp))
  · obtain ⟨h1, h2⟩ := tube_rings h
    exact W.ne rfl (W.bindE (implTubePoses_w p t h1 h2) (W.ret (by simp)))
theorem tgo_ok : ∀ (t : List Ri) (acc : List Po) (p : Po), (∀ q ∈ acc, okP q = true) → (tgo acc p t).2 = true → (tgo acc p t).1.length = acc.length + t.length ∧ ∀ q ∈ (tgo acc p t).1, okP q = true
  | [], acc, p, h, _ => ⟨by simp [tgo], h⟩
  | r :: t, acc, p, h, h2 => by
    rw [tgo] at h2 ⊢
    cases hn : okP (nxt p (cuOf r))
    · rw [hn] at h2; simp at h2
    · rw [hn] at h2
      simp only [if_true] at h2 ⊢
      have := tgo_ok t _ _ (fun q hq => by
        rcases List.mem_append.1 hq with hq | hq
        · exact h q hq
        · simp at hq; subst hq; exact hn) h2
      refine ⟨by rw [this.1]; simp; omega, this.2⟩
theorem tgo_no : ∀ (t : List Ri) (acc : List Po) (p : Po), (tgo acc p t).2 = false → (tgo acc p t).1 = []
  | [], acc, p, h => by simp [tgo] at h
  | r :: t, acc, p, h => by
    rw [tgo] at h ⊢
    split
    · rename_i hn; rw [if_pos hn] at h; exact tgo_no t _ _ h
    · rfl
structure TubeV (p : Po) (t : List Ri) : Prop where
  t60 : t.length ≤ 60
  len : (tubePV p t).1.length = t.length + 1
  ok : ∀ q ∈ (tubePV p t).1, okP q = true
theorem tubeV_ok {p : Po} {t : List Ri} (h : (tubePV p t).2 = true) : TubeV p t := by
  unfold tubePV at h
  cases ht : tubeB t
  · rw [ht] at h; simp at h
  rw [ht] at h
  simp only [if_true] at h
  unfold tubeP at h
  cases hp : okP p
  · rw [hp] at h; simp at h
  rw [hp] at h
  simp only [if_true] at h
  have e : tubePV p t = tgo [p] p t := by unfold tubePV tubeP; rw [ht, hp]; rfl
  have := tgo_ok t [p] p (fun q hq => by simp at hq; subst hq; exact hp) h
  exact ⟨(tube_rings ht).1, by rw [e, this.1]; simp; omega, by rw [e]; exact this.2⟩
theorem tubeV_no {p : Po} {t : List Ri} (h : (tubePV p t).2 = false) : tubePV p t = ([], false) := by
  unfold tubePV at h ⊢
  cases ht : tubeB t
  · simp
  rw [ht] at h
  simp only [if_true] at h ⊢
  unfold tubeP at h ⊢
  cases hp : okP p
  · simp
  rw [hp] at h
  simp only [if_true] at h ⊢
  have := tgo_no t [p] p h
  exact Prod.ext this h
theorem tubePV_length (p : Po) (t : List Ri) : (tubePV p t).1.length ≤ 61 := by
  cases h : (tubePV p t).2
  · rw [tubeV_no h]; simp
  · have := tubeV_ok h
    have := this.len; have := (tubeV_ok h).t60
    omega
end Go.Proofs.Ytmgelocefebldaa.R
