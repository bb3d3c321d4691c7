/- What DeviationsOf answers, in the program and in the reference. -/
import Derived.Test.YtgknckbplbldbaaAxis
import Derived.Test.YtgknckbplbldbaaEvKit
import Derived.Test.YtgknckbplbldbaaGy2
import Derived.Test.YtgknckbplbldbaaGy0
namespace Go.Proofs.Ytgknckbplbldbaa.K
open Go.RowKit Go.Proofs.Ytgknckbplbldbaa.G Go.Proofs.YtgknckbplbldbaaW.PrintWords Go.Proofs.YtgknckbplbldbaaW.PrintLast Go.Proofs.YtgknckbplbldbaaW.PrintMore
set_option linter.unusedVariables false
set_option linter.unusedSimpArgs false

def mag (a : Int) : Int := max a (-a)
def ap (p : Po) (x y : Int) : Int := max (mag (p.f0 - x)) (mag (p.f1 - y))
theorem l00Max_eq (a b : Int) : spec_l00Max.f a b = some (max a b) := by
  unfold spec_l00Max.f
  split <;> (congr 1; omega)
theorem apart_eq (p : Po) (x y u v : Int) (hp : okPose p = true) (hx : inR (-100000) 100000 x = true) (hy : inR (-100000) 100000 y = true) : spec_l02Apart.f p.f0 p.f1 p.f2 p.f3 x y u v = some (ap p x y) := by
  rw [okPose_iff] at hp; rw [inR_iff] at hx hy
  unfold spec_l02Apart.f spec_l02Abs.f ap mag
  rw [w64 (i := p.f0 - x) (by omega) (by omega), w64 (i := p.f1 - y) (by omega) (by omega), w64 (by omega) (by omega), w64 (by omega) (by omega)]
  simp only [l00Max_eq, Option.bind_some]
theorem deviation_eq (p : Po) (x y u v : Int) (hp : okPose p = true) (hx : inR (-100000) 100000 x = true) (hy : inR (-100000) 100000 y = true) : impl_deviation.f p.f0 p.f1 p.f2 p.f3 x y u v = some (ap p x y) := by
  rw [okPose_iff] at hp; rw [inR_iff] at hx hy
  unfold impl_deviation.f impl_abs.f ap mag
  rw [w64 (i := p.f0 - x) (by omega) (by omega), w64 (i := p.f1 - y) (by omega) (by omega), w64 (by omega) (by omega), w64 (by omega) (by omega)]
  simp only [mx_eq, Option.bind_some]
theorem ap_bounds (p : Po) (x y : Int) (hp : okPose p = true) (hx : inR (-100000) 100000 x = true) (hy : inR (-100000) 100000 y = true) : 0 ≤ ap p x y ∧ ap p x y ≤ 200000 := by
  rw [okPose_iff] at hp; rw [inR_iff] at hx hy
  unfold ap mag; omega
theorem rdP_mem (ps : List Po) (i : Nat) (h : i < ps.length) : rd_T28 ps (i : Int) ∈ ps := by
  have : rd_T28 ps (i : Int) = ps[i] := by simp [rd_T28, h]
  rw [this]; exact List.getElem_mem _
theorem ap_symm (p q : Po) : ap p q.f0 q.f1 = ap q p.f0 p.f1 := by unfold ap mag; omega
/-- The deviations of poses from the poses of an axis, if they are valid. -/
def devL : List Po → List Po → Option (List Int)
  | [], _ => some []
  | q :: r, ps => if okPose q then (devL r ps.tail).map (ap (ps.headD q) q.f0 q.f1 :: ·) else none
def devR (acc : List Int) (o : Option (List Int)) : List Int × Bool := match o with | some v => (acc ++ v, true) | none => ([], false)
def devV (s : Po) (l : List Cu) (qs : List Po) : List Int × Bool := match axV s l with
  | some ps => if qs.length ≤ ps.length then devR [] (devL qs ps) else ([], false)
  | none => ([], false)
theorem devL_length : ∀ (qs ps : List Po) (v : List Int), devL qs ps = some v → v.length = qs.length := by
  intro qs
  induction qs with
  | nil => intro ps v h; simp only [devL, Option.some.injEq] at h; subst h; rfl
  | cons q r ih =>
    intro ps v h
    simp only [devL] at h
    split at h
    · obtain ⟨w, hw, rfl⟩ := Option.map_eq_some_iff.1 h
      simp [ih _ _ hw]
    · cases h
theorem devV_length (s : Po) (l : List Cu) (qs : List Po) : (devV s l qs).1.length ≤ 61 := by
  unfold devV
  cases e : axV s l with
  | none => simp
  | some ps =>
    have h6 := (axV_spec e).2.2.2.2.2.1
    simp only
    split
    · unfold devR
      cases e2 : devL qs ps with
      | none => simp
      | some v => have := devL_length _ _ _ e2; simp only [List.nil_append]; omega
    · simp
theorem headD_drop (ps : List Po) (i : Nat) (q : Po) (h : i < ps.length) : (ps.drop i).headD q = rd_T28 ps (i : Int) ∧ (ps.drop i).tail = ps.drop (i + 1) := by
  rw [List.drop_eq_getElem_cons h]
  refine ⟨?_, rfl⟩
  simp [rd_T28, h]
theorem specDevLoop_ev (qs ps : List Po) (hok : ∀ q ∈ ps, okPose q = true) (hn : qs.length ≤ ps.length) (h61 : ps.length ≤ 1000) : ∀ (rest pre : List Po) (acc : List Int), qs = pre ++ rest → acc.length = pre.length →
    Ev (fun k => spec_DeviationsOf.l0 k qs ps acc pre.length) (devR acc (devL rest (ps.drop pre.length))) := by
  intro rest
  induction rest with
  | nil =>
    intro pre acc e ha
    refine Ev.step (fun k => ?_) (Ev.now _)
    rw [spec_DeviationsOf.l0, if_neg (by rw [e]; simp)]
    simp [devL, devR]
  | cons x rest ih =>
    intro pre acc e ha
    have hlen : qs.length = pre.length + (rest.length + 1) := by rw [e]; simp
    have e1 : rd_T28 qs (pre.length : Int) = x := by rw [e]; exact rdP_mid _ _ _
    obtain ⟨e5, e6⟩ := headD_drop ps pre.length x (by omega)
    by_cases hx : okPose x = true
    · have hp := hok _ (rdP_mem ps pre.length (by omega))
      have hx' := okPose_iff.1 hx
      have := ih (pre ++ [x]) (acc ++ [ap (rd_T28 ps (pre.length : Int)) x.f0 x.f1]) (by simp [e]) (by simp [ha])
      refine Ev.step (f := fun k => spec_DeviationsOf.l0 k qs ps (acc ++ [ap (rd_T28 ps (pre.length : Int)) x.f0 x.f1]) ((pre ++ [x]).length : Nat)) (fun k => ?_) ?_
      · rw [spec_DeviationsOf.l0, if_pos (by omega), if_pos (by omega), e1, specPose_eq]
        simp only [Option.bind_some]
        rw [if_pos (c := okPose ⟨x.f0, x.f1, x.f2, x.f3⟩ = true) hx, if_pos (by omega), apart_eq _ _ _ _ _ hp (inR_iff.2 hx'.1) (inR_iff.2 hx'.2.1)]
        simp only [Option.bind_some]
        rw [if_pos (by omega), w64 (by omega) (by omega)]
        simp
      · have e7 : devR acc (devL (x :: rest) (ps.drop pre.length)) = devR (acc ++ [ap (rd_T28 ps (pre.length : Int)) x.f0 x.f1]) (devL rest (ps.drop (pre ++ [x]).length)) := by
          simp only [devL, hx, if_true, e5, e6, List.length_append, List.length_singleton]
          cases devL rest (ps.drop (pre.length + 1)) <;> simp [devR]
        rw [e7]
        exact this
    · have e7 : devR acc (devL (x :: rest) (ps.drop pre.length)) = ([], false) := by simp [devL, hx, devR]
      rw [e7]
      refine Ev.step (f := fun _ => some ([], false)) (fun k => ?_) (Ev.now _)
      rw [spec_DeviationsOf.l0, if_pos (by omega), if_pos (by omega), e1, specPose_eq]
      simp only [Option.bind_some]
      rw [if_neg (c := okPose ⟨x.f0, x.f1, x.f2, x.f3⟩ = true) hx]
theorem implDevLoop_ev (qs ps : List Po) (hok : ∀ q ∈ ps, okPose q = true) (hn : qs.length ≤ ps.length) (h61 : ps.length ≤ 1000) : ∀ (rest pre : List Po) (acc : List Int), qs = pre ++ rest → acc.length = pre.length →
    Ev (fun k => impl_DeviationsOf.l0 k ps acc qs qs.length pre.length) (devR acc (devL rest (ps.drop pre.length))) := by
  intro rest
  induction rest with
  | nil =>
    intro pre acc e ha
    refine Ev.step (fun k => ?_) (Ev.now _)
    rw [impl_DeviationsOf.l0, if_neg (by rw [e]; simp)]
    simp [devL, devR]
  | cons x rest ih =>
    intro pre acc e ha
    have hlen : qs.length = pre.length + (rest.length + 1) := by rw [e]; simp
    have e1 : rd_T28 qs (pre.length : Int) = x := by rw [e]; exact rdP_mid _ _ _
    obtain ⟨e5, e6⟩ := headD_drop ps pre.length x (by omega)
    by_cases hx : okPose x = true
    · have hp := okPose_iff.1 (hok _ (rdP_mem ps pre.length (by omega)))
      have := ih (pre ++ [x]) (acc ++ [ap (rd_T28 ps (pre.length : Int)) x.f0 x.f1]) (by simp [e]) (by simp [ha])
      refine Ev.step (f := fun k => impl_DeviationsOf.l0 k ps (acc ++ [ap (rd_T28 ps (pre.length : Int)) x.f0 x.f1]) qs qs.length ((pre ++ [x]).length : Nat)) (fun k => ?_) ?_
      · rw [impl_DeviationsOf.l0, if_pos (by omega), if_pos (by omega), if_pos (by omega), e1, validPose_eq]
        simp only [Option.bind_some]
        rw [if_pos (c := okPose ⟨x.f0, x.f1, x.f2, x.f3⟩ = true) hx, if_pos (by omega), deviation_eq _ _ _ _ _ hx (inR_iff.2 hp.1) (inR_iff.2 hp.2.1)]
        simp only [Option.bind_some]
        rw [if_pos (by omega), w64 (by omega) (by omega), ap_symm]
        simp
      · have e7 : devR acc (devL (x :: rest) (ps.drop pre.length)) = devR (acc ++ [ap (rd_T28 ps (pre.length : Int)) x.f0 x.f1]) (devL rest (ps.drop (pre ++ [x]).length)) := by
          simp only [devL, hx, if_true, e5, e6, List.length_append, List.length_singleton]
          cases devL rest (ps.drop (pre.length + 1)) <;> simp [devR]
        rw [e7]
        exact this
    · have e7 : devR acc (devL (x :: rest) (ps.drop pre.length)) = ([], false) := by simp [devL, hx, devR]
      rw [e7]
      refine Ev.step (f := fun _ => some ([], false)) (fun k => ?_) (Ev.now _)
      rw [impl_DeviationsOf.l0, if_pos (by omega), if_pos (by omega), if_pos (by omega), e1, validPose_eq]
      simp only [Option.bind_some]
      rw [if_neg (c := okPose ⟨x.f0, x.f1, x.f2, x.f3⟩ = true) hx]
theorem specDev_ev (s : Po) (l : List Cu) (qs : List Po) (hq : qs.length ≤ 1048576) : Ev (fun k => spec_DeviationsOf.f k s.f0 s.f1 s.f2 s.f3 l qs) (devV s l qs) := by
  have hbad : Ev (fun k => spec_DeviationsOf.j0 k qs true s.f0 s.f1 s.f2 s.f3 l) ([], false) := by
    refine Ev.step (f := fun _ => some ([], false)) (fun k => ?_) (Ev.now _)
    rw [spec_DeviationsOf.j0, if_pos rfl]
  unfold spec_DeviationsOf.f devV
  refine Ev.bind (specIs_ev s l) ?_
  cases e : axV s l with
  | none => simpa only [Option.isSome_none, Bool.false_eq_true, if_false] using hbad
  | some ps =>
    obtain ⟨h1, h2, h3, h4, h5, h6, h9, h7, h8⟩ := axV_spec e
    simp only [Option.isSome_some, if_true]
    refine Ev.bind (specRings_ev e) ?_
    have ew : wrap64 ((ps.length : Int) - 1 + 1) = (ps.length : Int) := by rw [w64 (by omega) (by omega)]; omega
    rw [ew]
    by_cases hl : qs.length ≤ ps.length
    · have hd : decide ((qs.length : Int) > (ps.length : Int)) = false := by simp; omega
      rw [hd, if_pos hl]
      refine Ev.step (f := fun k => (spec_l02Poses.f k s.f0 s.f1 s.f2 s.f3 l).bind fun t => spec_DeviationsOf.l0 k qs t [] 0) (fun k => by rw [spec_DeviationsOf.j0, if_neg (by simp)]) ?_
      refine Ev.bind (specPoses_ev e) ?_
      simpa using specDevLoop_ev qs ps h7 hl (by omega) qs [] [] rfl rfl
    · have hd : decide ((qs.length : Int) > (ps.length : Int)) = true := by simp; omega
      rw [hd, if_neg hl]; exact hbad
theorem implDev_ev (s : Po) (l : List Cu) (qs : List Po) (hq : qs.length ≤ 1048576) : Ev (fun k => impl_DeviationsOf.f k s.f0 s.f1 s.f2 s.f3 l qs) (devV s l qs) := by
  have hbad : ∀ ps, Ev (fun k => impl_DeviationsOf.j0 k qs ps true) ([], false) := by
    intro ps
    refine Ev.step (f := fun _ => some ([], false)) (fun k => ?_) (Ev.now _)
    rw [impl_DeviationsOf.j0, if_pos rfl]
  unfold impl_DeviationsOf.f devV
  refine Ev.bind (implPoses_ev s l) ?_
  cases e : axV s l with
  | none => simpa only [Bool.false_eq_true, if_false] using hbad []
  | some ps =>
    obtain ⟨h1, h2, h3, h4, h5, h6, h9, h7, h8⟩ := axV_spec e
    simp only [if_true]
    by_cases hl : qs.length ≤ ps.length
    · have hd : decide ((qs.length : Int) > (ps.length : Int)) = false := by simp; omega
      rw [hd, if_pos hl]
      refine Ev.step (f := fun k => impl_DeviationsOf.l0 k ps [] qs qs.length 0) (fun k => by rw [impl_DeviationsOf.j0, if_neg (by simp)]) ?_
      simpa using implDevLoop_ev qs ps h7 hl (by omega) qs [] [] rfl rfl
    · have hd : decide ((qs.length : Int) > (ps.length : Int)) = true := by simp; omega
      rw [hd, if_neg hl]; exact hbad ps
end Go.Proofs.Ytgknckbplbldbaa.K
