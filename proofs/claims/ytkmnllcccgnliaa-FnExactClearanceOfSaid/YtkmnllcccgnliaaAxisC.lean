/- What ClearanceOf answers, in the program and in the reference. -/
import Derived.Test.YtkmnllcccgnliaaAxis
import Derived.Test.YtkmnllcccgnliaaEvKit
import Derived.Test.YtkmnllcccgnliaaGy10
import Derived.Test.YtkmnllcccgnliaaGy5
namespace Go.Proofs.Ytkmnllcccgnliaa.K
open Go.RowKit Go.Proofs.Ytkmnllcccgnliaa.G Go.Proofs.YtkmnllcccgnliaaW.PrintWords Go.Proofs.YtkmnllcccgnliaaW.PrintLast Go.Proofs.YtkmnllcccgnliaaW.PrintMore
set_option linter.unusedVariables false
set_option linter.unusedSimpArgs false

def mag (a : Int) : Int := max a (-a)
def ap (p : Po) (x y : Int) : Int := max (mag (p.f0 - x)) (mag (p.f1 - y))
theorem l00Max_eq (a b : Int) : spec_l00Max.f a b = some (max a b) := by
  unfold spec_l00Max.f
  split <;> (congr 1; omega)
theorem apart_eq (p : Po) (x y u v : Int) (hp : okPose p = true) (hx : inR (-100000) 100000 x = true) (hy : inR (-100000) 100000 y = true) : spec_l02Apart.f p.f0 p.f1 p.f2 p.f3 x y u v = some (ap p x y) := by
  rw [okPose_iff] at hp; rw [inR_iff] at hx hy
  unfold spec_l02Apart.f spec_l02Abs.f ap mag
  rw [w64 (i := p.f0 - x) (by omega) (by omega), w64 (i := p.f1 - y) (by omega) (by omega), w64 (by omega) (by omega), w64 (by omega) (by omega)]
  simp only [l00Max_eq, Option.bind_some]
theorem deviation_eq (p : Po) (x y u v : Int) (hp : okPose p = true) (hx : inR (-100000) 100000 x = true) (hy : inR (-100000) 100000 y = true) : impl_deviation.f p.f0 p.f1 p.f2 p.f3 x y u v = some (ap p x y) := by
  rw [okPose_iff] at hp; rw [inR_iff] at hx hy
  unfold impl_deviation.f impl_abs.f ap mag
  rw [w64 (i := p.f0 - x) (by omega) (by omega), w64 (i := p.f1 - y) (by omega) (by omega), w64 (by omega) (by omega), w64 (by omega) (by omega)]
  simp only [mx_eq, Option.bind_some]
theorem ap_bounds (p : Po) (x y : Int) (hp : okPose p = true) (hx : inR (-100000) 100000 x = true) (hy : inR (-100000) 100000 y = true) : 0 ≤ ap p x y ∧ ap p x y ≤ 200000 := by
  rw [okPose_iff] at hp; rw [inR_iff] at hx hy
  unfold ap mag; omega
def okZone (z0 z1 z2 z3 z4 : Int) : Bool := inR 0 z1 z0 && inR (-100000) 100000 z2 && inR (-100000) 100000 z3 && inR 0 100000 z4
theorem zone_eq (z0 z1 z2 z3 z4 : Int) : spec_l02Zone.f z0 z1 z2 z3 z4 = some (okZone z0 z1 z2 z3 z4 && decide (z1 ≤ 60)) := by
  unfold spec_l02Zone.f okZone
  simp only [l00In_eq, Option.bind_some]
  cases inR 0 z1 z0 <;> by_cases h : z1 ≤ 60 <;> cases inR (-100000) 100000 z2 <;> cases inR (-100000) 100000 z3 <;> simp [h]
/-- The place of the least distance: the first one. -/
def bst (ps : List Po) (x y : Int) : Nat → Nat → Nat → Nat
  | 0, j, _ => j
  | d + 1, j, i => bst ps x y d (if ap (rd_T28 ps (i : Int)) x y < ap (rd_T28 ps (j : Int)) x y then i else j) (i + 1)
def clrV (s : Po) (l : List Cu) (z0 z1 z2 z3 z4 : Int) : Int × Int × Bool :=
  match axV s l with
  | some ps => if okZone z0 z1 z2 z3 z4 && decide (z1 < ps.length) then
      (ap (rd_T28 ps (bst ps z2 z3 (z1 - z0).toNat z0.toNat (z0.toNat + 1) : Nat)) z2 z3 - z4, (bst ps z2 z3 (z1 - z0).toNat z0.toNat (z0.toNat + 1) : Nat), true) else (0, 0, false)
  | none => (0, 0, false)
theorem rdP_mem (ps : List Po) (i : Nat) (h : i < ps.length) : rd_T28 ps (i : Int) ∈ ps := by
  have : rd_T28 ps (i : Int) = ps[i] := by simp [rd_T28, h]
  rw [this]; exact List.getElem_mem _
theorem specClrLoop_ev (ps : List Po) (hok : ∀ q ∈ ps, okPose q = true) (hn : ps.length ≤ 1000) (z0 z1 z2 z3 z4 : Int) (hx : inR (-100000) 100000 z2 = true) (hy : inR (-100000) 100000 z3 = true) (h4 : inR 0 100000 z4 = true) (h1 : 0 ≤ z1 ∧ z1 < ps.length) :
    ∀ (d i j : Nat), (i : Int) + d = z1 + 1 → j < ps.length → Ev (fun k => spec_ClearanceOf.l0 k ps j i z0 z1 z2 z3 z4 z2 z3 0 0) (ap (rd_T28 ps (bst ps z2 z3 d j i : Nat)) z2 z3 - z4, (bst ps z2 z3 d j i : Nat), true) := by
  intro d
  induction d with
  | zero =>
    intro i j hi hj
    have hb := ap_bounds _ z2 z3 (hok _ (rdP_mem ps j hj)) hx hy
    have h4' := inR_iff.1 h4
    refine Ev.step (fun k => ?_) (Ev.now _)
    rw [spec_ClearanceOf.l0, if_neg (by omega), if_pos (by omega), if_pos (by omega), apart_eq _ _ _ _ _ (hok _ (rdP_mem ps j hj)) hx hy]
    simp only [Option.bind_some]
    rw [w64 (by omega) (by omega)]; rfl
  | succ d ih =>
    intro i j hi hj
    have hil : i < ps.length := by omega
    refine Ev.step (fun k => ?_) (ih (i + 1) (if ap (rd_T28 ps (i : Int)) z2 z3 < ap (rd_T28 ps (j : Int)) z2 z3 then i else j) (by omega) (by split <;> omega))
    rw [spec_ClearanceOf.l0, if_pos (by omega), if_pos (by omega), if_pos (by omega), apart_eq _ _ _ _ _ (hok _ (rdP_mem ps i hil)) hx hy]
    simp only [Option.bind_some]
    rw [if_pos (by omega), if_pos (by omega), apart_eq _ _ _ _ _ (hok _ (rdP_mem ps j hj)) hx hy]
    simp only [Option.bind_some]
    rw [w64 (by omega) (by omega)]
    split <;> rfl
theorem implClrLoop_ev (ps : List Po) (hok : ∀ q ∈ ps, okPose q = true) (hn : ps.length ≤ 1000) (z0 z1 z2 z3 z4 : Int) (hx : inR (-100000) 100000 z2 = true) (hy : inR (-100000) 100000 z3 = true) (h4 : inR 0 100000 z4 = true) (h1 : 0 ≤ z1 ∧ z1 < ps.length) :
    ∀ (d i j : Nat), (i : Int) + d = z1 + 1 → j < ps.length → Ev (fun k => impl_ClearanceOf.l0 k ps (ap (rd_T28 ps (j : Int)) z2 z3 - z4) j i z0 z1 z2 z3 z4) (ap (rd_T28 ps (bst ps z2 z3 d j i : Nat)) z2 z3 - z4, (bst ps z2 z3 d j i : Nat), true) := by
  intro d
  induction d with
  | zero =>
    intro i j hi hj
    refine Ev.step (fun k => ?_) (Ev.now _)
    rw [impl_ClearanceOf.l0, if_neg (by omega)]; rfl
  | succ d ih =>
    intro i j hi hj
    have hil : i < ps.length := by omega
    have hb := ap_bounds _ z2 z3 (hok _ (rdP_mem ps i hil)) hx hy
    have h4' := inR_iff.1 h4
    refine Ev.step (fun k => ?_) (ih (i + 1) (if ap (rd_T28 ps (i : Int)) z2 z3 < ap (rd_T28 ps (j : Int)) z2 z3 then i else j) (by omega) (by split <;> omega))
    rw [impl_ClearanceOf.l0, if_pos (by omega), if_pos (by omega), if_pos (by omega), deviation_eq _ _ _ _ _ (hok _ (rdP_mem ps i hil)) hx hy]
    simp only [Option.bind_some]
    rw [if_neg (by omega), w64 (i := (i : Int) + 1) (by omega) (by omega), w64 (by omega) (by omega)]
    by_cases hlt : ap (rd_T28 ps (i : Int)) z2 z3 < ap (rd_T28 ps (j : Int)) z2 z3
    · rw [if_pos (by omega), if_pos hlt]; rfl
    · rw [if_neg (by omega), if_neg hlt]; rfl
theorem specClr_ev (s : Po) (l : List Cu) (z0 z1 z2 z3 z4 : Int) : Ev (fun k => spec_ClearanceOf.f k s.f0 s.f1 s.f2 s.f3 l z0 z1 z2 z3 z4) (clrV s l z0 z1 z2 z3 z4) := by
  have hbad : Ev (fun k => spec_ClearanceOf.j0 k true s.f0 s.f1 s.f2 s.f3 l z0 z1 z2 z3 z4) (0, 0, false) := by
    refine Ev.step (f := fun _ => some (0, 0, false)) (fun k => ?_) (Ev.now _)
    rw [spec_ClearanceOf.j0, if_pos rfl]
  unfold spec_ClearanceOf.f clrV
  refine Ev.bind (specIs_ev s l) ?_
  cases e : axV s l with
  | none => simpa only [Option.isSome_none, Bool.false_eq_true, if_false] using hbad
  | some ps =>
    obtain ⟨h1, h2, h3, h4, h5, h6, h9, h7, h8⟩ := axV_spec e
    simp only [Option.isSome_some, if_true, zone_eq, Option.bind_some]
    cases hz : okZone z0 z1 z2 z3 z4 with
    | false => simpa only [Bool.false_and, Bool.false_eq_true, if_false] using hbad
    | true =>
      have hz' := hz
      simp only [okZone, Bool.and_eq_true] at hz'
      obtain ⟨⟨⟨ha, hx⟩, hy⟩, h4z⟩ := hz'
      have ha' := inR_iff.1 ha
      simp only [Bool.true_and]
      by_cases hl : z1 < ps.length
      · have h60 : decide (z1 ≤ 60) = true := by simp; omega
        simp only [h60, if_true, hl, decide_true]
        refine Ev.bind (specRings_ev e) ?_
        have hd : decide (z1 > (ps.length : Int) - 1) = false := by simp; omega
        rw [hd]
        refine Ev.step (f := fun k => (spec_l02Poses.f k s.f0 s.f1 s.f2 s.f3 l).bind fun t => spec_ClearanceOf.l0 k t z0 z0 z0 z1 z2 z3 z4 z2 z3 0 0) (fun k => by rw [spec_ClearanceOf.j0, if_neg (by simp)]) ?_
        refine Ev.bind (specPoses_ev e) ?_
        have := specClrLoop_ev ps h7 (by omega) z0 z1 z2 z3 z4 hx hy h4z (by omega) ((z1 - z0).toNat + 1) z0.toNat z0.toNat (by omega) (by omega)
        have ez : ((z0.toNat : Nat) : Int) = z0 := by omega
        simp only [bst, Int.lt_irrefl, if_false] at this
        rw [ez] at this
        exact this
      · have hl' : decide (z1 < (ps.length : Int)) = false := by simp; omega
        simp only [hl', Bool.false_eq_true, if_false]
        by_cases h60 : z1 ≤ 60
        · simp only [h60, decide_true, if_true]
          refine Ev.bind (specRings_ev e) ?_
          have hd : decide (z1 > (ps.length : Int) - 1) = true := by simp; omega
          rw [hd]; exact hbad
        · simp only [h60, decide_false, Bool.false_eq_true, if_false]; exact hbad
theorem implClr_ev (s : Po) (l : List Cu) (z0 z1 z2 z3 z4 : Int) : Ev (fun k => impl_ClearanceOf.f k s.f0 s.f1 s.f2 s.f3 l z0 z1 z2 z3 z4) (clrV s l z0 z1 z2 z3 z4) := by
  have hbad : ∀ ps, Ev (fun k => impl_ClearanceOf.j0 k ps true z0 z1 z2 z3 z4) (0, 0, false) := by
    intro ps
    refine Ev.step (f := fun _ => some (0, 0, false)) (fun k => ?_) (Ev.now _)
    rw [impl_ClearanceOf.j0, if_pos rfl]
  unfold impl_ClearanceOf.f clrV
  refine Ev.bind (implPoses_ev s l) ?_
  cases e : axV s l with
  | none => simpa only [Bool.false_eq_true, if_false] using hbad []
  | some ps =>
    obtain ⟨h1, h2, h3, h4, h5, h6, h9, h7, h8⟩ := axV_spec e
    simp only [if_true]
    rw [w64 (by omega) (by omega)]
    unfold impl_areWithin.f
    simp only [within_eq, Option.bind_some, List.all_cons, List.all_nil, Bool.and_true]
    have e2 : (decide (-100000 ≤ z2) && decide (z2 ≤ 100000)) = inR (-100000) 100000 z2 := rfl
    have e3 : (decide (-100000 ≤ z3) && decide (z3 ≤ 100000)) = inR (-100000) 100000 z3 := rfl
    rw [e2, e3]
    by_cases hall : okZone z0 z1 z2 z3 z4 = true ∧ z1 < ps.length
    · have hz' := hall.1
      simp only [okZone, Bool.and_eq_true] at hz'
      obtain ⟨⟨⟨ha, hx⟩, hy⟩, h4z⟩ := hz'
      have ha' := inR_iff.1 ha
      have hb : inR 0 ((ps.length : Int) - 1) z1 = true := inR_iff.2 ⟨by omega, by omega⟩
      simp only [hall.1, hall.2, hb, ha, hx, hy, h4z, decide_true, Bool.and_true, Bool.and_self, if_true, Bool.not_true]
      refine Ev.step (f := fun k => impl_ClearanceOf.l0 k ps 0 (-1) z0 z0 z1 z2 z3 z4) (fun k => by rw [impl_ClearanceOf.j0, if_neg (by simp)]) ?_
      have := implClrLoop_ev ps h7 (by omega) z0 z1 z2 z3 z4 hx hy h4z (by omega) (z1 - z0).toNat (z0.toNat + 1) z0.toNat (by omega) (by omega)
      have ez : ((z0.toNat : Nat) : Int) = z0 := by omega
      have ez1 : ((z0.toNat + 1 : Nat) : Int) = z0 + 1 := by omega
      rw [ez, ez1] at this
      refine Ev.step (fun k => ?_) this
      have hm := h7 _ (rdP_mem ps z0.toNat (by omega))
      rw [ez] at hm
      have hbd := ap_bounds _ z2 z3 hm hx hy
      have h4' := inR_iff.1 h4z
      rw [impl_ClearanceOf.l0, if_pos (by omega), if_pos (by omega), if_pos (by omega), deviation_eq _ _ _ _ _ hm hx hy]
      simp only [Option.bind_some]
      rw [if_pos (by omega), w64 (by omega) (by omega), w64 (by omega) (by omega)]
    · have hv : (okZone z0 z1 z2 z3 z4 && decide (z1 < (ps.length : Int))) = false := by
        cases h : okZone z0 z1 z2 z3 z4 with
        | false => rfl
        | true => simp only [h, true_and] at hall; simp; omega
      rw [hv]
      simp only [Bool.false_eq_true, if_false]
      by_cases c1 : inR 0 ((ps.length : Int) - 1) z1 = true
      · refine ite_ev_pos c1 ?_
        by_cases c2 : inR 0 z1 z0 = true
        · refine ite_ev_pos c2 ?_
          by_cases c3 : (inR (-100000) 100000 z2 && inR (-100000) 100000 z3) = true
          · refine ite_ev_pos c3 ?_
            have c4 : inR 0 100000 z4 = false := by
              have hb := inR_iff.1 c1
              simp only [Bool.and_eq_true] at c3
              simp only [okZone, c2, c3.1, c3.2, Bool.true_and, Bool.and_eq_false_iff, decide_eq_false_iff_not] at hv
              rcases hv with h | h
              · exact h
              · omega
            rw [c4]; exact hbad ps
          · exact ite_ev_neg c3 (hbad ps)
        · exact ite_ev_neg c2 (hbad ps)
      · exact ite_ev_neg c1 (hbad ps)
end Go.Proofs.Ytkmnllcccgnliaa.K
