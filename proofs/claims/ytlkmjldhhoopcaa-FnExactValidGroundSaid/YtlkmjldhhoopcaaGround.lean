/- What ValidGround answers, in the program and in the reference. -/
import Derived.Test.YtlkmjldhhoopcaaWithin
import Derived.Test.YtlkmjldhhoopcaaEvKit
import Derived.Test.YtlkmjldhhoopcaaGy2
import Derived.Test.YtlkmjldhhoopcaaGy3
import Derived.Test.YtlkmjldhhoopcaaGy0
import Derived.Test.YtlkmjldhhoopcaaGy1
namespace Go.Proofs.Ytlkmjldhhoopcaa.K
open Go.RowKit Go.Proofs.Ytlkmjldhhoopcaa.G Go.Proofs.YtlkmjldhhoopcaaW.PrintWords Go.Proofs.YtlkmjldhhoopcaaW.PrintLast Go.Proofs.YtlkmjldhhoopcaaW.PrintMore
set_option linter.unusedVariables false
set_option linter.unusedSimpArgs false

abbrev Ho := S40
theorem rdH_mid (pre : List Ho) (x : Ho) (rest : List Ho) : rd_T40 (pre ++ x :: rest) (pre.length : Int) = x := by simp [rd_T40]
/-- Nothing is greater than what stands before it. -/
def descV : Option Int → List Int → Bool
  | _, [] => true
  | none, x :: r => descV (some x) r
  | some q, x :: r => !decide (q < x) && descV (some x) r
def topsV : Option Int → List Int → Bool
  | _, [] => true
  | none, x :: r => inR (-100000) 100000 x && topsV (some x) r
  | some q, x :: r => inR (-100000) 100000 x && (!decide (q < x) && topsV (some x) r)
theorem topsV_eq : ∀ (l : List Int) (p : Option Int), topsV p l = (allIn (-100000) 100000 l && descV p l) := by
  intro l
  induction l with
  | nil => intro p; cases p <;> rfl
  | cons x r ih =>
    intro p
    have e : allIn (-100000) 100000 (x :: r) = (inR (-100000) 100000 x && allIn (-100000) 100000 r) := rfl
    cases p with
    | none => simp only [topsV, descV, ih, e, Bool.and_assoc]
    | some q =>
      simp only [topsV, descV, ih, e]
      cases inR (-100000) 100000 x <;> cases decide (q < x) <;> simp
theorem specTops_ev (l : List Int) (n : Int) (hl : l.length ≤ 1048576) : Ev (fun k => spec_l06Tops.f k l n) (topsV none l && ((l.length : Int) == n)) := by
  have key : ∀ (rest pre : List Int), l = pre ++ rest → Ev (fun k => spec_l06Tops.l0 k l n pre.length) (topsV pre.getLast? rest && ((l.length : Int) == n)) := by
    intro rest
    induction rest with
    | nil =>
      intro pre e
      refine Ev.step (fun k => ?_) (Ev.now _)
      rw [spec_l06Tops.l0, if_neg (by rw [e]; simp)]
      cases pre.getLast? <;> simp [topsV]
    | cons x rest ih =>
      intro pre e
      have hlen : l.length = pre.length + (rest.length + 1) := by rw [e]; simp
      have e1 : rd l (pre.length : Int) = x := by rw [e]; exact rd_mid _ _ _
      have hn := ih (pre ++ [x]) (by simp [e])
      have ew : wrap64 ((pre.length : Int) + 1) = ((pre ++ [x]).length : Int) := by rw [w64 (by omega) (by omega)]; simp
      have eg : (pre ++ [x]).getLast? = some x := by simp
      rw [eg] at hn
      by_cases hx : inR (-100000) 100000 x = true
      · rcases List.eq_nil_or_concat pre with rfl | ⟨pre', q, rfl⟩
        · refine Ev.step (fun k => ?_) (by simpa only [List.getLast?_nil, topsV, hx, Bool.true_and] using hn)
          rw [spec_l06Tops.l0, if_pos (by omega), if_pos (by omega), e1, l00In_eq, hx, ew]
          simp only [Option.bind_some, if_true]
          rw [if_neg (by simp)]
        · have eq1 : rd l (pre'.length : Int) = q := by rw [e]; simpa using rd_mid pre' q (x :: rest)
          have ei : wrap64 (((pre' ++ [q]).length : Int) - 1) = (pre'.length : Int) := by rw [w64 (by simp at hlen ⊢ <;> omega) (by simp at hlen ⊢ <;> omega)]; simp
          simp only [List.concat_eq_append] at *
          by_cases hq : q < x
          · have er : (topsV (pre' ++ [q]).getLast? (x :: rest) && ((l.length : Int) == n)) = false := by simp [topsV, hq]
            rw [er]
            refine Ev.step (f := fun _ => some false) (fun k => ?_) (Ev.now _)
            rw [spec_l06Tops.l0, if_pos (by omega), if_pos (by omega), e1, l00In_eq, hx, ei]
            simp only [Option.bind_some, if_true]
            rw [if_pos (by simp <;> omega), if_pos (by omega), if_pos (by simp at hlen <;> omega), eq1, if_pos hq]
          · have er : topsV (pre' ++ [q]).getLast? (x :: rest) = topsV (some x) rest := by simp [topsV, hq, hx]
            rw [er]
            refine Ev.step (fun k => ?_) hn
            rw [spec_l06Tops.l0, if_pos (by omega), if_pos (by omega), e1, l00In_eq, hx, ei, ew]
            simp only [Option.bind_some, if_true]
            rw [if_pos (by simp <;> omega), if_pos (by omega), if_pos (by simp at hlen <;> omega), eq1, if_neg hq]
      · have er : (topsV pre.getLast? (x :: rest) && ((l.length : Int) == n)) = false := by
          cases pre.getLast? <;> simp [topsV, hx]
        rw [er]
        refine Ev.step (f := fun _ => some false) (fun k => ?_) (Ev.now _)
        rw [spec_l06Tops.l0, if_pos (by omega), if_pos (by omega), e1, l00In_eq]
        simp only [Option.bind_some]
        rw [if_neg hx]
  simpa [spec_l06Tops.f] using key l [] rfl
def holeV (h : Ho) (n : Int) : Bool := inR 0 60 h.f0 && (topsV none h.f1 && ((h.f1.length : Int) == n))
theorem isHole_ev (h : Ho) (n : Int) (hl : h.f1.length ≤ 1048576) : Ev (fun k => impl_isHole.f k h.f0 h.f1 n) (holeV h n) := by
  have hbad : Ev (fun k => impl_isHole.j0 k n true h.f0 h.f1) false := by
    refine Ev.step (f := fun _ => some false) (fun k => ?_) (Ev.now _)
    rw [impl_isHole.j0, if_pos rfl]
  have key : ∀ (rest pre : List Int), h.f1 = pre ++ rest → pre ≠ [] → n = h.f1.length → Ev (fun k => impl_isHole.l0 k n pre.length h.f0 h.f1) (descV pre.getLast? rest) := by
    intro rest
    induction rest with
    | nil =>
      intro pre e _ hn
      refine Ev.step (fun k => ?_) (Ev.now _)
      rw [impl_isHole.l0, if_neg (by rw [hn, e]; simp)]
      cases pre.getLast? <;> simp [descV]
    | cons x rest ih =>
      intro pre e hne hn
      have hlen : h.f1.length = pre.length + (rest.length + 1) := by rw [e]; simp
      have e1 : rd h.f1 (pre.length : Int) = x := by rw [e]; exact rd_mid _ _ _
      have hnx := ih (pre ++ [x]) (by simp [e]) (by simp) hn
      have ew : wrap64 ((pre.length : Int) + 1) = ((pre ++ [x]).length : Int) := by rw [w64 (by omega) (by omega)]; simp
      have eg : (pre ++ [x]).getLast? = some x := by simp
      rw [eg] at hnx
      rcases List.eq_nil_or_concat pre with rfl | ⟨pre', q, rfl⟩
      · exact absurd rfl hne
      · have eq1 : rd h.f1 (pre'.length : Int) = q := by rw [e]; simpa using rd_mid pre' q (x :: rest)
        have ei : wrap64 (((pre' ++ [q]).length : Int) - 1) = (pre'.length : Int) := by rw [w64 (by simp at hlen ⊢ <;> omega) (by simp at hlen ⊢ <;> omega)]; simp
        simp only [List.concat_eq_append] at *
        by_cases hq : q < x
        · have er : descV (pre' ++ [q]).getLast? (x :: rest) = false := by simp [descV, hq]
          rw [er]
          refine Ev.step (f := fun _ => some false) (fun k => ?_) (Ev.now _)
          rw [impl_isHole.l0, if_pos (by omega), if_pos (by omega), if_pos (by omega), ei, if_pos (by omega), if_pos (by simp at hlen <;> omega), e1, eq1, if_pos hq]
        · have er : descV (pre' ++ [q]).getLast? (x :: rest) = descV (some x) rest := by simp [descV, hq]
          rw [er]
          refine Ev.step (fun k => ?_) hnx
          rw [impl_isHole.l0, if_pos (by omega), if_pos (by omega), if_pos (by omega), ei, ew, if_pos (by omega), if_pos (by simp at hlen <;> omega), e1, eq1, if_neg (by omega)]
  unfold impl_isHole.f holeV
  rw [within_eq, areWithin_eq, topsV_eq]
  simp only [Option.bind_some]
  cases h0 : inR 0 60 h.f0 with
  | false => simpa using hbad
  | true =>
    simp only [if_true, Bool.true_and]
    by_cases hn : (h.f1.length : Int) = n
    · have hb : ((h.f1.length : Int) == n) = true := by simp [hn]
      refine ite_ev_pos hn ?_
      rw [hb, Bool.and_true]
      cases h1 : allIn (-100000) 100000 h.f1 with
      | false => simpa using hbad
      | true =>
        simp only [Bool.not_true, Bool.true_and]
        refine Ev.step (f := fun k => impl_isHole.l0 k n 1 h.f0 h.f1) (fun k => by rw [impl_isHole.j0, if_neg (by simp)]) ?_
        cases e : h.f1 with
        | nil =>
          refine Ev.step (fun k => ?_) (Ev.now _)
          rw [impl_isHole.l0, if_neg (by rw [← hn, e]; simp)]
          simp [descV]
        | cons x r =>
          have := key r [x] (by simp [e]) (by simp) hn.symm
          rw [e] at this
          simpa [descV] using this
    · have hb : ((h.f1.length : Int) == n) = false := by simp [hn]
      rw [hb, Bool.and_false]
      exact ite_ev_neg hn hbad
def holesV (n : Int) : Option Int → List Ho → Bool
  | _, [] => true
  | none, h :: r => holeV h n && holesV n (some h.f0) r
  | some q, h :: r => holeV h n && (!decide (q ≥ h.f0) && holesV n (some h.f0) r)
def groundV (d : List Int) (l : List Ho) : Bool := inR 1 4 d.length && (inR 1 6 l.length && (allIn 1 3000 d && holesV d.length none l))
theorem specHoles_ev (d : List Int) (l : List Ho) (hl : l.length ≤ 1048576) (hs : ∀ h ∈ l, h.f1.length ≤ 1048576) : ∀ (rest pre : List Ho), l = pre ++ rest →
    Ev (fun k => spec_l06Is.l1 k pre.length d l) (holesV d.length (pre.getLast?.map (·.f0)) rest) := by
  intro rest
  induction rest with
  | nil =>
    intro pre e
    refine Ev.step (fun k => ?_) (Ev.now _)
    rw [spec_l06Is.l1, if_neg (by rw [e]; simp)]
    cases pre.getLast? <;> simp [holesV]
  | cons x rest ih =>
    intro pre e
    have hlen : l.length = pre.length + (rest.length + 1) := by rw [e]; simp
    have e1 : rd_T40 l (pre.length : Int) = x := by rw [e]; exact rdH_mid _ _ _
    have hnx := ih (pre ++ [x]) (by simp [e])
    have ew : wrap64 ((pre.length : Int) + 1) = ((pre ++ [x]).length : Int) := by rw [w64 (by omega) (by omega)]; simp
    have eg : (pre ++ [x]).getLast? = some x := by simp
    rw [eg] at hnx
    have htops := specTops_ev x.f1 d.length (hs x (by rw [e]; simp))
    have hcont : Ev (fun k => (spec_l06Tops.f k x.f1 d.length).bind fun t => if t = true then spec_l06Is.l1 k (wrap64 ((pre.length : Int) + 1)) d l else some false) ((topsV none x.f1 && ((x.f1.length : Int) == d.length)) && holesV d.length (some x.f0) rest) := by
      refine Ev.bind htops ?_
      cases topsV none x.f1 && ((x.f1.length : Int) == (d.length : Int)) with
      | false => exact Ev.now _
      | true => rw [ew]; simpa using hnx
    by_cases hx : inR 0 60 x.f0 = true
    · rcases List.eq_nil_or_concat pre with rfl | ⟨pre', q, rfl⟩
      · have er : holesV d.length (([] : List Ho).getLast?.map (·.f0)) (x :: rest) = ((topsV none x.f1 && ((x.f1.length : Int) == d.length)) && holesV d.length (some x.f0) rest) := by
          simp only [List.getLast?_nil, Option.map_none, holesV, holeV, hx, Bool.true_and]
        rw [er]
        refine Ev.step (fun k => ?_) hcont
        rw [spec_l06Is.l1, if_pos (by omega), if_pos (by omega), e1, l00In_eq, hx]
        simp only [Option.bind_some, if_true]
        rw [if_neg (by simp)]
      · have eq1 : rd_T40 l (pre'.length : Int) = q := by rw [e]; simpa using rdH_mid pre' q (x :: rest)
        have ei : wrap64 (((pre' ++ [q]).length : Int) - 1) = (pre'.length : Int) := by rw [w64 (by simp at hlen ⊢ <;> omega) (by simp at hlen ⊢ <;> omega)]; simp
        simp only [List.concat_eq_append] at *
        have eg' : ((pre' ++ [q]).getLast?.map (·.f0)) = some q.f0 := by simp
        rw [eg']
        by_cases hq : q.f0 ≥ x.f0
        · have er : holesV d.length (some q.f0) (x :: rest) = false := by simp [holesV, hq]
          rw [er]
          refine Ev.step (f := fun _ => some false) (fun k => ?_) (Ev.now _)
          rw [spec_l06Is.l1, if_pos (by omega), if_pos (by omega), e1, l00In_eq, hx, ei]
          simp only [Option.bind_some, if_true]
          rw [if_pos (by simp <;> omega), if_pos (by omega), if_pos (by simp at hlen <;> omega), eq1, if_pos hq]
        · have er : holesV d.length (some q.f0) (x :: rest) = ((topsV none x.f1 && ((x.f1.length : Int) == d.length)) && holesV d.length (some x.f0) rest) := by
            have : decide (q.f0 ≥ x.f0) = false := by simp only [decide_eq_false_iff_not]; exact hq
            simp only [holesV, holeV, hx, Bool.true_and, this, Bool.not_false]
          rw [er]
          refine Ev.step (fun k => ?_) hcont
          rw [spec_l06Is.l1, if_pos (by omega), if_pos (by omega), e1, l00In_eq, hx, ei]
          simp only [Option.bind_some, if_true]
          rw [if_pos (by simp <;> omega), if_pos (by omega), if_pos (by simp at hlen <;> omega), eq1, if_neg hq]
    · have er : holesV d.length (pre.getLast?.map (·.f0)) (x :: rest) = false := by
        simp only [Bool.not_eq_true] at hx
        cases pre.getLast? <;> simp [holesV, holeV, hx]
      rw [er]
      refine Ev.step (f := fun _ => some false) (fun k => ?_) (Ev.now _)
      rw [spec_l06Is.l1, if_pos (by omega), if_pos (by omega), e1, l00In_eq]
      simp only [Option.bind_some]
      rw [if_neg hx]
theorem implHoles_ev (d : List Int) (l : List Ho) (hl : l.length ≤ 1048576) (hs : ∀ h ∈ l, h.f1.length ≤ 1048576) : ∀ (rest pre : List Ho), l = pre ++ rest →
    Ev (fun k => impl_ValidGround.l0 k l l.length pre.length d l) (holesV d.length (pre.getLast?.map (·.f0)) rest) := by
  intro rest
  induction rest with
  | nil =>
    intro pre e
    refine Ev.step (fun k => ?_) (Ev.now _)
    rw [impl_ValidGround.l0, if_neg (by rw [e]; simp)]
    cases pre.getLast? <;> simp [holesV]
  | cons x rest ih =>
    intro pre e
    have hlen : l.length = pre.length + (rest.length + 1) := by rw [e]; simp
    have e1 : rd_T40 l (pre.length : Int) = x := by rw [e]; exact rdH_mid _ _ _
    have hnx := ih (pre ++ [x]) (by simp [e])
    have ew : wrap64 ((pre.length : Int) + 1) = ((pre ++ [x]).length : Int) := by rw [w64 (by omega) (by omega)]; simp
    have eg : (pre ++ [x]).getLast? = some x := by simp
    rw [eg] at hnx
    have hhole := isHole_ev x d.length (hs x (by rw [e]; simp))
    rcases List.eq_nil_or_concat pre with rfl | ⟨pre', q, rfl⟩
    · refine Ev.step (f := fun k => (impl_isHole.f k x.f0 x.f1 d.length).bind fun t => if t = true then impl_ValidGround.l0 k l l.length (wrap64 ((([] : List Ho).length : Int) + 1)) d l else some false) (fun k => ?_) ?_
      · rw [impl_ValidGround.l0, if_pos (by omega), if_pos (by omega), if_pos (by omega), e1, if_neg (by simp)]
      · refine Ev.bind hhole ?_
        simp only [List.getLast?_nil, Option.map_none, holesV]
        cases holeV x d.length with
        | false => exact Ev.now _
        | true => rw [ew]; simpa using hnx
    · have eq1 : rd_T40 l (pre'.length : Int) = q := by rw [e]; simpa using rdH_mid pre' q (x :: rest)
      have ei : wrap64 (((pre' ++ [q]).length : Int) - 1) = (pre'.length : Int) := by rw [w64 (by simp at hlen ⊢ <;> omega) (by simp at hlen ⊢ <;> omega)]; simp
      simp only [List.concat_eq_append] at *
      have eg' : ((pre' ++ [q]).getLast?.map (·.f0)) = some q.f0 := by simp
      rw [eg']
      refine Ev.step (f := fun k => (impl_isHole.f k x.f0 x.f1 d.length).bind fun t => if t = true then (if q.f0 ≥ x.f0 then some false else impl_ValidGround.l0 k l l.length (wrap64 (((pre' ++ [q]).length : Int) + 1)) d l) else some false) (fun k => ?_) ?_
      · rw [impl_ValidGround.l0, if_pos (by omega), if_pos (by omega), if_pos (by omega), e1, ei, if_pos (by simp <;> omega), if_pos (by omega), if_pos (by simp at hlen <;> omega), eq1]
      · refine Ev.bind hhole ?_
        simp only [holesV]
        cases holeV x d.length with
        | false => exact Ev.now _
        | true =>
          simp only [if_true, Bool.true_and]
          by_cases hq : q.f0 ≥ x.f0
          · refine ite_ev_pos hq ?_
            simp only [hq, decide_true, Bool.not_true, Bool.false_and]
            exact Ev.now _
          · refine ite_ev_neg hq ?_
            have : decide (q.f0 ≥ x.f0) = false := by simp only [decide_eq_false_iff_not]; exact hq
            rw [ew, this]
            simpa using hnx
theorem specGround_ev (d : List Int) (l : List Ho) (hd : d.length ≤ 1048576) (hl : l.length ≤ 1048576) (hs : ∀ h ∈ l, h.f1.length ≤ 1048576) : Ev (fun k => spec_ValidGround.f k d l) (groundV d l) := by
  have hbad : Ev (fun k => spec_l06Is.j0 k true d l) false := by
    refine Ev.step (f := fun _ => some false) (fun k => ?_) (Ev.now _)
    rw [spec_l06Is.j0, if_pos rfl]
  have hden : ∀ (rest pre : List Int), d = pre ++ rest → Ev (fun k => spec_l06Is.l0 k pre.length d l) (allIn 1 3000 rest && holesV d.length none l) := by
    intro rest
    induction rest with
    | nil =>
      intro pre e
      refine Ev.step (fun k => ?_) (by simpa [allIn] using specHoles_ev d l hl hs l [] rfl)
      rw [spec_l06Is.l0, if_neg (by rw [e]; simp)]
    | cons x rest ih =>
      intro pre e
      have hlen : d.length = pre.length + (rest.length + 1) := by rw [e]; simp
      have e1 : rd d (pre.length : Int) = x := by rw [e]; exact rd_mid _ _ _
      have hnx := ih (pre ++ [x]) (by simp [e])
      have ew : wrap64 ((pre.length : Int) + 1) = ((pre ++ [x]).length : Int) := by rw [w64 (by omega) (by omega)]; simp
      have ea : allIn 1 3000 (x :: rest) = (inR 1 3000 x && allIn 1 3000 rest) := rfl
      rw [ea]
      refine Ev.step (f := fun k => if inR 1 3000 x = true then spec_l06Is.l0 k ((pre ++ [x]).length : Nat) d l else some false) (fun k => ?_) ?_
      · rw [spec_l06Is.l0, if_pos (by omega), if_pos (by omega), e1, l00In_eq, ew]
        simp only [Option.bind_some]
      · cases inR 1 3000 x with
        | false => exact Ev.now _
        | true => simpa using hnx
  unfold spec_ValidGround.f groundV
  have hIs : Ev (fun k => spec_l06Is.f k d l) (inR 1 4 d.length && (inR 1 6 l.length && (allIn 1 3000 d && holesV d.length none l))) := by
    unfold spec_l06Is.f
    simp only [l00In_eq, Option.bind_some]
    cases inR 1 4 (d.length : Int) with
    | false => simpa using hbad
    | true =>
      simp only [if_true, Bool.true_and]
      cases inR 1 6 (l.length : Int) with
      | false => simpa using hbad
      | true =>
        simp only [Bool.not_true, Bool.true_and]
        refine Ev.step (f := fun k => spec_l06Is.l0 k 0 d l) (fun k => by rw [spec_l06Is.j0, if_neg (by simp)]) ?_
        simpa using hden d [] rfl
  exact Ev.bind hIs (Ev.now _)
theorem implGround_ev (d : List Int) (l : List Ho) (hl : l.length ≤ 1048576) (hs : ∀ h ∈ l, h.f1.length ≤ 1048576) : Ev (fun k => impl_ValidGround.f k d l) (groundV d l) := by
  have hbad : Ev (fun k => impl_ValidGround.j0 k true d l) false := by
    refine Ev.step (f := fun _ => some false) (fun k => ?_) (Ev.now _)
    rw [impl_ValidGround.j0, if_pos rfl]
  unfold impl_ValidGround.f groundV
  simp only [within_eq, areWithin_eq, Option.bind_some]
  cases inR 1 4 (d.length : Int) with
  | false => simpa using hbad
  | true =>
    simp only [if_true, Bool.true_and]
    cases allIn 1 3000 d with
    | false => simpa using hbad
    | true =>
      simp only [if_true, Bool.true_and]
      cases inR 1 6 (l.length : Int) with
      | false => simpa using hbad
      | true =>
        simp only [Bool.not_true, Bool.true_and]
        refine Ev.step (f := fun k => impl_ValidGround.l0 k l l.length 0 d l) (fun k => by rw [impl_ValidGround.j0, if_neg (by simp)]) ?_
        simpa using implHoles_ev d l hl hs l [] rfl
end Go.Proofs.Ytlkmjldhhoopcaa.K
