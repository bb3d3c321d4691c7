/- What the program's and the reference's functions on axes answer: the poses of a valid axis, in plain words on lists. -/
import Derived.Test.YtkmnllcccgnliaaKit
import Derived.Test.YtkmnllcccgnliaaGy0
import Derived.Test.YtkmnllcccgnliaaGy1
import Derived.Test.YtkmnllcccgnliaaGy2
import Derived.Test.YtkmnllcccgnliaaGy5
import Derived.Test.YtkmnllcccgnliaaGy3
namespace Go.Proofs.Ytkmnllcccgnliaa.K
open Go.RowKit Go.Proofs.Ytkmnllcccgnliaa.G Go.Proofs.YtkmnllcccgnliaaW.PrintWords Go.Proofs.YtkmnllcccgnliaaW.PrintLast Go.Proofs.YtkmnllcccgnliaaW.PrintMore
set_option linter.unusedVariables false
set_option linter.unusedSimpArgs false

abbrev Po := S28
abbrev Cu := S69
def inR (lo hi x : Int) : Bool := decide (lo ≤ x) && decide (x ≤ hi)
theorem inR_iff {lo hi x : Int} : inR lo hi x = true ↔ lo ≤ x ∧ x ≤ hi := by simp [inR]
theorem within_eq (x lo hi : Int) : impl_within.f x lo hi = some (inR lo hi x) := by
  unfold impl_within.f inR
  by_cases h : lo ≤ x <;> simp [h]
theorem l00In_eq (x lo hi : Int) : spec_l00In.f x lo hi = some (inR lo hi x) := by
  unfold spec_l00In.f inR
  by_cases h : lo ≤ x <;> simp [h]
def okPose (p : Po) : Bool := inR (-100000) 100000 p.f0 && inR (-100000) 100000 p.f1 && inR (-400) 400 p.f2 && inR (-400) 400 p.f3
theorem okPose_iff {p : Po} : okPose p = true ↔ (-100000 ≤ p.f0 ∧ p.f0 ≤ 100000) ∧ (-100000 ≤ p.f1 ∧ p.f1 ≤ 100000) ∧ (-400 ≤ p.f2 ∧ p.f2 ≤ 400) ∧ (-400 ≤ p.f3 ∧ p.f3 ≤ 400) := by
  simp only [okPose, Bool.and_eq_true, inR_iff, and_assoc]
def okTurn (b r : Int) : Bool := inR (-12) 12 b && inR (-12) 12 r
theorem okTurn_iff {b r : Int} : okTurn b r = true ↔ (-12 ≤ b ∧ b ≤ 12) ∧ (-12 ≤ r ∧ r ≤ 12) := by
  simp only [okTurn, Bool.and_eq_true, inR_iff]
theorem validPose_eq (a b c d : Int) : impl_ValidPose.f a b c d = some (okPose ⟨a, b, c, d⟩) := by
  unfold impl_ValidPose.f impl_areWithin.f okPose inR
  simp only [Option.bind_some, List.all_cons, List.all_nil, Bool.and_true]
  cases (decide (-100000 ≤ a) && decide (a ≤ 100000)) <;> cases (decide (-100000 ≤ b) && decide (b ≤ 100000)) <;> simp
theorem specPose_eq (a b c d : Int) : spec_l02Pose.f a b c d = some (okPose ⟨a, b, c, d⟩) := by
  unfold spec_l02Pose.f okPose
  simp only [l00In_eq, Option.bind_some]
  cases inR (-100000) 100000 a <;> cases inR (-100000) 100000 b <;> cases inR (-400) 400 c <;> simp
theorem isTurn_eq (b r : Int) : impl_isTurn.f b r = some (okTurn b r) := by
  unfold impl_isTurn.f impl_areWithin.f okTurn inR
  simp
theorem specTurn_eq (b r : Int) : spec_l02Turn.f b r = some (okTurn b r) := by
  unfold spec_l02Turn.f okTurn
  simp only [l00In_eq, Option.bind_some]
  cases inR (-12) 12 b <;> simp
def nxt (p : Po) (b r : Int) : Po := ⟨p.f0 + p.f2, p.f1 + p.f3, p.f2 + b, p.f3 + r⟩
theorem implNext_eq (p : Po) (b r : Int) (hp : okPose p = true) (ht : okTurn b r = true) : impl_Pose_next.f p.f0 p.f1 p.f2 p.f3 b r = some ((nxt p b r).f0, (nxt p b r).f1, (nxt p b r).f2, (nxt p b r).f3) := by
  rw [okPose_iff] at hp; rw [okTurn_iff] at ht
  unfold impl_Pose_next.f nxt
  rw [w64 (by omega) (by omega), w64 (by omega) (by omega), w64 (by omega) (by omega), w64 (by omega) (by omega)]
theorem specNext_eq (p : Po) (b r : Int) (hp : okPose p = true) (ht : okTurn b r = true) : spec_l02Next.f p.f0 p.f1 p.f2 p.f3 b r = some ((nxt p b r).f0, (nxt p b r).f1, (nxt p b r).f2, (nxt p b r).f3) := by
  rw [okPose_iff] at hp; rw [okTurn_iff] at ht
  unfold spec_l02Next.f nxt
  rw [w64 (by omega) (by omega), w64 (by omega) (by omega), w64 (by omega) (by omega), w64 (by omega) (by omega)]

/-- The poses behind p along n rings of one curve, if they are valid. -/
def ringL (p : Po) (b r : Int) : Nat → Option (List Po)
  | 0 => some []
  | n + 1 => if okPose (nxt p b r) then (ringL (nxt p b r) b r n).map (nxt p b r :: ·) else none
/-- The last pose. -/
def lastP (p : Po) (l : List Po) : Po := l.getLastD p
theorem lastP_nil (p : Po) : lastP p [] = p := rfl
theorem last_split : ∀ (qs ps : List Po) (p : Po), ∃ ps', ps ++ [p] ++ qs = ps' ++ [qs.getLastD p] ∧ ps'.length = ps.length + qs.length := by
  intro qs
  induction qs with
  | nil => intro ps p; exact ⟨ps, by simp, by simp⟩
  | cons q qs ih =>
    intro ps p
    obtain ⟨ps', h1, h2⟩ := ih (ps ++ [p]) q
    refine ⟨ps', ?_, by simp at h2 ⊢; omega⟩
    rw [List.getLastD_cons, ← h1]
    simp
theorem lastP_cons (p q : Po) (l : List Po) : lastP p (q :: l) = lastP q l := by
  simp only [lastP, List.getLastD_cons]
/-- The poses behind p along curves, n rings being behind: if all are valid. -/
def axL : Po → Int → List Cu → Option (List Po)
  | _, _, [] => some []
  | p, n, c :: l => if inR 1 60 c.f0 && okTurn c.f1 c.f2 && decide (n + c.f0 ≤ 60) then
      (ringL p c.f1 c.f2 c.f0.toNat).bind fun ps => (axL (lastP p ps) (n + c.f0) l).map (ps ++ ·)
    else none
/-- All poses of a valid axis. -/
def axV (s : Po) (l : List Cu) : Option (List Po) := if okPose s && inR 1 8 l.length then (axL s 0 l).map (s :: ·) else none
def turnsL (l : List Cu) : List Cu := l.flatMap fun c => List.replicate c.f0.toNat ⟨1, c.f1, c.f2⟩
def posesL (p : Po) : List Cu → List Po
  | [] => []
  | c :: l => nxt p c.f1 c.f2 :: posesL (nxt p c.f1 c.f2) l
theorem ringL_spec (b r : Int) : ∀ (n : Nat) (p : Po) (ps : List Po), okPose p = true → ringL p b r n = some ps → ps.length = n ∧ (∀ q ∈ ps, okPose q = true) ∧ okPose (lastP p ps) = true ∧ ∀ l, posesL p (List.replicate n ⟨1, b, r⟩ ++ l) = ps ++ posesL (lastP p ps) l := by
  intro n
  induction n with
  | zero =>
    intro p ps hp h
    simp only [ringL, Option.some.injEq] at h
    subst h
    exact ⟨rfl, by simp, hp, fun l => rfl⟩
  | succ n ih =>
    intro p ps hp h
    simp only [ringL] at h
    split at h
    · rename_i hn
      obtain ⟨qs, hq, rfl⟩ := Option.map_eq_some_iff.1 h
      obtain ⟨h1, h2, h3, h4⟩ := ih _ _ hn hq
      refine ⟨by simp [h1], fun q hq => ?_, by rw [lastP_cons]; exact h3, fun l => ?_⟩
      · rw [List.mem_cons] at hq
        rcases hq with rfl | hq
        · exact hn
        · exact h2 q hq
      · rw [List.replicate_succ, List.cons_append, posesL, h4, lastP_cons]; rfl
    · cases h
theorem axL_spec : ∀ (l : List Cu) (p : Po) (n : Int) (ps : List Po), okPose p = true → axL p n l = some ps →
    ps.length = (turnsL l).length ∧ (∀ q ∈ ps, okPose q = true) ∧ ps = posesL p (turnsL l) ∧ (∀ c ∈ l, 1 ≤ c.f0 ∧ c.f0 ≤ 60 ∧ okTurn c.f1 c.f2 = true) ∧ (l ≠ [] → n + ps.length ≤ 60) ∧ okPose (lastP p ps) = true := by
  intro l
  induction l with
  | nil =>
    intro p n ps hp h
    simp only [axL, Option.some.injEq] at h
    subst h
    exact ⟨rfl, by simp, rfl, by simp, fun h => absurd rfl h, hp⟩
  | cons c l ih =>
    intro p n ps hp h
    simp only [axL] at h
    split at h
    · rename_i hc
      simp only [Bool.and_eq_true, inR_iff, decide_eq_true_eq] at hc
      obtain ⟨qs, hq, h⟩ := Option.bind_eq_some_iff.1 h
      obtain ⟨rs, hr, rfl⟩ := Option.map_eq_some_iff.1 h
      obtain ⟨a1, a2, a3, a4⟩ := ringL_spec c.f1 c.f2 _ p qs hp hq
      obtain ⟨b1, b2, b3, b4, b5, b6⟩ := ih _ _ _ a3 hr
      have et : turnsL (c :: l) = List.replicate c.f0.toNat ⟨1, c.f1, c.f2⟩ ++ turnsL l := rfl
      refine ⟨by rw [et]; simp [a1, b1], fun q hq => ?_, by rw [et, a4, ← b3], fun d hd => ?_, fun _ => ?_, ?_⟩
      · rw [List.mem_append] at hq
        rcases hq with hq | hq
        · exact a2 q hq
        · exact b2 q hq
      · rw [List.mem_cons] at hd
        rcases hd with rfl | hd
        · exact ⟨hc.1.1.1, hc.1.1.2, hc.1.2⟩
        · exact b4 d hd
      · rw [List.length_append, a1]
        by_cases hl : l = []
        · subst hl
          simp only [axL, Option.some.injEq] at hr
          subst hr
          simp; omega
        · have := b5 hl
          omega
      · have e : lastP p (qs ++ rs) = lastP (lastP p qs) rs := by
          simp only [lastP, List.getLastD_eq_getLast?, List.getLast?_append]
          cases rs.getLast? <;> simp
        rw [e]; exact b6
    · cases h
theorem axV_spec {s : Po} {l : List Cu} {ps : List Po} (h : axV s l = some ps) :
    okPose s = true ∧ 1 ≤ l.length ∧ l.length ≤ 8 ∧ ps = s :: posesL s (turnsL l) ∧ ps.length = (turnsL l).length + 1 ∧ ps.length ≤ 61 ∧ 2 ≤ ps.length ∧ (∀ q ∈ ps, okPose q = true) ∧ (∀ c ∈ l, 1 ≤ c.f0 ∧ c.f0 ≤ 60 ∧ okTurn c.f1 c.f2 = true) := by
  unfold axV at h
  split at h
  · rename_i hc
    simp only [Bool.and_eq_true, inR_iff] at hc
    obtain ⟨qs, hq, rfl⟩ := Option.map_eq_some_iff.1 h
    obtain ⟨a1, a2, a3, a4, a5, a6⟩ := axL_spec l s 0 qs hc.1 hq
    have hne : l ≠ [] := by intro e; subst e; simp at hc
    have h60 := a5 hne
    have h2 : 1 ≤ (turnsL l).length := by
      cases l with
      | nil => exact absurd rfl hne
      | cons c l =>
        have := a4 c (by simp)
        have et : turnsL (c :: l) = List.replicate c.f0.toNat ⟨1, c.f1, c.f2⟩ ++ turnsL l := rfl
        rw [et]; simp; omega
    refine ⟨hc.1, by omega, by omega, by rw [a3], by simp [a1], by simp; omega, by simp; omega, fun q hq => ?_, a4⟩
    rw [List.mem_cons] at hq
    rcases hq with rfl | hq
    · exact hc.1
    · exact a2 q hq
  · cases h
theorem turns_spec : ∀ (l : List Cu), (∀ c ∈ l, okTurn c.f1 c.f2 = true) → ∀ c ∈ turnsL l, c.f0 = 1 ∧ okTurn c.f1 c.f2 = true := by
  intro l h c hc
  simp only [turnsL, List.mem_flatMap, List.mem_replicate] at hc
  obtain ⟨d, hd, _, rfl⟩ := hc
  exact ⟨rfl, h d hd⟩

/-! The program's poses. -/
theorem rdP_mid (pre : List Po) (p : Po) (rest : List Po) : rd_T28 (pre ++ p :: rest) (pre.length : Int) = p := by simp [rd_T28]
theorem rdC_mid (pre : List Cu) (c : Cu) (rest : List Cu) : rd_T69 (pre ++ c :: rest) (pre.length : Int) = c := by simp [rd_T69]
/-- What the rings of a curve come to: R, if the poses behind them come to R; nothing, if one is not valid. -/
def After (o : Option (List Po)) (g : List Po → Prop) (bad : Prop) : Prop := match o with | none => bad | some ps => g ps
theorem implRing_ev (l : List Cu) (i n : Int) (c : Cu) (R : List Po × Bool) (ht : okTurn c.f1 c.f2 = true) (hn : 1 ≤ c.f0 ∧ c.f0 ≤ 60) :
    ∀ (j : Nat) (pre : List Po) (p : Po), okPose p = true → (j : Int) ≤ c.f0 → pre.length + j ≤ 1000 →
    After (ringL p c.f1 c.f2 j) (fun ps => Ev (fun k => impl_Axis_poses.l0 k (pre ++ [p] ++ ps) l n (wrap64 (i + 1))) R) (R = ([], false)) →
    Ev (fun k => impl_Axis_poses.l1 k (pre ++ [p]) l n i c.f0 (c.f0 - j) c.f0 c.f1 c.f2) R := by
  intro j
  induction j with
  | zero =>
    intro pre p hp hj hl hR
    simp only [ringL, After, List.append_nil] at hR
    refine Ev.step (fun k => ?_) hR
    rw [impl_Axis_poses.l1, if_neg (by omega)]
  | succ j ih =>
    intro pre p hp hj hl hR
    have hopen : ∀ k, impl_Axis_poses.l1 (k + 1) (pre ++ [p]) l n i c.f0 (c.f0 - ((j + 1 : Nat) : Int)) c.f0 c.f1 c.f2 = if okPose (nxt p c.f1 c.f2) = true then impl_Axis_poses.l1 k (pre ++ [p] ++ [nxt p c.f1 c.f2]) l n i c.f0 (c.f0 - (j : Int)) c.f0 c.f1 c.f2 else some ([], false) := by
      intro k
      have e1 : ((pre ++ [p]).length : Int) - 1 = (pre.length : Int) := by simp
      have e2 : rd_T28 (pre ++ [p]) (pre.length : Int) = p := rdP_mid pre p []
      have e3 : c.f0 - ((j + 1 : Nat) : Int) + 1 = c.f0 - (j : Int) := by omega
      have e4 : (pre.length : Int) < ((pre ++ [p]).length : Int) := by simp; omega
      rw [impl_Axis_poses.l1, if_pos (by omega), e1, w64 (i := (pre.length : Int)) (by omega) (by omega), if_pos (by omega), if_pos e4, e2, implNext_eq p _ _ hp ht]
      simp only [Option.bind_some]
      rw [validPose_eq]
      simp only [Option.bind_some]
      rw [e3, w64 (by omega) (by omega)]
      by_cases hq : okPose (nxt p c.f1 c.f2) = true
      · have hq' : okPose ⟨(nxt p c.f1 c.f2).f0, (nxt p c.f1 c.f2).f1, (nxt p c.f1 c.f2).f2, (nxt p c.f1 c.f2).f3⟩ = true := hq
        rw [if_pos hq', if_pos (by simp; omega), if_pos hq]
      · have hq' : ¬ okPose ⟨(nxt p c.f1 c.f2).f0, (nxt p c.f1 c.f2).f1, (nxt p c.f1 c.f2).f2, (nxt p c.f1 c.f2).f3⟩ = true := hq
        rw [if_neg hq', if_neg hq]
    refine Ev.step hopen ?_
    simp only [ringL] at hR
    by_cases hq : okPose (nxt p c.f1 c.f2) = true
    · rw [if_pos hq] at hR
      simp only [hq, if_true]
      have := ih (pre ++ [p]) (nxt p c.f1 c.f2) hq (by omega) (by simp; omega)
      apply this
      cases e : ringL (nxt p c.f1 c.f2) c.f1 c.f2 j with
      | none => rw [e] at hR; exact hR
      | some ps => rw [e] at hR; simpa [After] using hR
    · rw [if_neg hq] at hR
      simp only [hq, Bool.false_eq_true, if_false]
      simp only [After] at hR
      rw [hR]
      exact Ev.now _
theorem implCurves_ev (l : List Cu) : ∀ (rest pre : List Cu) (ps : List Po) (p : Po) (n : Int), l = pre ++ rest → okPose p = true → 0 ≤ n → (ps.length : Int) = n → n ≤ 60 → l.length ≤ 8 →
    Ev (fun k => impl_Axis_poses.l0 k (ps ++ [p]) l l.length pre.length) (match axL p n rest with | some qs => (ps ++ [p] ++ qs, true) | none => ([], false)) := by
  intro rest
  induction rest with
  | nil =>
    intro pre ps p n e hp h0 hl hn h8
    refine Ev.step (fun k => ?_) (Ev.now _)
    rw [impl_Axis_poses.l0, if_neg (by rw [e]; simp)]
    simp [axL]
  | cons c rest ih =>
    intro pre ps p n e hp h0 hl hn h8
    have hlen : l.length = pre.length + (rest.length + 1) := by rw [e]; simp
    have e1 : rd_T69 l (pre.length : Int) = c := by rw [e]; exact rdC_mid _ _ _
    have hbad : Ev (fun k => impl_Axis_poses.j2 k (ps ++ [p]) l l.length pre.length true c.f0 c.f1 c.f2) ([], false) := by
      refine Ev.step (f := fun _ => some ([], false)) (fun k => ?_) (Ev.now _)
      rw [impl_Axis_poses.j2, if_pos rfl]
    by_cases h1 : inR 1 60 c.f0 = true
    · have hc1 := inR_iff.1 h1
      by_cases h2 : okTurn c.f1 c.f2 = true
      · by_cases h3 : n + c.f0 ≤ 60
        · have hax : axL p n (c :: rest) = (ringL p c.f1 c.f2 c.f0.toNat).bind fun qs => (axL (lastP p qs) (n + c.f0) rest).map (qs ++ ·) := by
            simp only [axL, h1, h2, h3, decide_true, Bool.and_self, if_true]
          rw [hax]
          refine Ev.step (f := fun k => impl_Axis_poses.j2 k (ps ++ [p]) l l.length pre.length false c.f0 c.f1 c.f2) (fun k => ?_) ?_
          · have e5 : decide (wrap64 (((ps ++ [p]).length : Int) + c.f0) > 61) = false := by
              rw [w64 (by simp; omega) (by simp; omega)]
              simp; omega
            rw [impl_Axis_poses.l0, if_pos (by omega), if_pos (by omega), if_pos (by omega), e1, within_eq, h1, isTurn_eq, h2]
            simp only [Option.bind_some, if_true, e5]
          · refine Ev.step (f := fun k => impl_Axis_poses.l1 k (ps ++ [p]) l l.length pre.length c.f0 0 c.f0 c.f1 c.f2) (fun k => ?_) ?_
            · rw [impl_Axis_poses.j2, if_neg (by simp)]
            · have := implRing_ev l pre.length l.length c (match (ringL p c.f1 c.f2 c.f0.toNat).bind (fun qs => (axL (lastP p qs) (n + c.f0) rest).map (qs ++ ·)) with | some qs => (ps ++ [p] ++ qs, true) | none => ([], false)) h2 hc1 c.f0.toNat ps p hp (by omega) (by omega) ?_
              · have e6 : c.f0 - (c.f0.toNat : Int) = 0 := by omega
                rw [e6] at this
                exact this
              · cases er : ringL p c.f1 c.f2 c.f0.toNat with
                | none => simp [After]
                | some qs =>
                  obtain ⟨a1, a2, a3, a4⟩ := ringL_spec c.f1 c.f2 _ p qs hp er
                  simp only [After, Option.bind_some]
                  -- the last pose
                  obtain ⟨ps', ep, el'⟩ := last_split qs ps p
                  have el : (ps'.length : Int) = n + c.f0 := by omega
                  have hn1 := ih (pre ++ [c]) ps' (lastP p qs) (n + c.f0) (by simp [e]) a3 (by omega) el h3 h8
                  have ew : wrap64 ((pre.length : Int) + 1) = ((pre ++ [c]).length : Int) := by
                    rw [w64 (by omega) (by omega)]; simp
                  rw [ew, ep]
                  cases ea : axL (lastP p qs) (n + c.f0) rest with
                  | none => rw [ea] at hn1; exact hn1
                  | some rs => rw [ea] at hn1; simp only [Option.map_some]; rw [← List.append_assoc, ep]; exact hn1
        · have hax : axL p n (c :: rest) = none := by simp only [axL, h3, decide_false, Bool.and_false, Bool.false_eq_true, if_false]
          rw [hax]
          refine Ev.step (f := fun k => impl_Axis_poses.j2 k (ps ++ [p]) l l.length pre.length true c.f0 c.f1 c.f2) (fun k => ?_) hbad
          have e5 : decide (wrap64 (((ps ++ [p]).length : Int) + c.f0) > 61) = true := by
            rw [w64 (by simp; omega) (by simp; omega)]
            simp; omega
          rw [impl_Axis_poses.l0, if_pos (by omega), if_pos (by omega), if_pos (by omega), e1, within_eq, h1, isTurn_eq, h2]
          simp only [Option.bind_some, if_true, e5]
      · have hax : axL p n (c :: rest) = none := by simp only [axL, h2, Bool.and_false, Bool.false_and, Bool.false_eq_true, if_false]
        rw [hax]
        refine Ev.step (f := fun k => impl_Axis_poses.j2 k (ps ++ [p]) l l.length pre.length true c.f0 c.f1 c.f2) (fun k => ?_) hbad
        rw [impl_Axis_poses.l0, if_pos (by omega), if_pos (by omega), if_pos (by omega), e1, within_eq, h1, isTurn_eq]
        simp only [Option.bind_some, if_true, h2, Bool.false_eq_true, if_false]
    · have hax : axL p n (c :: rest) = none := by simp only [axL, h1, Bool.false_and, Bool.false_eq_true, if_false]
      rw [hax]
      refine Ev.step (f := fun k => impl_Axis_poses.j2 k (ps ++ [p]) l l.length pre.length true c.f0 c.f1 c.f2) (fun k => ?_) hbad
      rw [impl_Axis_poses.l0, if_pos (by omega), if_pos (by omega), if_pos (by omega), e1, within_eq]
      simp only [Option.bind_some, h1, Bool.false_eq_true, if_false]
theorem implPoses_ev (s : Po) (l : List Cu) : Ev (fun k => impl_Axis_poses.f k s.f0 s.f1 s.f2 s.f3 l) (match axV s l with | some ps => (ps, true) | none => ([], false)) := by
  have hbad : Ev (fun k => impl_Axis_poses.j0 k [s] true s.f0 s.f1 s.f2 s.f3 l) ([], false) := by
    refine Ev.step (f := fun _ => some ([], false)) (fun k => ?_) (Ev.now _)
    rw [impl_Axis_poses.j0, if_pos rfl]
  unfold axV
  by_cases h1 : okPose s = true
  · by_cases h2 : inR 1 8 l.length = true
    · simp only [h1, h2, Bool.and_self, if_true]
      refine Ev.congr (f := fun k => impl_Axis_poses.j0 k [s] false s.f0 s.f1 s.f2 s.f3 l) (fun k => ?_) ?_
      · unfold impl_Axis_poses.f
        simp only [Option.bind_some]
        rw [validPose_eq, within_eq, h2]
        simp only [Option.bind_some]
        rw [if_pos h1]; rfl
      · refine Ev.step (f := fun k => impl_Axis_poses.l0 k [s] l l.length 0) (fun k => ?_) ?_
        · rw [impl_Axis_poses.j0, if_neg (by simp)]
        · have := implCurves_ev l l [] [] s 0 rfl h1 (by omega) (by simp) (by omega) (by have := inR_iff.1 h2; omega)
          cases e : axL s 0 l <;> simpa [e] using this
    · simp only [h2, Bool.and_false, Bool.false_eq_true, if_false]
      refine Ev.congr (fun k => ?_) hbad
      unfold impl_Axis_poses.f
      simp only [Option.bind_some]
      rw [validPose_eq, within_eq]
      simp only [Option.bind_some]
      simp only [Bool.not_eq_true] at h2
      rw [if_pos h1, h2]; rfl
  · simp only [h1, Bool.false_and, Bool.false_eq_true, if_false]
    refine Ev.congr (fun k => ?_) hbad
    unfold impl_Axis_poses.f
    simp only [Option.bind_some]
    rw [validPose_eq]
    simp only [Option.bind_some]
    rw [if_neg h1]

/-! The reference's. -/
theorem isRing_ev (l : List Cu) (s : Po) (i n : Int) (c : Cu) (R : Bool) (ht : okTurn c.f1 c.f2 = true) (hn : 1 ≤ c.f0 ∧ c.f0 ≤ 60) :
    ∀ (j : Nat) (p : Po), okPose p = true → (j : Int) ≤ c.f0 →
    After (ringL p c.f1 c.f2 j) (fun ps => Ev (fun k => spec_l02Is.l0 k n (wrap64 (i + 1)) s.f0 s.f1 s.f2 s.f3 l (lastP p ps).f0 (lastP p ps).f1 (lastP p ps).f2 (lastP p ps).f3) R) (R = false) →
    Ev (fun k => spec_l02Is.l1 k n i (c.f0 - j) s.f0 s.f1 s.f2 s.f3 l p.f0 p.f1 p.f2 p.f3 c.f0 c.f1 c.f2) R := by
  intro j
  induction j with
  | zero =>
    intro p hp hj hR
    simp only [ringL, After, lastP_nil] at hR
    refine Ev.step (fun k => ?_) hR
    rw [spec_l02Is.l1, if_neg (by omega)]
  | succ j ih =>
    intro p hp hj hR
    have hopen : ∀ k, spec_l02Is.l1 (k + 1) n i (c.f0 - ((j + 1 : Nat) : Int)) s.f0 s.f1 s.f2 s.f3 l p.f0 p.f1 p.f2 p.f3 c.f0 c.f1 c.f2 = if okPose (nxt p c.f1 c.f2) = true then spec_l02Is.l1 k n i (c.f0 - (j : Int)) s.f0 s.f1 s.f2 s.f3 l (nxt p c.f1 c.f2).f0 (nxt p c.f1 c.f2).f1 (nxt p c.f1 c.f2).f2 (nxt p c.f1 c.f2).f3 c.f0 c.f1 c.f2 else some false := by
      intro k
      have e3 : c.f0 - ((j + 1 : Nat) : Int) + 1 = c.f0 - (j : Int) := by omega
      rw [spec_l02Is.l1, if_pos (by omega), specNext_eq p _ _ hp ht]
      simp only [Option.bind_some]
      rw [specPose_eq]
      simp only [Option.bind_some]
      rw [e3, w64 (by omega) (by omega)]
    refine Ev.step hopen ?_
    simp only [ringL] at hR
    by_cases hq : okPose (nxt p c.f1 c.f2) = true
    · rw [if_pos hq] at hR
      simp only [hq, if_true]
      apply ih (nxt p c.f1 c.f2) hq (by omega)
      cases e : ringL (nxt p c.f1 c.f2) c.f1 c.f2 j with
      | none => rw [e] at hR; exact hR
      | some ps => rw [e] at hR; simp only [After, Option.map_some, lastP_cons] at hR ⊢; exact hR
    · rw [if_neg hq] at hR
      simp only [hq, Bool.false_eq_true, if_false]
      simp only [After] at hR
      rw [hR]
      exact Ev.now _
theorem isCurves_ev (l : List Cu) (s : Po) : ∀ (rest pre : List Cu) (p : Po) (n : Int), l = pre ++ rest → okPose p = true → 0 ≤ n → n ≤ 60 → l.length ≤ 8 →
    Ev (fun k => spec_l02Is.l0 k n pre.length s.f0 s.f1 s.f2 s.f3 l p.f0 p.f1 p.f2 p.f3) (axL p n rest).isSome := by
  intro rest
  induction rest with
  | nil =>
    intro pre p n e hp h0 hn h8
    refine Ev.step (fun k => ?_) (Ev.now _)
    rw [spec_l02Is.l0, if_neg (by rw [e]; simp)]
    simp [axL]
  | cons c rest ih =>
    intro pre p n e hp h0 hn h8
    have hlen : l.length = pre.length + (rest.length + 1) := by rw [e]; simp
    have e1 : rd_T69 l (pre.length : Int) = c := by rw [e]; exact rdC_mid _ _ _
    have hbad : Ev (fun k => spec_l02Is.j2 k n pre.length true s.f0 s.f1 s.f2 s.f3 l p.f0 p.f1 p.f2 p.f3 c.f0 c.f1 c.f2) false := by
      refine Ev.step (f := fun _ => some false) (fun k => ?_) (Ev.now _)
      rw [spec_l02Is.j2, if_pos rfl]
    by_cases h1 : inR 1 (60 - n) c.f0 = true
    · have hc0 := inR_iff.1 h1
      have hc1 : 1 ≤ c.f0 ∧ c.f0 ≤ 60 := by omega
      have h1' : inR 1 60 c.f0 = true := inR_iff.2 hc1
      have h3 : n + c.f0 ≤ 60 := by omega
      by_cases h2 : okTurn c.f1 c.f2 = true
      · have hax : axL p n (c :: rest) = (ringL p c.f1 c.f2 c.f0.toNat).bind fun qs => (axL (lastP p qs) (n + c.f0) rest).map (qs ++ ·) := by
          simp only [axL, h1', h2, h3, decide_true, Bool.and_self, if_true]
        rw [hax]
        refine Ev.step (f := fun k => spec_l02Is.j2 k n pre.length false s.f0 s.f1 s.f2 s.f3 l p.f0 p.f1 p.f2 p.f3 c.f0 c.f1 c.f2) (fun k => ?_) ?_
        · rw [spec_l02Is.l0, if_pos (by omega), if_pos (by omega), e1, w64 (i := 60 - n) (by omega) (by omega), l00In_eq, h1, specTurn_eq, h2]
          simp only [Option.bind_some, if_true, Bool.not_true]
        · refine Ev.step (f := fun k => spec_l02Is.l1 k (n + c.f0) pre.length 0 s.f0 s.f1 s.f2 s.f3 l p.f0 p.f1 p.f2 p.f3 c.f0 c.f1 c.f2) (fun k => ?_) ?_
          · rw [spec_l02Is.j2, if_neg (by simp), w64 (by omega) (by omega)]
          · have := isRing_ev l s pre.length (n + c.f0) c ((ringL p c.f1 c.f2 c.f0.toNat).bind fun qs => (axL (lastP p qs) (n + c.f0) rest).map (qs ++ ·)).isSome h2 hc1 c.f0.toNat p hp (by omega) ?_
            · have e6 : c.f0 - (c.f0.toNat : Int) = 0 := by omega
              rw [e6] at this
              exact this
            · cases er : ringL p c.f1 c.f2 c.f0.toNat with
              | none => simp [After]
              | some qs =>
                obtain ⟨a1, a2, a3, a4⟩ := ringL_spec c.f1 c.f2 _ p qs hp er
                simp only [After, Option.bind_some]
                have hn1 := ih (pre ++ [c]) (lastP p qs) (n + c.f0) (by simp [e]) a3 (by omega) h3 h8
                have ew : wrap64 ((pre.length : Int) + 1) = ((pre ++ [c]).length : Int) := by
                  rw [w64 (by omega) (by omega)]; simp
                rw [ew, Option.isSome_map]
                exact hn1
      · have hax : axL p n (c :: rest) = none := by simp only [axL, h2, Bool.and_false, Bool.false_and, Bool.false_eq_true, if_false]
        rw [hax]
        refine Ev.step (f := fun k => spec_l02Is.j2 k n pre.length true s.f0 s.f1 s.f2 s.f3 l p.f0 p.f1 p.f2 p.f3 c.f0 c.f1 c.f2) (fun k => ?_) hbad
        simp only [Bool.not_eq_true] at h2
        rw [spec_l02Is.l0, if_pos (by omega), if_pos (by omega), e1, w64 (i := 60 - n) (by omega) (by omega), l00In_eq, h1, specTurn_eq, h2]
        simp only [Option.bind_some, if_true, Bool.not_false]
    · have hax : axL p n (c :: rest) = none := by
        simp only [axL]
        rw [if_neg]
        simp only [Bool.and_eq_true, inR_iff, decide_eq_true_eq]
        rintro ⟨⟨⟨a, b⟩, _⟩, d⟩
        exact h1 (inR_iff.2 ⟨a, by omega⟩)
      rw [hax]
      refine Ev.step (f := fun k => spec_l02Is.j2 k n pre.length true s.f0 s.f1 s.f2 s.f3 l p.f0 p.f1 p.f2 p.f3 c.f0 c.f1 c.f2) (fun k => ?_) hbad
      rw [spec_l02Is.l0, if_pos (by omega), if_pos (by omega), e1, w64 (i := 60 - n) (by omega) (by omega), l00In_eq]
      simp only [Option.bind_some, h1, Bool.false_eq_true, if_false]
theorem specIs_ev (s : Po) (l : List Cu) : Ev (fun k => spec_l02Is.f k s.f0 s.f1 s.f2 s.f3 l) (axV s l).isSome := by
  have hbad : Ev (fun k => spec_l02Is.j0 k true s.f0 s.f1 s.f2 s.f3 l) false := by
    refine Ev.step (f := fun _ => some false) (fun k => ?_) (Ev.now _)
    rw [spec_l02Is.j0, if_pos rfl]
  unfold axV
  by_cases h1 : okPose s = true
  · by_cases h2 : inR 1 8 l.length = true
    · simp only [h1, h2, Bool.and_self, if_true]
      refine Ev.congr (f := fun k => spec_l02Is.j0 k false s.f0 s.f1 s.f2 s.f3 l) (fun k => ?_) ?_
      · unfold spec_l02Is.f
        rw [specPose_eq, l00In_eq, h2]
        simp only [Option.bind_some]
        rw [if_pos h1]; rfl
      · refine Ev.step (f := fun k => spec_l02Is.l0 k 0 0 s.f0 s.f1 s.f2 s.f3 l s.f0 s.f1 s.f2 s.f3) (fun k => ?_) ?_
        · rw [spec_l02Is.j0, if_neg (by simp)]
        · have := isCurves_ev l s l [] s 0 rfl h1 (by omega) (by omega) (by have := inR_iff.1 h2; omega)
          rw [Option.isSome_map]
          simpa using this
    · simp only [h2, Bool.and_false, Bool.false_eq_true, if_false]
      refine Ev.congr (fun k => ?_) hbad
      unfold spec_l02Is.f
      rw [specPose_eq, l00In_eq]
      simp only [Option.bind_some]
      simp only [Bool.not_eq_true] at h2
      rw [if_pos h1, h2]; rfl
  · simp only [h1, Bool.false_and, Bool.false_eq_true, if_false]
    refine Ev.congr (fun k => ?_) hbad
    unfold spec_l02Is.f
    rw [specPose_eq]
    simp only [Option.bind_some]
    rw [if_neg h1]
/-- The turns of few rings. -/
theorem turnsRing_ev (l : List Cu) (s : Po) (pre : List Cu) (c : Cu) (rest : List Cu) (R : List Cu) (e : l = pre ++ c :: rest) (hn : 0 ≤ c.f0 ∧ c.f0 ≤ 60) (h8 : l.length ≤ 100) :
    ∀ (j : Nat) (acc : List Cu), (j : Int) ≤ c.f0 → acc.length + j ≤ 10000 →
    Ev (fun k => spec_l02Turns.l0 k (acc ++ List.replicate j ⟨1, c.f1, c.f2⟩) ((pre.length : Int) + 1) s.f0 s.f1 s.f2 s.f3 l) R →
    Ev (fun k => spec_l02Turns.l1 k acc pre.length (c.f0 - j) s.f0 s.f1 s.f2 s.f3 l) R := by
  have hlen : l.length = pre.length + (rest.length + 1) := by rw [e]; simp
  have e1 : rd_T69 l (pre.length : Int) = c := by rw [e]; exact rdC_mid _ _ _
  intro j
  induction j with
  | zero =>
    intro acc hj ha hR
    refine Ev.step (fun k => ?_) (by simpa using hR)
    rw [spec_l02Turns.l1, if_pos (by omega), if_pos (by omega), e1, if_neg (by omega), w64 (by omega) (by omega)]
  | succ j ih =>
    intro acc hj ha hR
    have e3 : c.f0 - ((j + 1 : Nat) : Int) + 1 = c.f0 - (j : Int) := by omega
    refine Ev.step (f := fun k => spec_l02Turns.l1 k (acc ++ [⟨1, c.f1, c.f2⟩]) pre.length (c.f0 - (j : Int)) s.f0 s.f1 s.f2 s.f3 l) (fun k => ?_) ?_
    · rw [spec_l02Turns.l1, if_pos (by omega), if_pos (by omega), e1, if_pos (by omega), if_pos (by omega), w64 (by omega) (by omega), e3]
    · refine ih _ (by omega) (by simp; omega) ?_
      simpa [List.replicate_succ] using hR
theorem turnsL_len : ∀ (l : List Cu), (∀ c ∈ l, 0 ≤ c.f0 ∧ c.f0 ≤ 60) → (turnsL l).length ≤ 60 * l.length := by
  intro l
  induction l with
  | nil => intro _; simp [turnsL]
  | cons c l ih =>
    intro h
    have h1 := h c (by simp)
    have h2 := ih fun d hd => h d (by simp [hd])
    have et : turnsL (c :: l) = List.replicate c.f0.toNat ⟨1, c.f1, c.f2⟩ ++ turnsL l := rfl
    rw [et]
    simp only [List.length_append, List.length_replicate, List.length_cons]
    omega
theorem specTurns_ev (s : Po) (l : List Cu) (hl : l.length ≤ 100) (hc : ∀ c ∈ l, 0 ≤ c.f0 ∧ c.f0 ≤ 60) : Ev (fun k => spec_l02Turns.f k s.f0 s.f1 s.f2 s.f3 l) (turnsL l) := by
  have key : ∀ (rest pre acc : List Cu), l = pre ++ rest → acc.length + 60 * rest.length ≤ 6000 → Ev (fun k => spec_l02Turns.l0 k acc pre.length s.f0 s.f1 s.f2 s.f3 l) (acc ++ turnsL rest) := by
    intro rest
    induction rest with
    | nil =>
      intro pre acc e ha
      refine Ev.step (fun k => ?_) (Ev.now _)
      rw [spec_l02Turns.l0, if_neg (by rw [e]; simp)]
      simp [turnsL]
    | cons c rest ih =>
      intro pre acc e ha
      have hlen : l.length = pre.length + (rest.length + 1) := by rw [e]; simp
      have hcc := hc c (by rw [e]; simp)
      simp only [List.length_cons] at ha
      refine Ev.step (f := fun k => spec_l02Turns.l1 k acc pre.length 0 s.f0 s.f1 s.f2 s.f3 l) (fun k => ?_) ?_
      · rw [spec_l02Turns.l0, if_pos (by omega)]
      · have := turnsRing_ev l s pre c rest (acc ++ turnsL (c :: rest)) e hcc hl c.f0.toNat acc (by omega) (by omega) ?_
        · have e6 : c.f0 - (c.f0.toNat : Int) = 0 := by omega
          rw [e6] at this
          exact this
        · have := ih (pre ++ [c]) (acc ++ List.replicate c.f0.toNat ⟨1, c.f1, c.f2⟩) (by simp [e]) (by simp; omega)
          have et : turnsL (c :: rest) = List.replicate c.f0.toNat ⟨1, c.f1, c.f2⟩ ++ turnsL rest := rfl
          rw [et, ← List.append_assoc]
          simpa using this
  have := key l [] [] rfl (by simp; omega)
  simpa [spec_l02Turns.f] using this
theorem specPosesL_ev (ts : List Cu) (hts : ts.length ≤ 1000) : ∀ (rest pre : List Cu) (ps : List Po) (p : Po), ts = pre ++ rest → ps.length = pre.length → okPose p = true → (∀ q ∈ posesL p rest, okPose q = true) → (∀ c ∈ rest, okTurn c.f1 c.f2 = true) →
    Ev (fun k => spec_l02Poses.l0 k (ps ++ [p]) ts pre.length) (ps ++ [p] ++ posesL p rest) := by
  intro rest
  induction rest with
  | nil =>
    intro pre ps p e hl hp hq ht
    refine Ev.step (fun k => ?_) (Ev.now _)
    rw [spec_l02Poses.l0, if_neg (by rw [e]; simp)]
    simp [posesL]
  | cons c rest ih =>
    intro pre ps p e hl hp hq ht
    have hlen : ts.length = pre.length + (rest.length + 1) := by rw [e]; simp
    have e1 : rd_T69 ts (pre.length : Int) = c := by rw [e]; exact rdC_mid _ _ _
    have e2 : rd_T28 (ps ++ [p]) (pre.length : Int) = p := by rw [← hl]; exact rdP_mid ps p []
    have htc := ht c (by simp)
    have hn : okPose (nxt p c.f1 c.f2) = true := hq _ (by simp [posesL])
    refine Ev.step (f := fun k => spec_l02Poses.l0 k (ps ++ [p] ++ [nxt p c.f1 c.f2]) ts ((pre.length : Int) + 1)) (fun k => ?_) ?_
    · rw [spec_l02Poses.l0, if_pos (by omega), if_pos (by omega), if_pos (by simp; omega), e2, e1, specNext_eq p _ _ hp htc]
      simp only [Option.bind_some]
      rw [if_pos (by simp; omega), w64 (by omega) (by omega)]
    · have := ih (pre ++ [c]) (ps ++ [p]) (nxt p c.f1 c.f2) (by simp [e]) (by simp [hl]) hn (fun q hq' => hq q (by simp [posesL, hq'])) (fun d hd => ht d (by simp [hd]))
      simpa [posesL] using this
theorem specPoses_ev {s : Po} {l : List Cu} {ps : List Po} (h : axV s l = some ps) : Ev (fun k => spec_l02Poses.f k s.f0 s.f1 s.f2 s.f3 l) ps := by
  obtain ⟨h1, h2, h3, h4, h5, h6, _, h7, h8⟩ := axV_spec h
  have ht := specTurns_ev s l (by omega) (fun c hc => by have := h8 c hc; omega)
  have hp := specPosesL_ev (turnsL l) (by omega) (turnsL l) [] [] s rfl rfl h1 (fun q hq => h7 q (by rw [h4]; simp [hq])) (fun c hc => (turns_spec l (fun d hd => (h8 d hd).2.2) c hc).2)
  unfold spec_l02Poses.f
  refine Ev.bind ht ?_
  rw [h4]
  simpa using hp
theorem specRings_ev {s : Po} {l : List Cu} {ps : List Po} (h : axV s l = some ps) : Ev (fun k => spec_l02Rings.f k s.f0 s.f1 s.f2 s.f3 l) ((ps.length : Int) - 1) := by
  obtain ⟨h1, h2, h3, h4, h5, h6, _, h7, h8⟩ := axV_spec h
  have ht := specTurns_ev s l (by omega) (fun c hc => by have := h8 c hc; omega)
  unfold spec_l02Rings.f
  refine Ev.bind ht ?_
  have : (ps.length : Int) - 1 = ((turnsL l).length : Int) := by omega
  rw [this]
  exact Ev.now _
end Go.Proofs.Ytkmnllcccgnliaa.K
