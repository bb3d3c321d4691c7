/- What LowPoints answers, in the program and in the reference. -/
import Derived.Test.YtkmnllcccgnliaaAxis
import Derived.Test.YtkmnllcccgnliaaEvKit
import Derived.Test.YtkmnllcccgnliaaGy17
namespace Go.Proofs.Ytkmnllcccgnliaa.K
open Go.RowKit Go.Proofs.Ytkmnllcccgnliaa.G Go.Proofs.YtkmnllcccgnliaaW.PrintWords Go.Proofs.YtkmnllcccgnliaaW.PrintLast Go.Proofs.YtkmnllcccgnliaaW.PrintMore
set_option linter.unusedVariables false
set_option linter.unusedSimpArgs false

/-- The first place from j on, within d places, where y is not v. -/
def nx (y : Nat → Int) (v : Int) : Nat → Nat → Nat
  | 0, j => j
  | d + 1, j => if y j = v then nx y v d (j + 1) else j
theorem nx_le (y : Nat → Int) (v : Int) : ∀ d j, j ≤ nx y v d j ∧ nx y v d j ≤ j + d ∧ (∀ t, j ≤ t → t < nx y v d j → y t = v) := by
  intro d
  induction d with
  | zero => intro j; exact ⟨Nat.le_refl _, by simp [nx], fun t h1 h2 => by simp only [nx] at h2; omega⟩
  | succ d ih =>
    intro j
    obtain ⟨h1, h2, h3⟩ := ih (j + 1)
    simp only [nx]
    split
    · rename_i h
      refine ⟨by omega, by omega, fun t a b => ?_⟩
      by_cases e : t = j
      · rw [e]; exact h
      · exact h3 t (by omega) b
    · exact ⟨Nat.le_refl _, by omega, fun t a b => by omega⟩
def lowAt (y : Nat → Int) (n i j : Nat) : Bool := decide (0 < i) && decide (y (i - 1) > y i) && decide (j < n) && decide (y j > y i)
theorem lowAt_ge {y : Nat → Int} {n i j : Nat} (h : n ≤ j) : lowAt y n i j = false := by
  have : ¬ j < n := by omega
  simp [lowAt, this]
def low (y : Nat → Int) (n i : Nat) : Bool := lowAt y n i (nx y (y i) (n - i) i)
def lowL (y : Nat → Int) (n : Nat) : Nat → Nat → List Int
  | 0, _ => []
  | d + 1, i => (if low y n i then [(i : Int)] else []) ++ lowL y n d (i + 1)
theorem lowL_length (y : Nat → Int) (n : Nat) : ∀ d i, (lowL y n d i).length ≤ d := by
  intro d
  induction d with
  | zero => intro i; simp [lowL]
  | succ d ih =>
    intro i
    have := ih (i + 1)
    simp only [lowL, List.length_append]
    split <;> simp <;> omega
theorem lowL_skip (y : Nat → Int) (n : Nat) : ∀ (e i : Nat), i + e ≤ n → (∀ t, i ≤ t → t < i + e → low y n t = false) → lowL y n (n - i) i = lowL y n (n - (i + e)) (i + e) := by
  intro e
  induction e with
  | zero => intro i _ _; rfl
  | succ e ih =>
    intro i h hs
    have h1 := ih (i + 1) (by omega) (fun t a b => hs t (by omega) (by omega))
    obtain ⟨d, hd⟩ : ∃ d, n - i = d + 1 := ⟨n - i - 1, by omega⟩
    have h2 : n - (i + 1) = d := by omega
    rw [hd, lowL, hs i (by omega) (by omega), ← h2, h1]
    have : i + 1 + e = i + (e + 1) := by omega
    rw [this]; rfl
def yOf (ps : List Po) : Nat → Int := fun i => (rd_T28 ps (i : Int)).f1

theorem specLowIn_ev (ps : List Po) (i : Nat) (acc : List Int) (R : List Int × Bool) (hn : ps.length ≤ 1000) (hi : 1 ≤ i) (hi' : i < ps.length) (ha : acc.length ≤ 10000) :
    ∀ e j, j + e = ps.length → i ≤ j → Ev (fun k => spec_LowPoints.l0 k ps (if lowAt (yOf ps) ps.length i (nx (yOf ps) (yOf ps i) e j) then acc ++ [(i : Int)] else acc) ((i : Int) + 1)) R →
    Ev (fun k => spec_LowPoints.l1 k ps acc i j) R := by
  intro e
  induction e with
  | zero =>
    intro j hj hij h
    have hb : lowAt (yOf ps) ps.length i (nx (yOf ps) (yOf ps i) 0 j) = false := by
      exact lowAt_ge (by simp only [nx]; omega)
    rw [hb] at h
    refine Ev.step (fun k => ?_) h
    rw [spec_LowPoints.l1, if_neg (by omega), w64 (by omega) (by omega)]; rfl
  | succ e ih =>
    intro j hj hij h
    have ei : ((i : Int) - 1) = ((i - 1 : Nat) : Int) := by omega
    by_cases hv : yOf ps j = yOf ps i
    · have h' := ih (j + 1) (by omega) (by omega) (by simpa only [nx, hv, if_true] using h)
      refine Ev.step (fun k => ?_) h'
      rw [spec_LowPoints.l1, if_pos (by omega), if_pos (by omega), if_pos (by omega), if_pos (by omega), if_pos (c := (rd_T28 ps (j : Int)).f1 = (rd_T28 ps (i : Int)).f1) hv, w64 (by omega) (by omega)]; rfl
    · simp only [nx, hv, if_false] at h
      refine Ev.step (fun k => ?_) h
      rw [spec_LowPoints.l1, if_pos (by omega), if_pos (by omega), if_pos (by omega), if_pos (by omega), if_neg (c := (rd_T28 ps (j : Int)).f1 = (rd_T28 ps (i : Int)).f1) hv, w64 (i := (i : Int) - 1) (by omega) (by omega), if_pos (by omega), if_pos (by omega), w64 (by omega) (by omega), ei]
      have hd : (lowAt (yOf ps) ps.length i j = true) ↔ (yOf ps (i - 1) > yOf ps i ∧ yOf ps j > yOf ps i) := by
        simp only [lowAt, Bool.and_eq_true, decide_eq_true_eq]
        constructor
        · rintro ⟨⟨⟨_, b⟩, _⟩, d⟩; exact ⟨b, d⟩
        · rintro ⟨b, d⟩; exact ⟨⟨⟨by omega, b⟩, by omega⟩, d⟩
      by_cases h1 : yOf ps (i - 1) > yOf ps i
      · rw [if_pos (c := (rd_T28 ps ((i - 1 : Nat) : Int)).f1 > (rd_T28 ps (i : Int)).f1) h1]
        by_cases h2 : yOf ps j > yOf ps i
        · rw [if_pos (c := (rd_T28 ps (j : Int)).f1 > (rd_T28 ps (i : Int)).f1) h2, if_pos (by omega), if_pos (hd.2 ⟨h1, h2⟩)]
        · rw [if_neg (c := (rd_T28 ps (j : Int)).f1 > (rd_T28 ps (i : Int)).f1) h2, if_neg (fun h => h2 (hd.1 h).2)]
      · rw [if_neg (c := (rd_T28 ps ((i - 1 : Nat) : Int)).f1 > (rd_T28 ps (i : Int)).f1) h1, if_neg (fun h => h1 (hd.1 h).1)]
theorem specLowOut_ev (ps : List Po) (hn : ps.length ≤ 1000) : ∀ d i (acc : List Int), i + d = ps.length → 1 ≤ i → acc.length ≤ i →
    Ev (fun k => spec_LowPoints.l0 k ps acc i) (acc ++ lowL (yOf ps) ps.length d i, true) := by
  intro d
  induction d with
  | zero =>
    intro i acc hd hi ha
    refine Ev.step (fun k => ?_) (Ev.now _)
    rw [spec_LowPoints.l0, if_neg (by rw [w64 (by omega) (by omega)]; omega)]
    simp [lowL]
  | succ d ih =>
    intro i acc hd hi ha
    by_cases hl : d = 0
    · subst hl
      have hb : low (yOf ps) ps.length i = false := by
        have e1 : ps.length - i = 1 := by omega
        rw [low, e1]
        exact lowAt_ge (by simp [nx]; omega)
      refine Ev.step (fun k => ?_) (Ev.now _)
      rw [spec_LowPoints.l0, if_neg (by rw [w64 (by omega) (by omega)]; omega)]
      simp [lowL, hb]
    · refine Ev.step (f := fun k => spec_LowPoints.l1 k ps acc i i) (fun k => ?_) ?_
      · rw [spec_LowPoints.l0, if_pos (by rw [w64 (by omega) (by omega)]; omega)]
      · refine specLowIn_ev ps i acc _ hn hi (by omega) (by omega) (d + 1) i (by omega) (Nat.le_refl _) ?_
        have e1 : ps.length - i = d + 1 := by omega
        have hlow : lowAt (yOf ps) ps.length i (nx (yOf ps) (yOf ps i) (d + 1) i) = low (yOf ps) ps.length i := by rw [low, e1]
        rw [hlow]
        have := ih (i + 1) (if low (yOf ps) ps.length i = true then acc ++ [(i : Int)] else acc) (by omega) (by omega) (by split <;> (try rw [List.length_append, List.length_singleton]) <;> omega)
        simp only [lowL]
        have e2 : (acc ++ ((if low (yOf ps) ps.length i = true then [(i : Int)] else []) ++ lowL (yOf ps) ps.length d (i + 1))) = ((if low (yOf ps) ps.length i = true then acc ++ [(i : Int)] else acc) ++ lowL (yOf ps) ps.length d (i + 1)) := by
          split <;> simp
        rw [e2]
        simpa using this
theorem implLowIn_ev (ps : List Po) (i : Nat) (acc : List Int) (R : List Int × Bool) (hn : ps.length ≤ 1000) (hi' : i < ps.length) (ha : acc.length ≤ 10000) :
    ∀ e j, j + e = ps.length → i ≤ j → Ev (fun k => impl_LowPoints.l0 k ps (if lowAt (yOf ps) ps.length i (nx (yOf ps) (yOf ps i) e j) then acc ++ [(i : Int)] else acc) (nx (yOf ps) (yOf ps i) e j : Nat)) R →
    Ev (fun k => impl_LowPoints.l1 k ps acc i j) R := by
  intro e
  induction e with
  | zero =>
    intro j hj hij h
    have hb : lowAt (yOf ps) ps.length i (nx (yOf ps) (yOf ps i) 0 j) = false := by
      exact lowAt_ge (by simp only [nx]; omega)
    rw [hb] at h
    simp only [nx, Bool.false_eq_true, if_false] at h
    refine Ev.step (fun k => ?_) h
    rw [impl_LowPoints.l1, if_neg (by omega)]
    split <;> rfl
  | succ e ih =>
    intro j hj hij h
    have ei : 0 < i → ((i : Int) - 1) = ((i - 1 : Nat) : Int) := by omega
    by_cases hv : yOf ps j = yOf ps i
    · have h' := ih (j + 1) (by omega) (by omega) (by simpa only [nx, hv, if_true] using h)
      refine Ev.step (fun k => ?_) h'
      rw [impl_LowPoints.l1, if_pos (by omega), if_pos (by omega), if_pos (by omega), if_pos (by omega), if_pos (c := (rd_T28 ps (j : Int)).f1 = (rd_T28 ps (i : Int)).f1) hv, w64 (by omega) (by omega)]; rfl
    · simp only [nx, hv, if_false] at h
      refine Ev.step (fun k => ?_) h
      have hd : (lowAt (yOf ps) ps.length i j = true) ↔ (0 < i ∧ yOf ps (i - 1) > yOf ps i ∧ yOf ps j > yOf ps i) := by
        simp only [lowAt, Bool.and_eq_true, decide_eq_true_eq]
        constructor
        · rintro ⟨⟨⟨a, b⟩, _⟩, d⟩; exact ⟨a, b, d⟩
        · rintro ⟨a, b, d⟩; exact ⟨⟨⟨a, b⟩, by omega⟩, d⟩
      rw [impl_LowPoints.l1, if_pos (by omega), if_pos (by omega), if_pos (by omega), if_pos (by omega), if_neg (c := (rd_T28 ps (j : Int)).f1 = (rd_T28 ps (i : Int)).f1) hv]
      by_cases h0 : 0 < i
      · rw [if_pos (by omega), w64 (i := (i : Int) - 1) (by omega) (by omega), if_pos (by omega), if_pos (by omega), ei h0]
        by_cases h1 : yOf ps (i - 1) > yOf ps i
        · rw [if_pos (c := (rd_T28 ps ((i - 1 : Nat) : Int)).f1 > (rd_T28 ps (i : Int)).f1) h1]
          by_cases h2 : yOf ps j > yOf ps i
          · rw [if_pos (c := (rd_T28 ps (j : Int)).f1 > (rd_T28 ps (i : Int)).f1) h2, if_pos (by omega), if_pos (hd.2 ⟨h0, h1, h2⟩)]
          · rw [if_neg (c := (rd_T28 ps (j : Int)).f1 > (rd_T28 ps (i : Int)).f1) h2, if_neg (fun h => h2 (hd.1 h).2.2)]
        · rw [if_neg (c := (rd_T28 ps ((i - 1 : Nat) : Int)).f1 > (rd_T28 ps (i : Int)).f1) h1, if_neg (fun h => h1 (hd.1 h).2.1)]
      · rw [if_neg (by omega), if_neg (fun h => h0 (hd.1 h).1)]
theorem implLowOut_ev (ps : List Po) (hn : ps.length ≤ 1000) : ∀ d i (acc : List Int), i ≤ ps.length → ps.length - i ≤ d → acc.length ≤ i →
    Ev (fun k => impl_LowPoints.l0 k ps acc i) (acc ++ lowL (yOf ps) ps.length (ps.length - i) i, true) := by
  intro d
  induction d with
  | zero =>
    intro i acc hi hd ha
    refine Ev.step (fun k => ?_) (Ev.now _)
    have e : ps.length - i = 0 := by omega
    rw [impl_LowPoints.l0, if_neg (by omega), e]
    simp [lowL]
  | succ d ih =>
    intro i acc hi hd ha
    by_cases hl : i = ps.length
    · refine Ev.step (fun k => ?_) (Ev.now _)
      have e : ps.length - i = 0 := by omega
      rw [impl_LowPoints.l0, if_neg (by omega), e]
      simp [lowL]
    · obtain ⟨m, hm⟩ : ∃ m, ps.length - i = m + 1 := ⟨ps.length - i - 1, by omega⟩
      refine Ev.step (f := fun k => impl_LowPoints.l1 k ps acc i i) (fun k => ?_) ?_
      · rw [impl_LowPoints.l0, if_pos (by omega)]
      · refine implLowIn_ev ps i acc _ hn (by omega) (by omega) (m + 1) i (by omega) (Nat.le_refl _) ?_
        have hlow : lowAt (yOf ps) ps.length i (nx (yOf ps) (yOf ps i) (m + 1) i) = low (yOf ps) ps.length i := by rw [low, hm]
        obtain ⟨n1, n2, n3⟩ := nx_le (yOf ps) (yOf ps i) m (i + 1)
        have hnx : nx (yOf ps) (yOf ps i) (m + 1) i = nx (yOf ps) (yOf ps i) m (i + 1) := by simp [nx]
        rw [hlow, hnx]
        have := ih (nx (yOf ps) (yOf ps i) m (i + 1)) (if low (yOf ps) ps.length i = true then acc ++ [(i : Int)] else acc) (by omega) (by omega) (by split <;> (try rw [List.length_append, List.length_singleton]) <;> omega)
        have hsk := lowL_skip (yOf ps) ps.length (nx (yOf ps) (yOf ps i) m (i + 1) - (i + 1)) (i + 1) (by omega) (fun t a b => by
          have e1 : yOf ps (t - 1) = yOf ps t := by
            have e2 : yOf ps t = yOf ps i := n3 t a (by omega)
            by_cases e : t = i + 1
            · rw [e2, e]; rfl
            · rw [e2, n3 (t - 1) (by omega) (by omega)]
          simp only [low, lowAt, e1]
          simp)
        have e3 : i + 1 + (nx (yOf ps) (yOf ps i) m (i + 1) - (i + 1)) = nx (yOf ps) (yOf ps i) m (i + 1) := by omega
        have e4 : ps.length - (i + 1) = m := by omega
        rw [e3, e4] at hsk
        rw [hm, lowL, hsk]
        have e2 : ∀ L : List Int, (acc ++ ((if low (yOf ps) ps.length i = true then [(i : Int)] else []) ++ L)) = ((if low (yOf ps) ps.length i = true then acc ++ [(i : Int)] else acc) ++ L) := by
          intro L; split <;> simp
        rw [e2]
        exact this
def lowV (s : Po) (l : List Cu) : List Int × Bool := match axV s l with | some ps => (lowL (yOf ps) ps.length (ps.length - 1) 1, true) | none => ([], false)
theorem lowV_length (s : Po) (l : List Cu) : (lowV s l).1.length ≤ 61 := by
  unfold lowV
  cases e : axV s l with
  | none => simp
  | some ps =>
    have h6 := (axV_spec e).2.2.2.2.2.1
    have := lowL_length (yOf ps) ps.length (ps.length - 1) 1
    simp only; omega
theorem specLow_ev (s : Po) (l : List Cu) : Ev (fun k => spec_LowPoints.f k s.f0 s.f1 s.f2 s.f3 l) (lowV s l) := by
  unfold spec_LowPoints.f lowV
  refine Ev.bind (specIs_ev s l) ?_
  cases e : axV s l with
  | none => exact Ev.now _
  | some ps =>
    obtain ⟨h1, h2, h3, h4, h5, h6, h9, h7, h8⟩ := axV_spec e
    simp only [Option.isSome_some, if_true]
    refine Ev.bind (specPoses_ev e) ?_
    simpa using specLowOut_ev ps (by omega) (ps.length - 1) 1 [] (by omega) (by omega) (by simp)
theorem implLow_ev (s : Po) (l : List Cu) : Ev (fun k => impl_LowPoints.f k s.f0 s.f1 s.f2 s.f3 l) (lowV s l) := by
  unfold impl_LowPoints.f lowV
  refine Ev.bind (implPoses_ev s l) ?_
  cases e : axV s l with
  | none => exact Ev.now _
  | some ps =>
    obtain ⟨h1, h2, h3, h4, h5, h6, h9, h7, h8⟩ := axV_spec e
    simp only [if_true]
    have := implLowOut_ev ps (by omega) ps.length 0 [] (by omega) (by omega) (by simp)
    have e1 := lowL_skip (yOf ps) ps.length 1 0 (by omega) (fun t a b => by
      have : t = 0 := by omega
      subst this
      simp [low, lowAt])
    rw [e1] at this
    simpa using this
end Go.Proofs.Ytkmnllcccgnliaa.K
