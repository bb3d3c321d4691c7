/- The program's BestKey answers what the reference's does, for all arguments: the plain statement. No condition beyond the row's own bounds. -/
import Derived.Test.YtncdmooobfomeaaOutlook
import Derived.Test.YtncdmooobfomeaaPuFnExactBestKey
import Derived.Test.YtncdmooobfomeaaGy13
import Derived.Test.YtncdmooobfomeaaGy6
namespace Go.Proofs.Ytncdmooobfomeaa.Pure
open Go.RowKit Go.Proofs.Ytncdmooobfomeaa.G Go.Proofs.Ytncdmooobfomeaa.K Go.Proofs.YtncdmooobfomeaaW.PrintWords Go.Proofs.YtncdmooobfomeaaW.PrintLast
set_option linter.unusedSimpArgs false

/-- The best key so far and its outlook, -1 as long as there is none. -/
def bestV (m : Mac) : Nat → Int → Int → Int → Int × Int
  | 0, _, x, y => (x, y)
  | d + 1, i, x, y => if (outV m i).2 = true ∧ (outV m i).1 > y then bestV m d (i + 1) i (outV m i).1 else bestV m d (i + 1) x y
def endV (p : Int × Int) : Int × Bool := (p.1, decide (p.2 ≥ 0))
theorem specBest_ev (m : Mac) : ∀ (d : Nat) (i x y : Int), 0 ≤ i → i + d = 16 → Ev (fun k => spec_BestKey.l0 k x y i m.a m.b m.c m.d m.e m.f m.g m.h m.i) (endV (bestV m d i x y)) := by
  intro d
  induction d with
  | zero =>
    intro i x y h0 h
    refine Ev.step (f := fun _ => some (x, decide (y ≥ 0))) (fun k => ?_) (Ev.now _)
    rw [spec_BestKey.l0, if_neg (by omega)]
  | succ d ih =>
    intro i x y h0 h
    have ew : wrap64 (i + 1) = i + 1 := w64 (by omega) (by omega)
    refine Ev.step (f := fun k => (spec_l04Outlook.f k m.a m.b m.c m.d m.e m.f m.g m.h m.i i).bind fun b => if b.2 = true then (if b.1 > y then spec_BestKey.l0 k i b.1 (i + 1) m.a m.b m.c m.d m.e m.f m.g m.h m.i else spec_BestKey.l0 k x y (i + 1) m.a m.b m.c m.d m.e m.f m.g m.h m.i) else spec_BestKey.l0 k x y (i + 1) m.a m.b m.c m.d m.e m.f m.g m.h m.i) (fun k => ?_) ?_
    · rw [spec_BestKey.l0, if_pos (by omega), ew]
    · refine Ev.bind (specOut_ev m i) ?_
      simp only [bestV]
      by_cases h1 : (outV m i).2 = true
      · refine ite_ev_pos h1 ?_
        by_cases h2 : (outV m i).1 > y
        · rw [if_pos ⟨h1, h2⟩]
          exact ite_ev_pos h2 (ih (i + 1) i _ (by omega) (by omega))
        · rw [if_neg (fun h => h2 h.2)]
          exact ite_ev_neg h2 (ih (i + 1) x y (by omega) (by omega))
      · rw [if_neg (fun h => h1 h.1)]
        exact ite_ev_neg h1 (ih (i + 1) x y (by omega) (by omega))
/-- The program keeps -1 as the key as long as there is none, and 0 as its outlook. -/
theorem implBest_ev (m : Mac) (ho : okM m = true) : ∀ (d : Nat) (i x y x' y' : Int), 0 ≤ i → i + d = 16 → ((x' = -1 ∧ y' = 0 ∧ x = 0 ∧ y = -1) ∨ (0 ≤ x ∧ 0 ≤ y ∧ x' = x ∧ y' = y)) →
    Ev (fun k => impl_BestKey.l0 k x' y' i m.a m.b m.c m.d m.e m.f m.g m.h m.i) (endV (bestV m d i x y)) := by
  intro d
  induction d with
  | zero =>
    intro i x y x' y' h0 h hr
    refine Ev.step (f := fun _ => some (x, decide (y ≥ 0))) (fun k => ?_) (Ev.now _)
    rw [impl_BestKey.l0, if_neg (by omega)]
    rcases hr with ⟨rfl, rfl, rfl, rfl⟩ | ⟨a1, a2, rfl, rfl⟩
    · rw [if_pos (by omega)]; rfl
    · rw [if_neg (by omega)]
      have : decide (y' ≥ 0) = true := by simp; omega
      rw [this]
  | succ d ih =>
    intro i x y x' y' h0 h hr
    have ew : wrap64 (i + 1) = i + 1 := w64 (by omega) (by omega)
    refine Ev.step (f := fun k => (impl_OutlookOf.f k m.a m.b m.c m.d m.e m.f m.g m.h m.i i).bind fun b => if b.2 = true then (if x' < 0 then impl_BestKey.l0 k i b.1 (i + 1) m.a m.b m.c m.d m.e m.f m.g m.h m.i else if b.1 > y' then impl_BestKey.l0 k i b.1 (i + 1) m.a m.b m.c m.d m.e m.f m.g m.h m.i else impl_BestKey.l0 k x' y' (i + 1) m.a m.b m.c m.d m.e m.f m.g m.h m.i) else impl_BestKey.l0 k x' y' (i + 1) m.a m.b m.c m.d m.e m.f m.g m.h m.i) (fun k => ?_) ?_
    · rw [impl_BestKey.l0, if_pos (by omega), ew]
    · refine Ev.bind (implOut_ev m i) ?_
      rw [if_pos ho]
      simp only [bestV]
      by_cases h1 : (outV m i).2 = true
      · have hn := outV_nonneg m i h1
        refine ite_ev_pos h1 ?_
        rcases hr with ⟨rfl, rfl, rfl, rfl⟩ | ⟨a1, a2, rfl, rfl⟩
        · rw [if_pos ⟨h1, by omega⟩]
          exact ite_ev_pos (by omega) (ih (i + 1) i _ _ _ (by omega) (by omega) (.inr ⟨h0, hn, rfl, rfl⟩))
        · refine ite_ev_neg (by omega) ?_
          by_cases h2 : (outV m i).1 > y'
          · rw [if_pos ⟨h1, h2⟩]
            exact ite_ev_pos h2 (ih (i + 1) i _ _ _ (by omega) (by omega) (.inr ⟨h0, hn, rfl, rfl⟩))
          · rw [if_neg (fun h => h2 h.2)]
            exact ite_ev_neg h2 (ih (i + 1) _ _ _ _ (by omega) (by omega) (.inr ⟨a1, a2, rfl, rfl⟩))
      · rw [if_neg (fun h => h1 h.1)]
        exact ite_ev_neg h1 (ih (i + 1) x y x' y' (by omega) (by omega) hr)
theorem implBad_ev (m : Mac) (ho : ¬ okM m = true) : ∀ (d : Nat) (i : Int), 0 ≤ i → i + d = 16 → Ev (fun k => impl_BestKey.l0 k (-1) 0 i m.a m.b m.c m.d m.e m.f m.g m.h m.i) (0, false) := by
  intro d
  induction d with
  | zero =>
    intro i h0 h
    refine Ev.step (f := fun _ => some (0, false)) (fun k => ?_) (Ev.now _)
    rw [impl_BestKey.l0, if_neg (by omega), if_pos (by omega)]
  | succ d ih =>
    intro i h0 h
    have ew : wrap64 (i + 1) = i + 1 := w64 (by omega) (by omega)
    refine Ev.step (f := fun k => (impl_OutlookOf.f k m.a m.b m.c m.d m.e m.f m.g m.h m.i i).bind fun b => if b.2 = true then (if (-1 : Int) < 0 then impl_BestKey.l0 k i b.1 (i + 1) m.a m.b m.c m.d m.e m.f m.g m.h m.i else if b.1 > 0 then impl_BestKey.l0 k i b.1 (i + 1) m.a m.b m.c m.d m.e m.f m.g m.h m.i else impl_BestKey.l0 k (-1) 0 (i + 1) m.a m.b m.c m.d m.e m.f m.g m.h m.i) else impl_BestKey.l0 k (-1) 0 (i + 1) m.a m.b m.c m.d m.e m.f m.g m.h m.i) (fun k => ?_) ?_
    · rw [impl_BestKey.l0, if_pos (by omega), ew]
    · refine Ev.bind (implOut_ev m i) ?_
      rw [if_neg ho]
      exact ite_ev_neg (by simp) (ih (i + 1) (by omega) (by omega))
def bestKeyV (m : Mac) : Int × Bool := if okM m then endV (bestV m 16 0 0 (-1)) else (0, false)
theorem specBestKey_ev (m : Mac) : Ev (fun k => spec_BestKey.f k m.a m.b m.c m.d m.e m.f m.g m.h m.i) (bestKeyV m) := by
  unfold spec_BestKey.f bestKeyV
  refine Ev.bind (specIs_ev m) ?_
  by_cases ho : okM m = true
  · rw [if_pos ho]
    exact ite_ev_pos ho (specBest_ev m 16 0 0 (-1) (by omega) (by omega))
  · rw [if_neg ho]
    exact ite_ev_neg ho (Ev.now _)
theorem implBestKey_ev (m : Mac) : Ev (fun k => impl_BestKey.f k m.a m.b m.c m.d m.e m.f m.g m.h m.i) (bestKeyV m) := by
  unfold impl_BestKey.f bestKeyV
  by_cases ho : okM m = true
  · rw [if_pos ho]
    exact implBest_ev m ho 16 0 0 (-1) (-1) 0 (by omega) (by omega) (.inl ⟨rfl, rfl, rfl, rfl⟩)
  · rw [if_neg ho]
    exact implBad_ev m ho 16 0 (by omega) (by omega)
theorem FnExactBestKey : laws_FnExactBestKey.Pure := by
  intro a b c d e f g h i _ _ _ _ _ _ _ _ _
  refine Ev.rounds (g := fun k => laws_FnExactBestKey.f k a b c d e f g h i) ?_
  unfold laws_FnExactBestKey.f
  refine Ev.bind (a := (a, b, c, d, e, f, g, h, i)) (Ev.now _) ?_
  refine Ev.bind (specBestKey_ev ⟨a, b, c, d, e, f, g, h, i⟩) ?_
  refine Ev.bind (a := (a, b, c, d, e, f, g, h, i)) (Ev.now _) ?_
  refine Ev.bind (implBestKey_ev ⟨a, b, c, d, e, f, g, h, i⟩) ?_
  simp only [if_true, bne_self_eq_false, Bool.false_eq_true, if_false]
  exact Ev.now _
end Go.Proofs.Ytncdmooobfomeaa.Pure
