/- What the program's and the reference's functions on machines answer, in plain words. -/
import Derived.Test.YtncdmooobfomeaaWithin
import Derived.Test.YtncdmooobfomeaaEvKit
import Derived.Test.YtncdmooobfomeaaGy0
import Derived.Test.YtncdmooobfomeaaGy1
import Derived.Test.YtncdmooobfomeaaGy2
import Derived.Test.YtncdmooobfomeaaGy3
import Derived.Test.YtncdmooobfomeaaGy4
import Derived.Test.YtncdmooobfomeaaGy5
import Derived.Test.YtncdmooobfomeaaGy6
import Derived.Test.YtncdmooobfomeaaGy7
import Derived.Test.YtncdmooobfomeaaGy8
namespace Go.Proofs.Ytncdmooobfomeaa.K
open Go.RowKit Go.Proofs.Ytncdmooobfomeaa.G Go.Proofs.YtncdmooobfomeaaW.PrintWords Go.Proofs.YtncdmooobfomeaaW.PrintLast Go.Proofs.YtncdmooobfomeaaW.PrintMore
set_option linter.unusedVariables false
set_option linter.unusedSimpArgs false

structure Mac where (a b c d e f g h i : Int)
def okP (a b c d : Int) : Bool := inR (-100000) 100000 a && inR (-100000) 100000 b && (inR (-400) 400 c && inR (-400) 400 d)
theorem okP_iff {a b c d : Int} : okP a b c d = true ↔ (-100000 ≤ a ∧ a ≤ 100000) ∧ (-100000 ≤ b ∧ b ≤ 100000) ∧ (-400 ≤ c ∧ c ≤ 400) ∧ (-400 ≤ d ∧ d ≤ 400) := by
  simp only [okP, Bool.and_eq_true, inR_iff, and_assoc]
theorem specPose_eq (a b c d : Int) : spec_l02Pose.f a b c d = some (okP a b c d) := by
  unfold spec_l02Pose.f okP
  simp only [l00In_eq, Option.bind_some]
  cases inR (-100000) 100000 a <;> cases inR (-100000) 100000 b <;> cases inR (-400) 400 c <;> simp
theorem validPose_eq (a b c d : Int) : impl_ValidPose.f a b c d = some (okP a b c d) := by
  unfold impl_ValidPose.f okP
  simp only [areWithin_eq, Option.bind_some, allIn, List.all_cons, List.all_nil, Bool.and_true]
  show (if (inR (-100000) 100000 a && inR (-100000) 100000 b) = true then some (inR (-400) 400 c && inR (-400) 400 d) else some false) = _
  cases inR (-100000) 100000 a <;> cases inR (-100000) 100000 b <;> simp
def offV (x y z : Int) : Int := wrap64 (wrap64 (x - y) + wrap64 (2 * z))
def gapsV (m : Mac) : List Int := [wrap64 (40 - offV m.e m.a m.c), wrap64 (40 - offV m.f m.b m.d), wrap64 (40 + offV m.e m.a m.c), wrap64 (40 + offV m.f m.b m.d)]
def strV (m : Mac) : List Int := [wrap64 (m.i - wrap64 (2 * wrap64 (m.c - m.g))), wrap64 (m.i - wrap64 (2 * wrap64 (m.d - m.h))), wrap64 (m.i + wrap64 (2 * wrap64 (m.c - m.g))), wrap64 (m.i + wrap64 (2 * wrap64 (m.d - m.h)))]
theorem specGaps_eq (m : Mac) : spec_l04Gaps.f m.a m.b m.c m.d m.e m.f m.g m.h m.i = some (gapsV m) := rfl
theorem implGaps_eq (m : Mac) : impl_Machine_gaps.f m.a m.b m.c m.d m.e m.f m.g m.h m.i = some (gapsV m) := rfl
theorem implStr_eq (m : Mac) : impl_Machine_strokes.f m.a m.b m.c m.d m.e m.f m.g m.h m.i = some (strV m) := rfl
theorem tdiv2 (x : Int) : Int.tdiv (4 * x) 2 = 2 * x := by
  have : 4 * x = 2 * (2 * x) := by omega
  rw [this, Int.mul_tdiv_cancel_left _ (by decide)]
theorem specStr_eq (m : Mac) (h1 : okP m.a m.b m.c m.d = true) (h2 : okP m.e m.f m.g m.h = true) : spec_l04Strokes.f m.a m.b m.c m.d m.e m.f m.g m.h m.i = some (strV m) := by
  rw [okP_iff] at h1 h2
  unfold spec_l04Strokes.f strV
  rw [w64 (i := m.c - m.g) (by omega) (by omega), w64 (i := m.d - m.h) (by omega) (by omega), w64 (i := 4 * (m.c - m.g)) (by omega) (by omega), w64 (i := 4 * (m.d - m.h)) (by omega) (by omega), tdiv2, tdiv2]
def four (G S : List Int) : Bool := (!decide (rd G 0 < 0) && inR 0 2400 (rd S 0)) && ((!decide (rd G 1 < 0) && inR 0 2400 (rd S 1)) && ((!decide (rd G 2 < 0) && inR 0 2400 (rd S 2)) && ((!decide (rd G 3 < 0) && inR 0 2400 (rd S 3)) && true)))
def okM (m : Mac) : Bool := okP m.a m.b m.c m.d && (okP m.e m.f m.g m.h && (inR 0 2400 m.i && four (gapsV m) (strV m)))
theorem fourStep (G S : List Int) (hG : G.length = 4) (hS : S.length = 4) (i : Int) (h0 : 0 ≤ i) (h4 : i < 4) (R : Bool) (h : Ev (fun k => spec_l04Is.l0 k G S (i + 1)) R) :
    Ev (fun k => spec_l04Is.l0 k G S i) ((!decide (rd G i < 0) && inR 0 2400 (rd S i)) && R) := by
  by_cases hg : rd G i < 0
  · have e : ((!decide (rd G i < 0) && inR 0 2400 (rd S i)) && R) = false := by simp [hg]
    rw [e]
    refine Ev.step (f := fun _ => some false) (fun k => ?_) (Ev.now _)
    rw [spec_l04Is.l0, if_pos h4, if_pos h0, if_pos (by omega), if_pos hg]
  · by_cases hs : inR 0 2400 (rd S i) = true
    · have e : ((!decide (rd G i < 0) && inR 0 2400 (rd S i)) && R) = R := by simp [hg, hs]
      rw [e]
      refine Ev.step (fun k => ?_) h
      rw [spec_l04Is.l0, if_pos h4, if_pos h0, if_pos (by omega), if_neg hg, if_pos (by omega), l00In_eq]
      simp only [Option.bind_some]
      rw [if_pos hs, w64 (by omega) (by omega)]
    · have e : ((!decide (rd G i < 0) && inR 0 2400 (rd S i)) && R) = false := by simp [hs]
      rw [e]
      refine Ev.step (f := fun _ => some false) (fun k => ?_) (Ev.now _)
      rw [spec_l04Is.l0, if_pos h4, if_pos h0, if_pos (by omega), if_neg hg, if_pos (by omega), l00In_eq]
      simp only [Option.bind_some]
      rw [if_neg hs]
theorem specIs_ev (m : Mac) : Ev (fun k => spec_l04Is.f k m.a m.b m.c m.d m.e m.f m.g m.h m.i) (okM m) := by
  have hbad : Ev (fun k => spec_l04Is.j0 k true m.a m.b m.c m.d m.e m.f m.g m.h m.i) false := by
    refine Ev.step (f := fun _ => some false) (fun k => ?_) (Ev.now _)
    rw [spec_l04Is.j0, if_pos rfl]
  unfold spec_l04Is.f okM
  rw [specPose_eq, specPose_eq, l00In_eq]
  simp only [Option.bind_some]
  cases h1 : okP m.a m.b m.c m.d with
  | false => simpa using hbad
  | true =>
    cases h2 : okP m.e m.f m.g m.h with
    | false => simpa using hbad
    | true =>
      cases h3 : inR 0 2400 m.i with
      | false => simpa using hbad
      | true =>
        simp only [if_true, Bool.not_true, Bool.true_and]
        refine Ev.step (f := fun k => spec_l04Is.l0 k (gapsV m) (strV m) 0) (fun k => ?_) ?_
        · rw [spec_l04Is.j0, if_neg (by simp), specGaps_eq, specStr_eq m h1 h2]
          simp only [Option.bind_some]
        · have h4 : Ev (fun k => spec_l04Is.l0 k (gapsV m) (strV m) 4) true := by
            refine Ev.step (f := fun _ => some true) (fun k => ?_) (Ev.now _)
            rw [spec_l04Is.l0, if_neg (by omega)]
          have hG : (gapsV m).length = 4 := rfl
          have hS : (strV m).length = 4 := rfl
          exact fourStep _ _ hG hS 0 (by omega) (by omega) _ (fourStep _ _ hG hS 1 (by omega) (by omega) _ (fourStep _ _ hG hS 2 (by omega) (by omega) _ (fourStep _ _ hG hS 3 (by omega) (by omega) _ h4)))
theorem mn_eq' (x y : Int) : mn x y = min x y := by unfold mn; omega
theorem min4 (g0 g1 g2 g3 : Int) : slices_Min_int64_int64.f [g0, g1, g2, g3] = some (min (min (min g0 g1) g2) g3) := by
  unfold slices_Min_int64_int64.f
  rw [if_pos (by simp)]
  simp only [List.drop_succ_cons, List.drop_zero, List.foldl_cons, List.foldl_nil, mn_eq']
  rfl
theorem implValid_eq (m : Mac) : impl_ValidMachine.f m.a m.b m.c m.d m.e m.f m.g m.h m.i = some (okM m) := by
  unfold impl_ValidMachine.f okM
  rw [validPose_eq, validPose_eq, within_eq, implGaps_eq, implStr_eq]
  simp only [Option.bind_some]
  cases okP m.a m.b m.c m.d with
  | false => simp
  | true =>
    cases okP m.e m.f m.g m.h with
    | false => simp
    | true =>
      cases inR 0 2400 m.i with
      | false => simp
      | true =>
        simp only [if_true, Bool.true_and]
        unfold gapsV strV four
        generalize wrap64 (40 - offV m.e m.a m.c) = g0
        generalize wrap64 (40 - offV m.f m.b m.d) = g1
        generalize wrap64 (40 + offV m.e m.a m.c) = g2
        generalize wrap64 (40 + offV m.f m.b m.d) = g3
        generalize wrap64 (m.i - wrap64 (2 * wrap64 (m.c - m.g))) = s0
        generalize wrap64 (m.i - wrap64 (2 * wrap64 (m.d - m.h))) = s1
        generalize wrap64 (m.i + wrap64 (2 * wrap64 (m.c - m.g))) = s2
        generalize wrap64 (m.i + wrap64 (2 * wrap64 (m.d - m.h))) = s3
        rw [min4]
        simp only [Option.bind_some, areWithin_eq]
        have r0 : rd [g0, g1, g2, g3] 0 = g0 := rfl
        have r1 : rd [g0, g1, g2, g3] 1 = g1 := rfl
        have r2 : rd [g0, g1, g2, g3] 2 = g2 := rfl
        have r3 : rd [g0, g1, g2, g3] 3 = g3 := rfl
        have t0 : rd [s0, s1, s2, s3] 0 = s0 := rfl
        have t1 : rd [s0, s1, s2, s3] 1 = s1 := rfl
        have t2 : rd [s0, s1, s2, s3] 2 = s2 := rfl
        have t3 : rd [s0, s1, s2, s3] 3 = s3 := rfl
        rw [r0, r1, r2, r3, t0, t1, t2, t3]
        have ea : allIn 0 2400 [s0, s1, s2, s3] = (inR 0 2400 s0 && (inR 0 2400 s1 && (inR 0 2400 s2 && (inR 0 2400 s3 && true)))) := rfl
        rw [ea]
        by_cases hm : min (min (min g0 g1) g2) g3 ≥ 0
        · have d0 : decide (g0 < 0) = false := by simp; omega
          have d1 : decide (g1 < 0) = false := by simp; omega
          have d2 : decide (g2 < 0) = false := by simp; omega
          have d3 : decide (g3 < 0) = false := by simp; omega
          rw [if_pos hm, d0, d1, d2, d3]
          simp
        · rw [if_neg hm]
          congr 1
          symm
          rw [Bool.eq_false_iff]
          intro h
          simp only [Bool.and_eq_true, Bool.not_eq_true', decide_eq_false_iff_not] at h
          omega
/-- The machine's nine numbers and a Bool, as the printed functions hand them on. -/
def T10 (p : Mac × Bool) : Int × Int × Int × Int × Int × Int × Int × Int × Int × Bool := (p.1.a, p.1.b, p.1.c, p.1.d, p.1.e, p.1.f, p.1.g, p.1.h, p.1.i, p.2)
def z9 : Mac × Bool := (⟨0, 0, 0, 0, 0, 0, 0, 0, 0⟩, false)
def ifOk (m : Mac) : Mac × Bool := if okM m then (m, true) else z9
def turnV (x y : Int) : Int × Int := (impl_Ring_turn.f x y).getD (0, 0)
def ringB (x y : Int) : Bool := inR 0 1 x && inR 0 15 y
theorem turn_eq (x y : Int) (h : ringB x y = true) : spec_l03Turn.f x y = some (turnV x y) ∧ impl_Ring_turn.f x y = some (turnV x y) := by
  simp only [ringB, Bool.and_eq_true, inR_iff] at h
  unfold turnV spec_l03Turn.f impl_Ring_turn.f
  have hx : x = 0 ∨ x = 1 := by omega
  rcases hx with rfl | rfl
  · simp
  · rw [w64 (by omega) (by omega)]
    have hy : y = 0 ∨ y = 1 ∨ y = 2 ∨ y = 3 ∨ y = 4 ∨ y = 5 ∨ y = 6 ∨ y = 7 ∨ y = 8 ∨ y = 9 ∨ y = 10 ∨ y = 11 ∨ y = 12 ∨ y = 13 ∨ y = 14 ∨ y = 15 := by omega
    rcases hy with rfl | rfl | rfl | rfl | rfl | rfl | rfl | rfl | rfl | rfl | rfl | rfl | rfl | rfl | rfl | rfl <;> simp [impl_Ring_turn.tab, rd]
def builtM (m : Mac) (t : Int × Int) : Mac := ⟨m.a, m.b, m.c, m.d, wrap64 (m.e + m.g), wrap64 (m.f + m.h), wrap64 (m.g + t.1), wrap64 (m.h + t.2), wrap64 (m.i - 1500)⟩
def pushedM (m : Mac) (x y : Int) : Mac := ⟨wrap64 (m.a + m.c), wrap64 (m.b + m.d), wrap64 (m.c + x), wrap64 (m.d + y), m.e, m.f, m.g, m.h, wrap64 (m.i + 1500)⟩
def buildV (m : Mac) (x y : Int) : Mac × Bool := if ringB x y then ifOk (builtM m (turnV x y)) else z9
def pushV (m : Mac) (x y : Int) : Mac × Bool := if (inR (-12) 12 x && inR (-12) 12 y) then ifOk (pushedM m x y) else z9
theorem ifOk_ok {m n : Mac} {b : Bool} (h : ifOk m = (n, b)) : b = true → okM n = true := by
  unfold ifOk at h
  split at h
  · rename_i hm
    injection h with h1 h2
    subst h1
    exact fun _ => hm
  · injection h with h1 h2
    subst h2
    exact fun h => by cases h
theorem buildV_ok {m n : Mac} {x y : Int} (h : buildV m x y = (n, true)) : okM n = true := by
  unfold buildV at h
  split at h
  · exact ifOk_ok h rfl
  · injection h with h1 h2; cases h2
theorem pushV_ok {m n : Mac} {x y : Int} (h : pushV m x y = (n, true)) : okM n = true := by
  unfold pushV at h
  split at h
  · exact ifOk_ok h rfl
  · injection h with h1 h2; cases h2
theorem specBuild_ev (m : Mac) (x y : Int) : Ev (fun k => spec_l04Build.f k m.a m.b m.c m.d m.e m.f m.g m.h m.i x y) (T10 (buildV m x y)) := by
  unfold spec_l04Build.f spec_l03Is.f buildV
  simp only [l00In_eq, Option.bind_some]
  have er : (if inR 0 1 x = true then some (inR 0 15 y) else some false) = some (ringB x y) := by
    unfold ringB; cases inR 0 1 x <;> rfl
  rw [er]
  simp only [Option.bind_some]
  by_cases hr : ringB x y = true
  · rw [(turn_eq x y hr).1]
    refine ite_ev_pos hr ?_
    rw [if_pos hr]
    simp only [Option.bind_some, spec_l02Next.f]
    refine Ev.bind (specIs_ev (builtM m (turnV x y))) ?_
    by_cases ho : okM (builtM m (turnV x y)) = true
    · have e : ifOk (builtM m (turnV x y)) = (builtM m (turnV x y), true) := if_pos ho
      rw [e]
      exact ite_ev_pos ho (Ev.now _)
    · have e : ifOk (builtM m (turnV x y)) = z9 := if_neg ho
      rw [e]
      exact ite_ev_neg ho (Ev.now _)
  · rw [if_neg hr]
    exact ite_ev_neg hr (Ev.now _)
theorem specPush_ev (m : Mac) (x y : Int) : Ev (fun k => spec_l04Push.f k m.a m.b m.c m.d m.e m.f m.g m.h m.i x y) (T10 (pushV m x y)) := by
  unfold spec_l04Push.f spec_l02Turn.f pushV
  simp only [l00In_eq, Option.bind_some]
  have er : (if inR (-12) 12 x = true then some (inR (-12) 12 y) else some false) = some (inR (-12) 12 x && inR (-12) 12 y) := by
    cases inR (-12) 12 x <;> rfl
  rw [er]
  simp only [Option.bind_some]
  by_cases hr : (inR (-12) 12 x && inR (-12) 12 y) = true
  · refine ite_ev_pos hr ?_
    rw [if_pos hr]
    simp only [Option.bind_some, spec_l02Next.f]
    refine Ev.bind (specIs_ev (pushedM m x y)) ?_
    by_cases ho : okM (pushedM m x y) = true
    · have e : ifOk (pushedM m x y) = (pushedM m x y, true) := if_pos ho
      rw [e]
      exact ite_ev_pos ho (Ev.now _)
    · have e : ifOk (pushedM m x y) = z9 := if_neg ho
      rw [e]
      exact ite_ev_neg ho (Ev.now _)
  · rw [if_neg hr]
    exact ite_ev_neg hr (Ev.now _)
theorem implOk_eq (m : Mac) : impl_Machine_valid.f m.a m.b m.c m.d m.e m.f m.g m.h m.i = some (T10 (ifOk m)) := by
  unfold impl_Machine_valid.f ifOk
  rw [implValid_eq]
  simp only [Option.bind_some]
  cases okM m <;> rfl
theorem implBuild_ev (m : Mac) (x y : Int) : Ev (fun k => impl_BuildRing.f k m.a m.b m.c m.d m.e m.f m.g m.h m.i x y) (T10 (if okM m then buildV m x y else z9)) := by
  have hbad : Ev (fun k => impl_BuildRing.j0 k true m.a m.b m.c m.d m.e m.f m.g m.h m.i x y) (T10 z9) := by
    refine Ev.step (f := fun _ => some (T10 z9)) (fun k => ?_) (Ev.now _)
    rw [impl_BuildRing.j0, if_pos rfl]; rfl
  unfold impl_BuildRing.f impl_ValidRing.f buildV
  rw [implValid_eq]
  simp only [within_eq, Option.bind_some]
  have er : (if inR 0 1 x = true then some (inR 0 15 y) else some false) = some (ringB x y) := by
    unfold ringB; cases inR 0 1 x <;> rfl
  rw [er]
  simp only [Option.bind_some]
  by_cases ho : okM m = true
  · refine ite_ev_pos ho ?_
    rw [if_pos ho]
    by_cases hr : ringB x y = true
    · rw [if_pos hr, hr]
      simp only [Bool.not_true]
      refine Ev.step (f := fun _ => some (T10 (ifOk (builtM m (turnV x y))))) (fun k => ?_) (Ev.now _)
      rw [impl_BuildRing.j0, if_neg (by simp), (turn_eq x y hr).2]
      simp only [Option.bind_some, impl_Pose_next.f]
      have := implOk_eq (builtM m (turnV x y))
      simp only [builtM] at this ⊢
      rw [this]; rfl
    · rw [if_neg hr]
      simp only [Bool.not_eq_true] at hr
      rw [hr]; exact hbad
  · rw [if_neg ho]
    exact ite_ev_neg ho hbad
theorem implPush_ev (m : Mac) (x y : Int) : Ev (fun k => impl_PushMachine.f k m.a m.b m.c m.d m.e m.f m.g m.h m.i x y) (T10 (if okM m then pushV m x y else z9)) := by
  have hbad : Ev (fun k => impl_PushMachine.j0 k x y true m.a m.b m.c m.d m.e m.f m.g m.h m.i) (T10 z9) := by
    refine Ev.step (f := fun _ => some (T10 z9)) (fun k => ?_) (Ev.now _)
    rw [impl_PushMachine.j0, if_pos rfl]; rfl
  unfold impl_PushMachine.f impl_isTurn.f pushV
  rw [implValid_eq]
  simp only [areWithin_eq, Option.bind_some, allIn, List.all_cons, List.all_nil, Bool.and_true]
  have er : ((decide (-12 ≤ x) && decide (x ≤ 12)) && (decide (-12 ≤ y) && decide (y ≤ 12))) = (inR (-12) 12 x && inR (-12) 12 y) := rfl
  rw [er]
  by_cases ho : okM m = true
  · refine ite_ev_pos ho ?_
    rw [if_pos ho]
    by_cases hr : (inR (-12) 12 x && inR (-12) 12 y) = true
    · rw [if_pos hr, hr]
      simp only [Bool.not_true]
      refine Ev.step (f := fun _ => some (T10 (ifOk (pushedM m x y)))) (fun k => ?_) (Ev.now _)
      rw [impl_PushMachine.j0, if_neg (by simp)]
      simp only [Option.bind_some, impl_Pose_next.f]
      have := implOk_eq (pushedM m x y)
      simp only [pushedM] at this ⊢
      rw [this]; rfl
    · rw [if_neg hr]
      simp only [Bool.not_eq_true] at hr
      rw [hr]; exact hbad
  · rw [if_neg ho]
    exact ite_ev_neg ho hbad
end Go.Proofs.Ytncdmooobfomeaa.K
