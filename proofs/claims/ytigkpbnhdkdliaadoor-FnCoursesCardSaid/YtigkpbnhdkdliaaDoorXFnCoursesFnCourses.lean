/- The plain statement of the law on courses: texts, mirrors, courses of poses. -/
import Derived.Test.YtigkpbnhdkdliaaDoorXFnCoursesCtI
import Derived.Test.YtigkpbnhdkdliaaDoorXFnCoursesRdI
import Derived.Test.YtigkpbnhdkdliaaDoorXFnCoursesSrcN
import Derived.Test.YtigkpbnhdkdliaaDoorXFnCoursesBAt
import Derived.Test.YtigkpbnhdkdliaaDoorRvTxP
import Derived.Test.YtigkpbnhdkdliaaDoorRvPuFnCourses
namespace Go.Proofs.YtigkpbnhdkdliaaDoor.Pure
open Go.Rv Go.Rv.Tx Go.Rv.Ax Go.Proofs.YtigkpbnhdkdliaaDoor.R
set_option linter.unusedVariables false
set_option linter.unusedSimpArgs false
theorem cText_join (a b c : Int) : cText a b c = Lib.join [Lib.itoa a, Lib.itoa b, Lib.itoa c] [47] := by
  simp [cText, Lib.join, List.intercalate, List.intersperse]
theorem back_eq (a b c : Int) (ha : -1000 ≤ a ∧ a ≤ 1000) (hb : -1000 ≤ b ∧ b ≤ 1000) (hc : -1000 ≤ c ∧ c ≤ 1000) : R3 [] (pcs 47 (cText a b c)) = (a, b, c, true) := by
  have no : ∀ v : Int, (47 : UInt8) ∉ Lib.itoa v := fun v => itoa_no v 47 (by decide)
  rw [cText_join, pcs_join 47 _ _ (fun y hy => by
    simp only [List.mem_cons, List.not_mem_nil, or_false] at hy
    rcases hy with rfl | rfl | rfl <;> exact no _)]
  have y : ∀ v : Int, -1000 ≤ v ∧ v ≤ 1000 → rdIn (-1000000000) 1000000000 (Lib.itoa v) = (v, true) := fun v hv => rdIn_yes (by decide) ⟨rfl, by omega, by omega⟩
  unfold R3
  rw [if_pos]
  · simp only [vals, List.map_cons, List.map_nil, y a ha, y b hb, y c hc, List.nil_append, res3]
    rw [if_pos]
    simp only [told', Bool.and_eq_true, inR_iff]
    exact ⟨ha, hb, hc⟩
  · refine ⟨fun p hp => ?_, rfl⟩
    simp only [List.mem_cons, List.not_mem_nil, or_false] at hp
    rcases hp with rfl | rfl | rfl
    · rw [y a ha]
    · rw [y b hb]
    · rw [y c hc]
theorem mirror_w (a b c : Int) (ha : -1000 ≤ a ∧ a ≤ 1000) (hb : -1000 ≤ b ∧ b ≤ 1000) (hc : -1000 ≤ c ∧ c ≤ 1000) : W (fun k _ => impl_MirrorCourse.f k a b c) (· = (-a, -b, -c)) := by
  have ht : told a b c = true := by simp only [told, Bool.and_eq_true, inR_iff]; exact ⟨ha, hb, hc⟩
  refine impl_MirrorCourse.w (W.bindE (isTold_w a b c) ?_)
  rw [ht]
  refine W.ne rfl (W.ret ?_)
  rw [w64 (by omega) (by omega), w64 (by omega) (by omega), w64 (by omega) (by omega)]
  simp
theorem pose_w (a b c d : Int) (ha : -1000 ≤ a ∧ a ≤ 1000) (hb : -1000 ≤ b ∧ b ≤ 1000) (hc : -400 ≤ c ∧ c ≤ 400) (hd : -400 ≤ d ∧ d ≤ 400) : W (fun k _ => impl_ValidPose.f k a b c d) (· = true) := by
  refine impl_ValidPose.w (W.bindE (areWithin_w [a, b] (-100000) 100000 (by simp)) ?_)
  have h1 : [a, b].all (inR (-100000) 100000) = true := by simp [inR]; omega
  have h2 : [c, d].all (inR (-400) 400) = true := by simp [inR]; omega
  rw [h1]
  refine W.t rfl (W.bindE (areWithin_w [c, d] (-400) 400 (by simp)) (W.ret h2))
theorem FnCourses : PureFnCourses := by
  intro e0 e1 w0 w1
  have hb0 : ∀ b ∈ e0, 0 ≤ b ∧ b ≤ 255 := fun b hb => wfu (w0.2 b hb)
  have hb1 : ∀ b ∈ e1, 0 ≤ b ∧ b ≤ 255 := fun b hb => wfu (w1.2 b hb)
  refine W.yes (laws_FnCourses.w (W.bindE (b10Long_w e0 e1) (W.bi (fun _ => W.ret rfl) (fun hl => ?_))))
  refine W.bind (Q := fun r => (-12 ≤ r.2.2.1 ∧ r.2.2.1 ≤ 12) ∧ (-4 ≤ r.2.2.2.1 ∧ r.2.2.2.1 ≤ 4) ∧ (-1 ≤ r.2.2.2.2 ∧ r.2.2.2.2 ≤ 1)) ?_ ?_
  · refine spec_B10Course.w (W.bind (from_w hb0) fun t1 g1 => W.bind (pick_w g1 (by omega)) fun t2 g2 => W.bind (pick_w g2.2 (by omega)) fun t3 g3 => W.bind (pick_w g3.2 (by omega)) fun t4 g4 => W.bind (pick_w g4.2 (by omega)) fun t5 g5 => W.bind (pick_w g5.2 (by omega)) fun t6 g6 => W.ret ?_)
    have h4 := g4.1
    have h5 := g5.1
    have h6 := g6.1
    dsimp only
    rw [w64 (i := t4.1 - 12) (by omega) (by omega), w64 (i := t5.1 - 4) (by omega) (by omega), w64 (i := t6.1 - 1) (by omega) (by omega)]
    omega
  rintro ⟨m, ch, a, b, c⟩ ⟨ha, hb, hc⟩
  dsimp only at ha hb hc ⊢
  have ht : told a b c = true := by simp only [told, Bool.and_eq_true, inR_iff]; omega
  refine W.bindE (implText_w a b c) ?_
  rw [if_pos ht]
  have hlen : (cText a b c).length ≤ 1048576 := by
    have la := itoa_len a (by omega) (by omega)
    have lb := itoa_len b (by omega) (by omega)
    have lc := itoa_len c (by omega) (by omega)
    simp [cText]; omega
  refine W.bindE (implRead_w _ hlen) ?_
  rw [back_eq a b c (by omega) (by omega) (by omega)]
  refine W.bind (b10At_w hb1 0 200 (by omega) (by omega)) fun (p1 : Int) q1 => W.bind (b10At_w hb1 1 200 (by omega) (by omega)) fun (p2 : Int) q2 => W.bind (b10At_w hb1 2 200 (by omega) (by omega)) fun (p3 : Int) q3 => W.bind (b10At_w hb1 3 200 (by omega) (by omega)) fun (p4 : Int) q4 => ?_
  rw [w64 (i := p1 + a) (by omega) (by omega), w64 (i := p3 + b) (by omega) (by omega)]
  refine W.bindE (t := (a, b, 0, 0, 0, 0, true)) ?_ ?_
  · refine impl_CourseOf.w (W.bindE (pose_w _ _ _ _ (by omega) (by omega) (by omega) (by omega)) (W.ne rfl (W.bindE (pose_w _ _ _ _ (by omega) (by omega) (by omega) (by omega)) (W.ne rfl ?_))))
    refine impl_CourseOf.w0 ?_
    rw [w64 (i := p1 + a - p1) (by omega) (by omega), w64 (i := p2 - p2) (by omega) (by omega), w64 (i := p3 + b - p3) (by omega) (by omega), w64 (i := p4 - p4) (by omega) (by omega)]
    rw [show p1 + a - p1 = a by omega, show p2 - p2 = 0 by omega, show p3 + b - p3 = b by omega, show p4 - p4 = 0 by omega]
    refine W.bindE (areWithin_w [a, 0] (-40) 40 (by simp)) (W.ne (by simp [inR]; omega) ?_)
    exact W.bindE (areWithin_w [b, 0] (-10) 10 (by simp)) (W.ne (by simp [inR]; omega) (W.ret rfl))
  refine W.t rfl (W.t (by simp) ?_)
  refine W.bindE (mirror_w a b c (by omega) (by omega) (by omega)) ?_
  refine W.bindE (mirror_w (-a) (-b) (-c) (by omega) (by omega) (by omega)) ?_
  exact W.t (by simp) (W.t rfl (W.t (by simp) (W.ret (by simp))))
end Go.Proofs.YtigkpbnhdkdliaaDoor.Pure
