/- The text of a course, by the program. -/
import Derived.Test.YtigkpbnhdkdliaaDoorXFnCoursesTxJ
import Derived.Test.YtigkpbnhdkdliaaDoorXFnCoursesAxB
namespace Go.Proofs.YtigkpbnhdkdliaaDoor.R
open Go.Rv Go.Rv.Tx Go.Rv.Ax
set_option linter.unusedVariables false
set_option linter.unusedSimpArgs false
def told (a b c : Int) : Bool := inR (-1000) 1000 a && (inR (-1000) 1000 b && inR (-1000) 1000 c)
def cText (a b c : Int) : List UInt8 := Lib.itoa a ++ ([47] ++ (Lib.itoa b ++ ([47] ++ Lib.itoa c)))
theorem isTold_w (a b c : Int) : W (fun k _ => impl_Course_isTold.f k a b c) (· = told a b c) :=
  impl_Course_isTold.w (W.bindE (areWithin_w [a, b, c] (-1000) 1000 (by simp)) (W.ret (by simp [told])))
theorem told_range {a b c : Int} (h : told a b c = true) : (-1000 ≤ a ∧ a ≤ 1000) ∧ (-1000 ≤ b ∧ b ≤ 1000) ∧ (-1000 ≤ c ∧ c ≤ 1000) := by
  simp only [told, Bool.and_eq_true, inR_iff] at h; exact ⟨h.1, h.2.1, h.2.2⟩
theorem implText_w (a b c : Int) : W (fun k _ => impl_CourseText.f k a b c) (· = bs (if told a b c = true then cText a b c else [])) := by
  refine impl_CourseText.w (W.bindE (isTold_w a b c) ?_)
  refine W.ni (fun h => W.ret ?_) (fun h => ?_)
  · rw [h]; rfl
  · have hr := told_range h
    refine W.bindE (decimals_w [a, b, c] [47] (fun x hx => ?_) (by simp) (by simp)) (W.ret ?_)
    · rcases List.mem_cons.1 hx with rfl | hx
      · omega
      · rcases List.mem_cons.1 hx with rfl | hx
        · omega
        · rcases List.mem_cons.1 hx with rfl | hx
          · omega
          · cases hx
    · rw [if_pos h]
      simp [Lib.join, cText, List.intercalate, List.intersperse]
end Go.Proofs.YtigkpbnhdkdliaaDoor.R
