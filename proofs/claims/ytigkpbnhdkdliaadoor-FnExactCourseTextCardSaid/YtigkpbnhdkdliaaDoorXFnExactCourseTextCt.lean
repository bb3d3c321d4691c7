/- The text of a course, by the program and by the reference. -/
import Derived.Test.YtigkpbnhdkdliaaDoorXFnExactCourseTextTxJ
import Derived.Test.YtigkpbnhdkdliaaDoorXFnExactCourseTextAxB
namespace Go.Proofs.YtigkpbnhdkdliaaDoor.R
open Go.Rv Go.Rv.Tx Go.Rv.Ax
set_option linter.unusedVariables false
set_option linter.unusedSimpArgs false
def told (a b c : Int) : Bool := inR (-1000) 1000 a && (inR (-1000) 1000 b && inR (-1000) 1000 c)
def cText (a b c : Int) : List UInt8 := Lib.itoa a ++ ([47] ++ (Lib.itoa b ++ ([47] ++ Lib.itoa c)))
theorem l00In_eq (k : Nat) (x lo hi : Int) : spec_l00In.f k x lo hi = some (inR lo hi x) := by
  unfold spec_l00In.f inR
  by_cases h : lo ≤ x <;> simp [h]
theorem l05Small_eq (k : Nat) (a b c : Int) : spec_l05Small.f k a b c = some (told a b c) := by
  unfold spec_l05Small.f told
  simp only [l00In_eq, Option.bind_some]
  cases inR (-1000) 1000 a <;> cases inR (-1000) 1000 b <;> simp
theorem isTold_w (a b c : Int) : W (fun k _ => impl_Course_isTold.f k a b c) (· = told a b c) :=
  impl_Course_isTold.w (W.bindE (areWithin_w [a, b, c] (-1000) 1000 (by simp)) (W.ret (by simp [told])))
theorem told_range {a b c : Int} (h : told a b c = true) : (-1000 ≤ a ∧ a ≤ 1000) ∧ (-1000 ≤ b ∧ b ≤ 1000) ∧ (-1000 ≤ c ∧ c ≤ 1000) := by
  simp only [told, Bool.and_eq_true, inR_iff] at h; exact ⟨h.1, h.2.1, h.2.2⟩
theorem implText_w (a b c : Int) : W (fun k _ => impl_CourseText.f k a b c) (· = bs (if told a b c = true then cText a b c else [])) := by
  refine impl_CourseText.w (W.bindE (isTold_w a b c) ?_)
  refine W.ni (fun h => W.ret ?_) (fun h => ?_)
  · rw [h]; rfl
  · have hr := told_range h
    refine W.bindE (decimals_w [a, b, c] [47] (fun x hx => ?_) (by simp) (by simp)) (W.ret ?_)
    · rcases List.mem_cons.1 hx with rfl | hx
      · omega
      · rcases List.mem_cons.1 hx with rfl | hx
        · omega
        · rcases List.mem_cons.1 hx with rfl | hx
          · omega
          · cases hx
    · rw [if_pos h]
      simp [Lib.join, cText, List.intercalate, List.intersperse]
theorem specL05_w (a b c : Int) (h : told a b c = true) : W (fun k _ => spec_l05Text.f k a b c) (· = bs (cText a b c)) := by
  have hr := told_range h
  have la := itoa_len a (by omega) (by omega)
  have lb := itoa_len b (by omega) (by omega)
  have lc := itoa_len c (by omega) (by omega)
  have e47 : ByteArray.mk #[47] = bs [47] := rfl
  refine spec_l05Text.w ?_
  rw [e47]
  refine W.bindE (l01Dec_w a (by omega) (by omega)) ?_
  rw [fit_bs _ _ (by simp; omega), cat_bs]
  refine W.t rfl (W.bindE (l01Dec_w b (by omega) (by omega)) ?_)
  rw [fit_bs _ _ (by simp; omega), cat_bs]
  refine W.t rfl ?_
  rw [fit_bs _ _ (by simp; omega), cat_bs]
  refine W.t rfl (W.bindE (l01Dec_w c (by omega) (by omega)) ?_)
  rw [fit_bs _ _ (by simp; omega), cat_bs]
  exact W.t rfl (W.ret (by simp [cText]))
theorem specText_w (a b c : Int) : W (fun k _ => spec_CourseText.f k a b c) (· = bs (if told a b c = true then cText a b c else [])) := by
  refine spec_CourseText.w (W.bindN (fun k => l05Small_eq k a b c) ?_)
  refine W.ni (fun h => W.ret ?_) (fun h => ?_)
  · rw [h]; rfl
  · refine W.bindE (specL05_w a b c h) (W.ret ?_)
    rw [if_pos h]
end Go.Proofs.YtigkpbnhdkdliaaDoor.R
