/- impl.readIn: the number in a range that a text tells. -/
import Derived.Test.YtmgelocefebldaaGreatDoorXFnTubesO
import Derived.Test.YtmgelocefebldaaGreatDoorRvTxN
namespace Go.Proofs.YtmgelocefebldaaGreatDoor.R
open Go.Rv Go.Rv.Tx
set_option linter.unusedVariables false
set_option linter.unusedSimpArgs false
theorem readIn_eq (l : List UInt8) (lo hi : Int) (hl : l.length ≤ 281474976710656) (hr : -9223372036854775808 ≤ lo ∧ hi ≤ 9223372036854775807) : T.readInF (bs l) lo hi = some (rdIn lo hi l) := by
  unfold T.readInF
  rw [bs_size, if_pos hl]
  have e : (bs l).data.toList = l := rfl
  rw [e]
  cases hp : Lib.parseIntB 64 l with
  | ok v =>
    have hv := parse_range hp
    simp only [if_pos hv]
    unfold T.readV
    have eq : ((T.decS v).toList == (bs l).toList) = decide (Lib.itoa v = l) := by
      rw [toList_eq, toList_eq, bl_bs]
      show (Lib.itoa v == l) = _
      by_cases h : Lib.itoa v = l <;> simp [h]
    rw [eq]
    by_cases h : Lib.itoa v = l
    · by_cases h1 : lo ≤ v
      · by_cases h2 : v ≤ hi
        · rw [rdIn_yes hr ⟨h.symm, h1, h2⟩]; simp [h, h1, h2]
        · rw [rdIn_no fun w hw => by have := itoa_inj (by have := hw.2; omega) hv (hw.1.symm.trans h.symm); have := hw.2; omega]; simp [h, h1, h2]
      · rw [rdIn_no fun w hw => by have := itoa_inj (by have := hw.2; omega) hv (hw.1.symm.trans h.symm); have := hw.2; omega]; simp [h, h1]
    · rw [rdIn_no fun w hw => by
        have h2 := parse_itoa w (by have := hw.2; omega) (by have := hw.2; omega)
        rw [← hw.1, hp] at h2
        cases h2
        exact h hw.1.symm]
      simp [h]
  | «syntax» =>
    rw [rdIn_no fun w hw => by
      have h2 := parse_itoa w (by have := hw.2; omega) (by have := hw.2; omega)
      rw [← hw.1, hp] at h2
      cases h2]
  | range =>
    rw [rdIn_no fun w hw => by
      have h2 := parse_itoa w (by have := hw.2; omega) (by have := hw.2; omega)
      rw [← hw.1, hp] at h2
      cases h2]
end Go.Proofs.YtmgelocefebldaaGreatDoor.R
