/- The law's frame at lists of Curve: a list equals itself, marks are consecutive numbers and are held. -/
import Derived.Test.YtkmnllcccgnliaaKit
import Derived.Test.YtkmnllcccgnliaaGy1
import Derived.Test.YtkmnllcccgnliaaGy4
import Derived.Test.YtkmnllcccgnliaaGy6
namespace Go.Proofs.Ytkmnllcccgnliaa.K
open Go.RowKit Go.Proofs.Ytkmnllcccgnliaa.G Go.Proofs.YtkmnllcccgnliaaW.PrintWords Go.Proofs.YtkmnllcccgnliaaW.PrintLast
set_option linter.unusedVariables false
set_option linter.unusedSimpArgs false

theorem rdCurve_mid (pre : List S69) (x : S69) (rest : List S69) : rd_T69 (pre ++ x :: rest) (pre.length : Int) = x := by simp [rd_T69]
theorem rdCurve_set (l : List S69) (i : Nat) (x : S69) (h : i < l.length) : rd_T69 (l.set i x) (i : Int) = x := by simp [rd_T69, h]
theorem eqCurve_self (x0 x1 x2 : Int) : laws_eqCurve.f x0 x1 x2 x0 x1 x2 = some true := by
  unfold laws_eqCurve.f
  simp
theorem eqCurveS_self (l : List S69) (k : Nat) (hl : l.length ≤ 1048576) (hk : l.length < k) : laws_eqCurveS.f k l l = some true := by
  unfold laws_eqCurveS.f
  rw [if_pos rfl]
  refine loop_all 0 l (fun k (_ : Unit) i => laws_eqCurveS.l0 k l l i) (fun _ _ => true) (fun _ _ => True) ?_ ?_ k () hk trivial
  · intro k s _ _
    rw [laws_eqCurveS.l0, if_neg (by omega)]
  · intro k s pre x rest _ e _ ih
    have hlen : l.length = pre.length + (rest.length + 1) := by rw [e]; simp
    rw [laws_eqCurveS.l0, if_pos (by omega), if_pos (by omega), if_pos (by omega), eqCurve_self]
    simp only [Option.bind_some, if_true]
    rw [w64 (by omega) (by omega)]
    exact ih () trivial
def iotaCurve (a : Int) : Nat → List S69
  | 0 => []
  | m + 1 => ⟨a, (a + 1), (a + 2)⟩ :: iotaCurve (a + 3) m
theorem iotaCurve_length (a : Int) (m : Nat) : (iotaCurve a m).length = m := by
  induction m generalizing a with
  | zero => rfl
  | succ m ih => simp [iotaCurve, ih]
theorem markCurveS_eq (l : List S69) (a : Int) (k : Nat) (hl : l.length ≤ 1048576) (h0 : 0 ≤ a) (ha : a ≤ 1000000000000) (hk : l.length < k) :
    laws_markCurveS.f k l a = some (a + 3 * l.length, iotaCurve a l.length) := by
  unfold laws_markCurveS.f
  refine loop_all 0 l (fun k (s : Int × List S69) i => laws_markCurveS.l0 k s.2 s.1 i) (fun s rest => (a + 3 * l.length, s.2.take (l.length - rest.length) ++ iotaCurve s.1 rest.length)) (fun s i => s.1 = a + 3 * i ∧ s.2.length = l.length) ?_ ?_ k (a, l) hk ⟨by simp, rfl⟩ |>.trans ?_
  · intro k s _ ⟨h1, h2⟩
    rw [laws_markCurveS.l0, if_neg (by omega), h1]
    have : s.2.take l.length = s.2 := by rw [← h2, List.take_length]
    simp [iotaCurve, this]
  · intro k s pre x rest _ e ⟨h1, h2⟩ ih
    have hlen : l.length = pre.length + (rest.length + 1) := by rw [e]; simp
    have e2 : ((pre.length : Int)).toNat = pre.length := by omega
    rw [laws_markCurveS.l0, if_pos (by omega), if_pos (by omega)]
    simp only [Option.bind_some, e2]
    rw [w64 (i := s.1 + 1) (by omega) (by omega), w64 (i := s.1 + 1 + 1) (by omega) (by omega), w64 (i := s.1 + 1 + 1 + 1) (by omega) (by omega), w64 (i := (pre.length : Int) + 1) (by omega) (by omega)]
    simp only [rdCurve_set _ _ _ (show pre.length < s.2.length by omega), rdCurve_set _ _ _ (show pre.length < (s.2.set pre.length _).length by simp; omega), List.set_set, rdCurve_set _ _ _ (show pre.length < s.2.length by omega)]
    rw [ih (s.1 + 1 + 1 + 1, s.2.set pre.length ⟨s.1, s.1 + 1, s.1 + 1 + 1⟩) ⟨by simp only; omega, by simpa using h2⟩]
    congr 1
    have e3 : l.length - rest.length = pre.length + 1 := by omega
    have e4 : l.length - (x :: rest).length = pre.length := by simp; omega
    simp only [e3, e4]
    rw [List.take_add_one, List.take_set_of_le (Nat.le_refl _), List.getElem?_set_self (by omega)]
    simp [iotaCurve, Int.add_assoc]
  · simp
theorem heldCurveS_eq (m : Nat) (a : Int) (k : Nat) (hl : m ≤ 1048576) (h0 : 0 ≤ a) (ha : a ≤ 1000000000000) (hk : m < k) :
    laws_heldCurveS.f k (iotaCurve a m) a = some (a + 3 * m) := by
  have key : ∀ (d : Nat) (pre : List S69) (b : Int) (k : Nat), b = a + 3 * pre.length → iotaCurve a m = pre ++ iotaCurve b d → pre.length + d = m → d < k → laws_heldCurveS.l0 k (iotaCurve a m) b (pre.length : Int) = some (a + 3 * m) := by
    intro d
    induction d with
    | zero =>
      intro pre b k hb e hn hk
      obtain ⟨k, rfl⟩ : ∃ j, k = j + 1 := ⟨k - 1, by omega⟩
      rw [laws_heldCurveS.l0, if_neg (by rw [iotaCurve_length]; omega)]
      congr 1; omega
    | succ d ih =>
      intro pre b k hb e hn hk
      obtain ⟨k, rfl⟩ : ∃ j, k = j + 1 := ⟨k - 1, by omega⟩
      have e1 : rd_T69 (iotaCurve a m) (pre.length : Int) = ⟨b, (b + 1), (b + 2)⟩ := by rw [e]; exact rdCurve_mid _ _ _
      rw [laws_heldCurveS.l0, if_pos (by rw [iotaCurve_length]; omega), if_pos (by omega), e1, w64 (i := b + 1) (by omega) (by omega), w64 (i := b + 1 + 1) (by omega) (by omega), w64 (i := b + 1 + 1 + 1) (by omega) (by omega), w64 (i := (pre.length : Int) + 1) (by omega) (by omega)]
      rw [if_pos (by simp; try omega), if_pos (by simp; try omega), if_pos (by simp; try omega)]
      have := ih (pre ++ [⟨b, (b + 1), (b + 2)⟩]) (b + 3) k (by simp; omega) (by rw [e]; simp [iotaCurve]) (by simp; omega) (by omega)
      simpa [Int.add_assoc] using this
  have := key m [] a k (by simp) (by simp) (by simp) hk
  simpa [laws_heldCurveS.f] using this
end Go.Proofs.Ytkmnllcccgnliaa.K
