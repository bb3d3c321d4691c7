/- The law's frame at lists of Curve: a list equals itself, marks are consecutive numbers and are held. -/
import Derived.Test.YtgknckbplbldbaaKit
import Derived.Test.YtgknckbplbldbaaGy1
import Derived.Test.YtgknckbplbldbaaGy2
namespace Go.Proofs.Ytgknckbplbldbaa.K
open Go.RowKit Go.Proofs.Ytgknckbplbldbaa.G Go.Proofs.YtgknckbplbldbaaW.PrintWords Go.Proofs.YtgknckbplbldbaaW.PrintLast
set_option linter.unusedVariables false
set_option linter.unusedSimpArgs false

theorem rdCurve_mid (pre : List S65) (x : S65) (rest : List S65) : rd_T65 (pre ++ x :: rest) (pre.length : Int) = x := by simp [rd_T65]
theorem rdCurve_set (l : List S65) (i : Nat) (x : S65) (h : i < l.length) : rd_T65 (l.set i x) (i : Int) = x := by simp [rd_T65, h]
theorem eqCurve_self (x0 x1 x2 : Int) : laws_eqCurve.f x0 x1 x2 x0 x1 x2 = some true := by
  unfold laws_eqCurve.f
  simp
theorem eqCurveS_self (l : List S65) (k : Nat) (hl : l.length ≤ 1048576) (hk : l.length < k) : laws_eqCurveS.f k l l = some true := by
  unfold laws_eqCurveS.f
  rw [if_pos rfl]
  refine loop_all 0 l (fun k (_ : Unit) i => laws_eqCurveS.l0 k l l i) (fun _ _ => true) (fun _ _ => True) ?_ ?_ k () hk trivial
  · intro k s _ _
    rw [laws_eqCurveS.l0, if_neg (by omega)]
  · intro k s pre x rest _ e _ ih
    have hlen : l.length = pre.length + (rest.length + 1) := by rw [e]; simp
    rw [laws_eqCurveS.l0, if_pos (by omega), if_pos (by omega), if_pos (by omega), eqCurve_self]
    simp only [Option.bind_some, if_true]
    rw [w64 (by omega) (by omega)]
    exact ih () trivial
def iotaCurve (a : Int) : Nat → List S65
  | 0 => []
  | m + 1 => ⟨a, (a + 1), (a + 2)⟩ :: iotaCurve (a + 3) m
theorem iotaCurve_length (a : Int) (m : Nat) : (iotaCurve a m).length = m := by
  induction m generalizing a with
  | zero => rfl
  | succ m ih => simp [iotaCurve, ih]
theorem markCurveS_eq (l : List S65) (a : Int) (k : Nat) (hl : l.length ≤ 1048576) (h0 : 0 ≤ a) (ha : a ≤ 1000000000000) (hk : l.length < k) :
    laws_markCurveS.f k l a = some (a + 3 * l.length, iotaCurve a l.length) := by
  unfold laws_markCurveS.f
  refine loop_all 0 l (fun k (s : Int × List S65) i => laws_markCurveS.l0 k s.2 s.1 i) (fun s rest => (a + 3 * l.length, s.2.take (l.length - rest.length) ++ iotaCurve s.1 rest.length)) (fun s i => s.1 = a + 3 * i ∧ s.2.length = l.length) ?_ ?_ k (a, l) hk ⟨by simp, rfl⟩ |>.trans ?_
  · intro k s _ ⟨h1, h2⟩
    rw [laws_markCurveS.l0, if_neg (by omega), h1]
    have : s.2.take l.length = s.2 := by rw [← h2, List.take_length]
    simp [iotaCurve, this]
  · intro k s pre x rest _ e ⟨h1, h2⟩ ih
    have hlen : l.length = pre.length + (rest.length + 1) := by rw [e]; simp
    have e2 : ((pre.length : Int)).toNat = pre.length := by omega
    rw [laws_markCurveS.l0, if_pos (by omega), if_pos (by omega)]
    simp only [Option.bind_some, e2]
    rw [w64 (i := s.1 + 1) (by omega) (by omega), w64 (i := s.1 + 1 + 1) (by omega) (by omega), w64 (i := s.1 + 1 + 1 + 1) (by omega) (by omega), w64 (i := (pre.length : Int) + 1) (by omega) (by omega)]
    simp only [rdCurve_set _ _ _ (show pre.length < s.2.length by omega), rdCurve_set _ _ _ (show pre.length < (s.2.set pre.length _).length by simp; omega), List.set_set, rdCurve_set _ _ _ (show pre.length < s.2.length by omega)]
    rw [ih (s.1 + 1 + 1 + 1, s.2.set pre.length ⟨s.1, s.1 + 1, s.1 + 1 + 1⟩) ⟨by simp only; omega, by simpa using h2⟩]
    congr 1
    have e3 : l.length - rest.length = pre.length + 1 := by omega
    have e4 : l.length - (x :: rest).length = pre.length := by simp; omega
    simp only [e3, e4]
    rw [List.take_add_one, List.take_set_of_le (Nat.le_refl _), List.getElem?_set_self (by omega)]
    simp [iotaCurve, Int.add_assoc]
  · simp
end Go.Proofs.Ytgknckbplbldbaa.K
