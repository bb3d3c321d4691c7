/- The law's frame at lists of Pose: a list equals itself, marks are consecutive numbers and are held. -/
import Derived.Test.YtgknckbplbldbaaKit
import Derived.Test.YtgknckbplbldbaaGy2
namespace Go.Proofs.Ytgknckbplbldbaa.K
open Go.RowKit Go.Proofs.Ytgknckbplbldbaa.G Go.Proofs.YtgknckbplbldbaaW.PrintWords Go.Proofs.YtgknckbplbldbaaW.PrintLast
set_option linter.unusedVariables false
set_option linter.unusedSimpArgs false

theorem rdPose_mid (pre : List S28) (x : S28) (rest : List S28) : rd_T28 (pre ++ x :: rest) (pre.length : Int) = x := by simp [rd_T28]
theorem rdPose_set (l : List S28) (i : Nat) (x : S28) (h : i < l.length) : rd_T28 (l.set i x) (i : Int) = x := by simp [rd_T28, h]
theorem eqPose_self (x0 x1 x2 x3 : Int) : laws_eqPose.f x0 x1 x2 x3 x0 x1 x2 x3 = some true := by
  unfold laws_eqPose.f
  simp
theorem eqPoseS_self (l : List S28) (k : Nat) (hl : l.length ≤ 1048576) (hk : l.length < k) : laws_eqPoseS.f k l l = some true := by
  unfold laws_eqPoseS.f
  rw [if_pos rfl]
  refine loop_all 0 l (fun k (_ : Unit) i => laws_eqPoseS.l0 k l l i) (fun _ _ => true) (fun _ _ => True) ?_ ?_ k () hk trivial
  · intro k s _ _
    rw [laws_eqPoseS.l0, if_neg (by omega)]
  · intro k s pre x rest _ e _ ih
    have hlen : l.length = pre.length + (rest.length + 1) := by rw [e]; simp
    rw [laws_eqPoseS.l0, if_pos (by omega), if_pos (by omega), if_pos (by omega), eqPose_self]
    simp only [Option.bind_some, if_true]
    rw [w64 (by omega) (by omega)]
    exact ih () trivial
def iotaPose (a : Int) : Nat → List S28
  | 0 => []
  | m + 1 => ⟨a, (a + 1), (a + 2), (a + 3)⟩ :: iotaPose (a + 4) m
theorem iotaPose_length (a : Int) (m : Nat) : (iotaPose a m).length = m := by
  induction m generalizing a with
  | zero => rfl
  | succ m ih => simp [iotaPose, ih]
theorem markPoseS_eq (l : List S28) (a : Int) (k : Nat) (hl : l.length ≤ 1048576) (h0 : 0 ≤ a) (ha : a ≤ 1000000000000) (hk : l.length < k) :
    laws_markPoseS.f k l a = some (a + 4 * l.length, iotaPose a l.length) := by
  unfold laws_markPoseS.f
  refine loop_all 0 l (fun k (s : Int × List S28) i => laws_markPoseS.l0 k s.2 s.1 i) (fun s rest => (a + 4 * l.length, s.2.take (l.length - rest.length) ++ iotaPose s.1 rest.length)) (fun s i => s.1 = a + 4 * i ∧ s.2.length = l.length) ?_ ?_ k (a, l) hk ⟨by simp, rfl⟩ |>.trans ?_
  · intro k s _ ⟨h1, h2⟩
    rw [laws_markPoseS.l0, if_neg (by omega), h1]
    have : s.2.take l.length = s.2 := by rw [← h2, List.take_length]
    simp [iotaPose, this]
  · intro k s pre x rest _ e ⟨h1, h2⟩ ih
    have hlen : l.length = pre.length + (rest.length + 1) := by rw [e]; simp
    have e2 : ((pre.length : Int)).toNat = pre.length := by omega
    rw [laws_markPoseS.l0, if_pos (by omega), if_pos (by omega)]
    simp only [Option.bind_some, e2]
    rw [w64 (i := s.1 + 1) (by omega) (by omega), w64 (i := s.1 + 1 + 1) (by omega) (by omega), w64 (i := s.1 + 1 + 1 + 1) (by omega) (by omega), w64 (i := s.1 + 1 + 1 + 1 + 1) (by omega) (by omega), w64 (i := (pre.length : Int) + 1) (by omega) (by omega)]
    simp only [rdPose_set _ _ _ (show pre.length < s.2.length by omega), rdPose_set _ _ _ (show pre.length < (s.2.set pre.length _).length by simp; omega), List.set_set, rdPose_set _ _ _ (show pre.length < s.2.length by omega)]
    rw [ih (s.1 + 1 + 1 + 1 + 1, s.2.set pre.length ⟨s.1, s.1 + 1, s.1 + 1 + 1, s.1 + 1 + 1 + 1⟩) ⟨by simp only; omega, by simpa using h2⟩]
    congr 1
    have e3 : l.length - rest.length = pre.length + 1 := by omega
    have e4 : l.length - (x :: rest).length = pre.length := by simp; omega
    simp only [e3, e4]
    rw [List.take_add_one, List.take_set_of_le (Nat.le_refl _), List.getElem?_set_self (by omega)]
    simp [iotaPose, Int.add_assoc]
  · simp
theorem eqPoseS_ev (l : List S28) (hl : l.length ≤ 1048576) : Ev (fun k => laws_eqPoseS.f k l l) true := ⟨l.length + 1, fun k hk => eqPoseS_self l k hl (by omega)⟩
theorem markPoseS_ev (l : List S28) (n : Int) (hl : l.length ≤ 1048576) (h0 : 0 ≤ n) (hn : n ≤ 1000000000000) : Ev (fun k => laws_markPoseS.f k l n) (n + 4 * l.length, iotaPose n l.length) :=
  ⟨l.length + 1, fun k hk => markPoseS_eq l n k hl h0 hn (by omega)⟩
end Go.Proofs.Ytgknckbplbldbaa.K
