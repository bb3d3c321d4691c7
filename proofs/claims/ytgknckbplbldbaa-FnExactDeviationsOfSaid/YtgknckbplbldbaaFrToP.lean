/- The law's copies of poses: the same numbers in the program's types. -/
import Derived.Test.YtgknckbplbldbaaKit
import Derived.Test.YtgknckbplbldbaaGy0
import Derived.Test.YtgknckbplbldbaaGy2
namespace Go.Proofs.Ytgknckbplbldbaa.K
open Go.RowKit Go.Proofs.Ytgknckbplbldbaa.G Go.Proofs.YtgknckbplbldbaaW.PrintWords Go.Proofs.YtgknckbplbldbaaW.PrintLast
set_option linter.unusedVariables false
set_option linter.unusedSimpArgs false

def toP (x : S23) : S28 := ⟨x.f0, x.f1, x.f2, x.f3⟩
theorem toPoseS_eq (l : List S23) (k : Nat) (hl : l.length ≤ 1048576) (hk : l.length < k) : laws_toPoseS.f k l = some (l.map toP) := by
  unfold laws_toPoseS.f
  rw [if_pos (by omega), if_pos (by omega)]
  refine loop_all 0 l (fun k s i => laws_toPoseS.l0 k l s i) (fun _ _ => l.map toP) (fun acc i => acc.length = l.length ∧ acc.take i = (l.map toP).take i) ?_ ?_ k _ hk ⟨by simp, by simp⟩
  · intro k s _ ⟨h1, h2⟩
    rw [laws_toPoseS.l0, if_neg (by omega)]
    congr 1
    have h3 : s.take s.length = (l.map toP).take l.length := by rw [h1]; exact h2
    rw [List.take_length] at h3
    rw [h3, List.take_of_length_le (by simp)]
  · intro k s pre x rest _ e ⟨h1, h2⟩ ih
    have hlen : l.length = pre.length + (rest.length + 1) := by rw [e]; simp
    have e1 : rd_T23 l (pre.length : Int) = x := by rw [e]; simp [rd_T23]
    have e2 : ((pre.length : Int)).toNat = pre.length := by omega
    rw [laws_toPoseS.l0, if_pos (by omega), if_pos (by omega), e1]
    unfold laws_toPose.f
    simp only [Option.bind_some]
    rw [if_pos (by omega), w64 (by omega) (by omega), e2]
    refine ih _ ⟨by simpa using h1, ?_⟩
    rw [List.take_add_one, List.take_add_one, List.take_set_of_le (Nat.le_refl _), h2, List.getElem?_set_self (by omega), e]
    simp [toP]
theorem toPoseS_ev (l : List S23) (hl : l.length ≤ 1048576) : Ev (fun k => laws_toPoseS.f k l) (l.map toP) := ⟨l.length + 1, fun k hk => toPoseS_eq l k hl (by omega)⟩
theorem szPoseS_case (l : List S23) (n : Int) (h0 : 0 ≤ n) (hn : n ≤ 1048576) (hl : l.length ≤ 9223372036854775807) {g : Nat → Option Bool}
    (h : l.length ≤ 1048576 → Ev g true) : Ev (fun k => (laws_szPoseS.f l n).bind fun t => if t < 0 then some true else g k) true := by
  unfold laws_szPoseS.f
  rw [w64 (by omega) (by omega)]
  by_cases hc : (l.length : Int) ≤ n
  · refine Ev.congr (fun k => ?_) (h (by omega))
    rw [if_neg (by omega)]
    simp only [Option.bind_some]
    rw [if_neg (by omega)]
  · refine Ev.congr (fun k => ?_) (Ev.now true)
    rw [if_pos (by omega)]
    simp only [Option.bind_some]
    rw [if_pos (by omega)]
end Go.Proofs.Ytgknckbplbldbaa.K
