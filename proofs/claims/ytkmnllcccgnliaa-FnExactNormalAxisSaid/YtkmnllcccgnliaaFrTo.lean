/- The law's copies of an axis: the same numbers in the program's types. -/
import Derived.Test.YtkmnllcccgnliaaKit
import Derived.Test.YtkmnllcccgnliaaGy0
namespace Go.Proofs.Ytkmnllcccgnliaa.K
open Go.RowKit Go.Proofs.Ytkmnllcccgnliaa.G Go.Proofs.YtkmnllcccgnliaaW.PrintWords Go.Proofs.YtkmnllcccgnliaaW.PrintLast
set_option linter.unusedVariables false
set_option linter.unusedSimpArgs false

def toC (x : S105) : S69 := ⟨x.f0, x.f1, x.f2⟩
theorem toCurveS_eq (l : List S105) (k : Nat) (hl : l.length ≤ 1048576) (hk : l.length < k) : laws_toCurveS.f k l = some (l.map toC) := by
  unfold laws_toCurveS.f
  rw [if_pos (by omega), if_pos (by omega)]
  refine loop_all 0 l (fun k s i => laws_toCurveS.l0 k l s i) (fun _ _ => l.map toC) (fun acc i => acc.length = l.length ∧ acc.take i = (l.map toC).take i) ?_ ?_ k _ hk ⟨by simp, by simp⟩
  · intro k s _ ⟨h1, h2⟩
    rw [laws_toCurveS.l0, if_neg (by omega)]
    congr 1
    have h3 : s.take s.length = (l.map toC).take l.length := by rw [h1]; exact h2
    rw [List.take_length] at h3
    rw [h3, List.take_of_length_le (by simp)]
  · intro k s pre x rest _ e ⟨h1, h2⟩ ih
    have hlen : l.length = pre.length + (rest.length + 1) := by rw [e]; simp
    have e1 : rd_T105 l (pre.length : Int) = x := by rw [e]; simp [rd_T105]
    have e2 : ((pre.length : Int)).toNat = pre.length := by omega
    rw [laws_toCurveS.l0, if_pos (by omega), if_pos (by omega), e1]
    unfold laws_toCurve.f
    simp only [Option.bind_some]
    rw [if_pos (by omega), w64 (by omega) (by omega), e2]
    refine ih _ ⟨by simpa using h1, ?_⟩
    rw [List.take_add_one, List.take_add_one, List.take_set_of_le (Nat.le_refl _), h2, List.getElem?_set_self (by omega), e]
    simp [toC]
theorem toAxis_eq (a b c d : Int) (l : List S105) (k : Nat) (hl : l.length ≤ 1048576) (hk : l.length < k) : laws_toAxis.f k a b c d l = some (a, b, c, d, l.map toC) := by
  unfold laws_toAxis.f laws_toPose.f
  simp only [Option.bind_some]
  rw [toCurveS_eq l k hl hk]; rfl
theorem szAxis_eq (a b c d : Int) (l : List S105) (n : Int) (h0 : 0 ≤ n) (hn : n ≤ 1048576) (hl : l.length ≤ 9223372036854775807) : laws_szAxis.f a b c d l n = some (if (l.length : Int) ≤ n then n - l.length else -1) := by
  unfold laws_szAxis.f laws_szCurveS.f
  rw [w64 (by omega) (by omega)]
  by_cases h : (l.length : Int) ≤ n
  · rw [if_neg (by omega), if_pos h]
    simp only [Option.bind_some]
    rw [if_neg (by omega)]
  · rw [if_pos (by omega), if_neg h]
    rfl
end Go.Proofs.Ytkmnllcccgnliaa.K
