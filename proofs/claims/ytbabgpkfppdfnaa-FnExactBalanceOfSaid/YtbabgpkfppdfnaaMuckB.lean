/- What BalanceOf answers, in the program and in the reference. -/
import Derived.Test.YtbabgpkfppdfnaaMuck
import Derived.Test.YtbabgpkfppdfnaaGx2
import Derived.Test.YtbabgpkfppdfnaaGx1
namespace Go.Proofs.Ytbabgpkfppdfnaa.K
open Go.RowKit Go.Proofs.Ytbabgpkfppdfnaa.G Go.Proofs.YtbabgpkfppdfnaaW.PrintWords Go.Proofs.YtbabgpkfppdfnaaW.PrintLast Go.Proofs.YtbabgpkfppdfnaaW.PrintMore
set_option linter.unusedVariables false
set_option linter.unusedSimpArgs false

def subL : List Int → List Int → List Int
  | [], _ => []
  | x :: r, ys => (x - ys.headD 0) :: subL r ys.tail
theorem subL_length (l m : List Int) : (subL l m).length = l.length := by
  induction l generalizing m with
  | nil => rfl
  | cons x r ih => simp [subL, ih]
def balV (l m : List Int) : List Int × Bool := if few 0 1000000 l && few 0 1000000 m && decide (l.length = m.length) then (subL l m, true) else ([], false)
theorem balV_length (l m : List Int) : (balV l m).1.length ≤ 60 := by
  unfold balV
  split
  · rename_i h
    simp only [Bool.and_eq_true] at h
    simp only [subL_length]
    exact few_len h.1.1
  · simp
theorem drop_cons (m : List Int) (i : Nat) (h : i < m.length) : (m.drop i).headD 0 = rd m (i : Int) ∧ (m.drop i).tail = m.drop (i + 1) := by
  rw [List.drop_eq_getElem_cons h]
  refine ⟨?_, rfl⟩
  simp [rd, h]
theorem specBal_eq (l m : List Int) (k : Nat) (hl : l.length ≤ 1048576) (hm : m.length ≤ 1048576) (hk : l.length + m.length + 1 < k) : spec_BalanceOf.f k l m = some (balV l m) := by
  unfold spec_BalanceOf.f balV
  rw [l06Within_eq l _ _ k hl (by omega), l06Within_eq m _ _ k hm (by omega)]
  simp only [Option.bind_some]
  obtain ⟨k, rfl⟩ : ∃ j, k = j + 1 := ⟨k - 1, by omega⟩
  have bad : spec_BalanceOf.j0 (k + 1) l m true = some ([], false) := by simp [spec_BalanceOf.j0]
  cases h1 : few 0 1000000 l
  · simp [bad]
  cases h2 : few 0 1000000 m
  · simp [bad]
  by_cases h3 : l.length = m.length
  · have h60 := few_len h1
    have hx := few_mem h1
    have hy := few_mem h2
    have : ((l.length : Int) != (m.length : Int)) = false := by simp [h3]
    simp only [if_true, this, spec_BalanceOf.j0]
    simp only [h3, Bool.and_true, decide_true, if_true]
    rw [if_neg (by simp)]
    refine (loop_all 0 l (fun k (s : List Int) i => spec_BalanceOf.l0 k l m s i) (fun s r => (s ++ subL r (m.drop (l.length - r.length)), true)) (fun s i => s.length = i) ?_ ?_ k [] (by omega) rfl).trans (by simp)
    · intro k s _ _
      simp only [spec_BalanceOf.l0]
      rw [if_neg (by omega)]
      simp [subL]
    · intro k s pre x rest _ e h1 ih
      have hlen : l.length = pre.length + (rest.length + 1) := by rw [e]; simp
      have hx1 := hx x (by rw [e]; simp)
      have e1 : rd l (pre.length : Int) = x := by rw [e]; exact rd_mid _ _ _
      have e5 := drop_cons m pre.length (by omega)
      have hy1 : 0 ≤ rd m (pre.length : Int) ∧ rd m (pre.length : Int) ≤ 1000000 := by
        apply hy
        have : pre.length < m.length := by omega
        simp only [rd, Int.toNat_natCast, List.getD_eq_getElem?_getD, List.getElem?_eq_getElem this, Option.getD_some]
        exact List.getElem_mem _
      simp only [spec_BalanceOf.l0]
      rw [if_pos (by omega), if_pos (by omega), if_pos (by omega), if_pos (by omega), e1, w64 (i := (pre.length : Int) + 1) (by omega) (by omega), w64 (by omega) (by omega)]
      rw [ih _ (by simp [h1])]
      have e3 : l.length - (x :: rest).length = pre.length := by simp; omega
      have e4 : l.length - rest.length = pre.length + 1 := by omega
      rw [e3, e4]
      rw [subL, e5.1, e5.2]; simp
  · have : ((l.length : Int) != (m.length : Int)) = true := by simp; omega
    simp [this, bad, h3]
theorem implBal_eq (l m : List Int) (k : Nat) (hl : l.length ≤ 1048576) (hm : m.length ≤ 1048576) (hk : l.length + m.length + 1 < k) : impl_BalanceOf.f k l m = some (balV l m) := by
  unfold impl_BalanceOf.f balV
  rw [areWithin_eq, areWithin_eq]
  simp only [Option.bind_some]
  obtain ⟨k, rfl⟩ : ∃ j, k = j + 1 := ⟨k - 1, by omega⟩
  have bad : impl_BalanceOf.j0 (k + 1) l m true = some ([], false) := by simp [impl_BalanceOf.j0]
  by_cases h3 : l.length = m.length
  · rw [if_pos (by omega)]
    by_cases h60 : l.length ≤ 60
    · rw [if_neg (by omega)]
      have d1 : few 0 1000000 l = allIn 0 1000000 l := by simp [few, h60]
      have d2 : few 0 1000000 m = allIn 0 1000000 m := by simp [few, show m.length ≤ 60 by omega]
      rw [← d1, ← d2]
      cases h1 : few 0 1000000 l
      · simp [bad]
      cases h2 : few 0 1000000 m
      · simp [bad]
      have hx := few_mem h1
      have hy := few_mem h2
      simp only [if_true, Bool.not_true, impl_BalanceOf.j0]
      simp only [h3, Bool.and_true, decide_true, if_true]
      rw [if_neg (by simp)]
      rw [← h3]
      refine (loop_all 0 l (fun k (s : List Int) i => impl_BalanceOf.l0 k m s l (l.length : Int) i) (fun s r => (s ++ subL r (m.drop (l.length - r.length)), true)) (fun s i => s.length = i) ?_ ?_ k [] (by omega) rfl).trans (by simp)
      · intro k s _ _
        simp only [impl_BalanceOf.l0]
        rw [if_neg (by omega)]
        simp [subL]
      · intro k s pre x rest _ e h1 ih
        have hlen : l.length = pre.length + (rest.length + 1) := by rw [e]; simp
        have hx1 := hx x (by rw [e]; simp)
        have e1 : rd l (pre.length : Int) = x := by rw [e]; exact rd_mid _ _ _
        have e5 := drop_cons m pre.length (by omega)
        have hy1 : 0 ≤ rd m (pre.length : Int) ∧ rd m (pre.length : Int) ≤ 1000000 := by
          apply hy
          have : pre.length < m.length := by omega
          simp only [rd, Int.toNat_natCast, List.getD_eq_getElem?_getD, List.getElem?_eq_getElem this, Option.getD_some]
          exact List.getElem_mem _
        simp only [impl_BalanceOf.l0]
        rw [if_pos (by omega), if_pos (by omega), if_pos (by omega), if_pos (by omega), if_pos (by omega), e1, w64 (i := (pre.length : Int) + 1) (by omega) (by omega), w64 (by omega) (by omega)]
        rw [ih _ (by simp [h1])]
        have e3 : l.length - (x :: rest).length = pre.length := by simp; omega
        have e4 : l.length - rest.length = pre.length + 1 := by omega
        rw [e3, e4]
        rw [subL, e5.1, e5.2]; simp
    · rw [if_pos (by omega), bad]
      have : few 0 1000000 l = false := by simp [few]; intro; omega
      simp [this]
  · rw [if_neg (by omega), bad]
    simp [h3]
end Go.Proofs.Ytbabgpkfppdfnaa.K
