/- Numbers between bytes, with the bound of the program's readers. -/
import Derived.Test.YtdcpjbheedofdaaDoorXFnListsRdA
namespace Go.Proofs.YtdcpjbheedofdaaDoor.R
open Go.Rv Go.Rv.Tx
set_option linter.unusedVariables false
set_option linter.unusedSimpArgs false
def inB (v : Int) : Prop := -1000000000 ≤ v ∧ v ≤ 1000000000
theorem rdB {v : Int} (h : inB v) : rdIn (-1000000000) 1000000000 (Lib.itoa v) = (v, true) := rdIn_yes (by decide) ⟨rfl, h.1, h.2⟩
theorem rdB_inv {p : List UInt8} (h : (rdIn (-1000000000) 1000000000 p).2 = true) : p = Lib.itoa (rdIn (-1000000000) 1000000000 p).1 ∧ inB (rdIn (-1000000000) 1000000000 p).1 := by
  rcases rdIn_cases (-1000000000) 1000000000 p (by decide) with ⟨v, hv, e⟩ | ⟨_, e⟩
  · rw [e]; exact ⟨hv.1, hv.2⟩
  · rw [e] at h; cases h
/-- the numbers between commas, told -/
theorem allB_yes {ps : List (List UInt8)} {vs : List Int} (e : ps = vs.map Lib.itoa) (h : ∀ v ∈ vs, inB v) : allIn (-1000000000) 1000000000 ps = (vs, true) := by
  subst e
  unfold allIn
  rw [if_pos]
  · unfold vals
    rw [List.map_map]
    refine Prod.ext ?_ rfl
    show vs.map _ = vs
    conv => rhs; rw [← List.map_id vs]
    refine List.map_congr_left fun v hv => ?_
    simp [rdB (h v hv)]
  · intro p hp
    obtain ⟨v, hv, rfl⟩ := List.mem_map.1 hp
    rw [rdB (h v hv)]
theorem allB_inv {ps : List (List UInt8)} (h : (allIn (-1000000000) 1000000000 ps).2 = true) : ps = (allIn (-1000000000) 1000000000 ps).1.map Lib.itoa ∧ ∀ v ∈ (allIn (-1000000000) 1000000000 ps).1, inB v := by
  unfold allIn at h ⊢
  split at h
  · rename_i ho
    rw [if_pos ho]
    unfold vals
    refine ⟨?_, fun v hv => ?_⟩
    · rw [List.map_map]
      conv => lhs; rw [← List.map_id ps]
      exact List.map_congr_left fun p hp => (rdB_inv (ho p hp)).1
    · obtain ⟨p, hp, rfl⟩ := List.mem_map.1 hv
      exact (rdB_inv (ho p hp)).2
  · cases h
end Go.Proofs.YtdcpjbheedofdaaDoor.R
