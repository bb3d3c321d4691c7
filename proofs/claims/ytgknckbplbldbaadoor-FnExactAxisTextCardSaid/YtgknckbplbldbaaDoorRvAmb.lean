/- What is known of the library's variables: the table of powers of 10. -/
import Derived.Test.YtgknckbplbldbaaDoorRvStrK
import Derived.Lib.LaidTab
import Derived.Lib.ItoaNum
import Derived.Test.YtgknckbplbldbaaDoorProg
namespace Go.Proofs.YtgknckbplbldbaaDoor.T
open Go.Rv
set_option linter.unusedVariables false
theorem gTab : Tryd.prog.globalNamed "internal/strconv.uint64pow10" = some 1 := by kernel_rfl
def TabAt (w : World) : Prop := ∃ e fr, w.heap[1]? = some (.cells (Lib.pow10Tab.map fun z => Value.int .u64 z).toArray e fr)
instance amb : Ambient where
  holds Z w := Z 1 0 ∧ TabAt w
  mono := fun h k => ⟨(k _ _ h.1).1, by obtain ⟨e, fr, h2⟩ := h.2; exact ⟨e, fr, by rw [(k _ _ h.1).2]; exact h2⟩⟩
theorem amb_tab {Z : Nat → Nat → Prop} {w : World} (h : Ambient.holds Z w) : Lib.TabIs Tryd.prog w "internal/strconv.uint64pow10" .u64 Lib.pow10Tab := by
  obtain ⟨e, fr, h2⟩ := h.2
  unfold Lib.TabIs World.var?
  rw [gTab]
  simp only [Option.bind_some, h2]
theorem tab_at {W : World} (h : Lib.TabIs Tryd.prog W "internal/strconv.uint64pow10" .u64 Lib.pow10Tab) : TabAt W := by
  unfold Lib.TabIs World.var? at h
  rw [gTab] at h
  simp only [Option.bind_some] at h
  split at h
  · rename_i cs e fr hb
    cases h
    exact ⟨e, fr, hb⟩
  · cases h
theorem tab_lt {W : World} (h : TabAt W) : 1 < W.heap.size := by
  obtain ⟨e, fr, h⟩ := h
  exact (Array.getElem?_eq_some_iff.1 h).1
theorem amb_start {W : World} (h : Lib.TabIs Tryd.prog W "internal/strconv.uint64pow10" .u64 Lib.pow10Tab) {Z : Nat → Nat → Prop} (hz : ∀ b o, b < W.heap.size → Z b o) : Ambient.holds Z W := ⟨hz _ _ (tab_lt (tab_at h)), tab_at h⟩
end Go.Proofs.YtgknckbplbldbaaDoor.T
