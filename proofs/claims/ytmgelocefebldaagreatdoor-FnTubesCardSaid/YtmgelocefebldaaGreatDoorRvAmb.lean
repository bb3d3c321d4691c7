/- What is known of the library's variables: the table of powers of 10, the errors of strconv, a length of bytealg's. -/
import Derived.Test.YtmgelocefebldaaGreatDoorRvStrK
import Derived.Lib.LaidTab
import Derived.Lib.ItoaNum
import Derived.Test.YtmgelocefebldaaGreatDoorProg
namespace Go.Proofs.YtmgelocefebldaaGreatDoor.T
open Go.Rv
set_option linter.unusedVariables false
theorem gTab : Tryz.prog.globalNamed "internal/strconv.uint64pow10" = some 1 := by kernel_rfl
def TabAt (w : World) : Prop := ∃ e fr, w.heap[1]? = some (.cells (Lib.pow10Tab.map fun z => Value.int .u64 z).toArray e fr)
def ErrAt (w : World) (g : Nat) : Prop := ∃ te pe, w.cell? ⟨g, 0, none⟩ = some (.iface te pe)
def IntAt (w : World) (g : Nat) : Prop := ∃ m, w.cell? ⟨g, 0, none⟩ = some (.int .i64 m)
theorem ErrAt.of {w w' : World} {g : Nat} (h : ErrAt w g) (e : w'.heap[g]? = w.heap[g]?) : ErrAt w' g := by
  obtain ⟨te, pe, h⟩ := h
  exact ⟨te, pe, by rw [World.cell?_of_block (w := w) (a := ⟨g, 0, none⟩) e]; exact h⟩
theorem IntAt.of {w w' : World} {g : Nat} (h : IntAt w g) (e : w'.heap[g]? = w.heap[g]?) : IntAt w' g := by
  obtain ⟨m, h⟩ := h
  exact ⟨m, by rw [World.cell?_of_block (w := w) (a := ⟨g, 0, none⟩) e]; exact h⟩
instance amb : Ambient where
  holds Z w := (Z 1 0 ∧ TabAt w) ∧ (Z 4 0 ∧ ErrAt w 4) ∧ (Z 5 0 ∧ ErrAt w 5) ∧ (Z 0 0 ∧ IntAt w 0)
  mono := fun h k => ⟨⟨(k _ _ h.1.1).1, by obtain ⟨e, fr, h2⟩ := h.1.2; exact ⟨e, fr, by rw [(k _ _ h.1.1).2]; exact h2⟩⟩, ⟨(k _ _ h.2.1.1).1, h.2.1.2.of (k _ _ h.2.1.1).2⟩, ⟨(k _ _ h.2.2.1.1).1, h.2.2.1.2.of (k _ _ h.2.2.1.1).2⟩, (k _ _ h.2.2.2.1).1, h.2.2.2.2.of (k _ _ h.2.2.2.1).2⟩
theorem amb_tab {Z : Nat → Nat → Prop} {w : World} (h : Ambient.holds Z w) : Lib.TabIs Tryz.prog w "internal/strconv.uint64pow10" .u64 Lib.pow10Tab := by
  obtain ⟨e, fr, h2⟩ := h.1.2
  unfold Lib.TabIs World.var?
  rw [gTab]
  simp only [Option.bind_some, h2]
theorem amb_syn {Z : Nat → Nat → Prop} {w : World} (h : Ambient.holds Z w) : ErrAt w 4 := h.2.1.2
theorem amb_rng {Z : Nat → Nat → Prop} {w : World} (h : Ambient.holds Z w) : ErrAt w 5 := h.2.2.1.2
theorem amb_max {Z : Nat → Nat → Prop} {w : World} (h : Ambient.holds Z w) : IntAt w 0 := h.2.2.2.2
theorem tab_at {W : World} (h : Lib.TabIs Tryz.prog W "internal/strconv.uint64pow10" .u64 Lib.pow10Tab) : TabAt W := by
  unfold Lib.TabIs World.var? at h
  rw [gTab] at h
  simp only [Option.bind_some] at h
  split at h
  · rename_i cs e fr hb
    cases h
    exact ⟨e, fr, hb⟩
  · cases h
theorem tab_lt {W : World} (h : TabAt W) : 1 < W.heap.size := by
  obtain ⟨e, fr, h⟩ := h
  exact (Array.getElem?_eq_some_iff.1 h).1
theorem cell_lt {w : World} {g : Nat} {v : Value} (h : w.cell? ⟨g, 0, none⟩ = some v) : g < w.heap.size := World.block_lt_of_cell? _ _ h
theorem amb_start {W : World} (h : Lib.TabIs Tryz.prog W "internal/strconv.uint64pow10" .u64 Lib.pow10Tab) (hs : ErrAt W 4) (hr : ErrAt W 5) (hm : IntAt W 0) {Z : Nat → Nat → Prop} (hz : ∀ b o, b < W.heap.size → Z b o) : Ambient.holds Z W :=
  ⟨⟨hz _ _ (tab_lt (tab_at h)), tab_at h⟩, ⟨hz _ _ (by obtain ⟨_, _, h⟩ := hs; exact cell_lt h), hs⟩, ⟨hz _ _ (by obtain ⟨_, _, h⟩ := hr; exact cell_lt h), hr⟩, hz _ _ (by obtain ⟨_, h⟩ := hm; exact cell_lt h), hm⟩
end Go.Proofs.YtmgelocefebldaaGreatDoor.T
