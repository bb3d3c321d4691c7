/- The law's frame at lists of int64: a copy is the list itself, a list equals itself, marks are consecutive numbers and are held. -/
import Derived.Test.YtgknckbplbldbaaKit
import Derived.Test.YtgknckbplbldbaaGy2
namespace Go.Proofs.Ytgknckbplbldbaa.K
open Go.RowKit Go.Proofs.Ytgknckbplbldbaa.G Go.Proofs.YtgknckbplbldbaaW.PrintWords Go.Proofs.YtgknckbplbldbaaW.PrintLast

theorem eqInt64S_self (l : List Int) (k : Nat) (hl : l.length ≤ 1048576) (hk : l.length < k) : laws_eqInt64S.f k l l = some true := by
  unfold laws_eqInt64S.f
  rw [if_pos rfl]
  refine loop_all 0 l (fun k (_ : Unit) i => laws_eqInt64S.l0 k l l i) (fun _ _ => true) (fun _ _ => True) ?_ ?_ k () hk trivial
  · intro k s _ _
    simp only [laws_eqInt64S.l0]
    rw [if_neg (by omega)]
  · intro k s pre x rest _ e _ ih
    have hlen : l.length = pre.length + (rest.length + 1) := by rw [e]; simp
    simp only [laws_eqInt64S.l0]
    rw [if_pos (by omega), if_pos (by omega), if_pos (by omega), if_pos trivial, w64 (by omega) (by omega)]
    exact ih () trivial
theorem markInt64S_eq (l : List Int) (a : Int) (k : Nat) (hl : l.length ≤ 1048576) (h0 : 0 ≤ a) (ha : a ≤ 1000000000000) (hk : l.length < k) :
    laws_markInt64S.f k l a = some (a + l.length, iota a l.length) := by
  unfold laws_markInt64S.f
  refine loop_all 0 l (fun k (s : Int × List Int) i => laws_markInt64S.l0 k s.2 s.1 i) (fun s rest => (a + l.length, s.2.take (l.length - rest.length) ++ iota s.1 rest.length)) (fun s i => s.1 = a + i ∧ s.2.length = l.length) ?_ ?_ k (a, l) hk ⟨by simp, rfl⟩ |>.trans ?_
  · intro k s _ ⟨h1, h2⟩
    simp only [laws_markInt64S.l0]
    rw [if_neg (by omega), h1]
    have : s.2.take l.length = s.2 := by rw [← h2, List.take_length]
    simp [iota, this]
  · intro k s pre x rest _ e ⟨h1, h2⟩ ih
    have hlen : l.length = pre.length + (rest.length + 1) := by rw [e]; simp
    simp only [laws_markInt64S.l0]
    rw [if_pos (by omega), if_pos (by omega), w64 (by omega) (by omega), w64 (by omega) (by omega)]
    rw [ih (s.1 + 1, s.2.set ((pre.length : Int)).toNat s.1) ⟨by simp only; omega, by simpa using h2⟩]
    congr 1
    have e2 : ((pre.length : Int)).toNat = pre.length := by omega
    have e3 : l.length - rest.length = pre.length + 1 := by omega
    have e4 : l.length - (x :: rest).length = pre.length := by simp; omega
    simp only [e2, e3, e4]
    rw [List.take_add_one, List.take_set_of_le (Nat.le_refl _), List.getElem?_set_self (by omega)]
    simp [iota]
  · simp
theorem heldInt64S_eq (n : Nat) (a : Int) (k : Nat) (hl : n ≤ 1048576) (h0 : 0 ≤ a) (ha : a ≤ 1000000000000) (hk : n < k) :
    laws_heldInt64S.f k (iota a n) a = some (a + n) := by
  have key : ∀ (d : Nat) (pre : List Int) (b : Int) (k : Nat), b = a + pre.length → iota a n = pre ++ iota b d → pre.length + d = n → d < k → laws_heldInt64S.l0 k (iota a n) b (pre.length : Int) = some (a + n) := by
    intro d
    induction d with
    | zero =>
      intro pre b k hb e hn hk
      obtain ⟨k, rfl⟩ : ∃ j, k = j + 1 := ⟨k - 1, by omega⟩
      simp only [laws_heldInt64S.l0]
      rw [if_neg (by rw [iota_length]; omega)]
      congr 1; omega
    | succ d ih =>
      intro pre b k hb e hn hk
      obtain ⟨k, rfl⟩ : ∃ j, k = j + 1 := ⟨k - 1, by omega⟩
      simp only [laws_heldInt64S.l0]
      rw [if_pos (by rw [iota_length]; omega), if_pos (by omega)]
      have e1 : rd (iota a n) (pre.length : Int) = b := by rw [e]; exact rd_mid _ _ _
      rw [if_pos e1, w64 (by omega) (by omega), w64 (by omega) (by omega)]
      have := ih (pre ++ [b]) (b + 1) k (by simp; omega) (by rw [e]; simp [iota]) (by simp; omega) (by omega)
      simpa using this
  have := key n [] a k (by simp) (by simp) (by simp) hk
  simpa [laws_heldInt64S.f] using this
theorem eqInts_ev (l : List Int) (hl : l.length ≤ 1048576) : Ev (fun k => laws_eqInt64S.f k l l) true := ⟨l.length + 1, fun k hk => eqInt64S_self l k hl (by omega)⟩
theorem markInts_ev (l : List Int) (n : Int) (hl : l.length ≤ 1048576) (h0 : 0 ≤ n) (hn : n ≤ 1000000000000) : Ev (fun k => laws_markInt64S.f k l n) (n + l.length, iota n l.length) :=
  ⟨l.length + 1, fun k hk => markInt64S_eq l n k hl h0 hn (by omega)⟩
theorem heldInts_ev (m : Nat) (n : Int) (hl : m ≤ 1048576) (h0 : 0 ≤ n) (hn : n ≤ 1000000000000) : Ev (fun k => laws_heldInt64S.f k (iota n m) n) (n + m) :=
  ⟨m + 1, fun k hk => heldInt64S_eq m n k hl h0 hn (by omega)⟩
end Go.Proofs.Ytgknckbplbldbaa.K
