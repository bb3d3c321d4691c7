/- Both parts of an axis that is split. -/
import Derived.Test.YtkmnllcccgnliaaXFnSplitAxS
namespace Go.Proofs.Ytkmnllcccgnliaa.R
open Go.Rv Go.Rv.Ax
set_option linter.unusedVariables false
set_option linter.unusedSimpArgs false
theorem tl_if (k : Int) (c : Cu) : tl (if 0 < k then [(k, c.2)] else []) = List.replicate k.toNat (un c) := by
  split
  · rw [tl_one]; rfl
  · rw [show k.toNat = 0 by omega]; rfl
theorem splitL_tl : ∀ (l : List Cu) (n : Int), (∀ c ∈ l, 1 ≤ c.1) → 0 ≤ n → tl (splitL n l).1 = (tl l).take n.toNat ∧ tl (splitL n l).2 = (tl l).drop n.toNat
  | [], n, _, _ => by simp [splitL, tl]
  | c :: l, n, h, hn => by
    have hc := h c (by simp)
    have hk : 0 ≤ cut1 n c ∧ cut1 n c ≤ n ∧ cut1 n c ≤ c.1 := by unfold cut1; split <;> omega
    have ih := splitL_tl l (n - cut1 n c) (fun d hd => h d (List.mem_cons_of_mem _ hd)) (by omega)
    have e2 : tl (if cut1 n c < c.1 then [(c.1 - cut1 n c, c.2)] else []) = List.replicate (c.1 - cut1 n c).toNat (un c) := by
      rw [← tl_if]
      congr 1
      by_cases hq : cut1 n c < c.1
      · rw [if_pos hq, if_pos (by omega)]
      · rw [if_neg hq, if_neg (by omega)]
    simp only [splitL, tl_app, ih.1, ih.2, tl_if, e2, tl_cons]
    have hlen : (List.replicate c.1.toNat (un c)).length = c.1.toNat := List.length_replicate
    by_cases hq : n < c.1
    · have hcut : cut1 n c = n := if_pos hq
      rw [hcut, List.take_append_of_le_length (by rw [hlen]; omega), List.drop_append_of_le_length (by rw [hlen]; omega), List.take_replicate, List.drop_replicate]
      rw [show (n - n).toNat = 0 by omega, show min n.toNat c.1.toNat = n.toNat by omega, show (c.1 - n).toNat = c.1.toNat - n.toNat by omega]
      simp
    · have hcut : cut1 n c = c.1 := if_neg hq
      rw [hcut, List.take_append, List.drop_append, hlen, List.take_replicate, List.drop_replicate]
      rw [show (c.1 - c.1).toNat = 0 by omega, show min n.toNat c.1.toNat = c.1.toNat by omega, show c.1.toNat - n.toNat = 0 by omega, show (n - c.1).toNat = n.toNat - c.1.toNat by omega]
      simp
theorem splitL_ok : ∀ (l : List Cu) (n : Int), (∀ c ∈ l, okC c = true) → (∀ d ∈ (splitL n l).1, okC d = true) ∧ ∀ d ∈ (splitL n l).2, okC d = true
  | [], n, _ => by simp [splitL]
  | c :: l, n, h => by
    have hc := okC_iff.1 (h c (by simp))
    have ih := splitL_ok l (n - cut1 n c) (fun d hd => h d (List.mem_cons_of_mem _ hd))
    simp only [splitL]
    refine ⟨fun d hd => ?_, fun d hd => ?_⟩
    · rcases List.mem_append.1 hd with hd | hd
      · split at hd
        · simp at hd; subst hd; exact okC_iff.2 ⟨by simp only; omega, hc.2⟩
        · cases hd
      · exact ih.1 d hd
    · rcases List.mem_append.1 hd with hd | hd
      · split at hd
        · simp at hd; subst hd; exact okC_iff.2 ⟨by simp only; omega, hc.2⟩
        · cases hd
      · exact ih.2 d hd
theorem pose_at {p : Po} (ts : List Cu) (n : Nat) (hn : n ≤ ts.length) : rd (0, (0, (0, 0))) (p :: scan p ts) (n : Int) = endP p (ts.take n) := by
  obtain ⟨pre, e, hl⟩ := last_scan p (ts.take n)
  have hs : scan p ts = scan p (ts.take n) ++ scan (endP p (ts.take n)) (ts.drop n) := by rw [← scan_app, List.take_append_drop]
  have hpl : pre.length = n := by rw [hl, List.length_take]; omega
  rw [hs, ← List.cons_append, e, List.append_assoc, ← hpl]
  exact rd_mid _ _ _
structure Parts (p : Po) (l : List Cu) (n : Int) (q : Po) (X Y : List Cu) : Prop where
  okX : Ok p X
  okY : Ok q Y
  tX : tl X = (tl l).take n.toNat
  tY : tl Y = (tl l).drop n.toNat
  hq : q = endP p (tl X)
  pX : poses p X = (poses p l).take (n.toNat + 1)
  pY : poses q Y = (poses p l).drop n.toNat
theorem parts_ok {p : Po} {l : List Cu} (h : Ok p l) {n : Int} (h1 : 1 ≤ n) (h2 : n < ((tl l).length : Int)) : Parts p l n (rd (0, (0, (0, 0))) (poses p l) n) (splitL n l).1 (splitL n l).2 := by
  have hc : ∀ c ∈ l, 1 ≤ c.1 := fun c hc => (h.c hc).1
  obtain ⟨t1, t2⟩ := splitL_tl l n hc (by omega)
  obtain ⟨k1, k2⟩ := splitL_ok l n h.2.2.1
  obtain ⟨s1, s2⟩ := splitL_length l n
  have hl8 := h.2.1
  have h60 := h.len
  have hpos : ∀ Z : List Cu, (∀ d ∈ Z, okC d = true) → 1 ≤ (tl Z).length → 1 ≤ Z.length := fun Z hZ hz => by
    cases Z with
    | nil => simp [tl] at hz
    | cons a b => simp
  have hsum : ∀ Z : List Cu, (∀ d ∈ Z, okC d = true) → sumR Z = ((tl Z).length : Int) := fun Z hZ => (tl_length fun d hd => by have := (okC_iff.1 (hZ d hd)).1; omega).symm
  have l1 : (tl (splitL n l).1).length = n.toNat := by rw [t1, List.length_take]; omega
  have l2 : (tl (splitL n l).2).length = (tl l).length - n.toNat := by rw [t2, List.length_drop]
  have hq : rd (0, (0, (0, 0))) (poses p l) n = endP p (tl (splitL n l).1) := by
    have := pose_at (p := p) (tl l) n.toNat (by omega)
    rw [show ((n.toNat : Nat) : Int) = n by omega] at this
    rw [t1]; exact this
  have hs : scan p (tl l) = scan p (tl (splitL n l).1) ++ scan (endP p (tl (splitL n l).1)) (tl (splitL n l).2) := by rw [t1, t2, ← scan_app, List.take_append_drop]
  have hok := h.2.2.2.2
  rw [hs] at hok
  have hX : Ok p (splitL n l).1 := ⟨h.1, ⟨hpos _ k1 (by omega), by omega⟩, k1, by rw [hsum _ k1]; omega, fun q hq => hok q (List.mem_append_left _ hq)⟩
  have hqok : okP (endP p (tl (splitL n l).1)) = true := endP_mem p _ hX.2.2.2.2 h.1
  refine ⟨hX, ?_, t1, t2, hq, ?_, ?_⟩
  · rw [hq]
    exact ⟨hqok, ⟨hpos _ k2 (by omega), by omega⟩, k2, by rw [hsum _ k2]; omega, fun q hq => hok q (List.mem_append_right _ hq)⟩
  · show p :: scan p (tl (splitL n l).1) = (p :: scan p (tl l)).take (n.toNat + 1)
    rw [List.take_succ_cons, hs, List.take_append_of_le_length (by rw [scan_length]; omega), List.take_of_length_le (by rw [scan_length]; omega)]
  · rw [hq]
    obtain ⟨pre, e, hl⟩ := last_scan p (tl (splitL n l).1)
    show endP p (tl (splitL n l).1) :: scan (endP p (tl (splitL n l).1)) (tl (splitL n l).2) = (p :: scan p (tl l)).drop n.toNat
    rw [hs, ← List.cons_append, e, List.append_assoc]
    have hpl : pre.length = n.toNat := by omega
    rw [← hpl, List.drop_left]; rfl
end Go.Proofs.Ytkmnllcccgnliaa.R
