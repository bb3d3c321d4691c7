/- Rings along an axis: offsets and squares (the reference). -/
import Derived.Test.YtmgelocefebldaaXFnExactOffsetsBehindOffsI
import Derived.Test.YtmgelocefebldaaXFnExactOffsetsBehindRngQ
import Derived.Test.YtmgelocefebldaaXFnExactOffsetsBehindAxS1
namespace Go.Proofs.Ytmgelocefebldaa.R
open Go.Rv Go.Rv.Ax
set_option linter.unusedVariables false
set_option linter.unusedSimpArgs false
theorem specBehind_w (p : Po) (l : List Cu) (b n : Int) (hb : -9223372036854775808 ≤ b ∧ b ≤ 9223372036854775807) (hn : 0 ≤ n) : W (fun k _ => spec_l03Behind.f k p.1 p.2.1 p.2.2.1 p.2.2.2 l b n) (· = (decide (Ok p l) && (decide (0 ≤ b) && decide (b + n ≤ ((tl l).length : Int))))) := by
  refine spec_l03Behind.w ?_
  by_cases h : Ok p l
  case neg => exact W.bindE (t := (0, false)) (spec_RingsOf.w (W.bindE (specIs_w p l) (W.nt (by simp [h]) (W.ret rfl)))) (W.e (by simp) (W.ret (by simp [h])))
  have hlen := h.len
  refine W.bindE (t := (((tl l).length : Int), true)) (spec_RingsOf.w (W.bindE (specIs_w p l) (W.ne (by simp [h]) (W.bindE (specRings_w h) (W.ret rfl))))) (W.t rfl (W.bindN (fun k => l00In_eq k _ _ _) ?_))
  dsimp only
  by_cases h1 : 0 ≤ b ∧ b ≤ ((tl l).length : Int)
  case neg =>
    refine W.e (by rw [inR_no.2 h1]; simp) (W.ret ?_)
    symm
    simp only [Bool.and_eq_false_iff, decide_eq_false_iff_not]
    omega
  refine W.t (inR_iff.2 h1) ?_
  rw [w64 (i := ((tl l).length : Int) - b) (by omega) (by omega)]
  refine W.bindN (fun k => l00In_eq k _ _ _) (W.ret ?_)
  rw [Bool.eq_iff_iff, inR_iff]
  simp only [Bool.and_eq_true, decide_eq_true_eq]
  constructor
  · intro h'; exact ⟨h, h1.1, by omega⟩
  · intro h'; omega
theorem specOff_w (p : Po) (l : List Cu) (b : Int) (s : Po) (t : List Ri) (hl : t.length ≤ 1048576) (hb : -9223372036854775808 ≤ b ∧ b ≤ 9223372036854775807) : W (fun k _ => spec_l03Offsets.f k p.1 p.2.1 p.2.2.1 p.2.2.2 l b s.1 s.2.1 s.2.2.1 s.2.2.2 t) (· = offV p l b s t) := by
  have no : okOff p l b s t ≠ true → offV p l b s t = ([], false) := fun h => by unfold offV; rw [if_neg h]
  refine spec_l03Offsets.w (W.bindE (specTube_w t hl) ?_)
  cases ht : tubeB t
  · refine W.nt rfl (W.ret (no fun h => ?_).symm)
    have := (okOff_iff.1 h).2.1
    unfold tubePV at this
    rw [ht] at this; simp at this
  have hpv : tubePV s t = tubeP s t := by unfold tubePV; rw [ht]; simp
  refine W.ne rfl (W.bindE (specBehind_w p l b (t.length : Int) hb (by omega)) ?_)
  cases hbh : (decide (Ok p l) && (decide (0 ≤ b) && decide (b + (t.length : Int) ≤ ((tl l).length : Int))))
  · refine W.nt rfl (W.ret (no fun h => ?_).symm)
    obtain ⟨q1, q2, q3, q4⟩ := okOff_iff.1 h
    simp [q1, q3, q4] at hbh
  simp only [Bool.and_eq_true, decide_eq_true_eq] at hbh
  obtain ⟨h1, h3, h4⟩ := hbh
  obtain ⟨t60, hr⟩ := tube_rings ht
  refine W.ne rfl (spec_l03Offsets.w0 (W.bindE (specTubePoses_w s t t60 hr) ?_))
  rw [← hpv]
  by_cases h2 : (tubePV s t).2 = true
  case neg => exact W.nt (by simpa using h2) (W.ret (no fun h => h2 (okOff_iff.1 h).2.1).symm)
  refine W.ne h2 (W.bindE (specPoses_w h1) ?_)
  have hT := tubeV_ok h2
  have hpl := poses_length p l
  have hlen := h1.len
  have hv : offV p l b s t = (offL (tubePV s t).1 (poses p l) b t.length, true) := by
    unfold offV; rw [if_pos (okOff_iff.2 ⟨h1, h2, h3, h4⟩)]
  rw [hv]
  have hx := h1.poses
  have hol := hT.len
  have hok := hT.ok
  generalize poses p l = ax at *
  generalize (tubePV s t).1 = own at *
  have key : ∀ (d i : Nat), t.length = i + d → W (fun k m => (spec_l03Offsets.cs k m).2 b t own ax (offL own ax b i) (i : Int)) (· = (offL own ax b t.length, true)) := by
    intro d
    induction d with
    | zero =>
      intro i e
      exact spec_l03Offsets.w1 (W.de (by omega) (W.ret (by rw [e]; simp)))
    | succ d ih =>
      intro i e
      have a1 := okP_iff.1 (rd_okP hok (i := (i : Int) + 1) (by omega) (by omega))
      have a2 := okP_iff.1 (rd_okP hx (i := b + (i : Int) + 1) (by omega) (by omega))
      have := ih (i + 1) (by omega)
      rw [offL_succ] at this
      refine spec_l03Offsets.w1 (W.dt (by omega) ?_)
      rw [w64 (i := b + (i : Int)) (by omega) (by omega), w64 (i := b + (i : Int) + 1) (by omega) (by omega), w64 (i := (i : Int) + 1) (by omega) (by omega)]
      refine W.t (by omega) (W.t (by omega) (W.t (by omega) (W.t (by omega) (W.bindN (t := off own ax b i) (fun k => ?_) (W.t (by rw [offL_length]; omega) this)))))
      unfold spec_l03Off.f
      rw [w64 (i := (rd (0, (0, (0, 0))) own ((i : Int) + 1)).1 - (rd (0, (0, (0, 0))) ax (b + (i : Int) + 1)).1) (by omega) (by omega), w64 (i := (rd (0, (0, (0, 0))) own ((i : Int) + 1)).2.1 - (rd (0, (0, (0, 0))) ax (b + (i : Int) + 1)).2.1) (by omega) (by omega)]
      rfl
  exact key t.length 0 (by omega)
end Go.Proofs.Ytmgelocefebldaa.R
