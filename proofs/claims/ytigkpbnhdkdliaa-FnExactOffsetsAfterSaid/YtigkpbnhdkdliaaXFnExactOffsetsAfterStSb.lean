/- Courses, by the reference. -/
import Derived.Test.YtigkpbnhdkdliaaXFnExactOffsetsAfterStB
namespace Go.Proofs.Ytigkpbnhdkdliaa.R
open Go.Rv Go.Rv.St
set_option linter.unusedVariables false
set_option linter.unusedSimpArgs false
theorem in5_eq (k : Nat) (x lo hi : Int) : spec_l00In.f k x lo hi = some (inn lo hi x) := by
  unfold spec_l00In.f inn
  by_cases h : lo ≤ x <;> simp [h]
theorem limS_w (M H : Int) : W (fun k _ => spec_l05Limits.f k M H) (· = limB M H) := by
  refine spec_l05Limits.w (W.bindN (fun k => in5_eq k _ _ _) (W.bi (fun h => W.bindN (fun k => in5_eq k _ _ _) (W.ret ?_)) (fun h => W.ret ?_)))
  · simp [limB, h]
  · simp [limB, h]
theorem inS_w {M : Int} (h1 : 1 ≤ M ∧ M ≤ 3) (c : C) : W (fun k _ => spec_l05Inside.f k M c.1 c.2.1 c.2.2) (· = ins M c) := by
  refine spec_l05Inside.w (W.bindN (fun k => in5_eq k _ _ _) (W.bi (fun h => W.bindN (fun k => in5_eq k _ _ _) (W.bi (fun h' => W.bindN (fun k => in5_eq k _ _ _) (W.ret ?_)) (fun h' => W.ret ?_))) (fun h => W.ret ?_)))
  · rw [w64 (by omega) (by omega), Int.zero_sub]
    simp [ins, h, h']
  · simp [ins, h, h']
  · simp [ins, h]
theorem isS_w (M H : Int) (c : C) : W (fun k _ => spec_l05Is.f k M H c.1 c.2.1 c.2.2) (· = (limB M H && ins M c)) := by
  refine spec_l05Is.w (W.bindE (limS_w M H) (W.bi (fun h => ?_) (fun h => W.ret (by simp [h]))))
  have hL := lim_iff.1 h
  exact W.bindE (inS_w ⟨hL.a, hL.b⟩ c) (W.ret (by simp [h]))
theorem spot_eq (k : Nat) {c : C} (h : small c) : spec_l05Spot.f k c.1 c.2.1 c.2.2 = some (spot c) := by
  unfold small at h
  unfold spec_l05Spot.f spot
  rw [w64 (i := c.1 + 40) (by omega) (by omega), w64 (i := (c.1 + 40) * 21) (by omega) (by omega), w64 (i := (c.1 + 40) * 21 + c.2.1) (by omega) (by omega), w64 (i := (c.1 + 40) * 21 + c.2.1 + 10) (by omega) (by omega), w64 (i := ((c.1 + 40) * 21 + c.2.1 + 10) * 7) (by omega) (by omega), w64 (i := ((c.1 + 40) * 21 + c.2.1 + 10) * 7 + c.2.2) (by omega) (by omega), w64 (by omega) (by omega)]
theorem nextS_w {M H : Int} (hL : Lim M H) {c : C} (hc : small c) {t : Int} (ht : -1000 ≤ t ∧ t ≤ 1000) : W (fun k _ => spec_l05Next.f k M H c.1 c.2.1 c.2.2 t) (· = nxV M H c t) := by
  have h1 := hL.a
  have h2 := hL.b
  have h3 := hL.c
  have h4 := hL.d
  unfold small at hc
  refine spec_l05Next.w (W.bindN (fun k => in5_eq k _ _ _) ?_)
  rw [w64 (i := 0 - M) (by omega) (by omega), w64 (i := t - c.2.2) (by omega) (by omega), w64 (i := 0 - H) (by omega) (by omega), Int.zero_sub, Int.zero_sub]
  unfold nxV nxo
  refine W.ni (fun h => W.ret (by simp [h])) (fun h => ?_)
  refine W.bindN (fun k => in5_eq k _ _ _) ?_
  refine W.ni (fun h' => W.ret (by simp [h'])) (fun h' => spec_l05Next.w0 ?_)
  rw [w64 (i := c.1 + c.2.1) (by omega) (by omega), w64 (i := c.2.1 + t) (by omega) (by omega)]
  refine W.bindE (inS_w ⟨h1, h2⟩ (stp c t)) (W.ni (fun h3 => W.ret ?_) (fun h3 => W.ret ?_))
  · simp [h, h', h3]
  · simp only [h, h', h3, Bool.and_self, if_true]; rfl
end Go.Proofs.Ytigkpbnhdkdliaa.R
