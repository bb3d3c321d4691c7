/- Courses, by the program. -/
import Derived.Test.YtigkpbnhdkdliaaRvN0W
import Derived.Test.YtigkpbnhdkdliaaXFnExactSt
namespace Go.Proofs.Ytigkpbnhdkdliaa.R0
open Go.Rv Go.Rv.St
set_option linter.unusedVariables false
set_option linter.unusedSimpArgs false
theorem within5_eq (k : Nat) (x lo hi : Int) : impl_within.f k x lo hi = some (inn lo hi x) := by
  unfold impl_within.f inn
  by_cases h : lo ≤ x <;> simp [h]
theorem limI_w (M H : Int) : W (fun k _ => impl_ValidLimits.f k M H) (· = limB M H) := by
  refine impl_ValidLimits.w (W.bindN (fun k => within5_eq k _ _ _) (W.bi (fun h => W.bindN (fun k => within5_eq k _ _ _) (W.ret ?_)) (fun h => W.ret ?_)))
  · simp [limB, h]
  · simp [limB, h]
theorem isC_w {M : Int} (h1 : 1 ≤ M ∧ M ≤ 3) (H : Int) (c : C) : W (fun k _ => impl_Limits_isCourse.f k M H c.1 c.2.1 c.2.2) (· = ins M c) := by
  refine impl_Limits_isCourse.w (W.bindN (fun k => within5_eq k _ _ _) (W.bi (fun h => W.bindN (fun k => within5_eq k _ _ _) (W.bi (fun h' => W.bindN (fun k => within5_eq k _ _ _) (W.ret ?_)) (fun h' => W.ret ?_))) (fun h => W.ret ?_)))
  · rw [w64 (by omega) (by omega), Int.zero_sub]
    simp [ins, h, h']
  · simp [ins, h, h']
  · simp [ins, h]
theorem validI_w (M H : Int) (c : C) : W (fun k _ => impl_ValidCourse.f k M H c.1 c.2.1 c.2.2) (· = (limB M H && ins M c)) := by
  refine impl_ValidCourse.w (W.bindE (limI_w M H) (W.bi (fun h => ?_) (fun h => W.ret (by simp [h]))))
  have hL := lim_iff.1 h
  exact W.bindE (isC_w ⟨hL.a, hL.b⟩ H c) (W.ret (by simp [h]))
def small (c : C) : Prop := (-1000 ≤ c.1 ∧ c.1 ≤ 1000) ∧ (-1000 ≤ c.2.1 ∧ c.2.1 ≤ 1000) ∧ (-1000 ≤ c.2.2 ∧ c.2.2 ≤ 1000)
theorem small_ins {M H : Int} (hL : Lim M H) {c : C} (h : ins M c = true) : small c := by
  have := hL.b
  rw [ins_iff] at h
  unfold small
  omega
def nxV (M H : Int) (c : C) (t : Int) : Int × Int × Int × Bool := if nxo M H c t = true then ((stp c t).1, (stp c t).2.1, (stp c t).2.2, true) else (0, 0, 0, false)
theorem abI_eq (k : Nat) {x : Int} (h : -100000 ≤ x ∧ x ≤ 100000) : impl_abs.f k x = some (ab x) := by
  unfold impl_abs.f ab
  rw [w64 (by omega) (by omega)]
theorem ab_le {H x : Int} : (H < ab x) ↔ ¬ inn (-H) H x = true := by
  rw [inn_iff]
  unfold ab
  split <;> omega
theorem nextI_w {M H : Int} (hL : Lim M H) {c : C} (hc : small c) {t : Int} (ht : -1000 ≤ t ∧ t ≤ 1000) : W (fun k _ => impl_Limits_next.f k M H c.1 c.2.1 c.2.2 t) (· = nxV M H c t) := by
  have h1 := hL.a
  have h2 := hL.b
  unfold small at hc
  refine impl_Limits_next.w (W.bindN (fun k => within5_eq k _ _ _) ?_)
  rw [w64 (i := 0 - M) (by omega) (by omega), w64 (i := t - c.2.2) (by omega) (by omega), Int.zero_sub]
  unfold nxV nxo
  refine W.ni (fun h => W.ret (by simp [h])) (fun h => ?_)
  refine W.bindN (fun k => abI_eq k (by omega)) ?_
  refine W.di (fun h' => W.ret ?_) (fun h' => impl_Limits_next.w0 ?_)
  · rw [ab_le] at h'
    simp [h']
  · rw [ab_le, Classical.not_not] at h'
    rw [w64 (i := c.1 + c.2.1) (by omega) (by omega), w64 (i := c.2.1 + t) (by omega) (by omega)]
    refine W.bindE (isC_w ⟨h1, h2⟩ H (stp c t)) (W.ni (fun h3 => W.ret ?_) (fun h3 => W.ret ?_))
    · simp [h, h', h3]
    · simp only [h, h', h3, Bool.and_self, if_true]; rfl
theorem kwf_int {a : Int} (h : -1000 ≤ a ∧ a ≤ 1000) : kwf (.int .i64) a = true := by
  show (decide ((-9223372036854775808 : Int) ≤ a) && decide (a ≤ (9223372036854775807 : Int))) = true
  simp only [Bool.and_eq_true, decide_eq_true_eq]
  omega
theorem kwf_small {c : C} (h : small c) : kwf (.pair (.int .i64) (.pair (.int .i64) (.int .i64))) (c.1, (c.2.1, c.2.2)) = true := by
  show (kwf (.int .i64) c.1 && (kwf (.int .i64) c.2.1 && kwf (.int .i64) c.2.2)) = true
  rw [kwf_int h.1, kwf_int h.2.1, kwf_int h.2.2]
  rfl
theorem turnsI_w {M H : Int} (hL : Lim M H) {c : C} (hc : ins M c = true) : W (fun k _ => impl_Limits_turns.f k M H c.1 c.2.1 c.2.2) (· = (tn M).filter (nxo M H c)) := by
  have hM1 := hL.a
  have hM2 := hL.b
  have key : ∀ (d : Nat) (b : Int) (acc : List Int), b + (d : Int) = M + 1 → -M ≤ b → acc.length + d ≤ 100 → W (fun k m => (impl_Limits_turns.cs k m) M H c.1 c.2.1 c.2.2 acc b) (· = acc ++ (from_ b d).filter (nxo M H c)) := by
    intro d
    induction d with
    | zero => intro b acc e hb hl; exact impl_Limits_turns.w0 (W.de (by omega) (W.ret (by simp [from_])))
    | succ d ih =>
      intro b acc e hb hl
      refine impl_Limits_turns.w0 (W.dt (by omega) (W.bindE (nextI_w hL (small_ins hL hc) (t := b) (by omega)) ?_))
      rw [w64 (i := b + 1) (by omega) (by omega)]
      unfold nxV
      cases hq : nxo M H c b with
      | true =>
        refine W.t rfl (W.t (by omega) ?_)
        have := ih (b + 1) (acc ++ [b]) (by omega) (by omega) (by simp; omega)
        simpa [from_, hq] using this
      | false =>
        refine W.e (by simp) ?_
        have := ih (b + 1) acc (by omega) (by omega) (by omega)
        simpa [from_, hq] using this
  refine impl_Limits_turns.w ?_
  rw [w64 (i := 0 - M) (by omega) (by omega), Int.zero_sub]
  exact key _ _ [] (by omega) (by omega) (by simp; omega)
end Go.Proofs.Ytigkpbnhdkdliaa.R0
