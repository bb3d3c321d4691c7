/- What the walk of the smoothest plan calls: valid, next, turns; in plain words of memory. -/
import Derived.Test.YtigkpbnhdkdliaaRvStB0
import Derived.Test.YtigkpbnhdkdliaaRvCallN
import Derived.Test.YtigkpbnhdkdliaaXFnExactSm
namespace Go.Proofs.Ytigkpbnhdkdliaa.T
open Go.Rv Go.Rv.St R0
set_option linter.unusedVariables false
set_option linter.unusedSimpArgs false
def lv (M H : Int) : Value := .agg #[.int .i64 M, .int .i64 H]
def cv (c : C) : Value := .agg #[.int .i64 c.1, .int .i64 c.2.1, .int .i64 c.2.2]
theorem num2 (M H : Int) : NumC (true, [.int .i64 M, .int .i64 H]) (lv M H) := ⟨[M, H], rfl, rfl⟩
theorem num3 (c : C) : NumC (true, [.int .i64 c.1, .int .i64 c.2.1, .int .i64 c.2.2]) (cv c) := ⟨[c.1, c.2.1, c.2.2], rfl, rfl⟩
theorem args2 {p q : Comp} {u v : Value} (h1 : NumC p u) (h2 : NumC q v) : ∀ (i : Nat) (x : Comp), [p, q][i]? = some x → ∃ z : Value, [u, v][i]? = some z ∧ NumC x z
  | 0, x, h => by cases h; exact ⟨u, rfl, h1⟩
  | 1, x, h => by cases h; exact ⟨v, rfl, h2⟩
  | n + 2, x, h => by simp at h
theorem args3 {p q r : Comp} {u v s : Value} (h1 : NumC p u) (h2 : NumC q v) (h3 : NumC r s) : ∀ (i : Nat) (x : Comp), [p, q, r][i]? = some x → ∃ z : Value, [u, v, s][i]? = some z ∧ NumC x z
  | 0, x, h => by cases h; exact ⟨u, rfl, h1⟩
  | 1, x, h => by cases h; exact ⟨v, rfl, h2⟩
  | 2, x, h => by cases h; exact ⟨s, rfl, h3⟩
  | n + 3, x, h => by simp at h
theorem valid_c (M H : Int) (c : C) (w : World) : Calls Try.prog 32 #[lv M H, cv c] w fun e w' => e = .returned (.bool (limB M H && ins M c)) ∧ Fresh w w' := by
  obtain ⟨v, rfl, N, hN⟩ := validI_w M H c
  refine (calls_num (impl_ValidCourse.ok N) rfl w (args := [(true, [.int .i64 M, .int .i64 H]), (true, [.int .i64 c.1, .int .i64 c.2.1, .int .i64 c.2.2])]) (vs := [lv M H, cv c]) rfl (args2 (num2 M H) (num3 c)) (res := [(false, [.bool (limB M H && ins M c)])]) ?_).mono ?_
  · show (impl_ValidCourse.f N M H c.1 c.2.1 c.2.2).bind _ = _
    rw [show impl_ValidCourse.f N M H c.1 c.2.1 c.2.2 = some ((limB M H && ins M c)) from hN N N (Nat.le_refl _) (Nat.le_refl _)]
    rfl
  · rintro e w' ⟨v, g', rfl, hF, hO, hv⟩
    obtain ⟨c0, h1, h2⟩ := hv
    cases h1
    rcases h2 with e | e | e
    · cases e
    · cases e
    · exact ⟨by rw [e], hF⟩
theorem within_c (x lo hi : Int) (w : World) : Calls Try.prog 34 #[.int .i64 x, .int .i64 lo, .int .i64 hi] w fun e w' => e = .returned (.bool (inn lo hi x)) ∧ Fresh w w' := by
  refine (calls_num (impl_within.ok 0) rfl w (args := [(false, [.int .i64 x]), (false, [.int .i64 lo]), (false, [.int .i64 hi])]) (vs := [.int .i64 x, .int .i64 lo, .int .i64 hi]) rfl (args3 ⟨x, rfl, rfl⟩ ⟨lo, rfl, rfl⟩ ⟨hi, rfl, rfl⟩) (res := [(false, [.bool (inn lo hi x)])]) ?_).mono ?_
  · show (impl_within.f 0 x lo hi).bind _ = _
    rw [within5_eq]
    rfl
  · rintro e w' ⟨v, g', rfl, hF, hO, hv⟩
    obtain ⟨c0, h1, h2⟩ := hv
    cases h1
    rcases h2 with e | e | e
    · cases e
    · cases e
    · exact ⟨by rw [e], hF⟩
theorem next_c {M H : Int} (hL : Lim M H) {c : C} (hc : ins M c = true) {t : Int} (ht : nxo M H c t = true) (w : World) : Calls Try.prog 33 #[lv M H, cv c, .int .i64 t] w fun e w' => e = .returned (.tuple #[cv (stp c t), .bool true]) ∧ Fresh w w' := by
  have htt : -1000 ≤ t ∧ t ≤ 1000 := by
    have := ht
    simp only [nxo, Bool.and_eq_true, inn_iff] at this
    have := hL.b
    omega
  obtain ⟨v, rfl, N, hN⟩ := nextI_w hL (small_ins hL hc) (t := t) htt
  refine (calls_num (impl_Limits_next.ok N) rfl w (args := [(true, [.int .i64 M, .int .i64 H]), (true, [.int .i64 c.1, .int .i64 c.2.1, .int .i64 c.2.2]), (false, [.int .i64 t])]) (vs := [lv M H, cv c, .int .i64 t]) rfl (args3 (num2 M H) (num3 c) ⟨t, rfl, rfl⟩)
    (res := [(true, [.int .i64 (stp c t).1, .int .i64 (stp c t).2.1, .int .i64 (stp c t).2.2]), (false, [.bool true])]) ?_).mono ?_
  · show (impl_Limits_next.f N M H c.1 c.2.1 c.2.2 t).bind _ = _
    rw [show impl_Limits_next.f N M H c.1 c.2.1 c.2.2 t = some (nxV M H c t) from hN N N (Nat.le_refl _) (Nat.le_refl _)]
    unfold nxV
    rw [if_pos ht]
    rfl
  · rintro e w' ⟨v, g', rfl, hF, hO, us, rfl, hl, hv⟩
    obtain ⟨u0, q0, vs, rfl, hl2, r0⟩ := hv 0 _ rfl
    obtain ⟨u1, q1, c1, h1, h2⟩ := hv 1 _ rfl
    cases h1
    have h2 : u1 = .bool true := by
      rcases h2 with e | e | e
      · cases e
      · cases e
      · exact e
    obtain ⟨a0, s0, z0⟩ := r0 0 _ rfl
    obtain ⟨a1, s1, z1⟩ := r0 1 _ rfl
    obtain ⟨a2, s2, z2⟩ := r0 2 _ rfl
    match us, hl, q0, q1 with
    | [x, y], _, q0, q1 =>
      simp at q0 q1
      match vs, hl2, s0, s1, s2 with
      | [x0, x1, x2], _, s0, s1, s2 =>
        simp at s0 s1 s2
        have z0 : a0 = .int .i64 (stp c t).1 := z0
        have z1 : a1 = .int .i64 (stp c t).2.1 := z1
        have z2 : a2 = .int .i64 (stp c t).2.2 := z2
        refine ⟨?_, hF⟩
        rw [q0, q1, h2, s0, s1, s2, z0, z1, z2]
        rfl
theorem turns_c {M H : Int} (hL : Lim M H) {c : C} (hc : ins M c = true) (w : World) : Calls Try.prog 35 #[lv M H, cv c] w fun e w' => ∃ v, e = .returned v ∧ Fresh w w' ∧ RowI w' ((tn M).filter (nxo M H c)) v ∧ ∀ a l c, v = .slice (some a) l c → w.heap.size ≤ a.block := by
  obtain ⟨v, rfl, N, hN⟩ := turnsI_w hL hc
  refine (calls_num (impl_Limits_turns.ok N) rfl w (args := [(true, [.int .i64 M, .int .i64 H]), (true, [.int .i64 c.1, .int .i64 c.2.1, .int .i64 c.2.2])]) (vs := [lv M H, cv c]) rfl (args2 (num2 M H) (num3 c)) (res := [(false, [.own (.int .i64) ((tn M).filter (nxo M H c))])]) ?_).mono ?_
  · show (impl_Limits_turns.f N M H c.1 c.2.1 c.2.2).bind _ = _
    rw [show impl_Limits_turns.f N M H c.1 c.2.1 c.2.2 = some ((tn M).filter (nxo M H c)) from hN N N (Nat.le_refl _) (Nat.le_refl _)]
    rfl
  · rintro e w' ⟨v, g', rfl, hF, hO, hv⟩
    obtain ⟨c0, h1, h2⟩ := hv
    cases h1
    rcases h2 with e | e | e
    · cases e
    · cases e
    · exact ⟨v, rfl, hF, rowI_own e, own_new e hO⟩
end Go.Proofs.Ytigkpbnhdkdliaa.T
