/- The smoothest plan: nothing is left to fly; then every depth. -/
import Derived.Test.YtigkpbnhdkdliaaXFnExactSmX
namespace Go.Proofs.Ytigkpbnhdkdliaa.T
open Go.Rv Go.Rv.St Go.RowKit
set_option linter.unusedVariables false
set_option linter.unusedSimpArgs false
theorem gives_zero {M H x y z : Int} {b0 B : Nat} {w W : World} {D0 : Nat → Prop} (hB : B ≤ w.heap.size) (hm0 : Memo B D0 M H w b0) (hD0 : ∀ b, D0 b → b < w.heap.size) (hE : Ext w W) (h1 : W.os = w.os) (h2 : W.tape = w.tape) (h3 : W.output = w.output) {k : Bool} (hk : decide ((x, y, z) = home) = k) :
    Gives B M H 0 b0 (x, y, z) w D0 (.returned (.agg #[.int .i64 0, .slice none 0 0, .bool k])) W :=
  ⟨D0, none, 0, 0, by rw [← hk]; rfl, ⟨none, 0, rfl, Nat.le_refl _, fun i x hx => by simp [sm] at hx⟩, hm0.move (fun _ h => h) (hE.same' D0), Fresh.keep (hE.fresh h1 h2 h3) hB, fun b hb => Nat.lt_of_lt_of_le (hD0 b hb) hE.size, Sub.refl⟩
set_option maxHeartbeats 4000000 in
set_option maxRecDepth 100000 in
theorem smooth_zero (M H x y z : Int) (b0 B : Nat) (w : World) (D0 : Nat → Prop) (hB : B ≤ w.heap.size) (hm0 : Memo B D0 M H w b0) (hD0 : ∀ b, D0 b → b < w.heap.size) :
    Calls Try.prog 39 #[.agg #[.int .i64 M, .int .i64 H], .agg #[.int .i64 x, .int .i64 y, .int .i64 z], .int .i64 0, .map (some b0)] w (Gives B M H 0 b0 (x, y, z) w D0) := by
  by_cases hh : x = 0 ∧ y = 0 ∧ z = 0
  · obtain ⟨rfl, rfl, rfl⟩ := hh
    have fin : ∀ W, Ext w W → W.os = w.os → W.tape = w.tape → W.output = w.output → Gives B M H 0 b0 (0, 0, 0) w D0 (.returned (.agg #[.int .i64 0, .slice none 0 0, .bool true])) W := fun W hE h1 h2 h3 => gives_zero hB hm0 hD0 hE h1 h2 h3 (by decide)
    go_enter Try.func39, Try.ntmps39
    go_wp2
    refine bodyPost_ret (v := .agg #[.int .i64 0, .slice none 0 0, .bool true]) (by simp [results, Try.results39, go_sem]) rfl ?_
    exact fin _ (by (repeat (first | exact Ext.refl _ | refine Ext.alloc ?_ _ | refine Ext.set ?_ (by simp) _))) rfl rfl rfl
  · have hk : decide ((x, y, z) = home) = false := by
      simp only [home, Prod.mk.injEq, decide_eq_false_iff_not]
      exact hh
    have fin : ∀ W, Ext w W → W.os = w.os → W.tape = w.tape → W.output = w.output → Gives B M H 0 b0 (x, y, z) w D0 (.returned (.agg #[.int .i64 0, .slice none 0 0, .bool false])) W := fun W hE h1 h2 h3 => gives_zero hB hm0 hD0 hE h1 h2 h3 hk
    clear hk
    go_enter Try.func39, Try.ntmps39
    go_wp2
    all_goals
      first
      | (refine bodyPost_ret (v := .agg #[.int .i64 0, .slice none 0 0, .bool false]) (by simp [results, Try.results39, go_sem]) rfl ?_
         exact fin _ (by (repeat (first | exact Ext.refl _ | refine Ext.alloc ?_ _ | refine Ext.set ?_ (by simp) _))) rfl rfl rfl)
      | (exfalso; apply hh; refine ⟨?_, ?_, ?_⟩ <;> assumption)
      | (exfalso; simp_all; done)
theorem len_turns {M H : Int} (hL : Lim M H) {c : C} : ((tn M).filter (nxo M H c)).length ≤ 7 := by
  have h1 := List.length_filter_le (nxo M H c) (tn M)
  have h2 : ∀ (n : Nat) (x : Int), (from_ x n).length = n := fun n => by induction n with | zero => intro x; rfl | succ n ih => intro x; simp [from_, ih]
  have h3 := hL.b
  have : (tn M).length ≤ 7 := by unfold tn; rw [h2]; omega
  omega
/-- every depth -/
theorem deep {M H : Int} (hL : Lim M H) (B b0 : Nat) : ∀ k : Nat, k ≤ 8 → Deep B M H k b0 (k : Int)
  | 0, _ => fun c hc W D hB hD hm => smooth_zero M H c.1 c.2.1 c.2.2 b0 B W D hB hm hD
  | k + 1, hk => fun c hc W D hB hD hm => by
    obtain ⟨x, y, z⟩ := c
    have ih := deep hL B b0 k (by omega)
    have ih' : Deep B M H k b0 (((k + 1 : Nat) : Int) - 1) := by
      rw [show ((k + 1 : Nat) : Int) - 1 = (k : Int) by omega]; exact ih
    have hn0 : (((k + 1 : Nat) : Int) == 0) = false := by
      simp only [beq_eq_false_iff_ne]; omega
    have hb0 : b0 < W.heap.size := by
      obtain ⟨_, γ, hm⟩ := hm
      exact hm.lt
    have miss : ∀ mv : Value, (∀ W', Ext W W' → (Instr.lookup 74 (.map (some b0)) (.agg #[.int .i64 x, .int .i64 y, .int .i64 z]) false).run Try.prog W' = .ok mv W') →
        (∀ W', Ext W W' → (Instr.lookup 89 mv (.int .i64 ((k + 1 : Nat) : Int)) true).run Try.prog W' = .ok (.tuple #[.agg #[.int .i64 0, .slice none 0 0, .bool false], .bool false]) W') →
        Calls Try.prog 39 #[.agg #[.int .i64 M, .int .i64 H], .agg #[.int .i64 x, .int .i64 y, .int .i64 z], .int .i64 ((k + 1 : Nat) : Int), .map (some b0)] W (Gives B M H (k + 1) b0 (x, y, z) W D) := fun mv g1 g2 =>
      smooth_miss M H x y z ((k + 1 : Nat) : Int) k hL hc hn0 (by omega) (by omega) (by omega) b0 mv B W D ((tn M).filter (nxo M H (x, y, z))) (len_turns hL) (fun t ht => (List.mem_filter.1 ht).2) rfl g1 g2 (turns_c hL hc) (fun t ht w => next_c hL hc ht w) ih' hB hm hD
    rcases look_outer hL hm hc with ⟨_, q⟩ | ⟨b, hin, hb1, hb2, q⟩
    · exact miss (.map none) (fun W' hE => q W' (hE.same b0 hb0)) fun W' _ => look_nil _ W'
    · have hbl : b < W.heap.size := hin.lt
      rcases look_inner hin (n := k + 1) hk with q2 | ⟨v, ⟨rv, rfl, A, cap, rfl, s2, s3⟩, q2⟩
      · exact miss (.map (some b)) (fun W' hE => q W' (hE.same b0 hb0)) fun W' hE => q2 W' (hE.same b hbl)
      · refine (smooth_hit M H x y z ((k + 1 : Nat) : Int) (sm M H (k + 1) (x, y, z)).1 hn0 (.map (some b0)) (.map (some b)) A (sm M H (k + 1) (x, y, z)).2.1.length cap (sm M H (k + 1) (x, y, z)).2.2 W (fun W' hE => q W' (hE.same b0 hb0)) fun W' hE => q2 W' (hE.same b hbl)).mono ?_
        rintro e w' ⟨rfl, hF⟩
        exact ⟨D, A, _, cap, rfl, RowD.move ⟨A, cap, rfl, s2, s3⟩ (fun _ h => h) (fun b arr e _ hc => Fresh.cells hF b arr e hc), hm.move (fun _ h => h) (Fresh.same hF D), Fresh.keep hF hB, fun b hb => Nat.lt_of_lt_of_le (hD b hb) hF.heap, Sub.refl⟩
end Go.Proofs.Ytigkpbnhdkdliaa.T
