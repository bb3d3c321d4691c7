/- Code, and its cuts. -/
import Derived.Test.YtlkmjldhhoopcaaRvDraw
namespace Go.Rv
set_option linter.unusedSimpArgs false
set_option linter.unusedVariables false
section
variable {P : Program} {st : St} {g : Gh} {fr : Fr} {a : Act} {w : World} {X : Env} {R : Type} {r : R} {Q : Exit → Act → World → Prop}
/-- the end of a round of a loop -/
def LoopWp (P : Program) (c : Code) (Q : Exit → Act → World → Prop) (a : Act) (w : World) : Prop :=
  ∀ (b : Frame) (k : List Item) (cs : List Frame), ∃ e a' w', Q e a' w' ∧ Arrives P (lone (b.at a (.inLoop c :: k)) cs w) b k cs e a' w'
theorem loop_unroll {c : Code} (h : c.wp P (Exit.then (LoopWp P c Q) Q) a w) : LoopWp P c Q a w ∧ (Code.loop c).wp P Q a w := by
  have key : ∀ (b : Frame) (k : List Item) (cs : List Frame), ∃ e a' w', Q e a' w' ∧ Arrives P (lone (b.at a (.code c :: .inLoop c :: k)) cs w) b k cs e a' w' := by
    intro b k cs
    obtain ⟨e, a₁, w₁, hq, harr⟩ := h b (.inLoop c :: k) cs
    cases e with
    | normal =>
      obtain ⟨e₂, a₂, w₂, hq₂, harr₂⟩ := hq b k cs
      exact ⟨e₂, a₂, w₂, hq₂, .of_steps harr harr₂⟩
    | exit id => exact ⟨_, a₁, w₁, hq, .pass (x := .inLoop c) rfl (fun _ _ => .inl (by simp)) harr⟩
    | goto l => exact ⟨_, a₁, w₁, hq, .pass (x := .inLoop c) rfl (fun _ _ => .inl (by simp)) harr⟩
    | ret => exact ⟨_, a₁, w₁, hq, .pass (x := .inLoop c) rfl (fun _ _ => .inl (by simp)) harr⟩
    | panic ch => exact ⟨_, a₁, w₁, hq, .pass (x := .inLoop c) rfl (fun _ _ => .inl (by simp)) harr⟩
    | outgrown => exact ⟨_, a₁, w₁, hq, .pass (x := .inLoop c) rfl (fun _ _ => .inl (by simp)) harr⟩
  constructor
  · intro b k cs
    obtain ⟨e, a', w', hq, harr⟩ := key b k cs
    exact ⟨e, a', w', hq, .of_steps (.one step_inLoop) harr⟩
  · intro b k cs
    obtain ⟨e, a', w', hq, harr⟩ := key b k cs
    exact ⟨e, a', w', hq, .of_steps (.one step_loop) harr⟩
/-- what the answers are for -/
structure KQ (st : St) (K : Ex → Fr → Option R) (r : R) (Q : Exit → Act → World → Prop) : Prop where
  normal : ∀ g fr a w, Ok st g fr a w → K .normal fr = some r → Q .normal a w
  exit : ∀ id g fr a w, Ok st g fr a w → K (.exit id) fr = some r → Q (.exit id) a w
  ret : ∀ g fr a w, Ok st g fr a w → K .ret fr = some r → Q .ret a w
/-- what is to be shown where node q is cut -/
def Cont (P : Program) : Code → Nat → Nat → (Exit → Act → World → Prop) → Act → World → Prop
  | .seq a b, p, q, Q => if q = p then b.wp P Q else if q < p + 1 + nodes a then Cont P a (p + 1) q (Exit.then (b.wp P Q) Q) else Cont P b (p + 1 + nodes a) q Q
  | .cond _ a b, p, q, Q => if q < p + 1 + nodes a then Cont P a (p + 1) q Q else Cont P b (p + 1 + nodes a) q Q
  | .block id b, p, q, Q => Cont P b (p + 1) q (Exit.inBlock id Q)
  | .loop b, p, q, Q => if q = p then fun a w => LoopWp P b Q a w ∧ (Code.loop b).wp P Q a w else Cont P b (p + 1) q (Exit.then (LoopWp P b Q) Q)
  | _, _, _, _ => fun _ _ => False
theorem beq_ne {a b : Nat} (h : a ≠ b) : a.beq b = false := by
  cases hb : a.beq b
  · rfl
  · exact (h (Nat.eq_of_beq_eq_true hb)).elim
theorem nodes_pos : ∀ c : Code, 0 < nodes c
  | .skip | .region _ _ _ | .exit _ | .ret | .goto _ | .label _ | .rangeFunc _ _ _ _ | .refuse _ => by simp [nodes]
  | .seq _ _ | .cond _ _ _ | .block _ _ | .loop _ | .scope _ => by simp only [nodes]; omega
/-- the cuts that c holds lead to where Q holds -/
def CutsAt (P : Program) (st : St) (C : Cuts R) (r : R) (c : Code) (p : Nat) (Q : Exit → Act → World → Prop) : Prop :=
  ∀ q cut, C.lookup q = some cut → p ≤ q → q < p + nodes c → ∀ g fr a w, Ok st g fr a w → jump cut fr = some r → Cont P c p q Q a w
theorem KQ.block {id : Nat} {K : Ex → Fr → Option R} (h : KQ st K r Q) : KQ st (blockK id K) r (Exit.inBlock id Q) where
  normal := fun g fr a w ok hk => h.normal g fr a w ok hk
  exit := fun j g fr a w ok hk => by
    simp only [blockK] at hk
    simp only [Exit.inBlock]
    by_cases hj : j = id
    · subst hj
      rw [Nat.beq_refl] at hk
      simp only [if_true]
      exact h.normal g fr a w ok hk
    · rw [beq_ne hj] at hk
      simp only [hj, if_false]
      exact h.exit j g fr a w ok hk
  ret := fun g fr a w ok hk => h.ret g fr a w ok hk
theorem den_ok (hT : TabOk P X) {E : FuncId → Option Fn} (hE : EnvOk P E) (hX : Fits X st) {C : Cuts R} : ∀ (c : Code) (p : Nat) (Q : Exit → Act → World → Prop) (K : Ex → Fr → Option R), CutsAt P st C r c p Q → KQ st K r Q →
    ∀ g fr a w, Ok st g fr a w → den X E C c p fr K = some r → c.wp P Q a w
  | .skip, p, Q, K, hC, hK, g, fr, a, w, h, hd => wp_skip (hK.normal g fr a w h hd)
  | .region id ops draw, p, Q, K, hC, hK, g, fr, a, w, h, hd => by
    cases draw
    · exact region_ok hT hE hX hK.normal h hd
    · refine draw_ok (X := { X with dr := true }) ⟨hT.mixed, hT.fit⟩ hE ⟨hX.1, hX.2⟩ (fun g' fr' a' w' ok hk => ?_) h hd
      obtain ⟨g2, fr2, ok2, hk2⟩ := promosK_ok ops.toList ok hk
      exact hK.normal g2 fr2 a' w' ok2 hk2
  | .seq x y, p, Q, K, hC, hK, g, fr, a, w, h, hd => by
    refine wp_seq (den_ok hT hE hX x (p + 1) _ (seqK C (fun fr => den X E C y (p + 1 + nodes x) fr K) K p) ?_ ⟨?_, ?_, ?_⟩ g fr a w h hd)
    · intro q cut hq h1 h2 g fr a w ok hj
      have := hC q cut hq (by omega) (by simp only [nodes]; omega) g fr a w ok hj
      simp only [Cont] at this
      rwa [if_neg (by omega), if_pos (by omega)] at this
    · intro g fr a w ok hk
      simp only [seqK] at hk
      split at hk
      next cut hc =>
        have := hC p cut hc (Nat.le_refl _) (by have := nodes_pos (Code.seq x y); omega) g fr a w ok hk
        simp only [Cont, if_true] at this
        exact this
      next hc =>
        refine den_ok hT hE hX y (p + 1 + nodes x) Q K ?_ hK g fr a w ok hk
        intro q cut hq h1 h2 g fr a w ok hj
        have := hC q cut hq (by omega) (by simp only [nodes]; omega) g fr a w ok hj
        simp only [Cont] at this
        rwa [if_neg (by omega), if_neg (by omega)] at this
    · intro id g fr a w ok hk; exact hK.exit id g fr a w ok hk
    · intro g fr a w ok hk; exact hK.ret g fr a w ok hk
  | .cond c x y, p, Q, K, hC, hK, g, fr, a, w, h, hd => by
    simp only [den] at hd
    split at hd
    next q hc =>
      have hv : a.eval c = .bool q := (opc_rel h hc (by simp) (by simp)).2
      split at hd
      next e =>
        subst e
        refine wp_cond_true hv (den_ok hT hE hX x (p + 1) Q K ?_ hK g fr a w h hd)
        intro q cut hq h1 h2 g fr a w ok hj
        have := hC q cut hq (by omega) (by simp only [nodes]; omega) g fr a w ok hj
        simp only [Cont] at this
        rwa [if_pos (by omega)] at this
      next e =>
        have e : q = false := by simpa using e
        subst e
        refine wp_cond_false hv (den_ok hT hE hX y (p + 1 + nodes x) Q K ?_ hK g fr a w h hd)
        intro q cut hq h1 h2 g fr a w ok hj
        have := hC q cut hq (by omega) (by simp only [nodes]; omega) g fr a w ok hj
        simp only [Cont] at this
        rwa [if_neg (by omega)] at this
    next => cases hd
  | .block id x, p, Q, K, hC, hK, g, fr, a, w, h, hd => by
    refine wp_block (den_ok hT hE hX x (p + 1) _ (blockK id K) ?_ hK.block g fr a w h hd)
    intro q cut hq h1 h2 g fr a w ok hj
    exact hC q cut hq (by omega) (by simp only [nodes]; omega) g fr a w ok hj
  | .loop x, p, Q, K, hC, hK, g, fr, a, w, h, hd => by
    simp only [den] at hd
    split at hd
    next cut hc =>
      have := hC p cut hc (Nat.le_refl _) (by have := nodes_pos (Code.loop x); omega) g fr a w h hd
      simp only [Cont, if_true] at this
      exact this.2
    next => cases hd
  | .exit id, p, Q, K, hC, hK, g, fr, a, w, h, hd => wp_exit (hK.exit id g fr a w h hd)
  | .ret, p, Q, K, hC, hK, g, fr, a, w, h, hd => wp_ret (hK.ret g fr a w h hd)
  | .scope _, _, _, _, _, _, _, _, _, _, _, hd => by simp [den] at hd
  | .rangeFunc _ _ _ _, _, _, _, _, _, _, _, _, _, _, hd => by simp [den] at hd
  | .goto _, _, _, _, _, _, _, _, _, _, _, hd => by simp [den] at hd
  | .refuse _, _, _, _, _, _, _, _, _, _, _, hd => by simp [den] at hd
  | .label _, _, _, _, _, _, _, _, _, _, _, hd => by simp [den] at hd
theorem denAt_ok (hT : TabOk P X) {E : FuncId → Option Fn} (hE : EnvOk P E) (hX : Fits X st) {C : Cuts R} : ∀ (c : Code) (p q : Nat) (Q : Exit → Act → World → Prop) (K : Ex → Fr → Option R), CutsAt P st C r c p Q → KQ st K r Q →
    ∀ g fr a w, Ok st g fr a w → denAt X E C c p q K fr = some r → Cont P c p q Q a w
  | .seq x y, p, q, Q, K, hC, hK, g, fr, a, w, h, hd => by
    have hy : CutsAt P st C r y (p + 1 + nodes x) Q := by
      intro q cut hq h1 h2 g fr a w ok hj
      have := hC q cut hq (by omega) (by simp only [nodes]; omega) g fr a w ok hj
      simp only [Cont] at this
      rwa [if_neg (by omega), if_neg (by omega)] at this
    simp only [denAt] at hd
    simp only [Cont]
    by_cases hq : q = p
    · subst hq
      rw [Nat.beq_refl] at hd
      simp only [if_true]
      exact den_ok hT hE hX y _ Q K hy hK g fr a w h hd
    · rw [beq_ne hq] at hd
      rw [if_neg hq]
      by_cases hlt : q < p + 1 + nodes x
      · rw [if_pos hlt]
        rw [show q.blt (p + 1 + nodes x) = true from Nat.ble_eq_true_of_le hlt] at hd
        refine denAt_ok hT hE hX x (p + 1) q _ _ ?_ ⟨?_, ?_, ?_⟩ g fr a w h hd
        · intro q cut hq h1 h2 g fr a w ok hj
          have := hC q cut hq (by omega) (by simp only [nodes]; omega) g fr a w ok hj
          simp only [Cont] at this
          rwa [if_neg (by omega), if_pos (by omega)] at this
        · intro g fr a w ok hk
          simp only [seqK] at hk
          split at hk
          next cut hc =>
            have := hC p cut hc (Nat.le_refl _) (by have := nodes_pos (Code.seq x y); omega) g fr a w ok hk
            simp only [Cont, if_true] at this
            exact this
          next hc => exact den_ok hT hE hX y _ Q K hy hK g fr a w ok hk
        · intro id g fr a w ok hk; exact hK.exit id g fr a w ok hk
        · intro g fr a w ok hk; exact hK.ret g fr a w ok hk
      · rw [if_neg hlt]
        rw [show q.blt (p + 1 + nodes x) = false from by
          cases hb : q.blt (p + 1 + nodes x)
          · rfl
          · exact (hlt (Nat.le_of_ble_eq_true hb)).elim] at hd
        exact denAt_ok hT hE hX y _ q Q K hy hK g fr a w h hd
  | .cond c x y, p, q, Q, K, hC, hK, g, fr, a, w, h, hd => by
    simp only [denAt] at hd
    simp only [Cont]
    by_cases hlt : q < p + 1 + nodes x
    · rw [if_pos hlt]
      rw [show q.blt (p + 1 + nodes x) = true from Nat.ble_eq_true_of_le hlt] at hd
      refine denAt_ok hT hE hX x (p + 1) q Q K ?_ hK g fr a w h hd
      intro q cut hq h1 h2 g fr a w ok hj
      have := hC q cut hq (by omega) (by simp only [nodes]; omega) g fr a w ok hj
      simp only [Cont] at this
      rwa [if_pos (by omega)] at this
    · rw [if_neg hlt]
      rw [show q.blt (p + 1 + nodes x) = false from by
        cases hb : q.blt (p + 1 + nodes x)
        · rfl
        · exact (hlt (Nat.le_of_ble_eq_true hb)).elim] at hd
      refine denAt_ok hT hE hX y _ q Q K ?_ hK g fr a w h hd
      intro q cut hq h1 h2 g fr a w ok hj
      have := hC q cut hq (by omega) (by simp only [nodes]; omega) g fr a w ok hj
      simp only [Cont] at this
      rwa [if_neg (by omega)] at this
  | .block id x, p, q, Q, K, hC, hK, g, fr, a, w, h, hd => by
    simp only [denAt] at hd
    simp only [Cont]
    refine denAt_ok hT hE hX x (p + 1) q _ _ ?_ hK.block g fr a w h hd
    intro q cut hq h1 h2 g fr a w ok hj
    exact hC q cut hq (by omega) (by simp only [nodes]; omega) g fr a w ok hj
  | .loop x, p, q, Q, K, hC, hK, g, fr, a, w, h, hd => by
    simp only [denAt] at hd
    simp only [Cont]
    have hx : CutsAt P st C r x (p + 1) (Exit.then (LoopWp P x Q) Q) := by
      intro q cut hq h1 h2 g fr a w ok hj
      have := hC q cut hq (by omega) (by simp only [nodes]; omega) g fr a w ok hj
      simp only [Cont] at this
      rwa [if_neg (by omega)] at this
    have hk : KQ st (loopK C p K) r (Exit.then (LoopWp P x Q) Q) := by
      refine ⟨?_, ?_, ?_⟩
      · intro g fr a w ok hk
        simp only [loopK] at hk
        split at hk
        next cut hc =>
          have := hC p cut hc (Nat.le_refl _) (by have := nodes_pos (Code.loop x); omega) g fr a w ok hk
          simp only [Cont, if_true] at this
          exact this.1
        next => cases hk
      · intro id g fr a w ok hk; exact hK.exit id g fr a w ok hk
      · intro g fr a w ok hk; exact hK.ret g fr a w ok hk
    by_cases hq : q = p
    · subst hq
      rw [Nat.beq_refl] at hd
      simp only [if_true]
      exact loop_unroll (den_ok hT hE hX x _ _ _ hx hk g fr a w h hd)
    · rw [beq_ne hq] at hd
      rw [if_neg hq]
      exact denAt_ok hT hE hX x _ q _ _ hx hk g fr a w h hd
  | .skip, _, _, _, _, _, _, _, _, _, _, _, hd => by simp [denAt] at hd
  | .region _ _ _, _, _, _, _, _, _, _, _, _, _, _, hd => by simp [denAt] at hd
  | .exit _, _, _, _, _, _, _, _, _, _, _, _, hd => by simp [denAt] at hd
  | .ret, _, _, _, _, _, _, _, _, _, _, _, hd => by simp [denAt] at hd
  | .scope _, _, _, _, _, _, _, _, _, _, _, _, hd => by simp [denAt] at hd
  | .rangeFunc _ _ _ _, _, _, _, _, _, _, _, _, _, _, _, hd => by simp [denAt] at hd
  | .goto _, _, _, _, _, _, _, _, _, _, _, _, hd => by simp [denAt] at hd
  | .refuse _, _, _, _, _, _, _, _, _, _, _, _, hd => by simp [denAt] at hd
  | .label _, _, _, _, _, _, _, _, _, _, _, _, hd => by simp [denAt] at hd
end
end Go.Rv
