/- The keys that fit, the best one and the outlooks agree: the plain statement. -/
import Derived.Test.YtncdmooobfomeaaXFnKeysDr4
import Derived.Test.YtncdmooobfomeaaRvPuFnKeys
namespace Go.Proofs.Ytncdmooobfomeaa.Pure
open Go.Rv Go.Rv.Ax R
open RowKit (wrap64)
set_option linter.unusedVariables false
set_option linter.unusedSimpArgs false
def leastG (m : Mac) : Int := ((gapsV m).drop 1).foldl mn (rd 0 (gapsV m) 0)
def outV (m : Mac) (y : Int) : Int × Bool :=
  if (buildV m 1 y).2 then (if (pushV (buildV m 1 y).1 0 0).2 then (if (buildV (pushV (buildV m 1 y).1 0 0).1 0 0).2 then (leastG (buildV (pushV (buildV m 1 y).1 0 0).1 0 0).1, true) else (0, false)) else (0, false)) else (0, false)
theorem outV_build {m : Mac} {y : Int} (h : (outV m y).2 = true) : (buildV m 1 y).2 = true := by
  unfold outV at h
  split at h
  · rename_i hb; exact hb
  · cases h
theorem leastG_nn {m : Mac} (h : okM m = true) : 0 ≤ leastG m := by
  simp only [okM, four, Bool.and_eq_true, Bool.not_eq_true', decide_eq_false_iff_not] at h
  obtain ⟨-, -, -, ⟨h0, -⟩, ⟨h1, -⟩, ⟨h2, -⟩, ⟨h3, -⟩, -⟩ := h
  obtain ⟨g0, g1, g2, g3, hg⟩ : ∃ g0 g1 g2 g3, gapsV m = [g0, g1, g2, g3] := ⟨_, _, _, _, rfl⟩
  rw [hg] at h0 h1 h2 h3
  have h0 : ¬g0 < 0 := h0
  have h1 : ¬g1 < 0 := h1
  have h2 : ¬g2 < 0 := h2
  have h3 : ¬g3 < 0 := h3
  rw [leastG, hg]
  show 0 ≤ [g1, g2, g3].foldl mn g0
  simp only [List.foldl_cons, List.foldl_nil, mn]
  repeat' split
  all_goals omega
theorem outV_nn {m : Mac} {y : Int} (h : (outV m y).2 = true) : 0 ≤ (outV m y).1 := by
  unfold outV at *
  split at h
  · rename_i h1
    split at h
    · rename_i h2
      split at h
      · rename_i h3; rw [if_pos h1, if_pos h2, if_pos h3]; exact leastG_nn (buildV_ok h3)
      · cases h
    · cases h
  · cases h
theorem outlook_w (m : Mac) (hm : okM m = true) (y : Int) : W (fun k _ => impl_OutlookOf.f k m.s.1 m.s.2.1 m.s.2.2.1 m.s.2.2.2 m.t.1 m.t.2.1 m.t.2.2.1 m.t.2.2.2 m.i y) (· = outV m y) := by
  have hb := implBuild_w m 1 y
  rw [if_pos hm] at hb
  refine impl_OutlookOf.w (W.bindE hb (W.ni (fun h => W.ret ?_) (fun h1 => ?_)))
  · have h : (buildV m 1 y).2 = false := h
    rw [outV, if_neg (by simp [h])]
  have h1 : (buildV m 1 y).2 = true := h1
  have hp := implPush_w (buildV m 1 y).1 0 0
  rw [if_pos (buildV_ok h1)] at hp
  rw [outV, if_pos h1]
  refine W.bindE hp (W.ni (fun h => W.ret ?_) (fun h2 => ?_))
  · have h : (pushV (buildV m 1 y).1 0 0).2 = false := h
    rw [if_neg (by simp [h])]
  have h2 : (pushV (buildV m 1 y).1 0 0).2 = true := h2
  have hc := implBuild_w (pushV (buildV m 1 y).1 0 0).1 0 0
  rw [if_pos (pushV_ok h2)] at hc
  rw [if_pos h2]
  refine W.bindE hc (W.ni (fun h => W.ret ?_) (fun h3 => ?_))
  · have h : (buildV (pushV (buildV m 1 y).1 0 0).1 0 0).2 = false := h
    rw [if_neg (by simp [h])]
  have h3 : (buildV (pushV (buildV m 1 y).1 0 0).1 0 0).2 = true := h3
  rw [if_pos h3]
  refine W.bindN (fun k => implGaps_eq k (buildV (pushV (buildV m 1 y).1 0 0).1 0 0).1) ?_
  exact W.bindE (min_w _ _ (by simp)) (W.ret rfl)
def keysV (m : Mac) : Nat → List Int
  | 0 => []
  | n + 1 => if (buildV m 1 n).2 then keysV m n ++ [(n : Int)] else keysV m n
theorem keysV_length (m : Mac) : ∀ n, (keysV m n).length ≤ n
  | 0 => Nat.le_refl _
  | n + 1 => by
    have := keysV_length m n
    rw [keysV]; split
    · simp; exact this
    · omega
theorem keysV_mem (m : Mac) (y : Int) : ∀ n : Nat, y ∈ keysV m n ↔ (0 ≤ y ∧ y < n) ∧ (buildV m 1 y).2 = true
  | 0 => by simp [keysV]; omega
  | n + 1 => by
    have ih := keysV_mem m y n
    rw [keysV]; split
    · rename_i h
      rw [List.mem_append, ih, List.mem_singleton]
      constructor
      · rintro (⟨h1, h2⟩ | rfl)
        · exact ⟨by omega, h2⟩
        · exact ⟨by omega, h⟩
      · rintro ⟨h1, h2⟩
        by_cases e : y = n
        · exact .inr e
        · exact .inl ⟨by omega, h2⟩
    · rename_i h
      rw [ih]
      constructor
      · rintro ⟨h1, h2⟩; exact ⟨by omega, h2⟩
      · rintro ⟨h1, h2⟩
        by_cases e : y = n
        · subst e; exact absurd h2 h
        · exact ⟨by omega, h2⟩
theorem keys_w (m : Mac) (hm : okM m = true) : W (fun k _ => impl_FittingKeys.f k m.s.1 m.s.2.1 m.s.2.2.1 m.s.2.2.2 m.t.1 m.t.2.1 m.t.2.2.1 m.t.2.2.2 m.i) (· = (keysV m 16, true)) := by
  refine impl_FittingKeys.w (W.bindE (implValid_w m) (W.ne hm ?_))
  have key : ∀ n j : Nat, j + n = 16 → W (fun k i => (impl_FittingKeys.cs k i) m.s.1 m.s.2.1 m.s.2.2.1 m.s.2.2.2 m.t.1 m.t.2.1 m.t.2.2.1 m.t.2.2.2 m.i (keysV m j) (j : Int)) (· = (keysV m 16, true)) := by
    intro n
    induction n with
    | zero => intro j hj; exact impl_FittingKeys.w0 (W.de (by omega) (W.ret (by rw [show j = 16 by omega])))
    | succ n ih =>
      intro j hj
      have hb := implBuild_w m 1 j
      rw [if_pos hm] at hb
      have hl := keysV_length m j
      have next := ih (j + 1) (by omega)
      refine impl_FittingKeys.w0 (W.dt (by omega) ?_)
      rw [w64 (i := (j : Int) + 1) (by omega) (by omega)]
      refine W.bindE hb (W.bi (fun h => W.t (by omega) ?_) (fun h => ?_))
      · have h : (buildV m 1 j).2 = true := h
        rw [keysV, if_pos h] at next; exact next
      · have h : (buildV m 1 j).2 = false := h
        rw [keysV, if_neg (by simp [h])] at next; exact next
  exact key 16 0 rfl
def BestP (m : Mac) (r : Int × Bool) : Prop := (r.2 = true → (0 ≤ r.1 ∧ r.1 < 16) ∧ (outV m r.1).2 = true) ∧ ∀ y, 0 ≤ y → y < 16 → (outV m y).2 = true → r.2 = true ∧ (outV m y).1 ≤ (outV m r.1).1 ∧ (y < r.1 → (outV m y).1 < (outV m r.1).1)
theorem best_w (m : Mac) (hm : okM m = true) : W (fun k _ => impl_BestKey.f k m.s.1 m.s.2.1 m.s.2.2.1 m.s.2.2.2 m.t.1 m.t.2.1 m.t.2.2.1 m.t.2.2.2 m.i) (BestP m) := by
  refine impl_BestKey.w ?_
  have key : ∀ (n : Nat) (j b l : Int), j + n = 16 → 0 ≤ j → ((b = -1 ∧ ∀ y, 0 ≤ y → y < j → (outV m y).2 = false) ∨ ((0 ≤ b ∧ b < j) ∧ (outV m b) = (l, true) ∧ ∀ y, 0 ≤ y → y < j → (outV m y).2 = true → (outV m y).1 ≤ l ∧ (y < b → (outV m y).1 < l))) →
      W (fun k i => (impl_BestKey.cs k i) m.s.1 m.s.2.1 m.s.2.2.1 m.s.2.2.2 m.t.1 m.t.2.1 m.t.2.2.1 m.t.2.2.2 m.i b l j) (BestP m) := by
    intro n
    induction n with
    | zero =>
      intro j b l hj h0 hi
      refine impl_BestKey.w0 (W.de (by omega) (W.di (fun hb => W.ret ?_) (fun hb => W.ret ?_)))
      · rcases hi with ⟨h1, h2⟩ | ⟨h1, h2, h3⟩
        · exact ⟨fun h => (by cases h), fun y hy0 hy hy2 => by rw [h2 y hy0 (by omega)] at hy2; cases hy2⟩
        · omega
      · rcases hi with ⟨h1, h2⟩ | ⟨h1, h2, h3⟩
        · omega
        · refine ⟨fun _ => ⟨by dsimp only; omega, by dsimp only; rw [h2]⟩, fun y hy0 hy hy2 => ⟨rfl, ?_⟩⟩
          dsimp only
          rw [h2]; exact h3 y hy0 (by omega) hy2
    | succ n ih =>
      intro j b l hj h0 hi
      refine impl_BestKey.w0 (W.dt (by omega) (W.bindE (outlook_w m hm j) ?_))
      rw [w64 (i := j + 1) (by omega) (by omega)]
      have put : (outV m j).2 = true → (∀ y, 0 ≤ y → y < j → (outV m y).2 = true → (outV m y).1 < (outV m j).1) → W (fun k i => (impl_BestKey.cs k i) m.s.1 m.s.2.1 m.s.2.2.1 m.s.2.2.2 m.t.1 m.t.2.1 m.t.2.2.1 m.t.2.2.2 m.i j (outV m j).1 (j + 1)) (BestP m) := fun ho hall =>
        ih (j + 1) j _ (by omega) (by omega) (.inr ⟨by omega, Prod.ext rfl ho, fun y h1 h2 h3 => by
          by_cases e : y = j
          · subst e; exact ⟨Int.le_refl _, fun h => by omega⟩
          · have := hall y h1 (by omega) h3; exact ⟨by omega, fun _ => this⟩⟩)
      refine W.bi (fun ho => W.di (fun hb => put ho fun y h1 h2 h3 => ?_) (fun hb => W.di (fun hl => put ho fun y h1 h2 h3 => ?_) (fun hl => ?_))) (fun ho => ?_)
      · rcases hi with ⟨_, h4⟩ | ⟨h4, _⟩
        · rw [h4 y h1 h2] at h3; cases h3
        · omega
      · rcases hi with ⟨h4, _⟩ | ⟨h4, h5, h6⟩
        · omega
        · have := (h6 y h1 h2 h3).1; omega
      · rcases hi with ⟨h4, _⟩ | ⟨h4, h5, h6⟩
        · omega
        · refine ih (j + 1) b l (by omega) (by omega) (.inr ⟨by omega, h5, fun y h1 h2 h3 => ?_⟩)
          by_cases e : y = j
          · subst e; exact ⟨by omega, fun h => by omega⟩
          · exact h6 y h1 (by omega) h3
      · rcases hi with ⟨h4, h5⟩ | ⟨h4, h5, h6⟩
        · refine ih (j + 1) b l (by omega) (by omega) (.inl ⟨h4, fun y h1 h2 => ?_⟩)
          by_cases e : y = j
          · subst e; exact ho
          · exact h5 y h1 (by omega)
        · refine ih (j + 1) b l (by omega) (by omega) (.inr ⟨by omega, h5, fun y h1 h2 h3 => ?_⟩)
          by_cases e : y = j
          · subst e; rw [ho] at h3; cases h3
          · exact h6 y h1 (by omega) h3
  exact key 16 0 (-1) 0 (by omega) (by omega) (.inl ⟨rfl, fun y h1 h2 => by omega⟩)
theorem has_w (l : List Int) (y : Int) (hl : l.length ≤ 1000) : W (fun k _ => laws_r8Has.f k l y) (· = decide (y ∈ l)) := by
  refine laws_r8Has.w ?_
  have key : ∀ (rest pre : List Int), l = pre ++ rest → W (fun k i => (laws_r8Has.cs k i) l y (pre.length : Int)) (· = decide (y ∈ rest)) := by
    intro rest
    induction rest with
    | nil => intro pre e; exact laws_r8Has.w0 (W.de (by rw [e]; simp) (W.ret (by simp)))
    | cons x rest ih =>
      intro pre e
      have hlen : l.length = pre.length + (rest.length + 1) := by rw [e]; simp
      have hx : rd 0 l (pre.length : Int) = x := by rw [e]; exact rd_mid _ _ _
      refine laws_r8Has.w0 (W.dt (by omega) (W.t (by omega) (W.t (by omega) ?_)))
      rw [hx, w64 (by omega) (by omega)]
      refine W.di (fun h => W.ret (by simp [h])) (fun h => ?_)
      have := ih (pre ++ [x]) (by simp [e])
      have e2 : decide (y ∈ x :: rest) = decide (y ∈ rest) := by
        have : y ≠ x := fun e => h e.symm
        simp [this]
      rw [e2]; simpa using this
  exact key l [] rfl
theorem FnKeys : PureFnKeys := by
  intro c0 c1 h0 h1
  refine W.yes (laws_FnKeys.w ?_)
  refine W.bind (laws_r8Long.w (W.di (fun h => W.ret (P := fun _ => True) trivial) (fun h => W.ret trivial))) fun b _ => ?_
  refine W.bi (fun h => W.ret rfl) (fun h => ?_)
  refine W.bind (r8Machine_w fun b hb => wf_u8 (h0.2 b hb)) ?_
  rintro ⟨a1, a2, a3, a4, b1, b2, b3, b4, i⟩ hm
  have hm : okM ⟨(a1, a2, a3, a4), (b1, b2, b3, b4), i⟩ = true := hm
  have hkl := keysV_length ⟨(a1, a2, a3, a4), (b1, b2, b3, b4), i⟩ 16
  have hkm := fun y => keysV_mem ⟨(a1, a2, a3, a4), (b1, b2, b3, b4), i⟩ y 16
  refine W.bindE (keys_w ⟨(a1, a2, a3, a4), (b1, b2, b3, b4), i⟩ hm) (W.bind (best_w ⟨(a1, a2, a3, a4), (b1, b2, b3, b4), i⟩ hm) ?_)
  rintro ⟨best, fnd⟩ ⟨hb1, hb2⟩
  dsimp only at hb1 hb2 ⊢
  refine W.bindE (outlook_w ⟨(a1, a2, a3, a4), (b1, b2, b3, b4), i⟩ hm best) (W.ne rfl ?_)
  have ends : W (fun k j => (laws_FnKeys.cs k j).1 a1 a2 a3 a4 b1 b2 b3 b4 i (keysV ⟨(a1, a2, a3, a4), (b1, b2, b3, b4), i⟩ 16) best fnd (outV ⟨(a1, a2, a3, a4), (b1, b2, b3, b4), i⟩ best).1) (· = true) := by
    refine laws_FnKeys.w0 ?_
    have key : ∀ (n : Nat) (j : Int), j + n = 16 → 0 ≤ j → W (fun k o => (laws_FnKeys.cs k o).2 a1 a2 a3 a4 b1 b2 b3 b4 i (keysV ⟨(a1, a2, a3, a4), (b1, b2, b3, b4), i⟩ 16) best fnd (outV ⟨(a1, a2, a3, a4), (b1, b2, b3, b4), i⟩ best).1 j) (· = true) := by
      intro n
      induction n with
      | zero => intro j hj h0; exact laws_FnKeys.w1 (W.de (by omega) (W.ret rfl))
      | succ n ih =>
        intro j hj h0
        have next := ih (j + 1) (by omega) (by omega)
        have hb := implBuild_w ⟨(a1, a2, a3, a4), (b1, b2, b3, b4), i⟩ 1 j
        rw [if_pos hm] at hb
        refine laws_FnKeys.w1 (W.dt (by omega) ?_)
        rw [w64 (i := j + 1) (by omega) (by omega)]
        refine W.bindE hb (W.bindE (outlook_w ⟨(a1, a2, a3, a4), (b1, b2, b3, b4), i⟩ hm j) (W.bindE (has_w _ j (by omega)) (W.e ?_ ?_)))
        · have e : decide (j ∈ keysV ⟨(a1, a2, a3, a4), (b1, b2, b3, b4), i⟩ 16) = (buildV ⟨(a1, a2, a3, a4), (b1, b2, b3, b4), i⟩ 1 j).2 := by
            rw [Bool.eq_iff_iff, decide_eq_true_eq, hkm]
            exact ⟨fun h => h.2, fun h => ⟨by omega, h⟩⟩
          rw [e]
          show ¬(!((buildV ⟨(a1, a2, a3, a4), (b1, b2, b3, b4), i⟩ 1 j).2 == (buildV ⟨(a1, a2, a3, a4), (b1, b2, b3, b4), i⟩ 1 j).2)) = true
          simp
        · refine W.bi (fun he => ?_) (fun he => ?_)
          · have hbu := outV_build he
            have hnn := outV_nn he
            obtain ⟨q1, q2, q3⟩ := hb2 j h0 (by omega) he
            refine W.ne hbu (W.t he (W.ne q1 (W.t he (W.de (by omega) (W.de (by omega) (W.di (fun ee => W.de (fun hlt => by have := q3 hlt; omega) next) (fun _ => next)))))))
          · exact W.e (by simp [he]) (W.e (by simp [he]) next)
    exact key 16 0 (by omega) (by omega)
  exact W.bi (fun hf => W.ne (hb1 hf).2 ends) (fun _ => ends)
end Go.Proofs.Ytncdmooobfomeaa.Pure
