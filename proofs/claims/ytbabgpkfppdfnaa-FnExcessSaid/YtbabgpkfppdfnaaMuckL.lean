/- What LeastAllowance answers, in the program and in the reference: a number at which no alarm is raised, but with 1 less one is. -/
import Derived.Test.YtbabgpkfppdfnaaMuck
import Derived.Test.YtbabgpkfppdfnaaGx11
import Derived.Test.YtbabgpkfppdfnaaGx13
namespace Go.Proofs.Ytbabgpkfppdfnaa.K
open Go.RowKit Go.Proofs.Ytbabgpkfppdfnaa.G Go.Proofs.YtbabgpkfppdfnaaW.PrintWords Go.Proofs.YtbabgpkfppdfnaaW.PrintLast Go.Proofs.YtbabgpkfppdfnaaW.PrintMore
set_option linter.unusedVariables false
set_option linter.unusedSimpArgs false

theorem alarm_none (lim : Int) (hlim : 0 ≤ lim) (fr i : Int) (l : List Int) (h : ∀ x ∈ l, x = 0) : (alarmL lim fr i l).2.2 = false := by
  induction l generalizing fr i with
  | nil => rfl
  | cons x r ih =>
    have hx := h x (by simp)
    simp only [alarmL]
    rw [if_neg (by omega), if_pos hx]
    exact ih _ _ (fun y hy => h y (by simp [hy]))
theorem sums_zero (l : List Int) (h : ∀ x ∈ l, x ≤ 1000000) : ∀ y ∈ sumsL 1000000 0 l, y = 0 := by
  induction l with
  | nil => simp [sumsL]
  | cons x r ih =>
    have hx := h x (by simp)
    have e : max (0 + x - 1000000) 0 = 0 := by omega
    intro y hy
    simp only [sumsL, e, List.mem_cons] at hy
    rcases hy with hy | hy
    · exact hy
    · exact ih (fun z hz => h z (by simp [hz])) y hy
theorem alarm_top (l : List Int) (lim : Int) (hl : few (-1000000) 1000000 l = true) (hlim : inR 0 1000000 lim = true) : (alarmV l 1000000 lim).2.2 = false := by
  unfold alarmV
  rw [hl, hlim]
  simp only [show inR 0 1000000 1000000 = true by decide, Bool.and_self, if_true]
  exact alarm_none lim (inR_iff.1 hlim).1 _ _ _ (sums_zero l (fun x hx => (few_mem hl x hx).2))
theorem mid_eq {a b : Int} (h0 : 0 ≤ a) (h1 : a ≤ b) (h2 : b ≤ 1000000) : wrap64 (Int.tdiv (wrap64 (a + b)) 2) = (a + b) / 2 := by
  rw [w64 (i := a + b) (by omega) (by omega), Int.tdiv_eq_ediv_of_nonneg (by omega), w64 (by omega) (by omega)]
theorem least_ex (l : List Int) (lim : Int) (hl : few (-1000000) 1000000 l = true) (hlim : inR 0 1000000 lim = true) :
    ∀ (d : Nat) (low high : Int), 0 ≤ low → low ≤ high → high ≤ 1000000 → high - low ≤ d → (low = 0 ∨ (alarmV l (low - 1) lim).2.2 = true) → (alarmV l high lim).2.2 = false →
    ∃ r : Int, 0 ≤ r ∧ r ≤ 1000000 ∧ (r = 0 ∨ (alarmV l (r - 1) lim).2.2 = true) ∧ (alarmV l r lim).2.2 = false ∧
      ∀ k, d + l.length + 3 < k → impl_LeastAllowance.l0 k l lim low high = some (r, true) ∧ spec_LeastAllowance.l0 k l lim low high = some (r, true) := by
  have h60 := few_len hl
  intro d
  induction d with
  | zero =>
    intro low high h0 h1 h2 hd ha hb
    obtain rfl : low = high := by omega
    refine ⟨low, h0, h2, ha, hb, fun k hk => ?_⟩
    obtain ⟨k, rfl⟩ : ∃ j, k = j + 1 := ⟨k - 1, by omega⟩
    rw [impl_LeastAllowance.l0, spec_LeastAllowance.l0, if_neg (by omega), if_neg (by omega)]
    exact ⟨rfl, rfl⟩
  | succ d ih =>
    intro low high h0 h1 h2 hd ha hb
    by_cases hlt : low < high
    · have hmid : low ≤ (low + high) / 2 ∧ (low + high) / 2 < high := by omega
      have hr : inR 0 1000000 ((low + high) / 2) = true := inR_iff.2 ⟨by omega, by omega⟩
      have step : ∀ (b : Bool), (alarmV l ((low + high) / 2) lim).2.2 = b → ∀ k, d + 1 + l.length + 3 < k + 1 →
          impl_LeastAllowance.l0 (k + 1) l lim low high = (if b = true then impl_LeastAllowance.l0 k l lim ((low + high) / 2 + 1) high else impl_LeastAllowance.l0 k l lim low ((low + high) / 2)) ∧
          spec_LeastAllowance.l0 (k + 1) l lim low high = (if b = true then spec_LeastAllowance.l0 k l lim ((low + high) / 2 + 1) high else spec_LeastAllowance.l0 k l lim low ((low + high) / 2)) := by
        intro b eb k hk
        have es : alarmV l ((low + high) / 2) lim = alarmL lim 0 0 (sumsL ((low + high) / 2) 0 l) := by
          unfold alarmV; rw [hl, hlim, hr]; rfl
        rw [impl_LeastAllowance.l0, spec_LeastAllowance.l0, if_pos hlt, if_pos hlt, mid_eq h0 h1 h2, implAlarm_eq l _ lim k (by omega) (by omega), specAlarm_eq l _ lim k hl hr (by omega), ← es]
        simp only [Option.bind_some, eb]
        rw [w64 (by omega) (by omega)]
        exact ⟨rfl, rfl⟩
      cases eb : (alarmV l ((low + high) / 2) lim).2.2 with
      | true =>
        obtain ⟨r, r0, r1, r2, r3, r4⟩ := ih ((low + high) / 2 + 1) high (by omega) (by omega) h2 (by omega) (.inr (by simpa using eb)) hb
        refine ⟨r, r0, r1, r2, r3, fun k hk => ?_⟩
        obtain ⟨k, rfl⟩ : ∃ j, k = j + 1 := ⟨k - 1, by omega⟩
        obtain ⟨s1, s2⟩ := step true eb k (by omega)
        rw [s1, s2, if_pos rfl, if_pos rfl]
        exact r4 k (by omega)
      | false =>
        obtain ⟨r, r0, r1, r2, r3, r4⟩ := ih low ((low + high) / 2) h0 (by omega) (by omega) (by omega) ha eb
        refine ⟨r, r0, r1, r2, r3, fun k hk => ?_⟩
        obtain ⟨k, rfl⟩ : ∃ j, k = j + 1 := ⟨k - 1, by omega⟩
        obtain ⟨s1, s2⟩ := step false eb k (by omega)
        rw [s1, s2, if_neg (by simp), if_neg (by simp)]
        exact r4 k (by omega)
    · obtain ⟨r, r0, r1, r2, r3, r4⟩ := ih low high h0 h1 h2 (by omega) ha hb
      exact ⟨r, r0, r1, r2, r3, fun k hk => r4 k (by omega)⟩
/-- Both answer the same, and what that is. -/
theorem least_both (l : List Int) (lim : Int) (hl : l.length ≤ 1048576) : ∃ r : Int, ∃ ok : Bool, (ok = true ↔ few (-1000000) 1000000 l = true ∧ inR 0 1000000 lim = true) ∧
    (ok = true → 0 ≤ r ∧ r ≤ 1000000 ∧ (r = 0 ∨ (alarmV l (r - 1) lim).2.2 = true) ∧ (alarmV l r lim).2.2 = false) ∧
    ∀ k, 2048580 + 10 < k → impl_LeastAllowance.f k l lim = some (r, ok) ∧ spec_LeastAllowance.f k l lim = some (r, ok) := by
  have bad1 : ∀ k, impl_LeastAllowance.j0 (k + 1) l lim true = some (0, false) := fun k => by simp [impl_LeastAllowance.j0]
  have bad2 : ∀ k, spec_LeastAllowance.j0 (k + 1) l lim true = some (0, false) := fun k => by simp [spec_LeastAllowance.j0]
  have e0 : inR 0 1000000 0 = true := by decide
  by_cases h : few (-1000000) 1000000 l = true ∧ inR 0 1000000 lim = true
  · obtain ⟨r, r0, r1, r2, r3, r4⟩ := least_ex l lim h.1 h.2 1000000 0 1000000 (by omega) (by omega) (by omega) (by omega) (.inl rfl) (alarm_top l lim h.1 h.2)
    have h60 := few_len h.1
    refine ⟨r, true, ⟨fun _ => h, fun _ => rfl⟩, fun _ => ⟨r0, r1, r2, r3⟩, fun k hk => ?_⟩
    obtain ⟨k, rfl⟩ : ∃ j, k = j + 1 := ⟨k - 1, by omega⟩
    unfold impl_LeastAllowance.f spec_LeastAllowance.f
    rw [isBalance_eq, h.1, e0, within_eq, h.2, l06Balance_eq l _ hl (by omega), h.1, l06Bound_eq, h.2]
    simp only [Option.bind_some, Bool.and_self, if_true, Bool.not_true, impl_LeastAllowance.j0, spec_LeastAllowance.j0]
    rw [if_neg (by simp), if_neg (by simp)]
    exact r4 k (by omega)
  · refine ⟨0, false, ⟨fun h' => absurd h' (by simp), fun h' => absurd h' h⟩, fun h' => absurd h' (by simp), fun k hk => ?_⟩
    obtain ⟨k, rfl⟩ : ∃ j, k = j + 1 := ⟨k - 1, by omega⟩
    unfold impl_LeastAllowance.f spec_LeastAllowance.f
    rw [isBalance_eq, e0, within_eq, l06Balance_eq l _ hl (by omega), l06Bound_eq]
    cases h1 : few (-1000000) 1000000 l <;> cases h2 : inR 0 1000000 lim <;> simp [bad1, bad2]
    exact absurd ⟨h1, h2⟩ h
end Go.Proofs.Ytbabgpkfppdfnaa.K
