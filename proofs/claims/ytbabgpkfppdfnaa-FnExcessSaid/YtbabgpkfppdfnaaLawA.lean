/- What the laws on muck draw: a short balance, an allowance, a limit. -/
import Derived.Test.YtbabgpkfppdfnaaDraw
import Derived.Test.YtbabgpkfppdfnaaMuck
import Derived.Test.YtbabgpkfppdfnaaGx10
namespace Go.Proofs.Ytbabgpkfppdfnaa.K
open Go.RowKit Go.Proofs.Ytbabgpkfppdfnaa.G Go.Proofs.YtbabgpkfppdfnaaW.PrintWords Go.Proofs.YtbabgpkfppdfnaaW.PrintLast Go.Proofs.YtbabgpkfppdfnaaW.PrintMore
set_option linter.unusedVariables false
set_option linter.unusedSimpArgs false

theorem balLoop_ex (s : List Int) (hs : Bytes s) : ∀ (n : Nat) (acc : List Int) (i q : Int), n ≤ 10 → 0 ≤ i → i ≤ 1000 + 2 * (10 - n) → acc.length + n ≤ 10 → (∀ x ∈ acc, -20 ≤ x ∧ x ≤ 20) →
    ∃ l : List Int, l.length ≤ 10 ∧ (∀ x ∈ l, -20 ≤ x ∧ x ≤ 20) ∧ ∀ k, n < k → spec_R8Balance.l0 k acc n s i q = some l := by
  intro n
  induction n with
  | zero =>
    intro acc i q hn h0 h1 ha hx
    refine ⟨acc, by omega, hx, fun k hk => ?_⟩
    obtain ⟨k, rfl⟩ : ∃ j, k = j + 1 := ⟨k - 1, by omega⟩
    rw [spec_R8Balance.l0]
    simp
  | succ n ih =>
    intro acc i q hn h0 h1 ha hx
    obtain ⟨r, i', q', e, r0, r1, a0, a1⟩ := pick_ex s hs i q 41 h0 (by omega) (by omega) (by omega)
    obtain ⟨l, hl, hm, hk⟩ := ih (acc ++ [r - 20]) i' q' (by omega) (by omega) (by omega) (by simp; omega) (fun x hx' => by
      rw [List.mem_append] at hx'
      rcases hx' with hx' | hx'
      · exact hx x hx'
      · simp at hx'; omega)
    refine ⟨l, hl, hm, fun k hk' => ?_⟩
    obtain ⟨k, rfl⟩ : ∃ j, k = j + 1 := ⟨k - 1, by omega⟩
    rw [spec_R8Balance.l0, if_pos (by omega), e]
    simp only [Option.bind_some]
    rw [if_pos (by omega), w64 (by omega) (by omega), w64 (by omega) (by omega)]
    have := hk k (by omega)
    have e2 : ((n + 1 : Nat) : Int) - 1 = (n : Int) := by omega
    rw [e2]
    exact this
theorem balance_ex (s : List Int) (hs : Bytes s) : ∃ l : List Int, l.length ≤ 10 ∧ (∀ x ∈ l, -20 ≤ x ∧ x ≤ 20) ∧ ∀ k, 20 < k → spec_R8Balance.f k s = some l := by
  obtain ⟨r, i', q', e, r0, r1, a0, a1⟩ := pick_ex s hs 0 0 10 (by omega) (by omega) (by omega) (by omega)
  obtain ⟨n, rfl⟩ := Int.eq_ofNat_of_zero_le r0
  obtain ⟨l, hl, hm, hk⟩ := balLoop_ex s hs n [] i' q' (by omega) (by omega) (by omega) (by simp; omega) (by simp)
  refine ⟨l, hl, hm, fun k hk' => ?_⟩
  unfold spec_R8Balance.f spec_l00From.f
  simp only [Option.bind_some, e]
  exact hk k (by omega)
theorem few_of {l : List Int} (h : l.length ≤ 10) (hm : ∀ x ∈ l, -20 ≤ x ∧ x ≤ 20) : few (-1000000) 1000000 l = true := by
  unfold few allIn
  simp only [Bool.and_eq_true, List.all_eq_true, decide_eq_true_eq]
  exact ⟨fun x hx => inR_iff.2 ⟨by have := hm x hx; omega, by have := hm x hx; omega⟩, by omega⟩
theorem r8At_ex (l : List Int) (hl : Bytes l) (i n : Int) (h0 : 0 ≤ i) (hn : 1 ≤ n) : ∃ r, laws_r8At.f l i n = some r ∧ 0 ≤ r ∧ r < n := by
  have hb := bytes_rd hl i
  unfold laws_r8At.f
  by_cases c : n ≤ 1
  · rw [if_pos c]; exact ⟨_, rfl, by omega, by omega⟩
  rw [if_neg c]
  by_cases c3 : i ≥ (l.length : Int)
  · rw [if_pos c3]; exact ⟨_, rfl, by omega, by omega⟩
  · rw [if_neg c3, if_pos h0, if_pos (by omega), if_neg (by omega), w64 (by omega) (by omega), Int.tmod_eq_emod_of_nonneg (by omega)]
    exact ⟨_, rfl, Int.emod_nonneg _ (by omega), Int.emod_lt_of_pos _ (by omega)⟩
theorem r8Long_eq (l m : List Int) : laws_r8Long.f l m = some (decide (48 < l.length) || decide (48 < m.length)) := by
  unfold laws_r8Long.f
  by_cases c : 48 < l.length
  · rw [if_pos (by omega)]; simp [c]
  · rw [if_neg (by omega)]
    congr 1
    simp [c]
    omega
theorem bytes_of {l : List Int} (h : ¬ 48 < l.length) (hw : ∀ x ∈ l, (Lit.int .u8 x).wf = true) : Bytes l := ⟨by omega, fun x hx => wf_u8 (hw x hx)⟩
end Go.Proofs.Ytbabgpkfppdfnaa.K
