/- Small plain laws on the printed functions' words: reads of lists, the wrap of int64, loops that go through a list. No program. -/
import Derived.Test.YtlkmjldhhoopcaaVWords
import Derived.Test.YtlkmjldhhoopcaaVLast
import Derived.Test.YtlkmjldhhoopcaaVMore
namespace Go.Proofs.Ytlkmjldhhoopcaa.K
open Go.RowKit Go.Proofs.YtlkmjldhhoopcaaW.PrintWords Go.Proofs.YtlkmjldhhoopcaaW.PrintLast Go.Proofs.YtlkmjldhhoopcaaW.PrintMore

theorem w64 {i : Int} (h0 : -9223372036854775808 ≤ i) (h1 : i ≤ 9223372036854775807) : wrap64 i = i := by
  unfold wrap64; omega
theorem rd_mid (pre : List Int) (x : Int) (rest : List Int) : rd (pre ++ x :: rest) (pre.length : Int) = x := by
  simp [rd]
theorem mx_eq (a b : Int) : mx a b = max a b := by
  unfold mx; omega
theorem mn_eq (a b : Int) : mn a b = min a b := by
  unfold mn; omega

/-- A loop that goes through a list by its index: what it answers, from the suffix that is left; s: its other variables, I: what is known of them. -/
theorem loop_inv {α ρ σ : Type} (m : Nat) (xs : List α) (g : Nat → σ → Int → Option ρ) (F : σ → List α → ρ) (I : σ → Nat → Prop)
    (hnil : ∀ k s, m ≤ k → I s xs.length → g (k + 1) s (xs.length : Int) = some (F s []))
    (hcons : ∀ k s pre x rest, m ≤ k → xs = pre ++ x :: rest → I s pre.length →
      (∀ s', I s' (pre.length + 1) → g k s' ((pre.length : Int) + 1) = some (F s' rest)) → g (k + 1) s (pre.length : Int) = some (F s (x :: rest))) :
    ∀ (rest pre : List α) (k : Nat) (s : σ), xs = pre ++ rest → rest.length + m < k → I s pre.length → g k s (pre.length : Int) = some (F s rest) := by
  intro rest
  induction rest with
  | nil =>
    intro pre k s e hk hI
    obtain ⟨k, rfl⟩ : ∃ j, k = j + 1 := ⟨k - 1, by omega⟩
    obtain rfl : xs = pre := by simpa using e
    exact hnil k s (by simp at hk; omega) hI
  | cons x rest ih =>
    intro pre k s e hk hI
    obtain ⟨k, rfl⟩ : ∃ j, k = j + 1 := ⟨k - 1, by omega⟩
    refine hcons k s pre x rest (by simp at hk; omega) e hI fun s' hI' => ?_
    have := ih (pre ++ [x]) k s' (by simp [e]) (by simp at hk; omega) (by simpa using hI')
    simpa using this
theorem loop_all {α ρ σ : Type} (m : Nat) (xs : List α) (g : Nat → σ → Int → Option ρ) (F : σ → List α → ρ) (I : σ → Nat → Prop)
    (hnil : ∀ k s, m ≤ k → I s xs.length → g (k + 1) s (xs.length : Int) = some (F s []))
    (hcons : ∀ k s pre x rest, m ≤ k → xs = pre ++ x :: rest → I s pre.length →
      (∀ s', I s' (pre.length + 1) → g k s' ((pre.length : Int) + 1) = some (F s' rest)) → g (k + 1) s (pre.length : Int) = some (F s (x :: rest)))
    (k : Nat) (s : σ) (hk : xs.length + m < k) (hI : I s 0) : g k s 0 = some (F s xs) := by
  simpa using loop_inv m xs g F I hnil hcons xs [] k s rfl hk (by simpa using hI)

/-- Consecutive numbers. -/
def iota (a : Int) : Nat → List Int
  | 0 => []
  | n + 1 => a :: iota (a + 1) n
theorem iota_length (a : Int) (n : Nat) : (iota a n).length = n := by
  induction n generalizing a with
  | zero => rfl
  | succ n ih => simp [iota, ih]
end Go.Proofs.Ytlkmjldhhoopcaa.K
