/- What digits are not; texts of numbers with a byte between them, in pieces. No program. -/
import Derived.Test.YtmgelocefebldaaGreatDoorRvTxN
import Derived.Lib.Join
namespace Go.Rv.Tx
open Go.Rv
set_option linter.unusedVariables false
set_option linter.unusedSimpArgs false
theorem dec_mem : ∀ (u : Nat), ∀ x ∈ Lib.decDigits u, 48 ≤ x.toNat ∧ x.toNat ≤ 57 := by
  intro u
  induction u using Nat.strongRecOn with
  | _ u ih =>
    intro x hx
    rw [Lib.decDigits] at hx
    split at hx
    · rename_i h
      simp only [List.mem_singleton] at hx
      rw [hx, digit_nat h]; omega
    · rcases List.mem_append.1 hx with hx | hx
      · exact ih (u / 10) (by omega) x hx
      · simp only [List.mem_singleton] at hx
        rw [hx, digit_nat (Nat.mod_lt u (show 10 > 0 by decide))]; omega
theorem itoa_mem (v : Int) : ∀ x ∈ Lib.itoa v, x.toNat = 45 ∨ (48 ≤ x.toNat ∧ x.toNat ≤ 57) := by
  intro x hx
  unfold Lib.itoa at hx
  split at hx
  · rcases List.mem_cons.1 hx with rfl | hx
    · exact .inl rfl
    · exact .inr (dec_mem _ x hx)
  · exact .inr (dec_mem _ x hx)
theorem itoa_no (v : Int) (c : UInt8) (h : c.toNat < 45 ∨ c.toNat = 46 ∨ c.toNat = 47 ∨ 57 < c.toNat) : c ∉ Lib.itoa v := fun hm => by
  have := itoa_mem v c hm
  omega
/-- pieces of a join -/
theorem pcs_join (c : UInt8) : ∀ (x : List UInt8) (r : List (List UInt8)), (∀ y ∈ x :: r, c ∉ y) → pcs c (Lib.join (x :: r) [c]) = x :: r
  | x, [], h => by rw [Lib.join_one, pcs_free (h x (by simp))]
  | x, y :: r, h => by
    have ih := pcs_join c y r fun z hz => h z (List.mem_cons_of_mem _ hz)
    have e : Lib.join (x :: y :: r) [c] = x ++ c :: Lib.join (y :: r) [c] := by
      simp [Lib.join, List.intercalate, List.intersperse]
    rw [e, pcs_cut _ (h x (by simp)), ih]
end Go.Rv.Tx
