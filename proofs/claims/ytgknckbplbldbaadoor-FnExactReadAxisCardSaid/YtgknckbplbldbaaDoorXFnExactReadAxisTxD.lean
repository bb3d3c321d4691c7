/- What the program's functions on decimal texts answer. -/
import Derived.Test.YtgknckbplbldbaaDoorXFnExactReadAxisO
import Derived.Test.YtgknckbplbldbaaDoorRvTx
namespace Go.Proofs.YtgknckbplbldbaaDoor.R
open Go.Rv Go.Rv.Tx
set_option linter.unusedVariables false
set_option linter.unusedSimpArgs false
theorem decLoop_w (sign : List UInt8) : ∀ (m : Nat) (d : List UInt8), m ≤ 9223372036854775808 → sign.length + (tl m).length + d.length ≤ 1000 → W (fun k j => (spec_l01Dec.cs k j).2 (bs sign) (-(m : Int)) (bs d)) (· = bs (sign ++ (tl m ++ d))) := by
  intro m
  induction m using Nat.strongRecOn with
  | _ m ih =>
    intro d hm hl
    by_cases h0 : m = 0
    · subst h0
      refine spec_l01Dec.w1 (W.de (by omega) ?_)
      rw [fit_bs _ _ (by omega), cat_bs]
      exact W.t rfl (W.ret (by simp [tl]))
    · refine spec_l01Dec.w1 (W.dt (by omega) (W.e (by decide) ?_))
      have e1 : wrap64 ((-(m : Int)).tdiv 10) = -((m / 10 : Nat) : Int) := by
        rw [show (-(m : Int)).tdiv 10 = -((m / 10 : Nat) : Int) by rw [Int.neg_tdiv, Int.tdiv_eq_ediv_of_nonneg (by omega)]; rfl]
        exact w64 (by omega) (by omega)
      have e2 : tl m = tl (m / 10) ++ [UInt8.ofNat (48 + m % 10)] := by rw [tl, if_neg h0]; exact dec_tl m
      have e3 : (tl m).length = (tl (m / 10)).length + 1 := by rw [e2]; simp
      rw [dig, fit_bs _ _ (by simp; omega), cat_bs, e1]
      refine W.t rfl (W.e (by decide) ?_)
      refine W.mono (ih (m / 10) (by omega) _ (by omega) (by simp; omega)) ?_
      rintro v rfl
      rw [e2]
      simp
theorem decTop_w (sign : List UInt8) (m : Nat) (hm : m ≤ 9223372036854775808) (hs : sign.length ≤ 10) : W (fun k j => (spec_l01Dec.cs k j).1 (bs sign) (-(m : Int))) (· = bs (sign ++ Lib.decDigits m)) := by
  refine spec_l01Dec.w0 (W.e (by decide) (W.e (by decide) ?_))
  have e1 : wrap64 ((-(m : Int)).tdiv 10) = -((m / 10 : Nat) : Int) := by
    rw [show (-(m : Int)).tdiv 10 = -((m / 10 : Nat) : Int) by rw [Int.neg_tdiv, Int.tdiv_eq_ediv_of_nonneg (by omega)]; rfl]
    exact w64 (by omega) (by omega)
  have hlen : (tl (m / 10)).length ≤ 21 := by
    unfold tl
    split
    · simp
    · have := itoa_len ((m / 10 : Nat) : Int) (by omega) (by omega)
      unfold Lib.itoa at this
      rw [if_neg (by omega), Int.toNat_natCast] at this
      exact this
  rw [dig, e1]
  refine W.mono (decLoop_w sign (m / 10) _ (by omega) (by simp; omega)) ?_
  rintro v rfl
  rw [dec_tl m]
theorem l01Dec_w (n : Int) (h0 : -9223372036854775808 ≤ n) (h1 : n ≤ 9223372036854775807) : W (fun k _ => spec_l01Dec.f k n) (· = bs (Lib.itoa n)) := by
  refine spec_l01Dec.w (W.di (fun h => ?_) (fun h => ?_))
  · refine W.mono (W.congr (decTop_w [45] n.natAbs (by omega) (by simp)) fun k m => ?_) ?_
    · rw [show -((n.natAbs : Nat) : Int) = n by omega]; rfl
    · rintro v rfl
      unfold Lib.itoa
      rw [if_pos h]
      rfl
  · refine W.mono (W.congr (decTop_w [] n.toNat (by omega) (by simp)) fun k m => ?_) ?_
    · rw [show -((n.toNat : Nat) : Int) = wrap64 (0 - n) by rw [w64 (by omega) (by omega)]; omega]; rfl
    · rintro v rfl
      unfold Lib.itoa
      rw [if_neg h]
      rfl
end Go.Proofs.YtgknckbplbldbaaDoor.R
