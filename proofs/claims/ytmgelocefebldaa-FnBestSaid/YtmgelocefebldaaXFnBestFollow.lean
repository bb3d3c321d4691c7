/- The tube that is drawn behind a ring: it follows. -/
import Derived.Test.YtmgelocefebldaaXFnBestNxtM
import Derived.Test.YtmgelocefebldaaXFnBestSrcA
namespace Go.Proofs.Ytmgelocefebldaa.R
open Go.Rv Go.Rv.Ax
set_option linter.unusedVariables false
set_option linter.unusedSimpArgs false
theorem follow_w {c : List Int} (h : ∀ b ∈ c, 0 ≤ b ∧ b ≤ 255) (N : Nat) (hN : N ≤ 100) (kd b : Int) (hb : 0 ≤ b ∧ b ≤ 15) : W (fun k _ => spec_B10Follow.f k c (N : Int) kd b) (fun t => t.length = N ∧ chn (some b) t = true) := by
  have draw : ∀ (n N : Nat) (t : List Ri) (c : List Int) (a s m key : Int), t.length + n = N → N ≤ 100 → Sr c a m → m + 10 * n ≤ 1000000 → 0 ≤ key ∧ key ≤ 15 → chn (some b) t = true → (∀ y, meets key y = false → mtk (lastOr (some b) t) y = true) → W (fun k m => (spec_l03DrawOk.cs k m) c a s (n : Int) key t) (fun r => r.1.length = N ∧ chn (some b) r.1 = true) := by
    intro n
    induction n with
    | zero =>
      intro N t c a s m key hl hN g hm hk ht hq
      exact spec_l03DrawOk.w0 (W.de (by omega) (W.ret ⟨by simp only; omega, ht⟩))
    | succ n ih =>
      intro N t c a s m key hl hN g hm hk ht hq
      have hm0 : 0 ≤ m := by have := g.2.1; have := g.2.2; omega
      have htn : t.length + n + 1 = N := by omega
      refine spec_l03DrawOk.w0 (W.dt (by omega) (W.bind (specNextM_w key hk) fun L hL => W.bind (among_w g (by omega) hL.1) ?_))
      rintro ⟨r1, c1, a1, s1⟩ ⟨q1, g1⟩
      refine W.bind (pick_w g1 (by omega)) ?_
      rintro ⟨r2, c2, a2, s2⟩ ⟨q2, g2⟩
      dsimp only at q1 q2 g1 g2 ⊢
      have h1 := hL.2 r1 q1
      refine W.bindN (t := if 1 < r2 then 1 else r2) (fun k => by unfold spec_l00Min.f; by_cases h : 1 < r2 <;> simp [h]) (W.t ?_ ?_)
      · have : t.length ≤ 1000000 := by omega
        simp; omega
      rw [w64 (i := ((n + 1 : Nat) : Int) - 1) (by omega) (by omega), show ((n + 1 : Nat) : Int) - 1 = (n : Int) by omega]
      have hring : ringB (if 1 < r2 then 1 else r2) r1 = true := by
        simp only [ringB, Bool.and_eq_true, inR_iff]
        split <;> omega
      exact ih N _ c2 a2 s2 _ r1 (by simp; omega) hN g2 (by omega) h1.1 (chn_snoc t (some b) _ ht hring (hq r1 h1.2)) (fun y hy => by rw [lastOr_snoc]; simp [mtk, hy])
  refine spec_B10Follow.w (W.bind (from_w h) fun t1 g1 => ?_)
  exact W.bind (spec_l03DrawOk.w (draw N N [] _ _ _ _ b (by simp) hN g1 (by omega) hb rfl (fun y hy => by simp [mtk, lastOr, hy]))) fun r hr => W.ret hr
end Go.Proofs.Ytmgelocefebldaa.R
