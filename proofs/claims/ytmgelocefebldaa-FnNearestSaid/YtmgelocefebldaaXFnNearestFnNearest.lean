/- The tube with the nearest total turn: the plain statement. -/
import Derived.Test.YtmgelocefebldaaXFnNearestNear
import Derived.Test.YtmgelocefebldaaXFnNearestBAt
import Derived.Test.YtmgelocefebldaaRvPuFnNearest
namespace Go.Proofs.Ytmgelocefebldaa.Pure
open Go.Rv Go.Rv.Ax R
set_option linter.unusedVariables false
set_option linter.unusedSimpArgs false
theorem FnNearest : PureFnNearest := by
  intro c0 c1 h0 h1
  refine W.yes (laws_FnNearest.w ?_)
  have hb0 : ∀ b ∈ c0, 0 ≤ b ∧ b ≤ 255 := fun b hb => wfu (h0.2 b hb)
  have hb1 : ∀ b ∈ c1, 0 ≤ b ∧ b ≤ 255 := fun b hb => wfu (h1.2 b hb)
  refine W.bindE (b10Long_w c0 c1) (W.bi (fun _ => W.ret rfl) fun _ => ?_)
  refine W.bind (b10At_w hb0 0 2 (by omega) (by omega)) fun (kd : Int) hk => W.bind (b10At_w hb0 1 16 (by omega) (by omega)) fun (b : Int) hb => W.bind (b10At_w hb0 2 3 (by omega) (by omega)) fun (n : Int) hn => W.bind (b10At_w hb0 3 61 (by omega) (by omega)) fun (u : Int) hu => W.bind (b10At_w hb0 4 61 (by omega) (by omega)) fun (v : Int) hv => ?_
  have hk : 0 ≤ kd ∧ (kd = 0 ∨ kd < 2) := hk
  have hb : 0 ≤ b ∧ (b = 0 ∨ b < 16) := hb
  have hn : 0 ≤ n ∧ (n = 0 ∨ n < 3) := hn
  have hu : 0 ≤ u ∧ (u = 0 ∨ u < 61) := hu
  have hv : 0 ≤ v ∧ (v = 0 ∨ v < 61) := hv
  rw [w64 (i := 1 + n) (by omega) (by omega), w64 (i := u - 30) (by omega) (by omega), w64 (i := v - 30) (by omega) (by omega)]
  obtain ⟨c, hc⟩ : ∃ c : Nat, 1 + n = (c : Int) := ⟨(1 + n).toNat, by omega⟩
  rw [hc]
  refine W.bind (nearest_w kd b (by omega) (by omega) c (by omega) (u - 30) (v - 30) (by omega) (by omega)) fun r hr => W.bind (follow_w hb1 c (by omega) kd b (by omega)) fun o ho => ?_
  obtain ⟨s, hg, hcv, hs⟩ := hr
  obtain ⟨q1, q2⟩ := hcv o (by simpa using ho.1) ho.2
  obtain ⟨g1, g2, g3⟩ := hg q1
  rw [hs q1]
  dsimp only
  rw [List.nil_append] at q2
  refine W.bind (totalV_w g2 (by omega)) fun x hx => W.bind (totalV_w ho.2 (by omega)) fun y hy => ?_
  obtain ⟨rfl, x1, x2⟩ := hx
  obtain ⟨rfl, y1, y2⟩ := hy
  have hring : ringB kd b = true := by simp only [ringB, Bool.and_eq_true, inR_iff]; omega
  have htube : tubeB ([(kd, b)] ++ s.2.2) = true := by
    unfold tubeB
    rw [List.singleton_append, chn_cons, hring, g2]
    simp [mtk]; omega
  refine W.ne rfl (W.ne rfl (W.ne rfl (W.nde (by rw [g1]) (W.t (by omega) (W.bindE (validTube_w _ (by simp; omega)) (W.ne htube ?_))))))
  rw [g3]
  rw [g3] at q2
  have e1 := absI_in (n := u - 30 - (totG (0, 0) s.2.2).1) (by omega)
  have e2 := absI_in (n := v - 30 - (totG (0, 0) s.2.2).2) (by omega)
  have e3 := absI_in (n := u - 30 - (totG (0, 0) o).1) (by omega)
  have e4 := absI_in (n := v - 30 - (totG (0, 0) o).2) (by omega)
  refine laws_FnNearest.w0 ?_
  rw [w64 (i := u - 30 - (totG (0, 0) s.2.2).1) (by omega) (by omega), w64 (i := v - 30 - (totG (0, 0) s.2.2).2) (by omega) (by omega), w64 (i := u - 30 - (totG (0, 0) o).1) (by omega) (by omega), w64 (i := v - 30 - (totG (0, 0) o).2) (by omega) (by omega)]
  refine W.bindE (babs_w _ (by omega)) (W.bindE (babs_w _ (by omega)) ?_)
  rw [w64 (i := absI (u - 30 - (totG (0, 0) s.2.2).1) + absI (v - 30 - (totG (0, 0) s.2.2).2)) (by omega) (by omega)]
  refine W.dt rfl (W.bindE (babs_w _ (by omega)) (W.bindE (babs_w _ (by omega)) (W.ret ?_)))
  rw [w64 (i := absI (u - 30 - (totG (0, 0) o).1) + absI (v - 30 - (totG (0, 0) o).2)) (by omega) (by omega)]
  exact decide_eq_true q2
end Go.Proofs.Ytmgelocefebldaa.Pure
