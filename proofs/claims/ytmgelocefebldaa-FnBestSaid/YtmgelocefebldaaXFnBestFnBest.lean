/- The best tube: the plain statement. -/
import Derived.Test.YtmgelocefebldaaXFnBestBestS
import Derived.Test.YtmgelocefebldaaXFnBestFollow
import Derived.Test.YtmgelocefebldaaXFnBestBAt
import Derived.Test.YtmgelocefebldaaXFnBestB10A
import Derived.Test.YtmgelocefebldaaRvPuFnBest
namespace Go.Proofs.Ytmgelocefebldaa.Pure
open Go.Rv Go.Rv.Ax R
set_option linter.unusedVariables false
set_option linter.unusedSimpArgs false
theorem FnBest : PureFnBest := by
  intro c0 c1 h0 h1
  refine W.yes (laws_FnBest.w ?_)
  have hb1 : ∀ b ∈ c1, 0 ≤ b ∧ b ≤ 255 := fun b hb => wfu (h1.2 b hb)
  refine W.bindE (b10Long_w c0 c1) (W.bi (fun _ => W.ret rfl) fun _ => ?_)
  refine W.bind (b10Axis_w fun b hb => wf_u8 (h0.2 b hb)) ?_
  rintro ⟨p1, p2, p3, p4, l, n, s1, s2, s3, s4⟩ ⟨hok, hn, hn2⟩
  dsimp only at hok hn hn2 ⊢
  refine W.bind (b10At_w hb1 0 2 (by omega) (by omega)) fun (kd : Int) hk => W.bind (b10At_w hb1 1 16 (by omega) (by omega)) fun (b : Int) hb => W.bind (b10At_w hb1 2 3 (by omega) (by omega)) fun (m : Int) hm => ?_
  have hk : 0 ≤ kd ∧ (kd = 0 ∨ kd < 2) := hk
  have hb : 0 ≤ b ∧ (b = 0 ∨ b < 16) := hb
  have hm : 0 ≤ m ∧ (m = 0 ∨ m < 3) := hm
  have hlen := hok.len
  rw [w64 (i := 1 + m) (by omega) (by omega)]
  obtain ⟨c, hc⟩ : ∃ c : Nat, 1 + m = (c : Int) := ⟨(1 + m).toNat, by omega⟩
  rw [hc]
  have hI := implBest_w (p1, p2, p3, p4) l n (s1, s2, s3, s4) kd b (c : Int)
  have hS := specBest_w (p1, p2, p3, p4) l n (s1, s2, s3, s4) kd b (c : Int) (by omega)
  refine W.bindE hI (W.bind (follow_w hb1 c (by omega) kd b (by omega)) fun o ho => ?_)
  have hring : ringB kd b = true := by simp only [ringB, Bool.and_eq_true, inR_iff]; omega
  have htube : ∀ t : List Ri, t.length = c → chn (some b) t = true → tubeB t = true := fun t ht hch => by unfold tubeB; rw [chn_none0 hch]; simp; omega
  have hsq : ∀ t : List Ri, t.length = c → chn (some b) t = true → bestOk (p1, p2, p3, p4) l n (s1, s2, s3, s4) kd b (c : Int) = true → sqV (p1, p2, p3, p4) l n (s1, s2, s3, s4) t = costV (costT ((poses (p1, p2, p3, p4) l).drop (n + 1).toNat) (s1, s2, s3, s4) t) := fun t ht hch hbo => by
    obtain ⟨_, q2, q3, q4, q5, q6⟩ := bestOk_iff.1 hbo
    exact sqV_run (b := n) q4 q2 q5 (by omega) (htube t ht hch) (goal_at _ l q5)
  have hno : (sqV (p1, p2, p3, p4) l n (s1, s2, s3, s4) o).2 = true → bestOk (p1, p2, p3, p4) l n (s1, s2, s3, s4) kd b (c : Int) = true := fun h => by
    have h2 : (offV (p1, p2, p3, p4) l n (s1, s2, s3, s4) o).2 = true := by
      unfold sqV at h
      split at h
      · rename_i h'; exact h'
      · cases h
    have h3 : okOff (p1, p2, p3, p4) l n (s1, s2, s3, s4) o = true := by
      unfold offV at h2
      split at h2
      · rename_i h'; exact h'
      · cases h2
    obtain ⟨q1, q2, q3, q4⟩ := okOff_iff.1 h3
    have q5 : okP (s1, s2, s3, s4) = true := by
      unfold tubePV at q2
      rw [htube o ho.1 ho.2] at q2
      simp only [if_true] at q2
      unfold tubeP at q2
      cases hp : okP (s1, s2, s3, s4)
      · rw [hp] at q2; cases q2
      · rfl
    exact bestOk_iff.2 ⟨hring, q5, by omega, q1, q3, by rw [ho.1] at q4; exact q4⟩
  refine W.bindE (implSq_w (p1, p2, p3, p4) l n (s1, s2, s3, s4) o (by omega)) ?_
  have hfn : Fnd (costT ((poses (p1, p2, p3, p4) l).drop (n + 1).toNat) (s1, s2, s3, s4)) b c (bestGo (p1, p2, p3, p4) l n (s1, s2, s3, s4) b c) :=
    srch_fnd c b [] (false, 0, []) (by simp) rfl rfl ⟨fun e => (by cases e), fun _ => rfl⟩
  have hall : ∀ v : Int, costT ((poses (p1, p2, p3, p4) l).drop (n + 1).toNat) (s1, s2, s3, s4) o = some v → (bestGo (p1, p2, p3, p4) l n (s1, s2, s3, s4) b c).1 = true ∧ (bestGo (p1, p2, p3, p4) l n (s1, s2, s3, s4) b c).2.1 ≤ v := fun v hv =>
    srch_all c b [] (false, 0, []) o v ho.1 ho.2 (by simpa using hv)
  generalize hbv : bestV (p1, p2, p3, p4) l n (s1, s2, s3, s4) kd b (c : Int) = r at hI hS ⊢
  unfold bestV at hbv
  by_cases hbo : bestOk (p1, p2, p3, p4) l n (s1, s2, s3, s4) kd b (c : Int) = true
  case neg =>
    rw [if_neg hbo] at hbv
    subst hbv
    refine W.nt rfl (W.bindE hS (W.nt rfl (W.ret ?_)))
    cases hq : (sqV (p1, p2, p3, p4) l n (s1, s2, s3, s4) o).2
    · rfl
    · exact (hbo (hno hq)).elim
  rw [if_pos hbo] at hbv
  have htn : (c : Int).toNat = c := by omega
  rw [htn] at hbv
  have hso := hsq o ho.1 ho.2 hbo
  cases hg : (bestGo (p1, p2, p3, p4) l n (s1, s2, s3, s4) b c).1
  · rw [hg] at hbv
    simp only [Bool.false_eq_true, if_false] at hbv
    subst hbv
    refine W.nt rfl (W.bindE hS (W.nt rfl (W.ret ?_)))
    rw [hso]
    cases hv : costT ((poses (p1, p2, p3, p4) l).drop (n + 1).toNat) (s1, s2, s3, s4) o with
    | none => rfl
    | some v =>
      have := (hall v hv).1
      rw [hg] at this
      cases this
  · rw [hg] at hbv
    simp only [if_true] at hbv
    obtain ⟨g1, g2, g3⟩ := hfn.yes hg
    generalize bestGo (p1, p2, p3, p4) l n (s1, s2, s3, s4) b c = g at *
    subst hbv
    have hsg := hsq g.2.2 g1 g2 hbo
    rw [g3] at hsg
    have hval : tubeB ([(kd, b)] ++ g.2.2) = true := by
      unfold tubeB
      rw [List.singleton_append, chn_cons, hring, g2]
      simp [mtk]; omega
    refine W.ne rfl (W.bindE (implSq_w (p1, p2, p3, p4) l n (s1, s2, s3, s4) g.2.2 (by omega)) ?_)
    rw [hsg]
    refine W.ne rfl (W.nde rfl (W.nde (by simp only; omega) (W.t (by simp only [List.length_singleton]; omega) (W.bindE (validTube_w _ (by simp; omega)) (W.ne hval ?_)))))
    rw [hso]
    cases hv : costT ((poses (p1, p2, p3, p4) l).drop (n + 1).toNat) (s1, s2, s3, s4) o with
    | none => exact W.nt rfl (W.ret rfl)
    | some v => exact W.ne rfl (W.ret (decide_eq_true (hall v hv).2))
end Go.Proofs.Ytmgelocefebldaa.Pure
