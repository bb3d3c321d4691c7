/- The program's BestTube answers what the reference's does, for all arguments, and its result is new memory: the plain statement. -/
import Derived.Test.YtmgelocefebldaaXFnExactBestTubeBestS
import Derived.Test.YtmgelocefebldaaXFnExactBestTubeAxE0
import Derived.Test.YtmgelocefebldaaXFnExactBestTubeAxK
import Derived.Test.YtmgelocefebldaaRvPuFnExactBestTube
namespace Go.Proofs.Ytmgelocefebldaa.Pure
open Go.Rv Go.Rv.Ax R
set_option linter.unusedVariables false
set_option linter.unusedSimpArgs false
theorem bestV_len (p : Po) (l : List Cu) (b : Int) (s : Po) (kd key c : Int) : (bestV p l b s kd key c).1.length ≤ 1048576 := by
  unfold bestV
  split
  · rename_i h
    obtain ⟨_, _, q3, _⟩ := bestOk_iff.1 h
    have hfn : Fnd (costT ((poses p l).drop (b + 1).toNat) s) key c.toNat (bestGo p l b s key c.toNat) :=
      srch_fnd c.toNat key [] (false, 0, []) (by simp) rfl rfl ⟨fun e => (by cases e), fun _ => rfl⟩
    split
    · rename_i hg
      have := (hfn.yes hg).1
      simp only; omega
    · simp
  · simp
theorem markAxI_w (a b c d : Int) (l : List Cu) (hl : l.length ≤ 1048576) : W (fun k _ => laws_markAxis.f k a b c d l 1) (· = 1 + 3 * (l.length : Int)) :=
  laws_markAxis.w (W.bindE (markCurveS_w l 1 hl (by omega)) (W.ret rfl))
theorem FnExactBestTube : PureFnExactBestTube := by
  rintro ⟨⟨a, b, c, d⟩, l⟩ n ⟨e, f, g, h⟩ ⟨kd, key⟩ ct hw hn hs hr hct
  show ∃ k, laws_FnExactBestTube.f k a b c d l n e f g h kd key ct = some true
  have hn := wf_i64 hn
  have hll : l.length ≤ 9223372036854775807 := hw.2.1
  refine W.yes (laws_FnExactBestTube.w (W.bindE (szAxis_w a b c d l hll) ?_))
  by_cases hl : l.length ≤ 1048576
  case neg => rw [if_pos (by omega)]; exact W.dt (by omega) (W.ret rfl)
  rw [if_neg (by omega)]
  have hS := specBest_w (a, b, c, d) l n (e, f, g, h) kd key ct hn
  have hI := implBest_w (a, b, c, d) l n (e, f, g, h) kd key ct
  have hv := bestV_len (a, b, c, d) l n (e, f, g, h) kd key ct
  generalize bestV (a, b, c, d) l n (e, f, g, h) kd key ct = r at hS hI hv
  refine W.de (by omega) (W.bindE (toAxis_w (a, b, c, d) l hl) (W.bindN (fun k => rfl) (W.bindN (fun k => rfl) (W.bindE hS ?_))))
  refine W.bindE (toAxis_w (a, b, c, d) l hl) (W.bindN (fun k => rfl) (W.bindN (fun k => rfl) (W.bindE hI ?_)))
  refine W.bindE (eqRingS_w r.1 hv) (W.ne rfl (W.nde rfl (W.e (by simp) (laws_FnExactBestTube.w0 ?_))))
  refine W.bindE (toAxis_w (a, b, c, d) l hl) (W.bindE (eqAxis_w a b c d l hl) (W.ne rfl (W.bindE (markAxI_w a b c d l hl) (W.de (by omega) ?_))))
  refine W.bindE (eqRingS_w r.1 hv) (W.ne rfl (W.nde rfl (W.e (by simp) (laws_FnExactBestTube.w1 ?_))))
  refine W.bindE (markRingS_w r.1 1 hv (by omega)) (W.bindE (heldRingS_w r.1 1 hv (by omega)) (W.de (by omega) (W.nde rfl ?_)))
  refine W.bindE (toAxis_w (a, b, c, d) l hl) (W.bindN (fun k => rfl) (W.bindN (fun k => rfl) (W.bindE hI ?_)))
  refine W.bindE (eqRingS_w r.1 hv) (W.ne rfl (W.nde rfl (W.e (by simp) ?_)))
  exact W.bindE (heldRingS_w r.1 1 hv (by omega)) (W.de (by omega) (W.nde rfl (W.ret rfl)))
end Go.Proofs.Ytmgelocefebldaa.Pure
