/- The program's SquaresOf answers what the reference's does, for all arguments: the plain statement. -/
import Derived.Test.YtmgelocefebldaaXFnExactSquaresOfOffsS
import Derived.Test.YtmgelocefebldaaXFnExactSquaresOfAxE0
import Derived.Test.YtmgelocefebldaaXFnExactSquaresOfAxK
import Derived.Test.YtmgelocefebldaaRvPuFnExactSquaresOf
namespace Go.Proofs.Ytmgelocefebldaa.Pure
open Go.Rv Go.Rv.Ax R
set_option linter.unusedVariables false
set_option linter.unusedSimpArgs false
theorem FnExactSquaresOf : PureFnExactSquaresOf := by
  rintro ⟨⟨a, b, c, d⟩, l⟩ n ⟨e, f, g, h⟩ t hw hn hs ht
  show ∃ k, laws_FnExactSquaresOf.f k a b c d l n e f g h t = some true
  have hn := wf_i64 hn
  have hll : l.length ≤ 9223372036854775807 := hw.2.1
  refine W.yes (laws_FnExactSquaresOf.w (W.bindE (szAxis_w a b c d l hll) ?_))
  by_cases hl : l.length ≤ 1048576
  case neg => rw [if_pos (by omega)]; exact W.dt (by omega) (W.ret rfl)
  rw [if_neg (by omega)]
  refine W.de (by omega) (W.bindN (fun k => szRingS_eq k t _ (by omega) ht.1) ?_)
  by_cases hq : (1048576 : Int) - (l.length : Int) < (t.length : Int)
  · rw [if_pos hq]; exact W.dt (by omega) (W.ret rfl)
  rw [if_neg hq]
  have htl : t.length ≤ 1048576 := by omega
  refine W.de (by omega) (W.bindE (toAxis_w (a, b, c, d) l hl) (W.bindN (fun k => rfl) (W.bindE (toRingS_w t htl) (W.bindE (specSq_w (a, b, c, d) l n (e, f, g, h) t htl hn) ?_))))
  refine W.bindE (toAxis_w (a, b, c, d) l hl) (W.bindE (toRingS_w t htl) (W.bindN (fun k => rfl) (W.bindE (implSq_w (a, b, c, d) l n (e, f, g, h) t htl) ?_)))
  refine W.nde rfl (W.e (by simp) (W.bindE (toAxis_w (a, b, c, d) l hl) (W.bindE (eqAxis_w a b c d l hl) (W.ne rfl (W.bindE (toRingS_w t htl) (W.bindE (eqRingS_w t htl) (W.ne rfl (W.ret rfl))))))))
end Go.Proofs.Ytmgelocefebldaa.Pure
