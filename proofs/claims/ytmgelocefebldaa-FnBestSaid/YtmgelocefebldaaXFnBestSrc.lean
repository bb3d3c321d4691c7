/- The reference's source of choices: one draw that is not told. -/
import Derived.Test.YtmgelocefebldaaXFnBestSrcN
namespace Go.Proofs.Ytmgelocefebldaa.R
open Go.Rv
set_option linter.unusedVariables false
set_option linter.unusedSimpArgs false
theorem one_w {c : List Int} {a s n m : Int} (h : Sr c a m) (hm : m ≤ 1000000) : W (fun k _ => spec_l00Src_one.f k c a s n) (fun r => Sr r.2.1 r.2.2.1 (m + 2)) :=
  spec_l00Src_one.w (W.bind (pick_w h hm) fun t ht => W.ret ht.2)
end Go.Proofs.Ytmgelocefebldaa.R
