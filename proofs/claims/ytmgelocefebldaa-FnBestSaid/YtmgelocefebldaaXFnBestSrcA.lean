/- The source of draws: one of a list. -/
import Derived.Test.YtmgelocefebldaaXFnBestSrcN
namespace Go.Proofs.Ytmgelocefebldaa.R
open Go.Rv
set_option linter.unusedVariables false
set_option linter.unusedSimpArgs false
theorem among_w {c l : List Int} {a s m : Int} (h : Sr c a m) (hm : m ≤ 1000000) (hl : 0 < l.length) : W (fun k _ => spec_l00Src_among.f k c a s l) (fun r => r.1 ∈ l ∧ Sr r.2.1 r.2.2.1 (m + 2)) := by
  refine spec_l00Src_among.w (W.bind (pick_w h hm) fun t ht => ?_)
  obtain ⟨⟨h1, h2⟩, h3⟩ := ht
  have hlt : t.1 < (l.length : Int) := by omega
  refine W.t h1 (W.t hlt (W.ret ⟨?_, h3⟩))
  rw [rd_ofNat h1 hlt]
  exact List.getElem_mem _
end Go.Proofs.Ytmgelocefebldaa.R
