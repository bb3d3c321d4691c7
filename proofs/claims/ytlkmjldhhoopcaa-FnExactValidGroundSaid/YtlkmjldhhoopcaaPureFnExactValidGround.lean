/- The program's ValidGround answers what the reference's does, for all arguments, and leaves its argument as it was: the plain statement. No condition beyond the row's own bounds. -/
import Derived.Test.YtlkmjldhhoopcaaFrGround
import Derived.Test.YtlkmjldhhoopcaaGround
import Derived.Test.YtlkmjldhhoopcaaPuFnExactValidGround
import Derived.Test.YtlkmjldhhoopcaaGy4
namespace Go.Proofs.Ytlkmjldhhoopcaa.Pure
open Go.RowKit Go.Proofs.Ytlkmjldhhoopcaa.G Go.Proofs.Ytlkmjldhhoopcaa.K Go.Proofs.YtlkmjldhhoopcaaW.PrintWords Go.Proofs.YtlkmjldhhoopcaaW.PrintLast
set_option linter.unusedSimpArgs false

theorem FnExactValidGround : laws_FnExactValidGround.Pure := by
  intro d l hd _ hl hw
  refine Ev.rounds (g := fun k => laws_FnExactValidGround.f k d l) ?_
  unfold laws_FnExactValidGround.f
  refine szGround_case d l hd hl (fun x hx => (hw x hx).2.1) fun hd' hl' hs => ?_
  have hm : (l.map toH).length ≤ 1048576 := by simpa using hl'
  have hms : ∀ x ∈ l.map toH, x.f1.length ≤ 1048576 := by
    intro x hx
    obtain ⟨y, hy, rfl⟩ := List.mem_map.1 hx
    exact hs y hy
  refine Ev.bind (toGround_ev d l hd' hl' hs) ?_
  try simp only [if_true, bne_self_eq_false, Bool.false_eq_true, if_false]
  refine Ev.bind (specGround_ev d (l.map toH) hd' hm hms) ?_
  try simp only [if_true, bne_self_eq_false, Bool.false_eq_true, if_false]
  refine Ev.bind (toGround_ev d l hd' hl' hs) ?_
  try simp only [if_true, bne_self_eq_false, Bool.false_eq_true, if_false]
  refine Ev.bind (implGround_ev d (l.map toH) hm hms) ?_
  try simp only [if_true, bne_self_eq_false, Bool.false_eq_true, if_false]
  refine Ev.bind (toGround_ev d l hd' hl' hs) ?_
  try simp only [if_true, bne_self_eq_false, Bool.false_eq_true, if_false]
  refine Ev.bind (eqGround_ev d (l.map toH) hd' hm hms) ?_
  try simp only [if_true, bne_self_eq_false, Bool.false_eq_true, if_false]
  exact Ev.now _
end Go.Proofs.Ytlkmjldhhoopcaa.Pure
