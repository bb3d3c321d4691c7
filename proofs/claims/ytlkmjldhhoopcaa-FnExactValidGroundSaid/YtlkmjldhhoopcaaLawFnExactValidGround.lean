-- written by wip/tools/myprint.py for this claim (out of the translation; functions by hand where the printer stops). Lean checks it.
import Derived.Test.YtlkmjldhhoopcaaRows
import Derived.Test.YtlkmjldhhoopcaaGy4
import Derived.Test.YtlkmjldhhoopcaaArgs
import Derived.Test.YtlkmjldhhoopcaaPureFnExactValidGround
import Derived.WalkKit
import Derived.ProofKit
import Derived.OpenShut
import Derived.ShutString
import Derived.ChangeOld
import Derived.Below
import Derived.SizedLaws
namespace Go.Proofs.Ytlkmjldhhoopcaa.fnExactValidGround
open Go.ChangeShapes Go.WideShapes Go.ChangeAt Go.RowKit Go.Proofs.YtlkmjldhhoopcaaW.PrintWords Go.Proofs.Ytlkmjldhhoopcaa.G Go.Proofs.Ytlkmjldhhoopcaa.K
set_option linter.unusedVariables false
theorem own : ownKnob Try.prog.godebug = none := by kernel_rfl
theorem laidOut : laidOutB Try.prog = true := by kernel_rfl
set_option maxRecDepth 100000 in
theorem lifted (os : Os) (started : os.Started) (H : Type) (enc : TypeId × Value → H) :
    ReturnsInHanded {} Try.checked os 3 .any (Rows.fnExactValidGroundSpec.pre6 enc Try.prog Try.f3 Rows.fnExactValidGroundRow.domain false) (Rows.fnExactValidGroundSpec.post enc Try.prog Try.f3 false true false false) := by
  refine returnsInHanded_of_change_sized (C := Try.checked) own started (by kernel_rfl) Try.func3
    (ChangeSpec.witness6 (enc := enc) (C := Try.checked) false ⟨#[], #[.agg #[.slice none 0 0, .slice none 0 0]], []⟩ 8 (by kernel_rfl) (by kernel_rfl) (by kernel_rfl) (by kernel_rfl)) ?_
  intro W base args ds gs before hval0 hW hcnd hsz0 _
  have hval : ∀ (j : Nat) t v, Try.f3.params[j]? = some t → args[j]? = some v → Value.okWide Try.prog W .any base t v := hval0
  have hW' := hW
  obtain ⟨p, q, hA0, hV, rfl, hfz, hnd⟩ := hW
  have hA : DataW.TrodAll enc Try.prog W 0 (fun _ => true) true Try.f3.params.toList args.toList ds p := hA0
  rw [Try.params3] at hA hval
  obtain ⟨v0, vs0, d0, ds0, p0, q0, hargs, rfl, rfl, h0, r0⟩ := trodAll_cons hA
  obtain ⟨rfl, rfl, rfl⟩ := trodAll_nil r0
  obtain rfl : args = #[v0] := by cases args; simp_all
  obtain ⟨rfl, rfl⟩ := trodVars_none hV
  have k0 := h0
  have lt0 : ∀ x ∈ p0, x.block < W.heap.size := by obtain ⟨m, hm⟩ := k0; exact DataW.trod_lt m _ _ _ hm
  obtain ⟨cs0, rfl, _⟩ := okWide_struct Try.underlying25 (hval 0 25 v0 rfl rfl)
  obtain ⟨n0, hn0⟩ := h0
  obtain ⟨A0_0, c0_0, l0_0, A0_1, c0_1, l0_1, ecs0, hc0_0, hC0_0, w0_0_0, hc0_1, hC0_1, w0_1_0⟩ := opens25 H enc W _ _ n0 _ _ hn0
  obtain rfl : cs0 = #[.slice A0_0 l0_0.length c0_0, .slice A0_1 l0_1.length c0_1] := by apply Array.ext'; simpa [Value.cells] using ecs0
  clear hA0 hval0 hsz0
  obtain ⟨k, h⟩ := Pure.FnExactValidGround l0_0 l0_1 (Kd.C_max hC0_0) w0_0_0 (Kd.C_max hC0_1) w0_1_0
  refine (G.laws_FnExactValidGround.calls k A0_0 c0_0 l0_0 A0_1 c0_1 l0_1 true W hC0_0 hc0_0 hC0_1 hc0_1 h).mono ?_
  rintro e W' ⟨rfl, hd⟩
  have bel : Below W.heap.size W W' := hd
  exact ⟨_, rfl, _, _, _, [], _, [], hW', trodAll_mk1 (shut_bool Try.underlying4 _), (trodAll_cons_mk (Below.trod laidOut (by kernel_rfl) (of_decide_eq_true (by kernel_rfl)) k0 bel lt0) trodAll_mk0), rfl, bel.frame _, fun h => by cases h⟩
theorem over : Rows.fnExactValidGroundRow.holds Try.pinned (OpenSpec.ofChange Rows.fnExactValidGroundSpec) :=
  OpenClaim.holds_of_wide 3 Try.f3 rfl rfl rfl rfl rfl rfl rfl ⟨rfl, rfl, rfl, rfl, rfl⟩ rfl rfl rfl rfl rfl (by kernel_rfl) Try.func3 (by kernel_rfl)
    (of_decide_eq_true (by kernel_rfl)) (by unfold Func.isWrapper; first | (rw [if_pos (by decide +kernel)]; kernel_rfl) | (rw [if_neg (by decide +kernel)]; exact ⟨rfl, rfl⟩))
    (fun os started H enc _ => lifted os started H enc)
theorem proved : Rows.FnExactValidGroundSaid := over
#print axioms proved
end Go.Proofs.Ytlkmjldhhoopcaa.fnExactValidGround
namespace Go.Proofs.Ytlkmjldhhoopcaa
/-- The row, under a short name, for the claim. -/
theorem fnExactValidGround_holds : Rows.FnExactValidGroundSaid := fnExactValidGround.proved
end Go.Proofs.Ytlkmjldhhoopcaa
