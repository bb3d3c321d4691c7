import Derived.Test.YtigkpbnhdkdliaaRows
import Derived.Test.YtigkpbnhdkdliaaRvPuFnExact
import Derived.Test.YtigkpbnhdkdliaaXFnExactFnExact
import Derived.WalkKit
import Derived.ProofKit
import Derived.OpenShut
import Derived.ShutString
import Derived.ChangeOld
import Derived.Below
import Derived.SizedLaws
namespace Go.Proofs.Ytigkpbnhdkdliaa.fnExact
open Go.ChangeShapes Go.WideShapes Go.ChangeAt Go.RowKit
set_option linter.unusedVariables false
theorem Pu : PureFnExact := Pure.FnExact
theorem own : ownKnob Go.Proofs.Try.prog.godebug = none := by kernel_rfl
theorem laidOut : laidOutB Go.Proofs.Try.prog = true := by kernel_rfl
theorem call (k : Nat) (e0 : List Int) (e1 : List Int) (h : R.laws_FnExact.f k e0 e1 = some true) : (R.laws_FnExact.F k).run [(false, Go.Rv.unpack true (.sl (.int .u8)) e0), (false, Go.Rv.unpack true (.sl (.int .u8)) e1)] some = some [(false, [.bool true])] := by
  have hr : (R.laws_FnExact.F k).run [(false, Go.Rv.unpack true (.sl (.int .u8)) e0), (false, Go.Rv.unpack true (.sl (.int .u8)) e1)] some = (R.laws_FnExact.f k e0 e1).bind fun y => some [(false, [.bool y])] := by kernel_rfl
  rw [hr, h]; rfl
set_option maxRecDepth 100000 in
theorem lifted (os : Os) (started : os.Started) (H : Type) (enc : TypeId × Value → H) :
    ReturnsInHanded {} Go.Proofs.Try.checked os 3 .any (Rows.fnExactSpec.pre6 enc Go.Proofs.Try.prog Go.Proofs.Try.f3 Rows.fnExactRow.domain false) (Rows.fnExactSpec.post enc Go.Proofs.Try.prog Go.Proofs.Try.f3 false true false false) := by
  refine returnsInHanded_of_change_sized (C := Go.Proofs.Try.checked) own started (by kernel_rfl) Go.Proofs.Try.func3
    (ChangeSpec.witness6 (enc := enc) (C := Go.Proofs.Try.checked) false ⟨#[], #[.slice none 0 0, .slice none 0 0], []⟩ 8 (by kernel_rfl) (by kernel_rfl) (by kernel_rfl) (by kernel_rfl)) ?_
  intro W base args ds gs before hval0 hW hcnd hsz0 _
  have hval : ∀ (j : Nat) t v, Go.Proofs.Try.f3.params[j]? = some t → args[j]? = some v → Value.okWide Go.Proofs.Try.prog W .any base t v := hval0
  have hW' := hW
  obtain ⟨p, q, hA0, hV, rfl, hfz, hnd⟩ := hW
  have hA : DataW.TrodAll enc Go.Proofs.Try.prog W 0 (fun _ => true) true Go.Proofs.Try.f3.params.toList args.toList ds p := hA0
  rw [Go.Proofs.Try.params3] at hA hval
  obtain ⟨v0, vs0, d0, ds0, p0, q0, hargs, rfl, rfl, h0, r0⟩ := trodAll_cons hA
  obtain ⟨v1, vs1, d1, ds1, p1, q1, rfl, rfl, rfl, h1, r1⟩ := trodAll_cons r0
  obtain ⟨rfl, rfl, rfl⟩ := trodAll_nil r1
  obtain rfl : args = #[v0, v1] := by cases args; simp_all
  obtain ⟨rfl, rfl⟩ := trodVars_none hV
  obtain ⟨e0, w0, c0⟩ := Go.Rv.open_arg 30 (u := (.sl (.int .u8))) (t := 22) (by kernel_rfl) (hval 0 22 v0 rfl rfl) h0
  rw [show Go.Rv.aggT Go.Proofs.Try.prog 22 = false from by kernel_rfl] at c0
  have k0 := h0
  have lt0 : ∀ x ∈ p0, x.block < W.heap.size := by obtain ⟨m, hm⟩ := k0; exact DataW.trod_lt m _ _ _ hm
  obtain ⟨e1, w1, c1⟩ := Go.Rv.open_arg 30 (u := (.sl (.int .u8))) (t := 22) (by kernel_rfl) (hval 1 22 v1 rfl rfl) h1
  rw [show Go.Rv.aggT Go.Proofs.Try.prog 22 = false from by kernel_rfl] at c1
  have k1 := h1
  have lt1 : ∀ x ∈ p1, x.block < W.heap.size := by obtain ⟨m, hm⟩ := k1; exact DataW.trod_lt m _ _ _ hm
  clear hA0 hval0 hsz0
  obtain ⟨k, h⟩ := Pu e0 e1 w0 w1
  have hi := Go.Rv.init_ok (w := W) (args := [(false, Go.Rv.unpack true (.sl (.int .u8)) e0), (false, Go.Rv.unpack true (.sl (.int .u8)) e1)]) (vs := [v0, v1]) rfl (fun i p hip => by
    match i, hip with
    | 0, hip => cases hip; exact ⟨_, rfl, c0 0⟩
    | 1, hip => cases hip; exact ⟨_, rfl, c1 1⟩
    | n + 2, hip => simp at hip)
  refine (Go.Rv.row_ok (R.laws_FnExact.ok k) rfl hi (call k e0 e1 h)).mono ?_
  rintro e W' ⟨rfl, bel⟩
  exact ⟨_, rfl, _, _, _, [], _, [], hW', trodAll_mk1 (shut_bool Go.Proofs.Try.underlying4 _), (trodAll_cons_mk (Below.trod laidOut (by kernel_rfl) (of_decide_eq_true (by kernel_rfl)) k0 bel lt0) (trodAll_cons_mk (Below.trod laidOut (by kernel_rfl) (of_decide_eq_true (by kernel_rfl)) k1 bel lt1) trodAll_mk0)), rfl, bel.frame _, fun h => by cases h⟩
set_option maxRecDepth 100000 in
theorem over : Rows.fnExactRow.holds Try.pinned (OpenSpec.ofChange Rows.fnExactSpec) :=
  OpenClaim.holds_of_wide 3 Go.Proofs.Try.f3 rfl rfl rfl rfl rfl rfl rfl ⟨rfl, rfl, rfl, rfl, rfl⟩ rfl rfl rfl rfl rfl (by kernel_rfl) Go.Proofs.Try.func3 (by kernel_rfl)
    (of_decide_eq_true (by kernel_rfl)) (by unfold Func.isWrapper; first | (rw [if_pos (by decide +kernel)]; kernel_rfl) | (rw [if_neg (by decide +kernel)]; exact ⟨rfl, rfl⟩))
    (fun os started H enc _ => lifted os started H enc)
theorem proved : Rows.FnExactSaid := over
#print axioms proved
end Go.Proofs.Ytigkpbnhdkdliaa.fnExact
namespace Go.Proofs.Ytigkpbnhdkdliaa
/-- The row, under a short name, for the claim. -/
theorem fnExact_holds : Rows.FnExactSaid := fnExact.proved
end Go.Proofs.Ytigkpbnhdkdliaa
