import Derived.Test.YtigkpbnhdkdliaaRows
import Derived.Test.YtigkpbnhdkdliaaRvPuFnExactOffsetsAfter
import Derived.Test.YtigkpbnhdkdliaaXFnExactOffsetsAfterFnExactOffsetsAfter
import Derived.WalkKit
import Derived.ProofKit
import Derived.OpenShut
import Derived.ShutString
import Derived.ChangeOld
import Derived.Below
import Derived.SizedLaws
namespace Go.Proofs.Ytigkpbnhdkdliaa.fnExactOffsetsAfter
open Go.ChangeShapes Go.WideShapes Go.ChangeAt Go.RowKit
set_option linter.unusedVariables false
theorem Pu : PureFnExactOffsetsAfter := Pure.FnExactOffsetsAfter
theorem own : ownKnob Go.Proofs.Try.prog.godebug = none := by kernel_rfl
theorem laidOut : laidOutB Go.Proofs.Try.prog = true := by kernel_rfl
theorem call (k : Nat) (e0 : (Int × Int)) (e1 : (Int × Int × Int)) (e2 : Int) (e3 : Int) (h : R.laws_FnExactOffsetsAfter.f k e0.1 e0.2 e1.1 e1.2.1 e1.2.2 e2 e3 = some true) : (R.laws_FnExactOffsetsAfter.F k).run [(true, Go.Rv.unpack true (.pair (.int .i64) (.int .i64)) e0), (true, Go.Rv.unpack true (.pair (.int .i64) (.pair (.int .i64) (.int .i64))) e1), (false, Go.Rv.unpack true (.int .i64) e2), (false, Go.Rv.unpack true (.int .i64) e3)] some = some [(false, [.bool true])] := by
  have hr : (R.laws_FnExactOffsetsAfter.F k).run [(true, Go.Rv.unpack true (.pair (.int .i64) (.int .i64)) e0), (true, Go.Rv.unpack true (.pair (.int .i64) (.pair (.int .i64) (.int .i64))) e1), (false, Go.Rv.unpack true (.int .i64) e2), (false, Go.Rv.unpack true (.int .i64) e3)] some = (R.laws_FnExactOffsetsAfter.f k e0.1 e0.2 e1.1 e1.2.1 e1.2.2 e2 e3).bind fun y => some [(false, [.bool y])] := by kernel_rfl
  rw [hr, h]; rfl
set_option maxRecDepth 100000 in
theorem lifted (os : Os) (started : os.Started) (H : Type) (enc : TypeId × Value → H) :
    ReturnsInHanded {} Go.Proofs.Try.checked os 6 .any (Rows.fnExactOffsetsAfterSpec.pre6 enc Go.Proofs.Try.prog Go.Proofs.Try.f6 Rows.fnExactOffsetsAfterRow.domain false) (Rows.fnExactOffsetsAfterSpec.post enc Go.Proofs.Try.prog Go.Proofs.Try.f6 false true false false) := by
  refine returnsInHanded_of_change_sized (C := Go.Proofs.Try.checked) own started (by kernel_rfl) Go.Proofs.Try.func6
    (ChangeSpec.witness6 (enc := enc) (C := Go.Proofs.Try.checked) false ⟨#[], #[.agg #[.int .i64 0, .int .i64 0], .agg #[.int .i64 0, .int .i64 0, .int .i64 0], .int .i64 0, .int .i64 0], []⟩ 8 (by kernel_rfl) (by kernel_rfl) (by kernel_rfl) (by kernel_rfl)) ?_
  intro W base args ds gs before hval0 hW hcnd hsz0 _
  have hval : ∀ (j : Nat) t v, Go.Proofs.Try.f6.params[j]? = some t → args[j]? = some v → Value.okWide Go.Proofs.Try.prog W .any base t v := hval0
  have hW' := hW
  obtain ⟨p, q, hA0, hV, rfl, hfz, hnd⟩ := hW
  have hA : DataW.TrodAll enc Go.Proofs.Try.prog W 0 (fun _ => true) true Go.Proofs.Try.f6.params.toList args.toList ds p := hA0
  rw [Go.Proofs.Try.params6] at hA hval
  obtain ⟨v0, vs0, d0, ds0, p0, q0, hargs, rfl, rfl, h0, r0⟩ := trodAll_cons hA
  obtain ⟨v1, vs1, d1, ds1, p1, q1, rfl, rfl, rfl, h1, r1⟩ := trodAll_cons r0
  obtain ⟨v2, vs2, d2, ds2, p2, q2, rfl, rfl, rfl, h2, r2⟩ := trodAll_cons r1
  obtain ⟨v3, vs3, d3, ds3, p3, q3, rfl, rfl, rfl, h3, r3⟩ := trodAll_cons r2
  obtain ⟨rfl, rfl, rfl⟩ := trodAll_nil r3
  obtain rfl : args = #[v0, v1, v2, v3] := by cases args; simp_all
  obtain ⟨rfl, rfl⟩ := trodVars_none hV
  obtain ⟨e0, w0, c0⟩ := Go.Rv.open_arg 30 (u := (.pair (.int .i64) (.int .i64))) (t := 45) (by kernel_rfl) (hval 0 45 v0 rfl rfl) h0
  rw [show Go.Rv.aggT Go.Proofs.Try.prog 45 = true from by kernel_rfl] at c0
  have k0 := h0
  have lt0 : ∀ x ∈ p0, x.block < W.heap.size := by obtain ⟨m, hm⟩ := k0; exact DataW.trod_lt m _ _ _ hm
  obtain ⟨e1, w1, c1⟩ := Go.Rv.open_arg 30 (u := (.pair (.int .i64) (.pair (.int .i64) (.int .i64)))) (t := 46) (by kernel_rfl) (hval 1 46 v1 rfl rfl) h1
  rw [show Go.Rv.aggT Go.Proofs.Try.prog 46 = true from by kernel_rfl] at c1
  have k1 := h1
  have lt1 : ∀ x ∈ p1, x.block < W.heap.size := by obtain ⟨m, hm⟩ := k1; exact DataW.trod_lt m _ _ _ hm
  obtain ⟨e2, w2, c2⟩ := Go.Rv.open_arg 30 (u := (.int .i64)) (t := 2) (by kernel_rfl) (hval 2 2 v2 rfl rfl) h2
  rw [show Go.Rv.aggT Go.Proofs.Try.prog 2 = false from by kernel_rfl] at c2
  obtain ⟨a2, rfl, rfl, rfl, wa2⟩ := open_int Go.Proofs.Try.underlying2 (hval 2 2 v2 rfl rfl) h2
  obtain ⟨e3, w3, c3⟩ := Go.Rv.open_arg 30 (u := (.int .i64)) (t := 2) (by kernel_rfl) (hval 3 2 v3 rfl rfl) h3
  rw [show Go.Rv.aggT Go.Proofs.Try.prog 2 = false from by kernel_rfl] at c3
  obtain ⟨a3, rfl, rfl, rfl, wa3⟩ := open_int Go.Proofs.Try.underlying2 (hval 3 2 v3 rfl rfl) h3
  clear hA0 hval0 hsz0
  obtain ⟨k, h⟩ := Pu e0 e1 e2 e3 w0 w1 w2 w3
  have hi := Go.Rv.init_ok (w := W) (args := [(true, Go.Rv.unpack true (.pair (.int .i64) (.int .i64)) e0), (true, Go.Rv.unpack true (.pair (.int .i64) (.pair (.int .i64) (.int .i64))) e1), (false, Go.Rv.unpack true (.int .i64) e2), (false, Go.Rv.unpack true (.int .i64) e3)]) (vs := [v0, v1, _, _]) rfl (fun i p hip => by
    match i, hip with
    | 0, hip => cases hip; exact ⟨_, rfl, c0 0⟩
    | 1, hip => cases hip; exact ⟨_, rfl, c1 1⟩
    | 2, hip => cases hip; exact ⟨_, rfl, c2 2⟩
    | 3, hip => cases hip; exact ⟨_, rfl, c3 3⟩
    | n + 4, hip => simp at hip)
  refine (Go.Rv.row_ok (R.laws_FnExactOffsetsAfter.ok k) rfl hi (call k e0 e1 e2 e3 h)).mono ?_
  rintro e W' ⟨rfl, bel⟩
  exact ⟨_, rfl, _, _, _, [], _, [], hW', trodAll_mk1 (shut_bool Go.Proofs.Try.underlying4 _), (trodAll_cons_mk (Below.trod laidOut (by kernel_rfl) (of_decide_eq_true (by kernel_rfl)) k0 bel lt0) (trodAll_cons_mk (Below.trod laidOut (by kernel_rfl) (of_decide_eq_true (by kernel_rfl)) k1 bel lt1) (trodAll_cons_mk (shut_int Go.Proofs.Try.underlying2 wa2) (trodAll_cons_mk (shut_int Go.Proofs.Try.underlying2 wa3) trodAll_mk0)))), rfl, bel.frame _, fun h => by cases h⟩
set_option maxRecDepth 100000 in
theorem over : Rows.fnExactOffsetsAfterRow.holds Try.pinned (OpenSpec.ofChange Rows.fnExactOffsetsAfterSpec) :=
  OpenClaim.holds_of_wide 6 Go.Proofs.Try.f6 rfl rfl rfl rfl rfl rfl rfl ⟨rfl, rfl, rfl, rfl, rfl⟩ rfl rfl rfl rfl rfl (by kernel_rfl) Go.Proofs.Try.func6 (by kernel_rfl)
    (of_decide_eq_true (by kernel_rfl)) (by unfold Func.isWrapper; first | (rw [if_pos (by decide +kernel)]; kernel_rfl) | (rw [if_neg (by decide +kernel)]; exact ⟨rfl, rfl⟩))
    (fun os started H enc _ => lifted os started H enc)
theorem proved : Rows.FnExactOffsetsAfterSaid := over
#print axioms proved
end Go.Proofs.Ytigkpbnhdkdliaa.fnExactOffsetsAfter
namespace Go.Proofs.Ytigkpbnhdkdliaa
/-- The row, under a short name, for the claim. -/
theorem fnExactOffsetsAfter_holds : Rows.FnExactOffsetsAfterSaid := fnExactOffsetsAfter.proved
end Go.Proofs.Ytigkpbnhdkdliaa
