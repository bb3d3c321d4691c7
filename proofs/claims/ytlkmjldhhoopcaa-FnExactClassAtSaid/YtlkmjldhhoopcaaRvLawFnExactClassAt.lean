import Derived.Test.YtlkmjldhhoopcaaRows
import Derived.Test.YtlkmjldhhoopcaaRvPuFnExactClassAt
import Derived.Test.YtlkmjldhhoopcaaXFnExactClassAtFnExactClassAt
import Derived.WalkKit
import Derived.ProofKit
import Derived.OpenShut
import Derived.ShutString
import Derived.ChangeOld
import Derived.Below
import Derived.SizedLaws
namespace Go.Proofs.Ytlkmjldhhoopcaa.fnExactClassAt
open Go.ChangeShapes Go.WideShapes Go.ChangeAt Go.RowKit
set_option linter.unusedVariables false
theorem Pu : PureFnExactClassAt := Pure.FnExactClassAt
theorem own : ownKnob Go.Proofs.Try.prog.godebug = none := by kernel_rfl
theorem laidOut : laidOutB Go.Proofs.Try.prog = true := by kernel_rfl
theorem call (k : Nat) (e0 : (List Int × List (Int × List Int))) (e1 : Int) (e2 : Int) (h : R.laws_FnExactClassAt.f k e0.1 e0.2 e1 e2 = some true) : (R.laws_FnExactClassAt.F k).run [(true, Go.Rv.unpack true (.pair (.sl (.int .i64)) (.sl (.pair (.int .i64) (.sl (.int .i64))))) e0), (false, Go.Rv.unpack true (.int .i64) e1), (false, Go.Rv.unpack true (.int .i64) e2)] some = some [(false, [.bool true])] := by
  have hr : (R.laws_FnExactClassAt.F k).run [(true, Go.Rv.unpack true (.pair (.sl (.int .i64)) (.sl (.pair (.int .i64) (.sl (.int .i64))))) e0), (false, Go.Rv.unpack true (.int .i64) e1), (false, Go.Rv.unpack true (.int .i64) e2)] some = (R.laws_FnExactClassAt.f k e0.1 e0.2 e1 e2).bind fun y => some [(false, [.bool y])] := by kernel_rfl
  rw [hr, h]; rfl
set_option maxRecDepth 100000 in
theorem lifted (os : Os) (started : os.Started) (H : Type) (enc : TypeId × Value → H) :
    ReturnsInHanded {} Go.Proofs.Try.checked os 6 .any (Rows.fnExactClassAtSpec.pre6 enc Go.Proofs.Try.prog Go.Proofs.Try.f6 Rows.fnExactClassAtRow.domain false) (Rows.fnExactClassAtSpec.post enc Go.Proofs.Try.prog Go.Proofs.Try.f6 false true false false) := by
  refine returnsInHanded_of_change_sized (C := Go.Proofs.Try.checked) own started (by kernel_rfl) Go.Proofs.Try.func6
    (ChangeSpec.witness6 (enc := enc) (C := Go.Proofs.Try.checked) false ⟨#[], #[.agg #[.slice none 0 0, .slice none 0 0], .int .i64 0, .int .i64 0], []⟩ 8 (by kernel_rfl) (by kernel_rfl) (by kernel_rfl) (by kernel_rfl)) ?_
  intro W base args ds gs before hval0 hW hcnd hsz0 _
  have hval : ∀ (j : Nat) t v, Go.Proofs.Try.f6.params[j]? = some t → args[j]? = some v → Value.okWide Go.Proofs.Try.prog W .any base t v := hval0
  have hW' := hW
  obtain ⟨p, q, hA0, hV, rfl, hfz, hnd⟩ := hW
  have hA : DataW.TrodAll enc Go.Proofs.Try.prog W 0 (fun _ => true) true Go.Proofs.Try.f6.params.toList args.toList ds p := hA0
  rw [Go.Proofs.Try.params6] at hA hval
  obtain ⟨v0, vs0, d0, ds0, p0, q0, hargs, rfl, rfl, h0, r0⟩ := trodAll_cons hA
  obtain ⟨v1, vs1, d1, ds1, p1, q1, rfl, rfl, rfl, h1, r1⟩ := trodAll_cons r0
  obtain ⟨v2, vs2, d2, ds2, p2, q2, rfl, rfl, rfl, h2, r2⟩ := trodAll_cons r1
  obtain ⟨rfl, rfl, rfl⟩ := trodAll_nil r2
  obtain rfl : args = #[v0, v1, v2] := by cases args; simp_all
  obtain ⟨rfl, rfl⟩ := trodVars_none hV
  obtain ⟨e0, w0, c0⟩ := Go.Rv.open_arg 30 (u := (.pair (.sl (.int .i64)) (.sl (.pair (.int .i64) (.sl (.int .i64)))))) (t := 25) (by kernel_rfl) (hval 0 25 v0 rfl rfl) h0
  rw [show Go.Rv.aggT Go.Proofs.Try.prog 25 = true from by kernel_rfl] at c0
  have k0 := h0
  have lt0 : ∀ x ∈ p0, x.block < W.heap.size := by obtain ⟨m, hm⟩ := k0; exact DataW.trod_lt m _ _ _ hm
  obtain ⟨e1, w1, c1⟩ := Go.Rv.open_arg 30 (u := (.int .i64)) (t := 2) (by kernel_rfl) (hval 1 2 v1 rfl rfl) h1
  rw [show Go.Rv.aggT Go.Proofs.Try.prog 2 = false from by kernel_rfl] at c1
  obtain ⟨a1, rfl, rfl, rfl, wa1⟩ := open_int Go.Proofs.Try.underlying2 (hval 1 2 v1 rfl rfl) h1
  obtain ⟨e2, w2, c2⟩ := Go.Rv.open_arg 30 (u := (.int .i64)) (t := 2) (by kernel_rfl) (hval 2 2 v2 rfl rfl) h2
  rw [show Go.Rv.aggT Go.Proofs.Try.prog 2 = false from by kernel_rfl] at c2
  obtain ⟨a2, rfl, rfl, rfl, wa2⟩ := open_int Go.Proofs.Try.underlying2 (hval 2 2 v2 rfl rfl) h2
  clear hA0 hval0 hsz0
  obtain ⟨k, h⟩ := Pu e0 e1 e2 w0 w1 w2
  have hi := Go.Rv.init_ok (w := W) (args := [(true, Go.Rv.unpack true (.pair (.sl (.int .i64)) (.sl (.pair (.int .i64) (.sl (.int .i64))))) e0), (false, Go.Rv.unpack true (.int .i64) e1), (false, Go.Rv.unpack true (.int .i64) e2)]) (vs := [v0, _, _]) rfl (fun i p hip => by
    match i, hip with
    | 0, hip => cases hip; exact ⟨_, rfl, c0 0⟩
    | 1, hip => cases hip; exact ⟨_, rfl, c1 1⟩
    | 2, hip => cases hip; exact ⟨_, rfl, c2 2⟩
    | n + 3, hip => simp at hip)
  refine (Go.Rv.row_ok (R.laws_FnExactClassAt.ok k) rfl hi (call k e0 e1 e2 h)).mono ?_
  rintro e W' ⟨rfl, bel⟩
  exact ⟨_, rfl, _, _, _, [], _, [], hW', trodAll_mk1 (shut_bool Go.Proofs.Try.underlying4 _), (trodAll_cons_mk (Below.trod laidOut (by kernel_rfl) (of_decide_eq_true (by kernel_rfl)) k0 bel lt0) (trodAll_cons_mk (shut_int Go.Proofs.Try.underlying2 wa1) (trodAll_cons_mk (shut_int Go.Proofs.Try.underlying2 wa2) trodAll_mk0))), rfl, bel.frame _, fun h => by cases h⟩
set_option maxRecDepth 100000 in
theorem over : Rows.fnExactClassAtRow.holds Try.pinned (OpenSpec.ofChange Rows.fnExactClassAtSpec) :=
  OpenClaim.holds_of_wide 6 Go.Proofs.Try.f6 rfl rfl rfl rfl rfl rfl rfl ⟨rfl, rfl, rfl, rfl, rfl⟩ rfl rfl rfl rfl rfl (by kernel_rfl) Go.Proofs.Try.func6 (by kernel_rfl)
    (of_decide_eq_true (by kernel_rfl)) (by unfold Func.isWrapper; first | (rw [if_pos (by decide +kernel)]; kernel_rfl) | (rw [if_neg (by decide +kernel)]; exact ⟨rfl, rfl⟩))
    (fun os started H enc _ => lifted os started H enc)
theorem proved : Rows.FnExactClassAtSaid := over
#print axioms proved
end Go.Proofs.Ytlkmjldhhoopcaa.fnExactClassAt
namespace Go.Proofs.Ytlkmjldhhoopcaa
/-- The row, under a short name, for the claim. -/
theorem fnExactClassAt_holds : Rows.FnExactClassAtSaid := fnExactClassAt.proved
end Go.Proofs.Ytlkmjldhhoopcaa
