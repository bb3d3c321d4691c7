import Derived.Test.YtmgelocefebldaaRows
import Derived.Test.YtmgelocefebldaaRvPuFnExactBestTube
import Derived.Test.YtmgelocefebldaaXFnExactBestTubeFnExactBestTube
import Derived.WalkKit
import Derived.ProofKit
import Derived.OpenShut
import Derived.ShutString
import Derived.ChangeOld
import Derived.Below
import Derived.SizedLaws
namespace Go.Proofs.Ytmgelocefebldaa.fnExactBestTube
open Go.ChangeShapes Go.WideShapes Go.ChangeAt Go.RowKit
set_option linter.unusedVariables false
theorem Pu : PureFnExactBestTube := Pure.FnExactBestTube
theorem own : ownKnob Go.Proofs.Try.prog.godebug = none := by kernel_rfl
theorem laidOut : laidOutB Go.Proofs.Try.prog = true := by kernel_rfl
theorem call (k : Nat) (e0 : ((Int × Int × Int × Int) × List (Int × Int × Int))) (e1 : Int) (e2 : (Int × Int × Int × Int)) (e3 : (Int × Int)) (e4 : Int) (h : R.laws_FnExactBestTube.f k e0.1.1 e0.1.2.1 e0.1.2.2.1 e0.1.2.2.2 e0.2 e1 e2.1 e2.2.1 e2.2.2.1 e2.2.2.2 e3.1 e3.2 e4 = some true) : (R.laws_FnExactBestTube.F k).run [(true, Go.Rv.unpack true (.pair (.pair (.int .i64) (.pair (.int .i64) (.pair (.int .i64) (.int .i64)))) (.sl (.pair (.int .i64) (.pair (.int .i64) (.int .i64))))) e0), (false, Go.Rv.unpack true (.int .i64) e1), (true, Go.Rv.unpack true (.pair (.int .i64) (.pair (.int .i64) (.pair (.int .i64) (.int .i64)))) e2), (true, Go.Rv.unpack true (.pair (.int .i64) (.int .i64)) e3), (false, Go.Rv.unpack true (.int .i64) e4)] some = some [(false, [.bool true])] := by
  have hr : (R.laws_FnExactBestTube.F k).run [(true, Go.Rv.unpack true (.pair (.pair (.int .i64) (.pair (.int .i64) (.pair (.int .i64) (.int .i64)))) (.sl (.pair (.int .i64) (.pair (.int .i64) (.int .i64))))) e0), (false, Go.Rv.unpack true (.int .i64) e1), (true, Go.Rv.unpack true (.pair (.int .i64) (.pair (.int .i64) (.pair (.int .i64) (.int .i64)))) e2), (true, Go.Rv.unpack true (.pair (.int .i64) (.int .i64)) e3), (false, Go.Rv.unpack true (.int .i64) e4)] some = (R.laws_FnExactBestTube.f k e0.1.1 e0.1.2.1 e0.1.2.2.1 e0.1.2.2.2 e0.2 e1 e2.1 e2.2.1 e2.2.2.1 e2.2.2.2 e3.1 e3.2 e4).bind fun y => some [(false, [.bool y])] := by kernel_rfl
  rw [hr, h]; rfl
set_option maxRecDepth 100000 in
theorem lifted (os : Os) (started : os.Started) (H : Type) (enc : TypeId × Value → H) :
    ReturnsInHanded {} Go.Proofs.Try.checked os 8 .any (Rows.fnExactBestTubeSpec.pre6 enc Go.Proofs.Try.prog Go.Proofs.Try.f8 Rows.fnExactBestTubeRow.domain false) (Rows.fnExactBestTubeSpec.post enc Go.Proofs.Try.prog Go.Proofs.Try.f8 false true false false) := by
  refine returnsInHanded_of_change_sized (C := Go.Proofs.Try.checked) own started (by kernel_rfl) Go.Proofs.Try.func8
    (ChangeSpec.witness6 (enc := enc) (C := Go.Proofs.Try.checked) false ⟨#[], #[.agg #[.int .i64 0, .int .i64 0, .int .i64 0, .int .i64 0, .slice none 0 0], .int .i64 0, .agg #[.int .i64 0, .int .i64 0, .int .i64 0, .int .i64 0], .agg #[.int .i64 0, .int .i64 0], .int .i64 0], []⟩ 8 (by kernel_rfl) (by kernel_rfl) (by kernel_rfl) (by kernel_rfl)) ?_
  intro W base args ds gs before hval0 hW hcnd hsz0 _
  have hval : ∀ (j : Nat) t v, Go.Proofs.Try.f8.params[j]? = some t → args[j]? = some v → Value.okWide Go.Proofs.Try.prog W .any base t v := hval0
  have hW' := hW
  obtain ⟨p, q, hA0, hV, rfl, hfz, hnd⟩ := hW
  have hA : DataW.TrodAll enc Go.Proofs.Try.prog W 0 (fun _ => true) true Go.Proofs.Try.f8.params.toList args.toList ds p := hA0
  rw [Go.Proofs.Try.params8] at hA hval
  obtain ⟨v0, vs0, d0, ds0, p0, q0, hargs, rfl, rfl, h0, r0⟩ := trodAll_cons hA
  obtain ⟨v1, vs1, d1, ds1, p1, q1, rfl, rfl, rfl, h1, r1⟩ := trodAll_cons r0
  obtain ⟨v2, vs2, d2, ds2, p2, q2, rfl, rfl, rfl, h2, r2⟩ := trodAll_cons r1
  obtain ⟨v3, vs3, d3, ds3, p3, q3, rfl, rfl, rfl, h3, r3⟩ := trodAll_cons r2
  obtain ⟨v4, vs4, d4, ds4, p4, q4, rfl, rfl, rfl, h4, r4⟩ := trodAll_cons r3
  obtain ⟨rfl, rfl, rfl⟩ := trodAll_nil r4
  obtain rfl : args = #[v0, v1, v2, v3, v4] := by cases args; simp_all
  obtain ⟨rfl, rfl⟩ := trodVars_none hV
  obtain ⟨e0, w0, c0⟩ := Go.Rv.open_arg 30 (u := (.pair (.pair (.int .i64) (.pair (.int .i64) (.pair (.int .i64) (.int .i64)))) (.sl (.pair (.int .i64) (.pair (.int .i64) (.int .i64)))))) (t := 69) (by kernel_rfl) (hval 0 69 v0 rfl rfl) h0
  rw [show Go.Rv.aggT Go.Proofs.Try.prog 69 = true from by kernel_rfl] at c0
  have k0 := h0
  have lt0 : ∀ x ∈ p0, x.block < W.heap.size := by obtain ⟨m, hm⟩ := k0; exact DataW.trod_lt m _ _ _ hm
  obtain ⟨e1, w1, c1⟩ := Go.Rv.open_arg 30 (u := (.int .i64)) (t := 2) (by kernel_rfl) (hval 1 2 v1 rfl rfl) h1
  rw [show Go.Rv.aggT Go.Proofs.Try.prog 2 = false from by kernel_rfl] at c1
  obtain ⟨a1, rfl, rfl, rfl, wa1⟩ := open_int Go.Proofs.Try.underlying2 (hval 1 2 v1 rfl rfl) h1
  obtain ⟨e2, w2, c2⟩ := Go.Rv.open_arg 30 (u := (.pair (.int .i64) (.pair (.int .i64) (.pair (.int .i64) (.int .i64))))) (t := 57) (by kernel_rfl) (hval 2 57 v2 rfl rfl) h2
  rw [show Go.Rv.aggT Go.Proofs.Try.prog 57 = true from by kernel_rfl] at c2
  have k2 := h2
  have lt2 : ∀ x ∈ p2, x.block < W.heap.size := by obtain ⟨m, hm⟩ := k2; exact DataW.trod_lt m _ _ _ hm
  obtain ⟨e3, w3, c3⟩ := Go.Rv.open_arg 30 (u := (.pair (.int .i64) (.int .i64))) (t := 74) (by kernel_rfl) (hval 3 74 v3 rfl rfl) h3
  rw [show Go.Rv.aggT Go.Proofs.Try.prog 74 = true from by kernel_rfl] at c3
  have k3 := h3
  have lt3 : ∀ x ∈ p3, x.block < W.heap.size := by obtain ⟨m, hm⟩ := k3; exact DataW.trod_lt m _ _ _ hm
  obtain ⟨e4, w4, c4⟩ := Go.Rv.open_arg 30 (u := (.int .i64)) (t := 2) (by kernel_rfl) (hval 4 2 v4 rfl rfl) h4
  rw [show Go.Rv.aggT Go.Proofs.Try.prog 2 = false from by kernel_rfl] at c4
  obtain ⟨a4, rfl, rfl, rfl, wa4⟩ := open_int Go.Proofs.Try.underlying2 (hval 4 2 v4 rfl rfl) h4
  clear hA0 hval0 hsz0
  obtain ⟨k, h⟩ := Pu e0 e1 e2 e3 e4 w0 w1 w2 w3 w4
  have hi := Go.Rv.init_ok (w := W) (args := [(true, Go.Rv.unpack true (.pair (.pair (.int .i64) (.pair (.int .i64) (.pair (.int .i64) (.int .i64)))) (.sl (.pair (.int .i64) (.pair (.int .i64) (.int .i64))))) e0), (false, Go.Rv.unpack true (.int .i64) e1), (true, Go.Rv.unpack true (.pair (.int .i64) (.pair (.int .i64) (.pair (.int .i64) (.int .i64)))) e2), (true, Go.Rv.unpack true (.pair (.int .i64) (.int .i64)) e3), (false, Go.Rv.unpack true (.int .i64) e4)]) (vs := [v0, _, v2, v3, _]) rfl (fun i p hip => by
    match i, hip with
    | 0, hip => cases hip; exact ⟨_, rfl, c0 0⟩
    | 1, hip => cases hip; exact ⟨_, rfl, c1 1⟩
    | 2, hip => cases hip; exact ⟨_, rfl, c2 2⟩
    | 3, hip => cases hip; exact ⟨_, rfl, c3 3⟩
    | 4, hip => cases hip; exact ⟨_, rfl, c4 4⟩
    | n + 5, hip => simp at hip)
  refine (Go.Rv.row_ok (R.laws_FnExactBestTube.ok k) rfl hi (call k e0 e1 e2 e3 e4 h)).mono ?_
  rintro e W' ⟨rfl, bel⟩
  exact ⟨_, rfl, _, _, _, [], _, [], hW', trodAll_mk1 (shut_bool Go.Proofs.Try.underlying4 _), (trodAll_cons_mk (Below.trod laidOut (by kernel_rfl) (of_decide_eq_true (by kernel_rfl)) k0 bel lt0) (trodAll_cons_mk (shut_int Go.Proofs.Try.underlying2 wa1) (trodAll_cons_mk (Below.trod laidOut (by kernel_rfl) (of_decide_eq_true (by kernel_rfl)) k2 bel lt2) (trodAll_cons_mk (Below.trod laidOut (by kernel_rfl) (of_decide_eq_true (by kernel_rfl)) k3 bel lt3) (trodAll_cons_mk (shut_int Go.Proofs.Try.underlying2 wa4) trodAll_mk0))))), rfl, bel.frame _, fun h => by cases h⟩
set_option maxRecDepth 100000 in
theorem over : Rows.fnExactBestTubeRow.holds Try.pinned (OpenSpec.ofChange Rows.fnExactBestTubeSpec) :=
  OpenClaim.holds_of_wide 8 Go.Proofs.Try.f8 rfl rfl rfl rfl rfl rfl rfl ⟨rfl, rfl, rfl, rfl, rfl⟩ rfl rfl rfl rfl rfl (by kernel_rfl) Go.Proofs.Try.func8 (by kernel_rfl)
    (of_decide_eq_true (by kernel_rfl)) (by unfold Func.isWrapper; first | (rw [if_pos (by decide +kernel)]; kernel_rfl) | (rw [if_neg (by decide +kernel)]; exact ⟨rfl, rfl⟩))
    (fun os started H enc _ => lifted os started H enc)
theorem proved : Rows.FnExactBestTubeSaid := over
#print axioms proved
end Go.Proofs.Ytmgelocefebldaa.fnExactBestTube
namespace Go.Proofs.Ytmgelocefebldaa
/-- The row, under a short name, for the claim. -/
theorem fnExactBestTube_holds : Rows.FnExactBestTubeSaid := fnExactBestTube.proved
end Go.Proofs.Ytmgelocefebldaa
