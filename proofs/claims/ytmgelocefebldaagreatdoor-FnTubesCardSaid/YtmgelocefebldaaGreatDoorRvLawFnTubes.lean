import Derived.Test.YtmgelocefebldaaGreatDoorRows
import Derived.Test.YtmgelocefebldaaGreatDoorCards
import Derived.Test.YtmgelocefebldaaGreatDoorTie
import Derived.Test.YtmgelocefebldaaGreatDoorRvPuFnTubes
import Derived.Test.YtmgelocefebldaaGreatDoorRvRowL
import Derived.Test.YtmgelocefebldaaGreatDoorXFnTubesFnTubes
import Derived.WalkKit
import Derived.ProofKit
import Derived.OpenShut
import Derived.ShutString
import Derived.ChangeOld
import Derived.Below
import Derived.SizedLaws
import Derived.JoinedOf
import Derived.LaidLaws
import Derived.LaidHandle
import Derived.Stop.LaidErr
import Derived.SevenTiedAt
import Derived.ChangeVars
import Derived.Lib.LaidTab
import Derived.Lib.ItoaNum
import Derived.Lib.LaidU8
namespace Go.Proofs.YtmgelocefebldaaGreatDoor.fnTubes
open Go.ChangeShapes Go.WideShapes Go.ChangeAt Go.RowKit
set_option linter.unusedVariables false
theorem Pu : PureFnTubes := Pure.FnTubes
theorem own : ownKnob Go.Proofs.Tryz.prog.godebug = none := by kernel_rfl
theorem laidOut : laidOutB Go.Proofs.Tryz.prog = true := by kernel_rfl
theorem call (k : Nat) (e0 : List Int) (e1 : List Int) (h : R.laws_FnTubes.f k e0 e1 = some true) : (R.laws_FnTubes.F k).run [(false, Go.Rv.unpack true (.sl (.int .u8)) e0), (false, Go.Rv.unpack true (.sl (.int .u8)) e1)] some = some [(false, [.bool true])] := by
  have hr : (R.laws_FnTubes.F k).run [(false, Go.Rv.unpack true (.sl (.int .u8)) e0), (false, Go.Rv.unpack true (.sl (.int .u8)) e1)] some = (R.laws_FnTubes.f k e0 e1).bind fun y => some [(false, [.bool y])] := by kernel_rfl
  rw [hr, h]; rfl
/-- A world that meets the condition. -/
noncomputable def laidWorld (os : Os) : World :=
  let N := (World.settled Go.Proofs.Tryz.prog os).heap.size
  let w0 := World.holding Go.Proofs.Tryz.prog os ⟨#[.cells #[.string ⟨#[118, 97, 108, 117, 101, 32, 111, 117, 116, 32, 111, 102, 32, 114, 97, 110, 103, 101]⟩] 167, .cells #[.string ⟨#[105, 110, 118, 97, 108, 105, 100, 32, 115, 121, 110, 116, 97, 120]⟩] 167], #[], []⟩
  { w0 with heap := Go.Rv.putVar (Go.Rv.putVar (Go.Rv.putVar (Go.Rv.putVar (Go.Rv.putVar (Go.Rv.putVar (Go.Rv.putVar (w0.heap) 6 #[.int .u8 0, .int .u8 1, .int .u8 28, .int .u8 2, .int .u8 29, .int .u8 14, .int .u8 24, .int .u8 3, .int .u8 30, .int .u8 22, .int .u8 20, .int .u8 15, .int .u8 25, .int .u8 17, .int .u8 4, .int .u8 8, .int .u8 31, .int .u8 27, .int .u8 13, .int .u8 23, .int .u8 21, .int .u8 19, .int .u8 16, .int .u8 7, .int .u8 26, .int .u8 12, .int .u8 18, .int .u8 6, .int .u8 11, .int .u8 5, .int .u8 10, .int .u8 9]) 7 #[.int .u8 0, .int .u8 1, .int .u8 56, .int .u8 2, .int .u8 57, .int .u8 49, .int .u8 28, .int .u8 3, .int .u8 61, .int .u8 58, .int .u8 42, .int .u8 50, .int .u8 38, .int .u8 29, .int .u8 17, .int .u8 4, .int .u8 62, .int .u8 47, .int .u8 59, .int .u8 36, .int .u8 45, .int .u8 43, .int .u8 51, .int .u8 22, .int .u8 53, .int .u8 39, .int .u8 33, .int .u8 30, .int .u8 24, .int .u8 18, .int .u8 12, .int .u8 5, .int .u8 63, .int .u8 55, .int .u8 48, .int .u8 27, .int .u8 60, .int .u8 41, .int .u8 37, .int .u8 16, .int .u8 46, .int .u8 35, .int .u8 44, .int .u8 21, .int .u8 52, .int .u8 32, .int .u8 23, .int .u8 11, .int .u8 54, .int .u8 26, .int .u8 40, .int .u8 15, .int .u8 34, .int .u8 20, .int .u8 31, .int .u8 10, .int .u8 25, .int .u8 14, .int .u8 19, .int .u8 9, .int .u8 13, .int .u8 8, .int .u8 7, .int .u8 6]) 1 #[.int .u64 1, .int .u64 10, .int .u64 100, .int .u64 1000, .int .u64 10000, .int .u64 100000, .int .u64 1000000, .int .u64 10000000, .int .u64 100000000, .int .u64 1000000000, .int .u64 10000000000, .int .u64 100000000000, .int .u64 1000000000000, .int .u64 10000000000000, .int .u64 100000000000000, .int .u64 1000000000000000, .int .u64 10000000000000000, .int .u64 100000000000000000, .int .u64 1000000000000000000, .int .u64 10000000000000000000]) 3 #[.int .u8 128, .int .u8 191, .int .u8 160, .int .u8 191, .int .u8 128, .int .u8 159, .int .u8 144, .int .u8 191, .int .u8 128, .int .u8 143, .int .u8 0, .int .u8 0, .int .u8 0, .int .u8 0, .int .u8 0, .int .u8 0, .int .u8 0, .int .u8 0, .int .u8 0, .int .u8 0, .int .u8 0, .int .u8 0, .int .u8 0, .int .u8 0, .int .u8 0, .int .u8 0, .int .u8 0, .int .u8 0, .int .u8 0, .int .u8 0, .int .u8 0, .int .u8 0]) 5 #[.iface 165 (.pointer (some ⟨N + 0, 0, none⟩))]) 4 #[.iface 165 (.pointer (some ⟨N + 1, 0, none⟩))]) 2 (Lib.firstTab.map fun z => Value.int .u8 z).toArray }
theorem laidWorld_met (os : Os) (args : Array Value) : laidMetH Go.Proofs.Tryz.prog Rows.fnTubesRow.laid ((laidWorld os).forCall (fun _ _ => 0) ⟨#[], args, []⟩).memory :=
  show laidMet Go.Proofs.Tryz.prog Rows.fnTubesRow.laid ((laidWorld os).forCall (fun _ _ => 0) ⟨#[], args, []⟩).memory from laidMet_of_run' 8 (by kernel_rfl) (by kernel_rfl)
/-- What the condition gives the walk. -/
theorem tab_of {W : World} (hL : laidMetH Go.Proofs.Tryz.prog Rows.fnTubesRow.laid W) : Lib.TabIs Go.Proofs.Tryz.prog W "internal/strconv.uint64pow10" .u64 Lib.pow10Tab := by
  have h0 : laidMet Go.Proofs.Tryz.prog Rows.fnTubesRow.laid W := hL
  have e : (Rows.laid_internal_strconv_uint64pow10 : DataW Unit) = Lib.tabData .u64 Lib.pow10Tab := by kernel_rfl
  have h1 := h0.tail.tail
  rw [e] at h1
  exact Lib.tabIs_of_head (g := 1) (t := 133) (e := 56) (n := 20) (by kernel_rfl) (by kernel_rfl) (by kernel_rfl) (by kernel_rfl) (by kernel_rfl) (by kernel_rfl) h1
theorem syn_of {W : World} (hL : laidMetH Go.Proofs.Tryz.prog Rows.fnTubesRow.laid W) : ∃ te pe, W.cell? ⟨4, 0, none⟩ = some (.iface te pe) := by
  have h0 : laidMet Go.Proofs.Tryz.prog Rows.fnTubesRow.laid W := hL
  obtain ⟨ps, hv, _⟩ := h0.tail.tail.tail.tail.tail
  obtain ⟨g, t, cs, fuel, p, q, hg, ht, hvar, hd, _⟩ := hv
  obtain rfl := Option.some.inj ((show Go.Proofs.Tryz.prog.globalNamed "strconv.ErrSyntax" = some 4 by kernel_rfl).symm.trans hg)
  obtain rfl := Option.some.inj ((show (Go.Proofs.Tryz.prog.globals[4]?).map (·.type) = some 76 by kernel_rfl).symm.trans ht)
  exact Go.Rv.iface_cell (by kernel_rfl) Go.Proofs.Tryz.underlying76 hvar hd
theorem rng_of {W : World} (hL : laidMetH Go.Proofs.Tryz.prog Rows.fnTubesRow.laid W) : ∃ te pe, W.cell? ⟨5, 0, none⟩ = some (.iface te pe) := by
  have h0 : laidMet Go.Proofs.Tryz.prog Rows.fnTubesRow.laid W := hL
  obtain ⟨ps, hv, _⟩ := h0.tail.tail.tail.tail
  obtain ⟨g, t, cs, fuel, p, q, hg, ht, hvar, hd, _⟩ := hv
  obtain rfl := Option.some.inj ((show Go.Proofs.Tryz.prog.globalNamed "strconv.ErrRange" = some 5 by kernel_rfl).symm.trans hg)
  obtain rfl := Option.some.inj ((show (Go.Proofs.Tryz.prog.globals[5]?).map (·.type) = some 76 by kernel_rfl).symm.trans ht)
  exact Go.Rv.iface_cell (by kernel_rfl) Go.Proofs.Tryz.underlying76 hvar hd
theorem max_of {W : World} (h : W.ShapedOpen Go.Proofs.Tryz.prog) : ∃ m, W.cell? ⟨0, 0, none⟩ = some (.int .i64 m) :=
  cell_of_shapedOpen_int (t := 3) (zero := #[.int .i64 0]) h (by decide +kernel) (by kernel_rfl) rfl (by kernel_rfl) (by kernel_rfl) (by kernel_rfl)
set_option maxRecDepth 100000 in
theorem lifted (os : Os) (started : os.Started) (H : Type) (enc : TypeId × Value → H) :
    ReturnsInHanded {} Go.Proofs.Tryz.checked os 3 .any (fun w args => (Rows.fnTubesSpec.pre enc Go.Proofs.Tryz.prog Go.Proofs.Tryz.f3 Rows.fnTubesRow.domain false w args ∧ laidMetH Go.Proofs.Tryz.prog Rows.fnTubesRow.laid w) ∧ sizedMet enc Go.Proofs.Tryz.prog Go.Proofs.Tryz.f3 (OpenSpec.ofChange Rows.fnTubesSpec) false w args) (Rows.fnTubesSpec.post enc Go.Proofs.Tryz.prog Go.Proofs.Tryz.f3 false true false false) := by
  refine Go.Rv.returns_laid (C := Go.Proofs.Tryz.checked) (X := fun w _ => laidMetH Go.Proofs.Tryz.prog Rows.fnTubesRow.laid w) (fun _ _ _ hh h => h.of_heap hh) own started (by kernel_rfl) Go.Proofs.Tryz.func3
    (ChangeSpec.witness_at (enc := enc) (C := Go.Proofs.Tryz.checked) (os := os) (X := fun w _ => laidMetH Go.Proofs.Tryz.prog Rows.fnTubesRow.laid w) false (laidWorld os) #[.slice none 0 0, .slice none 0 0] 8 rfl (by kernel_rfl) (by kernel_rfl) (by kernel_rfl) (by kernel_rfl) (by kernel_rfl) (laidWorld_met os _)) ?_
  intro W base args ds gs before hval0 hW hL hsh
  have hval : ∀ (j : Nat) t v, Go.Proofs.Tryz.f3.params[j]? = some t → args[j]? = some v → Value.okWide Go.Proofs.Tryz.prog W .any base t v := hval0
  have hW' := hW
  obtain ⟨p, q, hA0, hV, rfl, hfz, hnd⟩ := hW
  have hA : DataW.TrodAll enc Go.Proofs.Tryz.prog W 0 (fun _ => true) true Go.Proofs.Tryz.f3.params.toList args.toList ds p := hA0
  rw [Go.Proofs.Tryz.params3] at hA hval
  obtain ⟨v0, vs0, d0, ds0, p0, q0, hargs, rfl, rfl, h0, r0⟩ := trodAll_cons hA
  obtain ⟨v1, vs1, d1, ds1, p1, q1, rfl, rfl, rfl, h1, r1⟩ := trodAll_cons r0
  obtain ⟨rfl, rfl, rfl⟩ := trodAll_nil r1
  obtain rfl : args = #[v0, v1] := by cases args; simp_all
  obtain ⟨rfl, rfl⟩ := trodVars_none hV
  obtain ⟨e0, w0, c0⟩ := Go.Rv.open_arg 30 (u := (.sl (.int .u8))) (t := 22) (by kernel_rfl) (hval 0 22 v0 rfl rfl) h0
  rw [show Go.Rv.aggT Go.Proofs.Tryz.prog 22 = false from by kernel_rfl] at c0
  have k0 := h0
  have lt0 : ∀ x ∈ p0, x.block < W.heap.size := by obtain ⟨m, hm⟩ := k0; exact DataW.trod_lt m _ _ _ hm
  obtain ⟨e1, w1, c1⟩ := Go.Rv.open_arg 30 (u := (.sl (.int .u8))) (t := 22) (by kernel_rfl) (hval 1 22 v1 rfl rfl) h1
  rw [show Go.Rv.aggT Go.Proofs.Tryz.prog 22 = false from by kernel_rfl] at c1
  have k1 := h1
  have lt1 : ∀ x ∈ p1, x.block < W.heap.size := by obtain ⟨m, hm⟩ := k1; exact DataW.trod_lt m _ _ _ hm
  clear hA0 hval0
  obtain ⟨k, h⟩ := Pu e0 e1 w0 w1
  have hi := Go.Rv.init_ok (w := W) (T.amb_start (tab_of hL) (syn_of hL) (rng_of hL) (max_of hsh) (fun _ _ hb => hb)) (args := [(false, Go.Rv.unpack true (.sl (.int .u8)) e0), (false, Go.Rv.unpack true (.sl (.int .u8)) e1)]) (vs := [v0, v1]) rfl (fun i p hip => by
    match i, hip with
    | 0, hip => cases hip; exact ⟨_, rfl, c0 0⟩
    | 1, hip => cases hip; exact ⟨_, rfl, c1 1⟩
    | n + 2, hip => simp at hip)
  refine (Go.Rv.row_ok (R.laws_FnTubes.ok k) rfl hi (call k e0 e1 h)).mono ?_
  rintro e W' ⟨rfl, bel⟩
  exact ⟨_, rfl, _, _, _, [], _, [], hW', trodAll_mk1 (shut_bool Go.Proofs.Tryz.underlying4 _), (trodAll_cons_mk (Below.trod laidOut (by kernel_rfl) (of_decide_eq_true (by kernel_rfl)) k0 bel lt0) (trodAll_cons_mk (Below.trod laidOut (by kernel_rfl) (of_decide_eq_true (by kernel_rfl)) k1 bel lt1) trodAll_mk0)), rfl, bel.frame _, fun h => by cases h⟩
set_option maxRecDepth 100000 in
theorem over : Rows.fnTubesRow.holds Tryz.pinned (OpenSpec.ofChange Rows.fnTubesSpec) :=
  OpenClaim.holds_of_wide 3 Go.Proofs.Tryz.f3 rfl rfl rfl rfl rfl rfl rfl ⟨rfl, rfl, rfl, rfl, rfl⟩ rfl rfl rfl rfl rfl (by kernel_rfl) Go.Proofs.Tryz.func3 (by kernel_rfl)
    (of_decide_eq_true (by kernel_rfl)) (by unfold Func.isWrapper; first | (rw [if_pos (by decide +kernel)]; kernel_rfl) | (rw [if_neg (by decide +kernel)]; exact ⟨rfl, rfl⟩))
    (fun os started H enc _ => lifted os started H enc)
theorem proved : Rows.FnTubesCardSaid :=
  Claim7.holds_tied_plain_at .later [] [.data, .data, .data, .data, .sentinel, .sentinel, .pinned] true (true, "cac374991edd58b2df1583c834180f6144e740538ef484d2e7ddd84e6ecef994") true
    over (fun _ h => by cases h) (by kernel_rfl) (fun _ h => by cases h) fnTubes_row_tie rfl ⟨rfl, rfl⟩ (by kernel_rfl) rfl
    (fun f fn hf hfn => by
      obtain rfl : f = 3 := Option.some.inj ((show Go.Proofs.Tryz.prog.funcNamed "loop.example/g01099/laws.FnTubes" = some 3 by kernel_rfl).symm.trans hf) |>.symm
      obtain rfl : fn = Go.Proofs.Tryz.f3 := (Option.some.inj (Go.Proofs.Tryz.func3.symm.trans hfn)).symm
      exact ⟨by kernel_rfl, fun j t ht => by
        rw [Go.Proofs.Tryz.params3] at ht
        match j, ht with
        | 0, ht => cases ht; exact (show Go.Proofs.Tryz.prog.wantsStandIn 22 = false by kernel_rfl)
        | 1, ht => cases ht; exact (show Go.Proofs.Tryz.prog.wantsStandIn 22 = false by kernel_rfl)
        | n + 2, ht => simp at ht⟩)
    (by kernel_rfl)
#print axioms proved
end Go.Proofs.YtmgelocefebldaaGreatDoor.fnTubes
namespace Go.Proofs.YtmgelocefebldaaGreatDoor
/-- The row, under a short name, for the claim. -/
theorem fnTubes_holds : Rows.FnTubesCardSaid := fnTubes.proved
end Go.Proofs.YtmgelocefebldaaGreatDoor
