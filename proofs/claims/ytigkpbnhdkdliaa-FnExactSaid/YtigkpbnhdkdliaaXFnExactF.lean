-- written by wip/rev/gen2.py for this claim (out of the translation). Lean checks it.
import Derived.Test.YtigkpbnhdkdliaaRvM4
import Derived.Test.YtigkpbnhdkdliaaProg
import Derived.Test.YtigkpbnhdkdliaaRvSmH
import Derived.Test.YtigkpbnhdkdliaaRvSh
namespace Go.Proofs.Ytigkpbnhdkdliaa.R
open Go.Rv
set_option linter.unusedVariables false
set_option maxRecDepth 100000
def X : Env := { n := 0, keep := [], tab := [(2, { ty := (.int .i64) }),
  (3, { ty := (.int .i64) }),
  (4, { ty := .bool }),
  (5, { ty := (.int .u8) }),
  (22, { ty := (.sl (.int .u8)) }),
  (25, { ty := (.pair (.int .i64) (.int .i64)), agg := true, offs := [(0, 1, false), (1, 1, false)] }),
  (27, { ty := (.pair (.int .i64) (.pair (.int .i64) (.int .i64))), agg := true, offs := [(0, 1, false), (1, 1, false), (2, 1, false)], eq := true }),
  (33, { ty := (.sl (.int .i64)) }),
  (42, { ty := (.sl (.pair (.int .i64) (.pair (.int .i64) (.int .i64)))) }),
  (79, { ty := (.int .u64) }),
  (81, { ty := (.pair (.sl (.int .u8)) (.pair (.int .i64) (.int .u64))), agg := true, offs := [(0, 1, false), (1, 1, false), (2, 1, false)] })], mp := [(65, (.pair (.int .i64) (.pair (.int .i64) (.int .i64))), .bool), (69, (.pair (.int .i64) (.pair (.int .i64) (.int .i64))), (.int .i64))] }
theorem laidOutT : laidOutB Go.Proofs.Try.prog = true := by kernel_rfl
theorem tab : TabOk Go.Proofs.Try.prog X := ⟨by kernel_rfl, by kernel_rfl, (maps_cons (mapTy3 laidOutT (t := 65) (kt := 27) (vt := 4) (by kernel_rfl) (by kernel_rfl) (v := .bool) (by kernel_rfl) (fun _ => by kernel_rfl)) (maps_cons (mapTy3 laidOutT (t := 69) (kt := 27) (vt := 2) (by kernel_rfl) (by kernel_rfl) (v := (.int .i64)) (by kernel_rfl) (fun _ => by kernel_rfl)) maps_nil))⟩
/-! laws.b10Long -/
@[reducible] def laws_b10Long.pc : CutP := [(0, some false, [.fl (.lo (.int .u8))]), (1, some false, [.fl (.lo (.int .u8))])]
@[reducible] def laws_b10Long.pr : CompPs := [(false, [.fl .bool])]
abbrev laws_b10Long.N := Bool
noncomputable def laws_b10Long.E (k : Nat) : List (FuncId × Go.Rv.Fn) := []
noncomputable def laws_b10Long.f (k : Nat) (a0 : List Int) (a1 : List Int) : Option laws_b10Long.N := (if (decide (1048576 < (a0.length : Int))) = true then some true else some (decide (1048576 < (a1.length : Int))))
noncomputable def laws_b10Long.F (k : Nat) : Go.Rv.Fn := mkFn 2 laws_b10Long.pc laws_b10Long.pr (keepOf []) (fun (y : laws_b10Long.N) => (((y, ()), ()) : compT laws_b10Long.pr)) fun x => laws_b10Long.f k x.1.1 x.2.1.1
theorem laws_b10Long.env (k : Nat) : EnvOk Go.Proofs.Try.prog (fun f => (laws_b10Long.E k).lookup f) := envOk_of trivial
theorem laws_b10Long.ok (k : Nat) : FnOk Go.Proofs.Try.prog 7 (laws_b10Long.F k) :=
  fn_ok tab (laws_b10Long.env k) Go.Proofs.Try.func7 rfl (n := 2) (Nat.le_of_ble_eq_true rfl) (by kernel_rfl) (outs := []) (by kernel_rfl) (by kernel_rfl) (d := fun (y : compT laws_b10Long.pr) => (y.1.1 : laws_b10Long.N)) (fun _ => rfl) (C := fun _ => []) (k := k) noCuts fun x => by kernel_rfl
/-! spec.l00From -/
@[reducible] def spec_l00From.bp : List FPat := [(.lo (.int .u8)), (.int .i64), (.int .u64)]
@[reducible] def spec_l00From.pc : CutP := [(0, some false, [.fl (.lo (.int .u8))])]
@[reducible] def spec_l00From.pr : CompPs := []
abbrev spec_l00From.N := List Int × Int × Int
noncomputable def spec_l00From.E (k : Nat) : List (FuncId × Go.Rv.Fn) := []
noncomputable def spec_l00From.f (k : Nat) (a0 : List Int) : Option spec_l00From.N := some (a0, 0, 0)
noncomputable def spec_l00From.F (k : Nat) : Go.Rv.Fn := mkFnR 1 spec_l00From.pc spec_l00From.bp (fun (y : spec_l00From.N) => ((y.1, y.2.1, y.2.2, ()) : fpatsT spec_l00From.bp)) fun x => spec_l00From.f k x.1.1
theorem spec_l00From.env (k : Nat) : EnvOk Go.Proofs.Try.prog (fun f => (spec_l00From.E k).lookup f) := envOk_of trivial
theorem spec_l00From.ok (k : Nat) : FnOk Go.Proofs.Try.prog 30 (spec_l00From.F k) :=
  fn_okR tab (spec_l00From.env k) Go.Proofs.Try.func30 rfl (n := 1) (Nat.le_of_ble_eq_true rfl) (by kernel_rfl) (by kernel_rfl) (d := fun (y : fpatsT spec_l00From.bp) => ((y.1, y.2.1, y.2.2.1) : spec_l00From.N)) (fun _ => rfl) (C := (fun _ => [])) (k := k) noCutsG fun x => by kernel_rfl
/-! (*spec.l00Src).next -/
@[reducible] def spec_l00Src_next.bp : List FPat := [(.lo (.int .u8)), (.int .i64), (.int .u64)]
@[reducible] def spec_l00Src_next.pc : CutP := [(0, none, [.fl (.lo (.int .u8)), .fl (.int .i64), .fl (.int .u64)])]
@[reducible] def spec_l00Src_next.pr : CompPs := [(false, [.fl (.int .i64)])]
abbrev spec_l00Src_next.N := Int × List Int × Int × Int
noncomputable def spec_l00Src_next.E (k : Nat) : List (FuncId × Go.Rv.Fn) := []
abbrev spec_l00Src_next.Cs := (List Int → Int → Int → Int → Option spec_l00Src_next.N)
def spec_l00Src_next.zero : spec_l00Src_next.Cs := (fun _ _ _ _ => none)
noncomputable def spec_l00Src_next.step (k : Nat) (c : spec_l00Src_next.Cs) : spec_l00Src_next.Cs := (fun (x0 : List Int) (x1 : Int) (x2 : Int) (x3 : Int) => (if (decide ((wrap64 (x1 + 1)) ≤ (x0.length : Int))) = true then some (x3, x0, (wrap64 (x1 + 1)), (IntKind.u64.wrap ((IntKind.u64.wrap ((IntKind.u64.wrap (x2 * 6364136223846793005)) + (IntKind.u64.wrap (x3)))) + 1442695040888963407))) else (if 40 < 0 then none else some ((wrap64 ((IntKind.u64.wrap ((BitVec.ofInt IntKind.u64.bits ((IntKind.u64.wrap ((IntKind.u64.wrap ((IntKind.u64.wrap (x2 * 6364136223846793005)) + (IntKind.u64.wrap (x3)))) + 1442695040888963407)).fdiv (2 ^ min (40 : Int).toNat IntKind.u64.bits)) &&& BitVec.ofInt IntKind.u64.bits 255).toNat : Int)))), x0, (wrap64 (x1 + 1)), (IntKind.u64.wrap ((IntKind.u64.wrap ((IntKind.u64.wrap (x2 * 6364136223846793005)) + (IntKind.u64.wrap (x3)))) + 1442695040888963407))))))
noncomputable def spec_l00Src_next.cs (k : Nat) : Nat → spec_l00Src_next.Cs
  | 0 => spec_l00Src_next.zero
  | n + 1 => spec_l00Src_next.step k (spec_l00Src_next.cs k n)
def spec_l00Src_next.CC (c : spec_l00Src_next.Cs) : Cuts spec_l00Src_next.N := [(4, ⟨[(0, none, [.fl (.lo (.int .u8)), .fl (.int .i64), .fl (.int .u64)]), (3, some false, [.fl (.int .i64)])], fun x => c x.1.1 x.1.2.1 x.1.2.2.1 x.2.1.1⟩)]
noncomputable def spec_l00Src_next.f (k : Nat) (a0 : List Int) (a1 : Int) (a2 : Int) : Option spec_l00Src_next.N := (if (decide (a1 < (a0.length : Int))) = true then if 0 ≤ a1 then if a1 < (a0.length : Int) then (spec_l00Src_next.cs k k) a0 a1 a2 (wrap64 ((rd 0 a0 a1))) else none else none else (spec_l00Src_next.cs k k) a0 a1 a2 0)
noncomputable def spec_l00Src_next.F (k : Nat) : Go.Rv.Fn := mkFnB 0 spec_l00Src_next.pc spec_l00Src_next.pr spec_l00Src_next.bp (fun (y : spec_l00Src_next.N) => ((((y.1, ()), ()), (y.2.1, y.2.2.1, y.2.2.2, ())) : compT spec_l00Src_next.pr × fpatsT spec_l00Src_next.bp)) fun x => spec_l00Src_next.f k x.1.1 x.1.2.1 x.1.2.2.1
theorem spec_l00Src_next.env (k : Nat) : EnvOk Go.Proofs.Try.prog (fun f => (spec_l00Src_next.E k).lookup f) := envOk_of trivial
theorem spec_l00Src_next.cuts (k : Nat) : CutsOkG Go.Proofs.Try.prog { X with n := Go.Proofs.Try.f50.ntmps, keep := [0] } (fun f => (spec_l00Src_next.E k).lookup f) Go.Proofs.Try.f50 (endB { X with n := Go.Proofs.Try.f50.ntmps, keep := [0] } Go.Proofs.Try.f50 spec_l00Src_next.pr spec_l00Src_next.bp (fun (y : compT spec_l00Src_next.pr × fpatsT spec_l00Src_next.bp) => ((y.1.1.1, y.2.1, y.2.2.1, y.2.2.2.1) : spec_l00Src_next.N))) fun n => spec_l00Src_next.CC (spec_l00Src_next.cs k n) :=
  cutsOkG_of (step := spec_l00Src_next.step k) rfl (fun _ => rfl) ⟨fun _ => rfl, trivial⟩ (fun c => by kernel_rfl) fun c => ⟨fun x => by kernel_rfl, trivial⟩
theorem spec_l00Src_next.ok (k : Nat) : FnOkB Go.Proofs.Try.prog 50 (spec_l00Src_next.F k) :=
  fn_okB tab (spec_l00Src_next.env k) Go.Proofs.Try.func50 rfl (n := 0) (Nat.le_of_ble_eq_true rfl) (by kernel_rfl) (by kernel_rfl) (by kernel_rfl) (d := fun (y : compT spec_l00Src_next.pr × fpatsT spec_l00Src_next.bp) => ((y.1.1.1, y.2.1, y.2.2.1, y.2.2.2.1) : spec_l00Src_next.N)) (fun _ => rfl) (C := (fun n => spec_l00Src_next.CC (spec_l00Src_next.cs k n))) (k := k) (spec_l00Src_next.cuts k) fun x => by kernel_rfl
/-! (*spec.l00Src).pick -/
@[reducible] def spec_l00Src_pick.bp : List FPat := [(.lo (.int .u8)), (.int .i64), (.int .u64)]
@[reducible] def spec_l00Src_pick.pc : CutP := [(0, none, [.fl (.lo (.int .u8)), .fl (.int .i64), .fl (.int .u64)]), (1, some false, [.fl (.int .i64)])]
@[reducible] def spec_l00Src_pick.pr : CompPs := [(false, [.fl (.int .i64)])]
abbrev spec_l00Src_pick.N := Int × List Int × Int × Int
noncomputable def spec_l00Src_pick.E (k : Nat) : List (FuncId × Go.Rv.Fn) := [(50, spec_l00Src_next.F k)]
noncomputable def spec_l00Src_pick.f (k : Nat) (a0 : List Int) (a1 : Int) (a2 : Int) (a3 : Int) : Option spec_l00Src_pick.N := (if (decide (a3 ≤ 1)) = true then some (0, a0, a1, a2) else (spec_l00Src_next.f k a0 a1 a2).bind fun t1 => (if (decide (200 < a3)) = true then (spec_l00Src_next.f k t1.2.1 t1.2.2.1 t1.2.2.2).bind fun t2 => (if a3 = 0 then none else some (((wrap64 ((wrap64 (t1.1 * 256)) + t2.1)).tmod a3), t2.2.1, t2.2.2.1, t2.2.2.2)) else (if a3 = 0 then none else some ((t1.1.tmod a3), t1.2.1, t1.2.2.1, t1.2.2.2))))
noncomputable def spec_l00Src_pick.F (k : Nat) : Go.Rv.Fn := mkFnB 1 spec_l00Src_pick.pc spec_l00Src_pick.pr spec_l00Src_pick.bp (fun (y : spec_l00Src_pick.N) => ((((y.1, ()), ()), (y.2.1, y.2.2.1, y.2.2.2, ())) : compT spec_l00Src_pick.pr × fpatsT spec_l00Src_pick.bp)) fun x => spec_l00Src_pick.f k x.1.1 x.1.2.1 x.1.2.2.1 x.2.1.1
theorem spec_l00Src_pick.env (k : Nat) : EnvOk Go.Proofs.Try.prog (fun f => (spec_l00Src_pick.E k).lookup f) := envOk_of ⟨entryB Go.Proofs.Try.call50 rfl (spec_l00Src_next.ok k), trivial⟩
theorem spec_l00Src_pick.ok (k : Nat) : FnOkB Go.Proofs.Try.prog 31 (spec_l00Src_pick.F k) :=
  fn_okB tab (spec_l00Src_pick.env k) Go.Proofs.Try.func31 rfl (n := 1) (Nat.le_of_ble_eq_true rfl) (by kernel_rfl) (by kernel_rfl) (by kernel_rfl) (d := fun (y : compT spec_l00Src_pick.pr × fpatsT spec_l00Src_pick.bp) => ((y.1.1.1, y.2.1, y.2.2.1, y.2.2.2.1) : spec_l00Src_pick.N)) (fun _ => rfl) (C := (fun _ => [])) (k := k) noCutsG fun x => by kernel_rfl
/-! spec.B10Course -/
@[reducible] def spec_B10Course.pc : CutP := [(0, some false, [.fl (.lo (.int .u8))])]
@[reducible] def spec_B10Course.pr : CompPs := [(true, [.fl (.int .i64), .fl (.int .i64)]), (true, [.fl (.int .i64), .fl (.int .i64), .fl (.int .i64)])]
abbrev spec_B10Course.N := Int × Int × Int × Int × Int
noncomputable def spec_B10Course.E (k : Nat) : List (FuncId × Go.Rv.Fn) := [(30, spec_l00From.F k), (31, spec_l00Src_pick.F k)]
noncomputable def spec_B10Course.f (k : Nat) (a0 : List Int) : Option spec_B10Course.N := (spec_l00From.f k a0).bind fun t1 => (spec_l00Src_pick.f k t1.1 t1.2.1 t1.2.2 3).bind fun t2 => (spec_l00Src_pick.f k t2.2.1 t2.2.2.1 t2.2.2.2 5).bind fun t3 => (spec_l00Src_pick.f k t3.2.1 t3.2.2.1 t3.2.2.2 25).bind fun t4 => (spec_l00Src_pick.f k t4.2.1 t4.2.2.1 t4.2.2.2 9).bind fun t5 => (spec_l00Src_pick.f k t5.2.1 t5.2.2.1 t5.2.2.2 3).bind fun t6 => some ((wrap64 (1 + t2.1)), (wrap64 (1 + t3.1)), (wrap64 (t4.1 - 12)), (wrap64 (t5.1 - 4)), (wrap64 (t6.1 - 1)))
noncomputable def spec_B10Course.F (k : Nat) : Go.Rv.Fn := mkFn 1 spec_B10Course.pc spec_B10Course.pr (keepOf []) (fun (y : spec_B10Course.N) => (((y.1, y.2.1, ()), (y.2.2.1, y.2.2.2.1, y.2.2.2.2, ()), ()) : compT spec_B10Course.pr)) fun x => spec_B10Course.f k x.1.1
theorem spec_B10Course.env (k : Nat) : EnvOk Go.Proofs.Try.prog (fun f => (spec_B10Course.E k).lookup f) := envOk_of ⟨entry Go.Proofs.Try.call30 rfl (spec_l00From.ok k), entryB Go.Proofs.Try.call31 rfl (spec_l00Src_pick.ok k), trivial⟩
theorem spec_B10Course.ok (k : Nat) : FnOk Go.Proofs.Try.prog 8 (spec_B10Course.F k) :=
  fn_ok tab (spec_B10Course.env k) Go.Proofs.Try.func8 rfl (n := 1) (Nat.le_of_ble_eq_true rfl) (by kernel_rfl) (outs := []) (by kernel_rfl) (by kernel_rfl) (d := fun (y : compT spec_B10Course.pr) => ((y.1.1, y.1.2.1, y.2.1.1, y.2.1.2.1, y.2.1.2.2.1) : spec_B10Course.N)) (fun _ => rfl) (C := fun _ => []) (k := k) noCuts fun x => by kernel_rfl
/-! laws.b10At -/
@[reducible] def laws_b10At.pc : CutP := [(0, some false, [.fl (.lo (.int .u8))]), (1, some false, [.fl (.int .i64)]), (2, some false, [.fl (.int .i64)])]
@[reducible] def laws_b10At.pr : CompPs := [(false, [.fl (.int .i64)])]
abbrev laws_b10At.N := Int
noncomputable def laws_b10At.E (k : Nat) : List (FuncId × Go.Rv.Fn) := []
noncomputable def laws_b10At.f (k : Nat) (a0 : List Int) (a1 : Int) (a2 : Int) : Option laws_b10At.N := (if (decide (a2 ≤ 1)) = true then some 0 else (if (decide (a1 < (a0.length : Int))) = true then if 0 ≤ a1 then if a1 < (a0.length : Int) then (if a2 = 0 then none else some ((wrap64 ((rd 0 a0 a1))).tmod a2)) else none else none else (if a2 = 0 then none else some ((wrap64 ((wrap64 (a1 * 37)) + 11)).tmod a2))))
noncomputable def laws_b10At.F (k : Nat) : Go.Rv.Fn := mkFn 3 laws_b10At.pc laws_b10At.pr (keepOf []) (fun (y : laws_b10At.N) => (((y, ()), ()) : compT laws_b10At.pr)) fun x => laws_b10At.f k x.1.1 x.2.1.1 x.2.2.1.1
theorem laws_b10At.env (k : Nat) : EnvOk Go.Proofs.Try.prog (fun f => (laws_b10At.E k).lookup f) := envOk_of trivial
theorem laws_b10At.ok (k : Nat) : FnOk Go.Proofs.Try.prog 10 (laws_b10At.F k) :=
  fn_ok tab (laws_b10At.env k) Go.Proofs.Try.func10 rfl (n := 3) (Nat.le_of_ble_eq_true rfl) (by kernel_rfl) (outs := []) (by kernel_rfl) (by kernel_rfl) (d := fun (y : compT laws_b10At.pr) => (y.1.1 : laws_b10At.N)) (fun _ => rfl) (C := fun _ => []) (k := k) noCuts fun x => by kernel_rfl
/-! impl.within -/
@[reducible] def impl_within.pc : CutP := [(0, some false, [.fl (.int .i64)]), (1, some false, [.fl (.int .i64)]), (2, some false, [.fl (.int .i64)])]
@[reducible] def impl_within.pr : CompPs := [(false, [.fl .bool])]
abbrev impl_within.N := Bool
noncomputable def impl_within.E (k : Nat) : List (FuncId × Go.Rv.Fn) := []
noncomputable def impl_within.f (k : Nat) (a0 : Int) (a1 : Int) (a2 : Int) : Option impl_within.N := (if (decide (a1 ≤ a0)) = true then some (decide (a0 ≤ a2)) else some false)
noncomputable def impl_within.F (k : Nat) : Go.Rv.Fn := mkFn 3 impl_within.pc impl_within.pr (keepOf []) (fun (y : impl_within.N) => (((y, ()), ()) : compT impl_within.pr)) fun x => impl_within.f k x.1.1 x.2.1.1 x.2.2.1.1
theorem impl_within.env (k : Nat) : EnvOk Go.Proofs.Try.prog (fun f => (impl_within.E k).lookup f) := envOk_of trivial
theorem impl_within.ok (k : Nat) : FnOk Go.Proofs.Try.prog 34 (impl_within.F k) :=
  fn_ok tab (impl_within.env k) Go.Proofs.Try.func34 rfl (n := 3) (Nat.le_of_ble_eq_true rfl) (by kernel_rfl) (outs := []) (by kernel_rfl) (by kernel_rfl) (d := fun (y : compT impl_within.pr) => (y.1.1 : impl_within.N)) (fun _ => rfl) (C := fun _ => []) (k := k) noCuts fun x => by kernel_rfl
/-! impl.ValidLimits -/
@[reducible] def impl_ValidLimits.pc : CutP := [(0, some true, [.fl (.int .i64), .fl (.int .i64)])]
@[reducible] def impl_ValidLimits.pr : CompPs := [(false, [.fl .bool])]
abbrev impl_ValidLimits.N := Bool
noncomputable def impl_ValidLimits.E (k : Nat) : List (FuncId × Go.Rv.Fn) := [(34, impl_within.F k)]
noncomputable def impl_ValidLimits.f (k : Nat) (a0 : Int) (a1 : Int) : Option impl_ValidLimits.N := (impl_within.f k a0 1 3).bind fun t1 => (if t1 = true then (impl_within.f k a1 1 6).bind fun t2 => some t2 else some false)
noncomputable def impl_ValidLimits.F (k : Nat) : Go.Rv.Fn := mkFn 1 impl_ValidLimits.pc impl_ValidLimits.pr (keepOf []) (fun (y : impl_ValidLimits.N) => (((y, ()), ()) : compT impl_ValidLimits.pr)) fun x => impl_ValidLimits.f k x.1.1 x.1.2.1
theorem impl_ValidLimits.env (k : Nat) : EnvOk Go.Proofs.Try.prog (fun f => (impl_ValidLimits.E k).lookup f) := envOk_of ⟨entry Go.Proofs.Try.call34 rfl (impl_within.ok k), trivial⟩
theorem impl_ValidLimits.ok (k : Nat) : FnOk Go.Proofs.Try.prog 51 (impl_ValidLimits.F k) :=
  fn_ok tab (impl_ValidLimits.env k) Go.Proofs.Try.func51 rfl (n := 1) (Nat.le_of_ble_eq_true rfl) (by kernel_rfl) (outs := []) (by kernel_rfl) (by kernel_rfl) (d := fun (y : compT impl_ValidLimits.pr) => (y.1.1 : impl_ValidLimits.N)) (fun _ => rfl) (C := fun _ => []) (k := k) noCuts fun x => by kernel_rfl
/-! (impl.Limits).isCourse -/
@[reducible] def impl_Limits_isCourse.pc : CutP := [(0, some true, [.fl (.int .i64), .fl (.int .i64)]), (1, some true, [.fl (.int .i64), .fl (.int .i64), .fl (.int .i64)])]
@[reducible] def impl_Limits_isCourse.pr : CompPs := [(false, [.fl .bool])]
abbrev impl_Limits_isCourse.N := Bool
noncomputable def impl_Limits_isCourse.E (k : Nat) : List (FuncId × Go.Rv.Fn) := [(34, impl_within.F k)]
noncomputable def impl_Limits_isCourse.f (k : Nat) (a0 : Int) (a1 : Int) (a2 : Int) (a3 : Int) (a4 : Int) : Option impl_Limits_isCourse.N := (impl_within.f k a2 (-40) 40).bind fun t1 => (if t1 = true then (impl_within.f k a3 (-10) 10).bind fun t2 => (if t2 = true then (impl_within.f k a4 (wrap64 (0 - a0)) a0).bind fun t3 => some t3 else some false) else some false)
noncomputable def impl_Limits_isCourse.F (k : Nat) : Go.Rv.Fn := mkFn 2 impl_Limits_isCourse.pc impl_Limits_isCourse.pr (keepOf []) (fun (y : impl_Limits_isCourse.N) => (((y, ()), ()) : compT impl_Limits_isCourse.pr)) fun x => impl_Limits_isCourse.f k x.1.1 x.1.2.1 x.2.1.1 x.2.1.2.1 x.2.1.2.2.1
theorem impl_Limits_isCourse.env (k : Nat) : EnvOk Go.Proofs.Try.prog (fun f => (impl_Limits_isCourse.E k).lookup f) := envOk_of ⟨entry Go.Proofs.Try.call34 rfl (impl_within.ok k), trivial⟩
theorem impl_Limits_isCourse.ok (k : Nat) : FnOk Go.Proofs.Try.prog 52 (impl_Limits_isCourse.F k) :=
  fn_ok tab (impl_Limits_isCourse.env k) Go.Proofs.Try.func52 rfl (n := 2) (Nat.le_of_ble_eq_true rfl) (by kernel_rfl) (outs := []) (by kernel_rfl) (by kernel_rfl) (d := fun (y : compT impl_Limits_isCourse.pr) => (y.1.1 : impl_Limits_isCourse.N)) (fun _ => rfl) (C := fun _ => []) (k := k) noCuts fun x => by kernel_rfl
/-! impl.ValidCourse -/
@[reducible] def impl_ValidCourse.pc : CutP := [(0, some true, [.fl (.int .i64), .fl (.int .i64)]), (1, some true, [.fl (.int .i64), .fl (.int .i64), .fl (.int .i64)])]
@[reducible] def impl_ValidCourse.pr : CompPs := [(false, [.fl .bool])]
abbrev impl_ValidCourse.N := Bool
noncomputable def impl_ValidCourse.E (k : Nat) : List (FuncId × Go.Rv.Fn) := [(51, impl_ValidLimits.F k), (52, impl_Limits_isCourse.F k)]
noncomputable def impl_ValidCourse.f (k : Nat) (a0 : Int) (a1 : Int) (a2 : Int) (a3 : Int) (a4 : Int) : Option impl_ValidCourse.N := (impl_ValidLimits.f k a0 a1).bind fun t1 => (if t1 = true then (impl_Limits_isCourse.f k a0 a1 a2 a3 a4).bind fun t2 => some t2 else some false)
noncomputable def impl_ValidCourse.F (k : Nat) : Go.Rv.Fn := mkFn 2 impl_ValidCourse.pc impl_ValidCourse.pr (keepOf []) (fun (y : impl_ValidCourse.N) => (((y, ()), ()) : compT impl_ValidCourse.pr)) fun x => impl_ValidCourse.f k x.1.1 x.1.2.1 x.2.1.1 x.2.1.2.1 x.2.1.2.2.1
theorem impl_ValidCourse.env (k : Nat) : EnvOk Go.Proofs.Try.prog (fun f => (impl_ValidCourse.E k).lookup f) := envOk_of ⟨entry Go.Proofs.Try.call51 rfl (impl_ValidLimits.ok k), entry Go.Proofs.Try.call52 rfl (impl_Limits_isCourse.ok k), trivial⟩
theorem impl_ValidCourse.ok (k : Nat) : FnOk Go.Proofs.Try.prog 32 (impl_ValidCourse.F k) :=
  fn_ok tab (impl_ValidCourse.env k) Go.Proofs.Try.func32 rfl (n := 2) (Nat.le_of_ble_eq_true rfl) (by kernel_rfl) (outs := []) (by kernel_rfl) (by kernel_rfl) (d := fun (y : compT impl_ValidCourse.pr) => (y.1.1 : impl_ValidCourse.N)) (fun _ => rfl) (C := fun _ => []) (k := k) noCuts fun x => by kernel_rfl
/-! impl.abs -/
@[reducible] def impl_abs.pc : CutP := [(0, some false, [.fl (.int .i64)])]
@[reducible] def impl_abs.pr : CompPs := [(false, [.fl (.int .i64)])]
abbrev impl_abs.N := Int
noncomputable def impl_abs.E (k : Nat) : List (FuncId × Go.Rv.Fn) := []
noncomputable def impl_abs.f (k : Nat) (a0 : Int) : Option impl_abs.N := some (if a0 < (wrap64 (0 - a0)) then (wrap64 (0 - a0)) else a0)
noncomputable def impl_abs.F (k : Nat) : Go.Rv.Fn := mkFn 1 impl_abs.pc impl_abs.pr (keepOf []) (fun (y : impl_abs.N) => (((y, ()), ()) : compT impl_abs.pr)) fun x => impl_abs.f k x.1.1
theorem impl_abs.env (k : Nat) : EnvOk Go.Proofs.Try.prog (fun f => (impl_abs.E k).lookup f) := envOk_of trivial
theorem impl_abs.ok (k : Nat) : FnOk Go.Proofs.Try.prog 46 (impl_abs.F k) :=
  fn_ok tab (impl_abs.env k) Go.Proofs.Try.func46 rfl (n := 1) (Nat.le_of_ble_eq_true rfl) (by kernel_rfl) (outs := []) (by kernel_rfl) (by kernel_rfl) (d := fun (y : compT impl_abs.pr) => (y.1.1 : impl_abs.N)) (fun _ => rfl) (C := fun _ => []) (k := k) noCuts fun x => by kernel_rfl
/-! (impl.Limits).next -/
@[reducible] def impl_Limits_next.pc : CutP := [(0, some true, [.fl (.int .i64), .fl (.int .i64)]), (1, some true, [.fl (.int .i64), .fl (.int .i64), .fl (.int .i64)]), (2, some false, [.fl (.int .i64)])]
@[reducible] def impl_Limits_next.pr : CompPs := [(true, [.fl (.int .i64), .fl (.int .i64), .fl (.int .i64)]), (false, [.fl .bool])]
abbrev impl_Limits_next.N := Int × Int × Int × Bool
noncomputable def impl_Limits_next.E (k : Nat) : List (FuncId × Go.Rv.Fn) := [(34, impl_within.F k), (46, impl_abs.F k), (52, impl_Limits_isCourse.F k)]
abbrev impl_Limits_next.Cs := (Int → Int → Int → Int → Int → Int → Int → Int → Int → Option impl_Limits_next.N)
def impl_Limits_next.zero : impl_Limits_next.Cs := (fun _ _ _ _ _ _ _ _ _ => none)
noncomputable def impl_Limits_next.step (k : Nat) (c : impl_Limits_next.Cs) : impl_Limits_next.Cs := (fun (x0 : Int) (x1 : Int) (x2 : Int) (x3 : Int) (x4 : Int) (x5 : Int) (x6 : Int) (x7 : Int) (x8 : Int) => (impl_Limits_isCourse.f k x1 x2 (wrap64 (x3 + x4)) (wrap64 (x4 + x0)) x0).bind fun t3 => (if (!t3) = true then some (0, 0, 0, false) else some ((wrap64 (x3 + x4)), (wrap64 (x4 + x0)), x0, true)))
noncomputable def impl_Limits_next.cs (k : Nat) : Nat → impl_Limits_next.Cs
  | 0 => impl_Limits_next.zero
  | n + 1 => impl_Limits_next.step k (impl_Limits_next.cs k n)
def impl_Limits_next.CC (c : impl_Limits_next.Cs) : Cuts impl_Limits_next.N := [(2, ⟨[(2, some false, [.fl (.int .i64)]), (3, none, [.fl (.int .i64), .fl (.int .i64)]), (4, none, [.fl (.int .i64), .fl (.int .i64), .fl (.int .i64)]), (6, none, [.fl (.int .i64), .fl (.int .i64), .fl (.int .i64)])], fun x => c x.1.1 x.2.1.1 x.2.1.2.1 x.2.2.1.1 x.2.2.1.2.1 x.2.2.1.2.2.1 x.2.2.2.1.1 x.2.2.2.1.2.1 x.2.2.2.1.2.2.1⟩)]
noncomputable def impl_Limits_next.f (k : Nat) (a0 : Int) (a1 : Int) (a2 : Int) (a3 : Int) (a4 : Int) (a5 : Int) : Option impl_Limits_next.N := (impl_within.f k a5 (wrap64 (0 - a0)) a0).bind fun t1 => (if (!t1) = true then some (0, 0, 0, false) else (impl_abs.f k (wrap64 (a5 - a4))).bind fun (t2 : Int) => (if (decide (a1 < t2)) = true then some (0, 0, 0, false) else (impl_Limits_next.cs k k) a5 a0 a1 a2 a3 a4 0 0 0))
noncomputable def impl_Limits_next.F (k : Nat) : Go.Rv.Fn := mkFn 3 impl_Limits_next.pc impl_Limits_next.pr (keepOf []) (fun (y : impl_Limits_next.N) => (((y.1, y.2.1, y.2.2.1, ()), (y.2.2.2, ()), ()) : compT impl_Limits_next.pr)) fun x => impl_Limits_next.f k x.1.1 x.1.2.1 x.2.1.1 x.2.1.2.1 x.2.1.2.2.1 x.2.2.1.1
theorem impl_Limits_next.env (k : Nat) : EnvOk Go.Proofs.Try.prog (fun f => (impl_Limits_next.E k).lookup f) := envOk_of ⟨entry Go.Proofs.Try.call34 rfl (impl_within.ok k), entry Go.Proofs.Try.call46 rfl (impl_abs.ok k), entry Go.Proofs.Try.call52 rfl (impl_Limits_isCourse.ok k), trivial⟩
theorem impl_Limits_next.cuts (k : Nat) : CutsOk Go.Proofs.Try.prog X (fun f => (impl_Limits_next.E k).lookup f) Go.Proofs.Try.f33 [] (decN impl_Limits_next.pr (fun (y : compT impl_Limits_next.pr) => ((y.1.1, y.1.2.1, y.1.2.2.1, y.2.1.1) : impl_Limits_next.N))) fun n => impl_Limits_next.CC (impl_Limits_next.cs k n) :=
  cutsOk_of (step := impl_Limits_next.step k) rfl (fun _ => rfl) ⟨fun _ => rfl, trivial⟩ (fun c => by kernel_rfl) fun c => ⟨fun x => by kernel_rfl, trivial⟩
theorem impl_Limits_next.ok (k : Nat) : FnOk Go.Proofs.Try.prog 33 (impl_Limits_next.F k) :=
  fn_ok tab (impl_Limits_next.env k) Go.Proofs.Try.func33 rfl (n := 3) (Nat.le_of_ble_eq_true rfl) (by kernel_rfl) (outs := []) (by kernel_rfl) (by kernel_rfl) (d := fun (y : compT impl_Limits_next.pr) => ((y.1.1, y.1.2.1, y.1.2.2.1, y.2.1.1) : impl_Limits_next.N)) (fun _ => rfl) (C := fun n => impl_Limits_next.CC (impl_Limits_next.cs k n)) (k := k) (impl_Limits_next.cuts k) fun x => by kernel_rfl
/-! impl.NextCourse -/
@[reducible] def impl_NextCourse.pc : CutP := [(0, some true, [.fl (.int .i64), .fl (.int .i64)]), (1, some true, [.fl (.int .i64), .fl (.int .i64), .fl (.int .i64)]), (2, some false, [.fl (.int .i64)])]
@[reducible] def impl_NextCourse.pr : CompPs := [(true, [.fl (.int .i64), .fl (.int .i64), .fl (.int .i64)]), (false, [.fl .bool])]
abbrev impl_NextCourse.N := Int × Int × Int × Bool
noncomputable def impl_NextCourse.E (k : Nat) : List (FuncId × Go.Rv.Fn) := [(32, impl_ValidCourse.F k), (33, impl_Limits_next.F k)]
noncomputable def impl_NextCourse.f (k : Nat) (a0 : Int) (a1 : Int) (a2 : Int) (a3 : Int) (a4 : Int) (a5 : Int) : Option impl_NextCourse.N := (impl_ValidCourse.f k a0 a1 a2 a3 a4).bind fun t1 => (if (!t1) = true then some (0, 0, 0, false) else (impl_Limits_next.f k a0 a1 a2 a3 a4 a5).bind fun t2 => some (t2.1, t2.2.1, t2.2.2.1, t2.2.2.2))
noncomputable def impl_NextCourse.F (k : Nat) : Go.Rv.Fn := mkFn 3 impl_NextCourse.pc impl_NextCourse.pr (keepOf []) (fun (y : impl_NextCourse.N) => (((y.1, y.2.1, y.2.2.1, ()), (y.2.2.2, ()), ()) : compT impl_NextCourse.pr)) fun x => impl_NextCourse.f k x.1.1 x.1.2.1 x.2.1.1 x.2.1.2.1 x.2.1.2.2.1 x.2.2.1.1
theorem impl_NextCourse.env (k : Nat) : EnvOk Go.Proofs.Try.prog (fun f => (impl_NextCourse.E k).lookup f) := envOk_of ⟨entry Go.Proofs.Try.call32 rfl (impl_ValidCourse.ok k), entry Go.Proofs.Try.call33 rfl (impl_Limits_next.ok k), trivial⟩
theorem impl_NextCourse.ok (k : Nat) : FnOk Go.Proofs.Try.prog 9 (impl_NextCourse.F k) :=
  fn_ok tab (impl_NextCourse.env k) Go.Proofs.Try.func9 rfl (n := 3) (Nat.le_of_ble_eq_true rfl) (by kernel_rfl) (outs := []) (by kernel_rfl) (by kernel_rfl) (d := fun (y : compT impl_NextCourse.pr) => ((y.1.1, y.1.2.1, y.1.2.2.1, y.2.1.1) : impl_NextCourse.N)) (fun _ => rfl) (C := fun _ => []) (k := k) noCuts fun x => by kernel_rfl
/-! (impl.Limits).turns -/
@[reducible] def impl_Limits_turns.pc : CutP := [(0, some true, [.fl (.int .i64), .fl (.int .i64)]), (1, some true, [.fl (.int .i64), .fl (.int .i64), .fl (.int .i64)])]
@[reducible] def impl_Limits_turns.pr : CompPs := [(false, [.fl (.own (.int .i64))])]
abbrev impl_Limits_turns.N := List Int
noncomputable def impl_Limits_turns.E (k : Nat) : List (FuncId × Go.Rv.Fn) := [(33, impl_Limits_next.F k)]
abbrev impl_Limits_turns.Cs := (Int → Int → Int → Int → Int → List Int → Int → Option impl_Limits_turns.N)
def impl_Limits_turns.zero : impl_Limits_turns.Cs := (fun _ _ _ _ _ _ _ => none)
noncomputable def impl_Limits_turns.step (k : Nat) (c : impl_Limits_turns.Cs) : impl_Limits_turns.Cs := (fun (x0 : Int) (x1 : Int) (x2 : Int) (x3 : Int) (x4 : Int) (x5 : List Int) (x6 : Int) => (if (decide (x6 ≤ x0)) = true then (impl_Limits_next.f k x0 x1 x2 x3 x4 x6).bind fun t1 => (if t1.2.2.2 = true then if x5.length + [x6].length < 1099511627776 then c x0 x1 x2 x3 x4 (x5 ++ [x6]) (wrap64 (x6 + 1)) else none else c x0 x1 x2 x3 x4 x5 (wrap64 (x6 + 1))) else some x5))
noncomputable def impl_Limits_turns.cs (k : Nat) : Nat → impl_Limits_turns.Cs
  | 0 => impl_Limits_turns.zero
  | n + 1 => impl_Limits_turns.step k (impl_Limits_turns.cs k n)
def impl_Limits_turns.CC (c : impl_Limits_turns.Cs) : Cuts impl_Limits_turns.N := [(8, ⟨[(2, none, [.fl (.int .i64), .fl (.int .i64)]), (3, none, [.fl (.int .i64), .fl (.int .i64), .fl (.int .i64)]), (5, some false, [.fl (.own (.int .i64))]), (6, some false, [.fl (.int .i64)])], fun x => c x.1.1 x.1.2.1 x.2.1.1 x.2.1.2.1 x.2.1.2.2.1 x.2.2.1.1 x.2.2.2.1.1⟩)]
noncomputable def impl_Limits_turns.f (k : Nat) (a0 : Int) (a1 : Int) (a2 : Int) (a3 : Int) (a4 : Int) : Option impl_Limits_turns.N := (impl_Limits_turns.cs k k) a0 a1 a2 a3 a4 ([] : List Int) (wrap64 (0 - a0))
noncomputable def impl_Limits_turns.F (k : Nat) : Go.Rv.Fn := mkFn 2 impl_Limits_turns.pc impl_Limits_turns.pr (keepOf []) (fun (y : impl_Limits_turns.N) => (((y, ()), ()) : compT impl_Limits_turns.pr)) fun x => impl_Limits_turns.f k x.1.1 x.1.2.1 x.2.1.1 x.2.1.2.1 x.2.1.2.2.1
theorem impl_Limits_turns.env (k : Nat) : EnvOk Go.Proofs.Try.prog (fun f => (impl_Limits_turns.E k).lookup f) := envOk_of ⟨entry Go.Proofs.Try.call33 rfl (impl_Limits_next.ok k), trivial⟩
theorem impl_Limits_turns.cuts (k : Nat) : CutsOk Go.Proofs.Try.prog X (fun f => (impl_Limits_turns.E k).lookup f) Go.Proofs.Try.f35 [] (decN impl_Limits_turns.pr (fun (y : compT impl_Limits_turns.pr) => (y.1.1 : impl_Limits_turns.N))) fun n => impl_Limits_turns.CC (impl_Limits_turns.cs k n) :=
  cutsOk_of (step := impl_Limits_turns.step k) rfl (fun _ => rfl) ⟨fun _ => rfl, trivial⟩ (fun c => by kernel_rfl) fun c => ⟨fun x => by kernel_rfl, trivial⟩
theorem impl_Limits_turns.ok (k : Nat) : FnOk Go.Proofs.Try.prog 35 (impl_Limits_turns.F k) :=
  fn_ok tab (impl_Limits_turns.env k) Go.Proofs.Try.func35 rfl (n := 2) (Nat.le_of_ble_eq_true rfl) (by kernel_rfl) (outs := []) (by kernel_rfl) (by kernel_rfl) (d := fun (y : compT impl_Limits_turns.pr) => (y.1.1 : impl_Limits_turns.N)) (fun _ => rfl) (C := fun n => impl_Limits_turns.CC (impl_Limits_turns.cs k n)) (k := k) (impl_Limits_turns.cuts k) fun x => by kernel_rfl
/-! slices.Sort[[]int64,int64] -/
@[reducible] def slices_Sort_int64.pc : CutP := [(0, some false, [.fl (.own (.int .i64))])]
@[reducible] def slices_Sort_int64.pr : CompPs := [(false, [.fl (.own (.int .i64))])]
abbrev slices_Sort_int64.N := List Int
noncomputable def slices_Sort_int64.E (k : Nat) : List (FuncId × Go.Rv.Fn) := []
noncomputable def slices_Sort_int64.f (k : Nat) (a0 : List Int) : Option slices_Sort_int64.N := Go.Rv.sortF a0
noncomputable def slices_Sort_int64.F (k : Nat) : Go.Rv.Fn := mkFn 1 slices_Sort_int64.pc slices_Sort_int64.pr (keepOf [(0, 1)]) (fun (y : slices_Sort_int64.N) => (((y, ()), ()) : compT slices_Sort_int64.pr)) fun x => slices_Sort_int64.f k x.1.1
theorem slices_Sort_int64.ok (k : Nat) : FnOk Go.Proofs.Try.prog 36 (slices_Sort_int64.F k) := Go.Rv.sort_fn Sh.sort_36 Sh.sort0_36
/-! slices.Compact[[]int64,int64] -/
@[reducible] def slices_Compact_int64.pc : CutP := [(0, some false, [.fl (.own (.int .i64))])]
@[reducible] def slices_Compact_int64.pr : CompPs := [(false, [.fl (.own (.int .i64))]), (false, [.fl .dead])]
abbrev slices_Compact_int64.N := List Int
noncomputable def slices_Compact_int64.E (k : Nat) : List (FuncId × Go.Rv.Fn) := []
noncomputable def slices_Compact_int64.f (k : Nat) (a0 : List Int) : Option slices_Compact_int64.N := Go.Rv.compactF a0
noncomputable def slices_Compact_int64.F (k : Nat) : Go.Rv.Fn := mkFn 1 slices_Compact_int64.pc slices_Compact_int64.pr (keepOf [(0, 1)]) (fun (y : slices_Compact_int64.N) => (((y, ()), ((), ()), ()) : compT slices_Compact_int64.pr)) fun x => slices_Compact_int64.f k x.1.1
theorem slices_Compact_int64.ok (k : Nat) : FnOk Go.Proofs.Try.prog 37 (slices_Compact_int64.F k) := Go.Rv.compact_fn Sh.compact_37 Sh.compact0_37
/-! impl.OffsetsAfter -/
@[reducible] def impl_OffsetsAfter.pc : CutP := [(0, some true, [.fl (.int .i64), .fl (.int .i64)]), (1, some true, [.fl (.int .i64), .fl (.int .i64), .fl (.int .i64)]), (2, some false, [.fl (.int .i64)]), (3, some false, [.fl (.int .i64)])]
@[reducible] def impl_OffsetsAfter.pr : CompPs := [(false, [.fl (.own (.int .i64))]), (false, [.fl .bool])]
abbrev impl_OffsetsAfter.N := List Int × Bool
noncomputable def impl_OffsetsAfter.E (k : Nat) : List (FuncId × Go.Rv.Fn) := [(32, impl_ValidCourse.F k), (33, impl_Limits_next.F k), (34, impl_within.F k), (35, impl_Limits_turns.F k), (36, slices_Sort_int64.F k), (37, slices_Compact_int64.F k)]
abbrev impl_OffsetsAfter.Cs := (Int → Int → Int → Int → Int → Int → Int → Option impl_OffsetsAfter.N) × (Int → Int → Int → List ((Int × Int × Int) × Bool) → Int → Int → Option impl_OffsetsAfter.N) × (Int → Int → Int → List ((Int × Int × Int) × Bool) → Int → Int → List ((Int × Int × Int) × Bool) → Option impl_OffsetsAfter.N) × (Int → Int → Int → List ((Int × Int × Int) × Bool) → Int → Int → Int → Int → Int → List ((Int × Int × Int) × Bool) → List Int → Int → Int → Option impl_OffsetsAfter.N) × (Int → List Int → List ((Int × Int × Int) × Bool) → Option impl_OffsetsAfter.N)
def impl_OffsetsAfter.zero : impl_OffsetsAfter.Cs := (fun _ _ _ _ _ _ _ => none, fun _ _ _ _ _ _ => none, fun _ _ _ _ _ _ _ => none, fun _ _ _ _ _ _ _ _ _ _ _ _ _ => none, fun _ _ _ => none)
noncomputable def impl_OffsetsAfter.step (k : Nat) (c : impl_OffsetsAfter.Cs) : impl_OffsetsAfter.Cs := (fun (x0 : Int) (x1 : Int) (x2 : Int) (x3 : Int) (x4 : Int) (x5 : Int) (x6 : Int) => (if kwf (.pair (.int .i64) (.pair (.int .i64) (.int .i64))) (x4, (x5, x6)) = true then c.2.1 x1 x2 x3 (mput (x4, (x5, x6)) true ([] : List ((Int × Int × Int) × Bool))) x0 0 else none),
  fun (x0 : Int) (x1 : Int) (x2 : Int) (x3 : List ((Int × Int × Int) × Bool)) (x4 : Int) (x5 : Int) => (if (decide (x5 < x4)) = true then c.2.2.1 x0 x1 x2 ([] : List ((Int × Int × Int) × Bool)) x4 x5 x3 else c.2.2.2.2 x0 ([] : List Int) x3),
  fun (x0 : Int) (x1 : Int) (x2 : Int) (x3 : List ((Int × Int × Int) × Bool)) (x4 : Int) (x5 : Int) (x6 : List ((Int × Int × Int) × Bool)) => nextL x6 (c.2.1 x0 x1 x2 x3 x4 (wrap64 (x5 + 1))) (fun t3 => (impl_Limits_turns.f k x1 x2 t3.1.1.1 t3.1.1.2.1 t3.1.1.2.2).bind fun t4 => c.2.2.2.1 x0 x1 x2 x3 t3.1.1.1 t3.1.1.2.1 t3.1.1.2.2 x4 x5 t3.2 t4 (t4.length : Int) 0),
  fun (x0 : Int) (x1 : Int) (x2 : Int) (x3 : List ((Int × Int × Int) × Bool)) (x4 : Int) (x5 : Int) (x6 : Int) (x7 : Int) (x8 : Int) (x9 : List ((Int × Int × Int) × Bool)) (x10 : List Int) (x11 : Int) (x12 : Int) => (if (decide (x12 < x11)) = true then if 0 ≤ x12 then if x12 < (x10.length : Int) then (impl_Limits_next.f k x1 x2 x4 x5 x6 (rd 0 x10 x12)).bind fun t8 => (if kwf (.pair (.int .i64) (.pair (.int .i64) (.int .i64))) (t8.1, (t8.2.1, t8.2.2.1)) = true then c.2.2.2.1 x0 x1 x2 (mput (t8.1, (t8.2.1, t8.2.2.1)) true x3) x4 x5 x6 x7 x8 x9 x10 x11 (wrap64 (x12 + 1)) else none) else none else none else c.2.2.1 x0 x1 x2 x3 x7 x8 x9),
  fun (x0 : Int) (x1 : List Int) (x2 : List ((Int × Int × Int) × Bool)) => nextL x2 ((slices_Sort_int64.f k x1).bind fun t6 => (slices_Compact_int64.f k t6).bind fun t7 => some (t7, true)) (fun t5 => (if (decide (t5.1.1.2.1 = x0)) = true then if x1.length + [t5.1.1.1].length < 1099511627776 then c.2.2.2.2 x0 (x1 ++ [t5.1.1.1]) t5.2 else none else c.2.2.2.2 x0 x1 t5.2)))
noncomputable def impl_OffsetsAfter.cs (k : Nat) : Nat → impl_OffsetsAfter.Cs
  | 0 => impl_OffsetsAfter.zero
  | n + 1 => impl_OffsetsAfter.step k (impl_OffsetsAfter.cs k n)
def impl_OffsetsAfter.CC (c : impl_OffsetsAfter.Cs) : Cuts impl_OffsetsAfter.N := [(2, ⟨[(2, some false, [.fl (.int .i64)]), (3, some false, [.fl (.int .i64)]), (4, none, [.fl (.int .i64), .fl (.int .i64)]), (5, none, [.fl (.int .i64), .fl (.int .i64), .fl (.int .i64)])], fun x => c.1 x.1.1 x.2.1.1 x.2.2.1.1 x.2.2.1.2.1 x.2.2.2.1.1 x.2.2.2.1.2.1 x.2.2.2.1.2.2.1⟩),
  (16, ⟨[(3, some false, [.fl (.int .i64)]), (4, none, [.fl (.int .i64), .fl (.int .i64)]), (10, none, [.mp (.pair (.int .i64) (.pair (.int .i64) (.int .i64))) .bool]), (31, some false, [.fl (.int .i64)]), (32, some false, [.fl (.int .i64)])], fun x => c.2.1 x.1.1 x.2.1.1 x.2.1.2.1 x.2.2.1.1 x.2.2.2.1.1 x.2.2.2.2.1.1⟩),
  (31, ⟨[(3, some false, [.fl (.int .i64)]), (4, none, [.fl (.int .i64), .fl (.int .i64)]), (11, none, [.mp (.pair (.int .i64) (.pair (.int .i64) (.int .i64))) .bool]), (31, some false, [.fl (.int .i64)]), (32, some false, [.fl (.int .i64)]), (36, some true, [.mp (.pair (.int .i64) (.pair (.int .i64) (.int .i64))) .bool])], fun x => c.2.2.1 x.1.1 x.2.1.1 x.2.1.2.1 x.2.2.1.1 x.2.2.2.1.1 x.2.2.2.2.1.1 x.2.2.2.2.2.1.1⟩),
  (44, ⟨[(3, some false, [.fl (.int .i64)]), (4, none, [.fl (.int .i64), .fl (.int .i64)]), (11, none, [.mp (.pair (.int .i64) (.pair (.int .i64) (.int .i64))) .bool]), (12, none, [.fl (.int .i64), .fl (.int .i64), .fl (.int .i64)]), (31, some false, [.fl (.int .i64)]), (32, some false, [.fl (.int .i64)]), (36, some true, [.mp (.pair (.int .i64) (.pair (.int .i64) (.int .i64))) .bool]), (43, some false, [.fl (.own (.int .i64))]), (44, some false, [.fl (.int .i64)]), (45, some false, [.fl (.int .i64)])], fun x => c.2.2.2.1 x.1.1 x.2.1.1 x.2.1.2.1 x.2.2.1.1 x.2.2.2.1.1 x.2.2.2.1.2.1 x.2.2.2.1.2.2.1 x.2.2.2.2.1.1 x.2.2.2.2.2.1.1 x.2.2.2.2.2.2.1.1 x.2.2.2.2.2.2.2.1.1 x.2.2.2.2.2.2.2.2.1.1 x.2.2.2.2.2.2.2.2.2.1.1⟩),
  (67, ⟨[(3, some false, [.fl (.int .i64)]), (17, some false, [.fl (.own (.int .i64))]), (63, some true, [.mp (.pair (.int .i64) (.pair (.int .i64) (.int .i64))) .bool])], fun x => c.2.2.2.2 x.1.1 x.2.1.1 x.2.2.1.1⟩)]
noncomputable def impl_OffsetsAfter.f (k : Nat) (a0 : Int) (a1 : Int) (a2 : Int) (a3 : Int) (a4 : Int) (a5 : Int) (a6 : Int) : Option impl_OffsetsAfter.N := (impl_ValidCourse.f k a0 a1 a2 a3 a4).bind fun t1 => (if (!t1) = true then some ([], false) else (impl_within.f k a5 0 8).bind fun t2 => (if (!t2) = true then some ([], false) else (impl_OffsetsAfter.cs k k).1 a5 a6 a0 a1 a2 a3 a4))
noncomputable def impl_OffsetsAfter.F (k : Nat) : Go.Rv.Fn := mkFn 4 impl_OffsetsAfter.pc impl_OffsetsAfter.pr (keepOf []) (fun (y : impl_OffsetsAfter.N) => (((y.1, ()), (y.2, ()), ()) : compT impl_OffsetsAfter.pr)) fun x => impl_OffsetsAfter.f k x.1.1 x.1.2.1 x.2.1.1 x.2.1.2.1 x.2.1.2.2.1 x.2.2.1.1 x.2.2.2.1.1
theorem impl_OffsetsAfter.env (k : Nat) : EnvOk Go.Proofs.Try.prog (fun f => (impl_OffsetsAfter.E k).lookup f) := envOk_of ⟨entry Go.Proofs.Try.call32 rfl (impl_ValidCourse.ok k), entry Go.Proofs.Try.call33 rfl (impl_Limits_next.ok k), entry Go.Proofs.Try.call34 rfl (impl_within.ok k), entry Go.Proofs.Try.call35 rfl (impl_Limits_turns.ok k), entry Go.Proofs.Try.call36 rfl (slices_Sort_int64.ok k), entry Go.Proofs.Try.call37 rfl (slices_Compact_int64.ok k), trivial⟩
theorem impl_OffsetsAfter.cuts (k : Nat) : CutsOk Go.Proofs.Try.prog X (fun f => (impl_OffsetsAfter.E k).lookup f) Go.Proofs.Try.f11 [] (decN impl_OffsetsAfter.pr (fun (y : compT impl_OffsetsAfter.pr) => ((y.1.1, y.2.1.1) : impl_OffsetsAfter.N))) fun n => impl_OffsetsAfter.CC (impl_OffsetsAfter.cs k n) :=
  cutsOk_of (step := impl_OffsetsAfter.step k) rfl (fun _ => rfl) ⟨fun _ => rfl, fun _ => rfl, fun _ => rfl, fun _ => rfl, fun _ => rfl, trivial⟩ (fun c => by kernel_rfl) fun c => ⟨fun x => by kernel_rfl, fun x => by kernel_rfl, fun x => by kernel_rfl, fun x => by kernel_rfl, fun x => by kernel_rfl, trivial⟩
theorem impl_OffsetsAfter.ok (k : Nat) : FnOk Go.Proofs.Try.prog 11 (impl_OffsetsAfter.F k) :=
  fn_ok tab (impl_OffsetsAfter.env k) Go.Proofs.Try.func11 rfl (n := 4) (Nat.le_of_ble_eq_true rfl) (by kernel_rfl) (outs := []) (by kernel_rfl) (by kernel_rfl) (d := fun (y : compT impl_OffsetsAfter.pr) => ((y.1.1, y.2.1.1) : impl_OffsetsAfter.N)) (fun _ => rfl) (C := fun n => impl_OffsetsAfter.CC (impl_OffsetsAfter.cs k n)) (k := k) (impl_OffsetsAfter.cuts k) fun x => by kernel_rfl
/-! laws.b10Has -/
@[reducible] def laws_b10Has.pc : CutP := [(0, some false, [.fl (.lo (.int .i64))]), (1, some false, [.fl (.int .i64)])]
@[reducible] def laws_b10Has.pr : CompPs := [(false, [.fl .bool])]
abbrev laws_b10Has.N := Bool
noncomputable def laws_b10Has.E (k : Nat) : List (FuncId × Go.Rv.Fn) := []
abbrev laws_b10Has.Cs := (List Int → Int → Int → Option laws_b10Has.N)
def laws_b10Has.zero : laws_b10Has.Cs := (fun _ _ _ => none)
noncomputable def laws_b10Has.step (k : Nat) (c : laws_b10Has.Cs) : laws_b10Has.Cs := (fun (x0 : List Int) (x1 : Int) (x2 : Int) => (if (decide (x2 < (x0.length : Int))) = true then if 0 ≤ x2 then if x2 < (x0.length : Int) then (if (decide ((rd 0 x0 x2) = x1)) = true then some true else c x0 x1 (wrap64 (x2 + 1))) else none else none else some false))
noncomputable def laws_b10Has.cs (k : Nat) : Nat → laws_b10Has.Cs
  | 0 => laws_b10Has.zero
  | n + 1 => laws_b10Has.step k (laws_b10Has.cs k n)
def laws_b10Has.CC (c : laws_b10Has.Cs) : Cuts laws_b10Has.N := [(6, ⟨[(0, some false, [.fl (.lo (.int .i64))]), (1, some false, [.fl (.int .i64)]), (5, some false, [.fl (.int .i64)])], fun x => c x.1.1 x.2.1.1 x.2.2.1.1⟩)]
noncomputable def laws_b10Has.f (k : Nat) (a0 : List Int) (a1 : Int) : Option laws_b10Has.N := (laws_b10Has.cs k k) a0 a1 0
noncomputable def laws_b10Has.F (k : Nat) : Go.Rv.Fn := mkFn 2 laws_b10Has.pc laws_b10Has.pr (keepOf []) (fun (y : laws_b10Has.N) => (((y, ()), ()) : compT laws_b10Has.pr)) fun x => laws_b10Has.f k x.1.1 x.2.1.1
theorem laws_b10Has.env (k : Nat) : EnvOk Go.Proofs.Try.prog (fun f => (laws_b10Has.E k).lookup f) := envOk_of trivial
theorem laws_b10Has.cuts (k : Nat) : CutsOk Go.Proofs.Try.prog X (fun f => (laws_b10Has.E k).lookup f) Go.Proofs.Try.f12 [] (decN laws_b10Has.pr (fun (y : compT laws_b10Has.pr) => (y.1.1 : laws_b10Has.N))) fun n => laws_b10Has.CC (laws_b10Has.cs k n) :=
  cutsOk_of (step := laws_b10Has.step k) rfl (fun _ => rfl) ⟨fun _ => rfl, trivial⟩ (fun c => by kernel_rfl) fun c => ⟨fun x => by kernel_rfl, trivial⟩
theorem laws_b10Has.ok (k : Nat) : FnOk Go.Proofs.Try.prog 12 (laws_b10Has.F k) :=
  fn_ok tab (laws_b10Has.env k) Go.Proofs.Try.func12 rfl (n := 2) (Nat.le_of_ble_eq_true rfl) (by kernel_rfl) (outs := []) (by kernel_rfl) (by kernel_rfl) (d := fun (y : compT laws_b10Has.pr) => (y.1.1 : laws_b10Has.N)) (fun _ => rfl) (C := fun n => laws_b10Has.CC (laws_b10Has.cs k n)) (k := k) (laws_b10Has.cuts k) fun x => by kernel_rfl
/-! (impl.Limits).distances -/
@[reducible] def impl_Limits_distances.pc : CutP := [(0, some true, [.fl (.int .i64), .fl (.int .i64)])]
@[reducible] def impl_Limits_distances.pr : CompPs := []
abbrev impl_Limits_distances.N := List ((Int × Int × Int) × Int)
noncomputable def impl_Limits_distances.E (k : Nat) : List (FuncId × Go.Rv.Fn) := [(33, impl_Limits_next.F k), (52, impl_Limits_isCourse.F k)]
abbrev impl_Limits_distances.Cs := (Int → Int → List ((Int × Int × Int) × Int) → List (Int × Int × Int) → Int → Option impl_Limits_distances.N) × (Int → Int → List ((Int × Int × Int) × Int) → List (Int × Int × Int) → Int → List (Int × Int × Int) → List (Int × Int × Int) → Int → Int → Option impl_Limits_distances.N) × (Int → Int → List ((Int × Int × Int) × Int) → List (Int × Int × Int) → Int → List (Int × Int × Int) → Int → Int → Int → Int → List (Int × Int × Int) → Int → Int → Option impl_Limits_distances.N) × (Int → Int → List ((Int × Int × Int) × Int) → List (Int × Int × Int) → Int → List (Int × Int × Int) → Int → Int → Int → Int → Int → Int → Int → List (Int × Int × Int) → Int → Int → Option impl_Limits_distances.N)
def impl_Limits_distances.zero : impl_Limits_distances.Cs := (fun _ _ _ _ _ => none, fun _ _ _ _ _ _ _ _ _ => none, fun _ _ _ _ _ _ _ _ _ _ _ _ _ => none, fun _ _ _ _ _ _ _ _ _ _ _ _ _ _ _ _ => none)
noncomputable def impl_Limits_distances.step (k : Nat) (c : impl_Limits_distances.Cs) : impl_Limits_distances.Cs := (fun (x0 : Int) (x1 : Int) (x2 : List ((Int × Int × Int) × Int)) (x3 : List (Int × Int × Int)) (x4 : Int) => (if (decide (x4 ≤ 40)) = true then c.2.1 x0 x1 x2 x3 x4 ([] : List (Int × Int × Int)) x3 (x3.length : Int) 0 else some x2),
  fun (x0 : Int) (x1 : Int) (x2 : List ((Int × Int × Int) × Int)) (x3 : List (Int × Int × Int)) (x4 : Int) (x5 : List (Int × Int × Int)) (x6 : List (Int × Int × Int)) (x7 : Int) (x8 : Int) => (if (decide (x8 < x7)) = true then if 0 ≤ x8 then if x8 < (x6.length : Int) then c.2.2.1 x0 x1 x2 x3 x4 x5 ((rd (0, (0, 0)) x6 x8).1) (((rd (0, (0, 0)) x6 x8).2).1) (((rd (0, (0, 0)) x6 x8).2).2) (wrap64 (0 - x0)) x6 x7 x8 else none else none else c.1 x0 x1 x2 x5 (wrap64 (x4 + 1))),
  fun (x0 : Int) (x1 : Int) (x2 : List ((Int × Int × Int) × Int)) (x3 : List (Int × Int × Int)) (x4 : Int) (x5 : List (Int × Int × Int)) (x6 : Int) (x7 : Int) (x8 : Int) (x9 : Int) (x10 : List (Int × Int × Int)) (x11 : Int) (x12 : Int) => (if (decide (x9 ≤ x0)) = true then (impl_Limits_next.f k x0 x1 (wrap64 (x6 - (wrap64 (x7 - x8)))) (wrap64 (x7 - x8)) x9 x8).bind fun t1 => (impl_Limits_isCourse.f k x0 x1 (wrap64 (x6 - (wrap64 (x7 - x8)))) (wrap64 (x7 - x8)) x9).bind fun t2 => (if (!t2) = true then c.2.2.1 x0 x1 x2 x3 x4 x5 x6 x7 x8 (wrap64 (x9 + 1)) x10 x11 x12 else (if (!t1.2.2.2) = true then c.2.2.1 x0 x1 x2 x3 x4 x5 x6 x7 x8 (wrap64 (x9 + 1)) x10 x11 x12 else (if (!(decide (t1.1 = x6) && (decide (t1.2.1 = x7) && (decide (t1.2.2.1 = x8) && true)))) = true then c.2.2.1 x0 x1 x2 x3 x4 x5 x6 x7 x8 (wrap64 (x9 + 1)) x10 x11 x12 else c.2.2.2 x0 x1 x2 x3 x4 x5 x6 x7 x8 x9 (wrap64 (x6 - (wrap64 (x7 - x8)))) (wrap64 (x7 - x8)) x9 x10 x11 x12))) else c.2.1 x0 x1 x2 x3 x4 x5 x10 x11 (wrap64 (x12 + 1))),
  fun (x0 : Int) (x1 : Int) (x2 : List ((Int × Int × Int) × Int)) (x3 : List (Int × Int × Int)) (x4 : Int) (x5 : List (Int × Int × Int)) (x6 : Int) (x7 : Int) (x8 : Int) (x9 : Int) (x10 : Int) (x11 : Int) (x12 : Int) (x13 : List (Int × Int × Int)) (x14 : Int) (x15 : Int) => (if kwf (.pair (.int .i64) (.pair (.int .i64) (.int .i64))) (x10, (x11, x12)) = true then (if (!((mget (x10, (x11, x12)) x2).isSome)) = true then (if kwf (.pair (.int .i64) (.pair (.int .i64) (.int .i64))) (x10, (x11, x12)) = true then if x5.length + [(x10, (x11, x12))].length < 366503875925 then c.2.2.1 x0 x1 (mput (x10, (x11, x12)) x4 x2) x3 x4 (x5 ++ [(x10, (x11, x12))]) x6 x7 x8 (wrap64 (x9 + 1)) x13 x14 x15 else none else none) else c.2.2.1 x0 x1 x2 x3 x4 x5 x6 x7 x8 (wrap64 (x9 + 1)) x13 x14 x15) else none))
noncomputable def impl_Limits_distances.cs (k : Nat) : Nat → impl_Limits_distances.Cs
  | 0 => impl_Limits_distances.zero
  | n + 1 => impl_Limits_distances.step k (impl_Limits_distances.cs k n)
def impl_Limits_distances.CC (c : impl_Limits_distances.Cs) : Cuts impl_Limits_distances.N := [(8, ⟨[(1, none, [.fl (.int .i64), .fl (.int .i64)]), (3, none, [.mp (.pair (.int .i64) (.pair (.int .i64) (.int .i64))) (.int .i64)]), (4, some false, [.fl (.own (.pair (.int .i64) (.pair (.int .i64) (.int .i64))))]), (5, some false, [.fl (.int .i64)])], fun x => c.1 x.1.1 x.1.2.1 x.2.1.1 x.2.2.1.1 x.2.2.2.1.1⟩),
  (23, ⟨[(1, none, [.fl (.int .i64), .fl (.int .i64)]), (3, none, [.mp (.pair (.int .i64) (.pair (.int .i64) (.int .i64))) (.int .i64)]), (4, some false, [.fl (.own (.pair (.int .i64) (.pair (.int .i64) (.int .i64))))]), (5, some false, [.fl (.int .i64)]), (6, some false, [.fl (.own (.pair (.int .i64) (.pair (.int .i64) (.int .i64))))]), (25, some false, [.fl (.ref 4 1 (.pair (.int .i64) (.pair (.int .i64) (.int .i64))))]), (26, some false, [.fl (.int .i64)]), (27, some false, [.fl (.int .i64)])], fun x => c.2.1 x.1.1 x.1.2.1 x.2.1.1 x.2.2.1.1 x.2.2.2.1.1 x.2.2.2.2.1.1 x.2.2.2.2.2.1.1 x.2.2.2.2.2.2.1.1 x.2.2.2.2.2.2.2.1.1⟩),
  (37, ⟨[(1, none, [.fl (.int .i64), .fl (.int .i64)]), (3, none, [.mp (.pair (.int .i64) (.pair (.int .i64) (.int .i64))) (.int .i64)]), (4, some false, [.fl (.own (.pair (.int .i64) (.pair (.int .i64) (.int .i64))))]), (5, some false, [.fl (.int .i64)]), (6, some false, [.fl (.own (.pair (.int .i64) (.pair (.int .i64) (.int .i64))))]), (8, none, [.fl (.int .i64), .fl (.int .i64), .fl (.int .i64)]), (9, some false, [.fl (.int .i64)]), (25, some false, [.fl (.ref 4 1 (.pair (.int .i64) (.pair (.int .i64) (.int .i64))))]), (26, some false, [.fl (.int .i64)]), (27, some false, [.fl (.int .i64)])], fun x => c.2.2.1 x.1.1 x.1.2.1 x.2.1.1 x.2.2.1.1 x.2.2.2.1.1 x.2.2.2.2.1.1 x.2.2.2.2.2.1.1 x.2.2.2.2.2.1.2.1 x.2.2.2.2.2.1.2.2.1 x.2.2.2.2.2.2.1.1 x.2.2.2.2.2.2.2.1.1 x.2.2.2.2.2.2.2.2.1.1 x.2.2.2.2.2.2.2.2.2.1.1⟩),
  (48, ⟨[(1, none, [.fl (.int .i64), .fl (.int .i64)]), (3, none, [.mp (.pair (.int .i64) (.pair (.int .i64) (.int .i64))) (.int .i64)]), (4, some false, [.fl (.own (.pair (.int .i64) (.pair (.int .i64) (.int .i64))))]), (5, some false, [.fl (.int .i64)]), (6, some false, [.fl (.own (.pair (.int .i64) (.pair (.int .i64) (.int .i64))))]), (8, none, [.fl (.int .i64), .fl (.int .i64), .fl (.int .i64)]), (9, some false, [.fl (.int .i64)]), (10, none, [.fl (.int .i64), .fl (.int .i64), .fl (.int .i64)]), (25, some false, [.fl (.ref 4 1 (.pair (.int .i64) (.pair (.int .i64) (.int .i64))))]), (26, some false, [.fl (.int .i64)]), (27, some false, [.fl (.int .i64)])], fun x => c.2.2.2 x.1.1 x.1.2.1 x.2.1.1 x.2.2.1.1 x.2.2.2.1.1 x.2.2.2.2.1.1 x.2.2.2.2.2.1.1 x.2.2.2.2.2.1.2.1 x.2.2.2.2.2.1.2.2.1 x.2.2.2.2.2.2.1.1 x.2.2.2.2.2.2.2.1.1 x.2.2.2.2.2.2.2.1.2.1 x.2.2.2.2.2.2.2.1.2.2.1 x.2.2.2.2.2.2.2.2.1.1 x.2.2.2.2.2.2.2.2.2.1.1 x.2.2.2.2.2.2.2.2.2.2.1.1⟩)]
noncomputable def impl_Limits_distances.f (k : Nat) (a0 : Int) (a1 : Int) : Option impl_Limits_distances.N := (if kwf (.pair (.int .i64) (.pair (.int .i64) (.int .i64))) (0, (0, 0)) = true then (impl_Limits_distances.cs k k).1 a0 a1 (mput (0, (0, 0)) 0 ([] : List ((Int × Int × Int) × Int))) [(0, (0, 0))] 1 else none)
noncomputable def impl_Limits_distances.F (k : Nat) : Go.Rv.Fn := mkFnM 1 impl_Limits_distances.pc (.pair (.int .i64) (.pair (.int .i64) (.int .i64))) (.int .i64) (fun (y : impl_Limits_distances.N) => (y : List (Den (.pair (.int .i64) (.pair (.int .i64) (.int .i64))) × Den (.int .i64)))) fun x => impl_Limits_distances.f k x.1.1 x.1.2.1
theorem impl_Limits_distances.env (k : Nat) : EnvOk Go.Proofs.Try.prog (fun f => (impl_Limits_distances.E k).lookup f) := envOk_of ⟨entry Go.Proofs.Try.call33 rfl (impl_Limits_next.ok k), entry Go.Proofs.Try.call52 rfl (impl_Limits_isCourse.ok k), trivial⟩
theorem impl_Limits_distances.cuts (k : Nat) : CutsOkG Go.Proofs.Try.prog { X with n := Go.Proofs.Try.f38.ntmps, keep := [] } (fun f => (impl_Limits_distances.E k).lookup f) Go.Proofs.Try.f38 (endM Go.Proofs.Try.f38 (.pair (.int .i64) (.pair (.int .i64) (.int .i64))) (.int .i64) (fun (y : List (Den (.pair (.int .i64) (.pair (.int .i64) (.int .i64))) × Den (.int .i64))) => (y : impl_Limits_distances.N))) fun n => impl_Limits_distances.CC (impl_Limits_distances.cs k n) :=
  cutsOkG_of (step := impl_Limits_distances.step k) rfl (fun _ => rfl) ⟨fun _ => rfl, fun _ => rfl, fun _ => rfl, fun _ => rfl, trivial⟩ (fun c => by kernel_rfl) fun c => ⟨fun x => by kernel_rfl, fun x => by kernel_rfl, fun x => by kernel_rfl, fun x => by kernel_rfl, trivial⟩
theorem impl_Limits_distances.ok (k : Nat) : FnOk Go.Proofs.Try.prog 38 (impl_Limits_distances.F k) :=
  fn_okM tab (impl_Limits_distances.env k) Go.Proofs.Try.func38 rfl (n := 1) (Nat.le_of_ble_eq_true rfl) (by kernel_rfl) (d := fun (y : List (Den (.pair (.int .i64) (.pair (.int .i64) (.int .i64))) × Den (.int .i64))) => (y : impl_Limits_distances.N)) (fun _ => rfl) (C := (fun n => impl_Limits_distances.CC (impl_Limits_distances.cs k n))) (m := k) (impl_Limits_distances.cuts k) fun x => by kernel_rfl
/-! impl.StepsHome -/
@[reducible] def impl_StepsHome.pc : CutP := [(0, some true, [.fl (.int .i64), .fl (.int .i64)]), (1, some true, [.fl (.int .i64), .fl (.int .i64), .fl (.int .i64)])]
@[reducible] def impl_StepsHome.pr : CompPs := [(false, [.fl (.int .i64)]), (false, [.fl .bool])]
abbrev impl_StepsHome.N := Int × Bool
noncomputable def impl_StepsHome.E (k : Nat) : List (FuncId × Go.Rv.Fn) := [(32, impl_ValidCourse.F k), (38, impl_Limits_distances.F k)]
noncomputable def impl_StepsHome.f (k : Nat) (a0 : Int) (a1 : Int) (a2 : Int) (a3 : Int) (a4 : Int) : Option impl_StepsHome.N := (impl_ValidCourse.f k a0 a1 a2 a3 a4).bind fun t1 => (if (!t1) = true then some (0, false) else (impl_Limits_distances.f k a0 a1).bind fun t2 => (if kwf (.pair (.int .i64) (.pair (.int .i64) (.int .i64))) (a2, (a3, a4)) = true then some (((mget (a2, (a3, a4)) t2).getD 0), (mget (a2, (a3, a4)) t2).isSome) else none))
noncomputable def impl_StepsHome.F (k : Nat) : Go.Rv.Fn := mkFn 2 impl_StepsHome.pc impl_StepsHome.pr (keepOf []) (fun (y : impl_StepsHome.N) => (((y.1, ()), (y.2, ()), ()) : compT impl_StepsHome.pr)) fun x => impl_StepsHome.f k x.1.1 x.1.2.1 x.2.1.1 x.2.1.2.1 x.2.1.2.2.1
theorem impl_StepsHome.env (k : Nat) : EnvOk Go.Proofs.Try.prog (fun f => (impl_StepsHome.E k).lookup f) := envOk_of ⟨entry Go.Proofs.Try.call32 rfl (impl_ValidCourse.ok k), entry Go.Proofs.Try.call38 rfl (impl_Limits_distances.ok k), trivial⟩
theorem impl_StepsHome.ok (k : Nat) : FnOk Go.Proofs.Try.prog 13 (impl_StepsHome.F k) :=
  fn_ok tab (impl_StepsHome.env k) Go.Proofs.Try.func13 rfl (n := 2) (Nat.le_of_ble_eq_true rfl) (by kernel_rfl) (outs := []) (by kernel_rfl) (by kernel_rfl) (d := fun (y : compT impl_StepsHome.pr) => ((y.1.1, y.2.1.1) : impl_StepsHome.N)) (fun _ => rfl) (C := fun _ => []) (k := k) noCuts fun x => by kernel_rfl
/-! impl.SmoothestHome -/
@[reducible] def impl_SmoothestHome.pc : CutP := [(0, some true, [.fl (.int .i64), .fl (.int .i64)]), (1, some true, [.fl (.int .i64), .fl (.int .i64), .fl (.int .i64)]), (2, some false, [.fl (.int .i64)])]
@[reducible] def impl_SmoothestHome.pr : CompPs := [(false, [.fl (.own (.int .i64))]), (false, [.fl (.int .i64)]), (false, [.fl .bool])]
abbrev impl_SmoothestHome.N := List Int × Int × Bool
noncomputable def impl_SmoothestHome.E (k : Nat) : List (FuncId × Go.Rv.Fn) := []
noncomputable def impl_SmoothestHome.f (k : Nat) (a0 : Int) (a1 : Int) (a2 : Int) (a3 : Int) (a4 : Int) (a5 : Int) : Option impl_SmoothestHome.N := T.smoothF a0 a1 a2 a3 a4 a5
noncomputable def impl_SmoothestHome.F (k : Nat) : Go.Rv.Fn := mkFn 3 impl_SmoothestHome.pc impl_SmoothestHome.pr (keepOf []) (fun (y : impl_SmoothestHome.N) => (((y.1, ()), (y.2.1, ()), (y.2.2, ()), ()) : compT impl_SmoothestHome.pr)) fun x => impl_SmoothestHome.f k x.1.1 x.1.2.1 x.2.1.1 x.2.1.2.1 x.2.1.2.2.1 x.2.2.1.1
theorem impl_SmoothestHome.ok (k : Nat) : FnOk Go.Proofs.Try.prog 14 (impl_SmoothestHome.F k) := T.smooth_fn
/-! (impl.Limits).plan -/
@[reducible] def impl_Limits_plan.pc : CutP := [(0, some true, [.fl (.int .i64), .fl (.int .i64)]), (1, some true, [.fl (.int .i64), .fl (.int .i64), .fl (.int .i64)])]
@[reducible] def impl_Limits_plan.pr : CompPs := [(false, [.fl (.own (.int .i64))]), (false, [.fl .bool])]
abbrev impl_Limits_plan.N := List Int × Bool
noncomputable def impl_Limits_plan.E (k : Nat) : List (FuncId × Go.Rv.Fn) := [(33, impl_Limits_next.F k), (35, impl_Limits_turns.F k), (38, impl_Limits_distances.F k)]
abbrev impl_Limits_plan.Cs := (Int → Int → Int → Int → Int → List ((Int × Int × Int) × Int) → Int → List Int → Option impl_Limits_plan.N) × (Int → Int → Int → Int → Int → List ((Int × Int × Int) × Int) → Int → List Int → List Int → Int → Int → Option impl_Limits_plan.N)
def impl_Limits_plan.zero : impl_Limits_plan.Cs := (fun _ _ _ _ _ _ _ _ => none, fun _ _ _ _ _ _ _ _ _ _ _ => none)
noncomputable def impl_Limits_plan.step (k : Nat) (c : impl_Limits_plan.Cs) : impl_Limits_plan.Cs := (fun (x0 : Int) (x1 : Int) (x2 : Int) (x3 : Int) (x4 : Int) (x5 : List ((Int × Int × Int) × Int)) (x6 : Int) (x7 : List Int) => (if (decide (0 < x6)) = true then (impl_Limits_turns.f k x0 x1 x2 x3 x4).bind fun t2 => c.2 x0 x1 x2 x3 x4 x5 x6 x7 t2 (t2.length : Int) 0 else some (x7, true)),
  fun (x0 : Int) (x1 : Int) (x2 : Int) (x3 : Int) (x4 : Int) (x5 : List ((Int × Int × Int) × Int)) (x6 : Int) (x7 : List Int) (x8 : List Int) (x9 : Int) (x10 : Int) => (if (decide (x10 < x9)) = true then if 0 ≤ x10 then if x10 < (x8.length : Int) then (impl_Limits_next.f k x0 x1 x2 x3 x4 (rd 0 x8 x10)).bind fun t3 => (if kwf (.pair (.int .i64) (.pair (.int .i64) (.int .i64))) (t3.1, (t3.2.1, t3.2.2.1)) = true then (if (mget (t3.1, (t3.2.1, t3.2.2.1)) x5).isSome = true then (if (decide (((mget (t3.1, (t3.2.1, t3.2.2.1)) x5).getD 0) = (wrap64 (x6 - 1)))) = true then if x7.length + [(rd 0 x8 x10)].length < 1099511627776 then c.1 x0 x1 t3.1 t3.2.1 t3.2.2.1 x5 (wrap64 (x6 - 1)) (x7 ++ [(rd 0 x8 x10)]) else none else c.2 x0 x1 x2 x3 x4 x5 x6 x7 x8 x9 (wrap64 (x10 + 1))) else c.2 x0 x1 x2 x3 x4 x5 x6 x7 x8 x9 (wrap64 (x10 + 1))) else none) else none else none else c.1 x0 x1 x2 x3 x4 x5 (wrap64 (x6 - 1)) x7))
noncomputable def impl_Limits_plan.cs (k : Nat) : Nat → impl_Limits_plan.Cs
  | 0 => impl_Limits_plan.zero
  | n + 1 => impl_Limits_plan.step k (impl_Limits_plan.cs k n)
def impl_Limits_plan.CC (c : impl_Limits_plan.Cs) : Cuts impl_Limits_plan.N := [(18, ⟨[(2, none, [.fl (.int .i64), .fl (.int .i64)]), (3, none, [.fl (.int .i64), .fl (.int .i64), .fl (.int .i64)]), (6, none, [.mp (.pair (.int .i64) (.pair (.int .i64) (.int .i64))) (.int .i64)]), (7, some false, [.fl (.int .i64)]), (9, some false, [.fl (.own (.int .i64))])], fun x => c.1 x.1.1 x.1.2.1 x.2.1.1 x.2.1.2.1 x.2.1.2.2.1 x.2.2.1.1 x.2.2.2.1.1 x.2.2.2.2.1.1⟩),
  (30, ⟨[(2, none, [.fl (.int .i64), .fl (.int .i64)]), (3, none, [.fl (.int .i64), .fl (.int .i64), .fl (.int .i64)]), (6, none, [.mp (.pair (.int .i64) (.pair (.int .i64) (.int .i64))) (.int .i64)]), (7, some false, [.fl (.int .i64)]), (9, some false, [.fl (.own (.int .i64))]), (33, some false, [.fl (.own (.int .i64))]), (34, some false, [.fl (.int .i64)]), (35, some false, [.fl (.int .i64)])], fun x => c.2 x.1.1 x.1.2.1 x.2.1.1 x.2.1.2.1 x.2.1.2.2.1 x.2.2.1.1 x.2.2.2.1.1 x.2.2.2.2.1.1 x.2.2.2.2.2.1.1 x.2.2.2.2.2.2.1.1 x.2.2.2.2.2.2.2.1.1⟩)]
noncomputable def impl_Limits_plan.f (k : Nat) (a0 : Int) (a1 : Int) (a2 : Int) (a3 : Int) (a4 : Int) : Option impl_Limits_plan.N := (impl_Limits_distances.f k a0 a1).bind fun t1 => (if kwf (.pair (.int .i64) (.pair (.int .i64) (.int .i64))) (a2, (a3, a4)) = true then (if (!((mget (a2, (a3, a4)) t1).isSome)) = true then some ([], false) else (impl_Limits_plan.cs k k).1 a0 a1 a2 a3 a4 t1 ((mget (a2, (a3, a4)) t1).getD 0) ([] : List Int)) else none)
noncomputable def impl_Limits_plan.F (k : Nat) : Go.Rv.Fn := mkFn 2 impl_Limits_plan.pc impl_Limits_plan.pr (keepOf []) (fun (y : impl_Limits_plan.N) => (((y.1, ()), (y.2, ()), ()) : compT impl_Limits_plan.pr)) fun x => impl_Limits_plan.f k x.1.1 x.1.2.1 x.2.1.1 x.2.1.2.1 x.2.1.2.2.1
theorem impl_Limits_plan.env (k : Nat) : EnvOk Go.Proofs.Try.prog (fun f => (impl_Limits_plan.E k).lookup f) := envOk_of ⟨entry Go.Proofs.Try.call33 rfl (impl_Limits_next.ok k), entry Go.Proofs.Try.call35 rfl (impl_Limits_turns.ok k), entry Go.Proofs.Try.call38 rfl (impl_Limits_distances.ok k), trivial⟩
theorem impl_Limits_plan.cuts (k : Nat) : CutsOk Go.Proofs.Try.prog X (fun f => (impl_Limits_plan.E k).lookup f) Go.Proofs.Try.f40 [] (decN impl_Limits_plan.pr (fun (y : compT impl_Limits_plan.pr) => ((y.1.1, y.2.1.1) : impl_Limits_plan.N))) fun n => impl_Limits_plan.CC (impl_Limits_plan.cs k n) :=
  cutsOk_of (step := impl_Limits_plan.step k) rfl (fun _ => rfl) ⟨fun _ => rfl, fun _ => rfl, trivial⟩ (fun c => by kernel_rfl) fun c => ⟨fun x => by kernel_rfl, fun x => by kernel_rfl, trivial⟩
theorem impl_Limits_plan.ok (k : Nat) : FnOk Go.Proofs.Try.prog 40 (impl_Limits_plan.F k) :=
  fn_ok tab (impl_Limits_plan.env k) Go.Proofs.Try.func40 rfl (n := 2) (Nat.le_of_ble_eq_true rfl) (by kernel_rfl) (outs := []) (by kernel_rfl) (by kernel_rfl) (d := fun (y : compT impl_Limits_plan.pr) => ((y.1.1, y.2.1.1) : impl_Limits_plan.N)) (fun _ => rfl) (C := fun n => impl_Limits_plan.CC (impl_Limits_plan.cs k n)) (k := k) (impl_Limits_plan.cuts k) fun x => by kernel_rfl
/-! impl.PlanHome -/
@[reducible] def impl_PlanHome.pc : CutP := [(0, some true, [.fl (.int .i64), .fl (.int .i64)]), (1, some true, [.fl (.int .i64), .fl (.int .i64), .fl (.int .i64)])]
@[reducible] def impl_PlanHome.pr : CompPs := [(false, [.fl (.own (.int .i64))]), (false, [.fl .bool])]
abbrev impl_PlanHome.N := List Int × Bool
noncomputable def impl_PlanHome.E (k : Nat) : List (FuncId × Go.Rv.Fn) := [(32, impl_ValidCourse.F k), (40, impl_Limits_plan.F k)]
noncomputable def impl_PlanHome.f (k : Nat) (a0 : Int) (a1 : Int) (a2 : Int) (a3 : Int) (a4 : Int) : Option impl_PlanHome.N := (impl_ValidCourse.f k a0 a1 a2 a3 a4).bind fun t1 => (if (!t1) = true then some ([], false) else (impl_Limits_plan.f k a0 a1 a2 a3 a4).bind fun t2 => some (t2.1, t2.2))
noncomputable def impl_PlanHome.F (k : Nat) : Go.Rv.Fn := mkFn 2 impl_PlanHome.pc impl_PlanHome.pr (keepOf []) (fun (y : impl_PlanHome.N) => (((y.1, ()), (y.2, ()), ()) : compT impl_PlanHome.pr)) fun x => impl_PlanHome.f k x.1.1 x.1.2.1 x.2.1.1 x.2.1.2.1 x.2.1.2.2.1
theorem impl_PlanHome.env (k : Nat) : EnvOk Go.Proofs.Try.prog (fun f => (impl_PlanHome.E k).lookup f) := envOk_of ⟨entry Go.Proofs.Try.call32 rfl (impl_ValidCourse.ok k), entry Go.Proofs.Try.call40 rfl (impl_Limits_plan.ok k), trivial⟩
theorem impl_PlanHome.ok (k : Nat) : FnOk Go.Proofs.Try.prog 15 (impl_PlanHome.F k) :=
  fn_ok tab (impl_PlanHome.env k) Go.Proofs.Try.func15 rfl (n := 2) (Nat.le_of_ble_eq_true rfl) (by kernel_rfl) (outs := []) (by kernel_rfl) (by kernel_rfl) (d := fun (y : compT impl_PlanHome.pr) => ((y.1.1, y.2.1.1) : impl_PlanHome.N)) (fun _ => rfl) (C := fun _ => []) (k := k) noCuts fun x => by kernel_rfl
/-! impl.RunCourse -/
@[reducible] def impl_RunCourse.pc : CutP := [(0, some true, [.fl (.int .i64), .fl (.int .i64)]), (1, some true, [.fl (.int .i64), .fl (.int .i64), .fl (.int .i64)]), (2, some false, [.fl (.lo (.int .i64))])]
@[reducible] def impl_RunCourse.pr : CompPs := [(false, [.fl (.own (.pair (.int .i64) (.pair (.int .i64) (.int .i64))))]), (false, [.fl .bool])]
abbrev impl_RunCourse.N := List (Int × Int × Int) × Bool
noncomputable def impl_RunCourse.E (k : Nat) : List (FuncId × Go.Rv.Fn) := [(32, impl_ValidCourse.F k), (33, impl_Limits_next.F k)]
abbrev impl_RunCourse.Cs := (List Int → Int → Int → Int → Int → Int → Option impl_RunCourse.N) × (Int → Int → Int → Int → Int → List (Int × Int × Int) → List Int → Int → Int → Option impl_RunCourse.N)
def impl_RunCourse.zero : impl_RunCourse.Cs := (fun _ _ _ _ _ _ => none, fun _ _ _ _ _ _ _ _ _ => none)
noncomputable def impl_RunCourse.step (k : Nat) (c : impl_RunCourse.Cs) : impl_RunCourse.Cs := (fun (x0 : List Int) (x1 : Int) (x2 : Int) (x3 : Int) (x4 : Int) (x5 : Int) => c.2 x1 x2 x3 x4 x5 ([] : List (Int × Int × Int)) x0 (x0.length : Int) 0,
  fun (x0 : Int) (x1 : Int) (x2 : Int) (x3 : Int) (x4 : Int) (x5 : List (Int × Int × Int)) (x6 : List Int) (x7 : Int) (x8 : Int) => (if (decide (x8 < x7)) = true then if 0 ≤ x8 then if x8 < (x6.length : Int) then (impl_Limits_next.f k x0 x1 x2 x3 x4 (rd 0 x6 x8)).bind fun t2 => (if (!t2.2.2.2) = true then some ([], false) else if x5.length + [(t2.1, (t2.2.1, t2.2.2.1))].length < 366503875925 then c.2 x0 x1 t2.1 t2.2.1 t2.2.2.1 (x5 ++ [(t2.1, (t2.2.1, t2.2.2.1))]) x6 x7 (wrap64 (x8 + 1)) else none) else none else none else some (x5, true)))
noncomputable def impl_RunCourse.cs (k : Nat) : Nat → impl_RunCourse.Cs
  | 0 => impl_RunCourse.zero
  | n + 1 => impl_RunCourse.step k (impl_RunCourse.cs k n)
def impl_RunCourse.CC (c : impl_RunCourse.Cs) : Cuts impl_RunCourse.N := [(2, ⟨[(2, some false, [.fl (.lo (.int .i64))]), (3, none, [.fl (.int .i64), .fl (.int .i64)]), (4, none, [.fl (.int .i64), .fl (.int .i64), .fl (.int .i64)])], fun x => c.1 x.1.1 x.2.1.1 x.2.1.2.1 x.2.2.1.1 x.2.2.1.2.1 x.2.2.1.2.2.1⟩),
  (16, ⟨[(3, none, [.fl (.int .i64), .fl (.int .i64)]), (4, none, [.fl (.int .i64), .fl (.int .i64), .fl (.int .i64)]), (8, some false, [.fl (.own (.pair (.int .i64) (.pair (.int .i64) (.int .i64))))]), (23, some false, [.fl (.lo (.int .i64))]), (24, some false, [.fl (.int .i64)]), (25, some false, [.fl (.int .i64)])], fun x => c.2 x.1.1 x.1.2.1 x.2.1.1 x.2.1.2.1 x.2.1.2.2.1 x.2.2.1.1 x.2.2.2.1.1 x.2.2.2.2.1.1 x.2.2.2.2.2.1.1⟩)]
noncomputable def impl_RunCourse.f (k : Nat) (a0 : Int) (a1 : Int) (a2 : Int) (a3 : Int) (a4 : Int) (a5 : List Int) : Option impl_RunCourse.N := (impl_ValidCourse.f k a0 a1 a2 a3 a4).bind fun t1 => (if (!t1) = true then some ([], false) else (if (decide (40 < (a5.length : Int))) = true then some ([], false) else (impl_RunCourse.cs k k).1 a5 a0 a1 a2 a3 a4))
noncomputable def impl_RunCourse.F (k : Nat) : Go.Rv.Fn := mkFn 3 impl_RunCourse.pc impl_RunCourse.pr (keepOf []) (fun (y : impl_RunCourse.N) => (((y.1, ()), (y.2, ()), ()) : compT impl_RunCourse.pr)) fun x => impl_RunCourse.f k x.1.1 x.1.2.1 x.2.1.1 x.2.1.2.1 x.2.1.2.2.1 x.2.2.1.1
theorem impl_RunCourse.env (k : Nat) : EnvOk Go.Proofs.Try.prog (fun f => (impl_RunCourse.E k).lookup f) := envOk_of ⟨entry Go.Proofs.Try.call32 rfl (impl_ValidCourse.ok k), entry Go.Proofs.Try.call33 rfl (impl_Limits_next.ok k), trivial⟩
theorem impl_RunCourse.cuts (k : Nat) : CutsOk Go.Proofs.Try.prog X (fun f => (impl_RunCourse.E k).lookup f) Go.Proofs.Try.f16 [] (decN impl_RunCourse.pr (fun (y : compT impl_RunCourse.pr) => ((y.1.1, y.2.1.1) : impl_RunCourse.N))) fun n => impl_RunCourse.CC (impl_RunCourse.cs k n) :=
  cutsOk_of (step := impl_RunCourse.step k) rfl (fun _ => rfl) ⟨fun _ => rfl, fun _ => rfl, trivial⟩ (fun c => by kernel_rfl) fun c => ⟨fun x => by kernel_rfl, fun x => by kernel_rfl, trivial⟩
theorem impl_RunCourse.ok (k : Nat) : FnOk Go.Proofs.Try.prog 16 (impl_RunCourse.F k) :=
  fn_ok tab (impl_RunCourse.env k) Go.Proofs.Try.func16 rfl (n := 3) (Nat.le_of_ble_eq_true rfl) (by kernel_rfl) (outs := []) (by kernel_rfl) (by kernel_rfl) (d := fun (y : compT impl_RunCourse.pr) => ((y.1.1, y.2.1.1) : impl_RunCourse.N)) (fun _ => rfl) (C := fun n => impl_RunCourse.CC (impl_RunCourse.cs k n)) (k := k) (impl_RunCourse.cuts k) fun x => by kernel_rfl
/-! laws.FnExact -/
@[reducible] def laws_FnExact.pc : CutP := [(0, some false, [.fl (.lo (.int .u8))]), (1, some false, [.fl (.lo (.int .u8))])]
@[reducible] def laws_FnExact.pr : CompPs := [(false, [.fl .bool])]
abbrev laws_FnExact.N := Bool
noncomputable def laws_FnExact.E (k : Nat) : List (FuncId × Go.Rv.Fn) := [(7, laws_b10Long.F k), (8, spec_B10Course.F k), (9, impl_NextCourse.F k), (10, laws_b10At.F k), (11, impl_OffsetsAfter.F k), (12, laws_b10Has.F k), (13, impl_StepsHome.F k), (14, impl_SmoothestHome.F k), (15, impl_PlanHome.F k), (16, impl_RunCourse.F k)]
abbrev laws_FnExact.Cs := (List Int → Int → Int → Int → Int → Int → Int → Int → Int → Int → Int → Option laws_FnExact.N) × (Int → Int → Int → Int → Int → Option laws_FnExact.N) × (Int → Int → Int → Int → Int → List Int → Int → Bool → Option laws_FnExact.N) × (Int → Int → Int → List Int → Int → List Int → Option laws_FnExact.N) × (Int → Int → Int → List Int → Int → List Int → Int → Int → Int → Option laws_FnExact.N) × (Int → List Int → Int → Int → Int → Int → Option laws_FnExact.N)
def laws_FnExact.zero : laws_FnExact.Cs := (fun _ _ _ _ _ _ _ _ _ _ _ => none, fun _ _ _ _ _ => none, fun _ _ _ _ _ _ _ _ => none, fun _ _ _ _ _ _ => none, fun _ _ _ _ _ _ _ _ _ => none, fun _ _ _ _ _ _ => none)
noncomputable def laws_FnExact.step (k : Nat) (c : laws_FnExact.Cs) : laws_FnExact.Cs := (fun (x0 : List Int) (x1 : Int) (x2 : Int) (x3 : Int) (x4 : Int) (x5 : Int) (x6 : Int) (x7 : Int) (x8 : Int) (x9 : Int) (x10 : Int) => (if (decide (x10 < 5)) = true then (laws_b10At.f k x0 x10 (wrap64 ((wrap64 (2 * x1)) + 1))).bind fun (t3 : Int) => (impl_NextCourse.f k x1 x2 x6 x7 x8 (wrap64 (t3 - x1))).bind fun t4 => (if t4.2.2.2 = true then c.1 x0 x1 x2 x3 x4 x5 t4.1 t4.2.1 t4.2.2.1 (wrap64 (x9 + 1)) (wrap64 (x10 + 1)) else c.1 x0 x1 x2 x3 x4 x5 x6 x7 x8 x9 (wrap64 (x10 + 1))) else (impl_OffsetsAfter.f k x1 x2 x3 x4 x5 x9 x7).bind fun t5 => (if (!t5.2) = true then some false else (laws_b10Has.f k t5.1 x6).bind fun t6 => (if (!t6) = true then some false else c.2.1 x1 x2 x3 x4 x5))),
  fun (x0 : Int) (x1 : Int) (x2 : Int) (x3 : Int) (x4 : Int) => (impl_StepsHome.f k x0 x1 x2 x3 x4).bind fun t7 => (impl_SmoothestHome.f k x0 x1 x2 x3 x4 8).bind fun t8 => (if t7.2 = true then (if (!(t8.2.2 == (decide (t7.1 ≤ 8)))) = true then some false else c.2.2.1 x0 x1 x2 x3 x4 t8.1 t8.2.1 t8.2.2) else (if (!(t8.2.2 == false)) = true then some false else c.2.2.1 x0 x1 x2 x3 x4 t8.1 t8.2.1 t8.2.2)),
  fun (x0 : Int) (x1 : Int) (x2 : Int) (x3 : Int) (x4 : Int) (x5 : List Int) (x6 : Int) (x7 : Bool) => (if (!x7) = true then some true else (impl_PlanHome.f k x0 x1 x2 x3 x4).bind fun t9 => (impl_RunCourse.f k x0 x1 x2 x3 x4 x5).bind fun t10 => (if (!t9.2) = true then some false else (if (!t10.2) = true then some false else (if (!decide ((x5.length : Int) = 8)) = true then some false else (if (!decide ((t10.1.length : Int) = 8)) = true then some false else if 0 ≤ 7 then if 7 < (t10.1.length : Int) then (if (!(decide ((rd (0, (0, 0)) t10.1 7).1 = 0) && (decide (((rd (0, (0, 0)) t10.1 7).2).1 = 0) && (decide (((rd (0, (0, 0)) t10.1 7).2).2 = 0) && true)))) = true then some false else c.2.2.2.1 x2 x3 x4 x5 x6 t9.1) else none else none))))),
  fun (x0 : Int) (x1 : Int) (x2 : Int) (x3 : List Int) (x4 : Int) (x5 : List Int) => c.2.2.2.2.1 x0 x1 x2 x3 x4 x5 0 x2 0,
  fun (x0 : Int) (x1 : Int) (x2 : Int) (x3 : List Int) (x4 : Int) (x5 : List Int) (x6 : Int) (x7 : Int) (x8 : Int) => (if (decide (x8 < (x3.length : Int))) = true then if 0 ≤ x8 then if x8 < (x3.length : Int) then if 0 ≤ x8 then if x8 < (x3.length : Int) then if 0 ≤ x8 then if x8 < (x3.length : Int) then c.2.2.2.2.1 x0 x1 x2 x3 x4 x5 (wrap64 (x6 + (wrap64 ((wrap64 ((rd 0 x3 x8) - x7)) * (wrap64 ((rd 0 x3 x8) - x7)))))) (rd 0 x3 x8) (wrap64 (x8 + 1)) else none else none else none else none else none else none else c.2.2.2.2.2 x4 x5 x6 x2 0 0),
  fun (x0 : Int) (x1 : List Int) (x2 : Int) (x3 : Int) (x4 : Int) (x5 : Int) => (if (decide (x5 < (x1.length : Int))) = true then if 0 ≤ x5 then if x5 < (x1.length : Int) then if 0 ≤ x5 then if x5 < (x1.length : Int) then if 0 ≤ x5 then if x5 < (x1.length : Int) then c.2.2.2.2.2 x0 x1 x2 (rd 0 x1 x5) (wrap64 (x4 + (wrap64 ((wrap64 ((rd 0 x1 x5) - x3)) * (wrap64 ((rd 0 x1 x5) - x3)))))) (wrap64 (x5 + 1)) else none else none else none else none else none else none else (if (decide (x2 = x0)) = true then some (decide (x0 ≤ x4)) else some false)))
noncomputable def laws_FnExact.cs (k : Nat) : Nat → laws_FnExact.Cs
  | 0 => laws_FnExact.zero
  | n + 1 => laws_FnExact.step k (laws_FnExact.cs k n)
def laws_FnExact.CC (c : laws_FnExact.Cs) : Cuts laws_FnExact.N := [(20, ⟨[(1, some false, [.fl (.lo (.int .u8))]), (5, none, [.fl (.int .i64), .fl (.int .i64)]), (6, none, [.fl (.int .i64), .fl (.int .i64), .fl (.int .i64)]), (7, none, [.fl (.int .i64), .fl (.int .i64), .fl (.int .i64)]), (8, some false, [.fl (.int .i64)]), (9, some false, [.fl (.int .i64)])], fun x => c.1 x.1.1 x.2.1.1 x.2.1.2.1 x.2.2.1.1 x.2.2.1.2.1 x.2.2.1.2.2.1 x.2.2.2.1.1 x.2.2.2.1.2.1 x.2.2.2.1.2.2.1 x.2.2.2.2.1.1 x.2.2.2.2.2.1.1⟩),
  (41, ⟨[(5, none, [.fl (.int .i64), .fl (.int .i64)]), (6, none, [.fl (.int .i64), .fl (.int .i64), .fl (.int .i64)])], fun x => c.2.1 x.1.1 x.1.2.1 x.2.1.1 x.2.1.2.1 x.2.1.2.2.1⟩),
  (53, ⟨[(5, none, [.fl (.int .i64), .fl (.int .i64)]), (6, none, [.fl (.int .i64), .fl (.int .i64), .fl (.int .i64)]), (16, some false, [.fl (.own (.int .i64))]), (17, some false, [.fl (.int .i64)]), (18, some false, [.fl .bool])], fun x => c.2.2.1 x.1.1 x.1.2.1 x.2.1.1 x.2.1.2.1 x.2.1.2.2.1 x.2.2.1.1 x.2.2.2.1.1 x.2.2.2.2.1.1⟩),
  (73, ⟨[(6, none, [.fl (.int .i64), .fl (.int .i64), .fl (.int .i64)]), (16, some false, [.fl (.own (.int .i64))]), (17, some false, [.fl (.int .i64)]), (19, some false, [.fl (.own (.int .i64))])], fun x => c.2.2.2.1 x.1.1 x.1.2.1 x.1.2.2.1 x.2.1.1 x.2.2.1.1 x.2.2.2.1.1⟩),
  (89, ⟨[(6, none, [.fl (.int .i64), .fl (.int .i64), .fl (.int .i64)]), (16, some false, [.fl (.own (.int .i64))]), (17, some false, [.fl (.int .i64)]), (19, some false, [.fl (.own (.int .i64))]), (23, some false, [.fl (.int .i64)]), (24, some false, [.fl (.int .i64)]), (25, some false, [.fl (.int .i64)])], fun x => c.2.2.2.2.1 x.1.1 x.1.2.1 x.1.2.2.1 x.2.1.1 x.2.2.1.1 x.2.2.2.1.1 x.2.2.2.2.1.1 x.2.2.2.2.2.1.1 x.2.2.2.2.2.2.1.1⟩),
  (110, ⟨[(17, some false, [.fl (.int .i64)]), (19, some false, [.fl (.own (.int .i64))]), (23, some false, [.fl (.int .i64)]), (24, some false, [.fl (.int .i64)]), (26, some false, [.fl (.int .i64)]), (27, some false, [.fl (.int .i64)])], fun x => c.2.2.2.2.2 x.1.1 x.2.1.1 x.2.2.1.1 x.2.2.2.1.1 x.2.2.2.2.1.1 x.2.2.2.2.2.1.1⟩)]
noncomputable def laws_FnExact.f (k : Nat) (a0 : List Int) (a1 : List Int) : Option laws_FnExact.N := (laws_b10Long.f k a0 a1).bind fun t1 => (if t1 = true then some true else (spec_B10Course.f k a0).bind fun t2 => (laws_FnExact.cs k k).1 a1 t2.1 t2.2.1 t2.2.2.1 t2.2.2.2.1 t2.2.2.2.2 t2.2.2.1 t2.2.2.2.1 t2.2.2.2.2 0 0)
noncomputable def laws_FnExact.F (k : Nat) : Go.Rv.Fn := mkFn 2 laws_FnExact.pc laws_FnExact.pr (keepOf []) (fun (y : laws_FnExact.N) => (((y, ()), ()) : compT laws_FnExact.pr)) fun x => laws_FnExact.f k x.1.1 x.2.1.1
theorem laws_FnExact.env (k : Nat) : EnvOk Go.Proofs.Try.prog (fun f => (laws_FnExact.E k).lookup f) := envOk_of ⟨entry Go.Proofs.Try.call7 rfl (laws_b10Long.ok k), entry Go.Proofs.Try.call8 rfl (spec_B10Course.ok k), entry Go.Proofs.Try.call9 rfl (impl_NextCourse.ok k), entry Go.Proofs.Try.call10 rfl (laws_b10At.ok k), entry Go.Proofs.Try.call11 rfl (impl_OffsetsAfter.ok k), entry Go.Proofs.Try.call12 rfl (laws_b10Has.ok k), entry Go.Proofs.Try.call13 rfl (impl_StepsHome.ok k), entry Go.Proofs.Try.call14 rfl (impl_SmoothestHome.ok k), entry Go.Proofs.Try.call15 rfl (impl_PlanHome.ok k), entry Go.Proofs.Try.call16 rfl (impl_RunCourse.ok k), trivial⟩
theorem laws_FnExact.cuts (k : Nat) : CutsOk Go.Proofs.Try.prog X (fun f => (laws_FnExact.E k).lookup f) Go.Proofs.Try.f3 [] (decN laws_FnExact.pr (fun (y : compT laws_FnExact.pr) => (y.1.1 : laws_FnExact.N))) fun n => laws_FnExact.CC (laws_FnExact.cs k n) :=
  cutsOk_of (step := laws_FnExact.step k) rfl (fun _ => rfl) ⟨fun _ => rfl, fun _ => rfl, fun _ => rfl, fun _ => rfl, fun _ => rfl, fun _ => rfl, trivial⟩ (fun c => by kernel_rfl) fun c => ⟨fun x => by kernel_rfl, fun x => by kernel_rfl, fun x => by kernel_rfl, fun x => by kernel_rfl, fun x => by kernel_rfl, fun x => by kernel_rfl, trivial⟩
theorem laws_FnExact.ok (k : Nat) : FnOk Go.Proofs.Try.prog 3 (laws_FnExact.F k) :=
  fn_ok tab (laws_FnExact.env k) Go.Proofs.Try.func3 rfl (n := 2) (Nat.le_of_ble_eq_true rfl) (by kernel_rfl) (outs := []) (by kernel_rfl) (by kernel_rfl) (d := fun (y : compT laws_FnExact.pr) => (y.1.1 : laws_FnExact.N)) (fun _ => rfl) (C := fun n => laws_FnExact.CC (laws_FnExact.cs k n)) (k := k) (laws_FnExact.cuts k) fun x => by kernel_rfl
end Go.Proofs.Ytigkpbnhdkdliaa.R
