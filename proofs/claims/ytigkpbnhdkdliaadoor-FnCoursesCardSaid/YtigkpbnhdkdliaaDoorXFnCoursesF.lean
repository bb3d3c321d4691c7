-- written by wip/rev/gen2.py for this claim (out of the translation). Lean checks it.
import Derived.Test.YtigkpbnhdkdliaaDoorRvM2
import Derived.Test.YtigkpbnhdkdliaaDoorProg
import Derived.Test.YtigkpbnhdkdliaaDoorRvAmb
import Derived.Test.YtigkpbnhdkdliaaDoorRvStrF
import Derived.Test.YtigkpbnhdkdliaaDoorRvStrJ
import Derived.Test.YtigkpbnhdkdliaaDoorRvStrR
import Derived.Test.YtigkpbnhdkdliaaDoorRvStrS
namespace Go.Proofs.YtigkpbnhdkdliaaDoor.R
open Go.Rv
set_option linter.unusedVariables false
set_option maxRecDepth 100000
def X : Env := { n := 0, keep := [], tab := [(2, { ty := (.int .i64) }),
  (3, { ty := (.int .i64) }),
  (5, { ty := (.int .u8) }),
  (9, { ty := .str }),
  (25, { ty := (.pair (.int .i64) (.pair (.int .i64) (.int .i64))), agg := true, offs := [(0, 1, false), (1, 1, false), (2, 1, false)], eq := true }),
  (32, { ty := (.sl (.int .u8)) }),
  (35, { ty := (.pair (.int .i64) (.int .i64)), agg := true, offs := [(0, 1, false), (1, 1, false)] }),
  (40, { ty := (.pair (.int .i64) (.pair (.int .i64) (.pair (.int .i64) (.int .i64)))), agg := true, offs := [(0, 1, false), (1, 1, false), (2, 1, false), (3, 1, false)] }),
  (47, { ty := (.sl (.int .i64)) }),
  (59, { ty := (.sl .str) }),
  (63, { ty := (.int .u64) }),
  (65, { ty := (.pair (.sl (.int .u8)) (.pair (.int .i64) (.int .u64))), agg := true, offs := [(0, 1, false), (1, 1, false), (2, 1, false)] })] }
theorem tab : TabOk Go.Proofs.Tryd.prog X := ⟨by kernel_rfl, by kernel_rfl⟩
/-! laws.b10Long -/
@[reducible] def laws_b10Long.pc : CutP := [(0, some false, [.fl (.lo (.int .u8))]), (1, some false, [.fl (.lo (.int .u8))])]
@[reducible] def laws_b10Long.pr : CompPs := [(false, [.fl .bool])]
abbrev laws_b10Long.N := Bool
noncomputable def laws_b10Long.E (k : Nat) : List (FuncId × Go.Rv.Fn) := []
noncomputable def laws_b10Long.f (k : Nat) (a0 : List Int) (a1 : List Int) : Option laws_b10Long.N := (if (decide (1048576 < (a0.length : Int))) = true then some true else some (decide (1048576 < (a1.length : Int))))
noncomputable def laws_b10Long.F (k : Nat) : Go.Rv.Fn := mkFn 2 laws_b10Long.pc laws_b10Long.pr (keepOf []) (fun (y : laws_b10Long.N) => (((y, ()), ()) : compT laws_b10Long.pr)) fun x => laws_b10Long.f k x.1.1 x.2.1.1
theorem laws_b10Long.env (k : Nat) : EnvOk Go.Proofs.Tryd.prog (fun f => (laws_b10Long.E k).lookup f) := envOk_of trivial
theorem laws_b10Long.ok (k : Nat) : FnOk Go.Proofs.Tryd.prog 12 (laws_b10Long.F k) :=
  fn_ok tab (laws_b10Long.env k) Go.Proofs.Tryd.func12 rfl (n := 2) (Nat.le_of_ble_eq_true rfl) (by kernel_rfl) (outs := []) (by kernel_rfl) (by kernel_rfl) (d := fun (y : compT laws_b10Long.pr) => (y.1.1 : laws_b10Long.N)) (fun _ => rfl) (C := fun _ => []) (k := k) noCuts fun x => by kernel_rfl
/-! spec.l00From -/
@[reducible] def spec_l00From.bp : List FPat := [(.lo (.int .u8)), (.int .i64), (.int .u64)]
@[reducible] def spec_l00From.pc : CutP := [(0, some false, [.fl (.lo (.int .u8))])]
@[reducible] def spec_l00From.pr : CompPs := []
abbrev spec_l00From.N := List Int × Int × Int
noncomputable def spec_l00From.E (k : Nat) : List (FuncId × Go.Rv.Fn) := []
noncomputable def spec_l00From.f (k : Nat) (a0 : List Int) : Option spec_l00From.N := some (a0, 0, 0)
noncomputable def spec_l00From.F (k : Nat) : Go.Rv.Fn := mkFnR 1 spec_l00From.pc spec_l00From.bp (fun (y : spec_l00From.N) => ((y.1, y.2.1, y.2.2, ()) : fpatsT spec_l00From.bp)) fun x => spec_l00From.f k x.1.1
theorem spec_l00From.env (k : Nat) : EnvOk Go.Proofs.Tryd.prog (fun f => (spec_l00From.E k).lookup f) := envOk_of trivial
theorem spec_l00From.ok (k : Nat) : FnOk Go.Proofs.Tryd.prog 23 (spec_l00From.F k) :=
  fn_okR tab (spec_l00From.env k) Go.Proofs.Tryd.func23 rfl (n := 1) (Nat.le_of_ble_eq_true rfl) (by kernel_rfl) (by kernel_rfl) (d := fun (y : fpatsT spec_l00From.bp) => ((y.1, y.2.1, y.2.2.1) : spec_l00From.N)) (fun _ => rfl) (C := (fun _ => [])) (k := k) noCutsG fun x => by kernel_rfl
/-! (*spec.l00Src).next -/
@[reducible] def spec_l00Src_next.bp : List FPat := [(.lo (.int .u8)), (.int .i64), (.int .u64)]
@[reducible] def spec_l00Src_next.pc : CutP := [(0, none, [.fl (.lo (.int .u8)), .fl (.int .i64), .fl (.int .u64)])]
@[reducible] def spec_l00Src_next.pr : CompPs := [(false, [.fl (.int .i64)])]
abbrev spec_l00Src_next.N := Int × List Int × Int × Int
noncomputable def spec_l00Src_next.E (k : Nat) : List (FuncId × Go.Rv.Fn) := []
abbrev spec_l00Src_next.Cs := (List Int → Int → Int → Int → Option spec_l00Src_next.N)
def spec_l00Src_next.zero : spec_l00Src_next.Cs := (fun _ _ _ _ => none)
noncomputable def spec_l00Src_next.step (k : Nat) (c : spec_l00Src_next.Cs) : spec_l00Src_next.Cs := (fun (x0 : List Int) (x1 : Int) (x2 : Int) (x3 : Int) => (if (decide ((wrap64 (x1 + 1)) ≤ (x0.length : Int))) = true then some (x3, x0, (wrap64 (x1 + 1)), (IntKind.u64.wrap ((IntKind.u64.wrap ((IntKind.u64.wrap (x2 * 6364136223846793005)) + (IntKind.u64.wrap (x3)))) + 1442695040888963407))) else (if 40 < 0 then none else some ((wrap64 ((IntKind.u64.wrap ((BitVec.ofInt IntKind.u64.bits ((IntKind.u64.wrap ((IntKind.u64.wrap ((IntKind.u64.wrap (x2 * 6364136223846793005)) + (IntKind.u64.wrap (x3)))) + 1442695040888963407)).fdiv (2 ^ min (40 : Int).toNat IntKind.u64.bits)) &&& BitVec.ofInt IntKind.u64.bits 255).toNat : Int)))), x0, (wrap64 (x1 + 1)), (IntKind.u64.wrap ((IntKind.u64.wrap ((IntKind.u64.wrap (x2 * 6364136223846793005)) + (IntKind.u64.wrap (x3)))) + 1442695040888963407))))))
noncomputable def spec_l00Src_next.cs (k : Nat) : Nat → spec_l00Src_next.Cs
  | 0 => spec_l00Src_next.zero
  | n + 1 => spec_l00Src_next.step k (spec_l00Src_next.cs k n)
def spec_l00Src_next.CC (c : spec_l00Src_next.Cs) : Cuts spec_l00Src_next.N := [(4, ⟨[(0, none, [.fl (.lo (.int .u8)), .fl (.int .i64), .fl (.int .u64)]), (3, some false, [.fl (.int .i64)])], fun x => c x.1.1 x.1.2.1 x.1.2.2.1 x.2.1.1⟩)]
noncomputable def spec_l00Src_next.f (k : Nat) (a0 : List Int) (a1 : Int) (a2 : Int) : Option spec_l00Src_next.N := (if (decide (a1 < (a0.length : Int))) = true then if 0 ≤ a1 then if a1 < (a0.length : Int) then (spec_l00Src_next.cs k k) a0 a1 a2 (wrap64 ((rd 0 a0 a1))) else none else none else (spec_l00Src_next.cs k k) a0 a1 a2 0)
noncomputable def spec_l00Src_next.F (k : Nat) : Go.Rv.Fn := mkFnB 0 spec_l00Src_next.pc spec_l00Src_next.pr spec_l00Src_next.bp (fun (y : spec_l00Src_next.N) => ((((y.1, ()), ()), (y.2.1, y.2.2.1, y.2.2.2, ())) : compT spec_l00Src_next.pr × fpatsT spec_l00Src_next.bp)) fun x => spec_l00Src_next.f k x.1.1 x.1.2.1 x.1.2.2.1
theorem spec_l00Src_next.env (k : Nat) : EnvOk Go.Proofs.Tryd.prog (fun f => (spec_l00Src_next.E k).lookup f) := envOk_of trivial
theorem spec_l00Src_next.cuts (k : Nat) : CutsOkG Go.Proofs.Tryd.prog { X with n := Go.Proofs.Tryd.f33.ntmps, keep := [0] } (fun f => (spec_l00Src_next.E k).lookup f) Go.Proofs.Tryd.f33 (endB { X with n := Go.Proofs.Tryd.f33.ntmps, keep := [0] } Go.Proofs.Tryd.f33 spec_l00Src_next.pr spec_l00Src_next.bp (fun (y : compT spec_l00Src_next.pr × fpatsT spec_l00Src_next.bp) => ((y.1.1.1, y.2.1, y.2.2.1, y.2.2.2.1) : spec_l00Src_next.N))) fun n => spec_l00Src_next.CC (spec_l00Src_next.cs k n) :=
  cutsOkG_of (step := spec_l00Src_next.step k) rfl (fun _ => rfl) ⟨fun _ => rfl, trivial⟩ (fun c => by kernel_rfl) fun c => ⟨fun x => by kernel_rfl, trivial⟩
theorem spec_l00Src_next.ok (k : Nat) : FnOkB Go.Proofs.Tryd.prog 33 (spec_l00Src_next.F k) :=
  fn_okB tab (spec_l00Src_next.env k) Go.Proofs.Tryd.func33 rfl (n := 0) (Nat.le_of_ble_eq_true rfl) (by kernel_rfl) (by kernel_rfl) (by kernel_rfl) (d := fun (y : compT spec_l00Src_next.pr × fpatsT spec_l00Src_next.bp) => ((y.1.1.1, y.2.1, y.2.2.1, y.2.2.2.1) : spec_l00Src_next.N)) (fun _ => rfl) (C := (fun n => spec_l00Src_next.CC (spec_l00Src_next.cs k n))) (k := k) (spec_l00Src_next.cuts k) fun x => by kernel_rfl
/-! (*spec.l00Src).pick -/
@[reducible] def spec_l00Src_pick.bp : List FPat := [(.lo (.int .u8)), (.int .i64), (.int .u64)]
@[reducible] def spec_l00Src_pick.pc : CutP := [(0, none, [.fl (.lo (.int .u8)), .fl (.int .i64), .fl (.int .u64)]), (1, some false, [.fl (.int .i64)])]
@[reducible] def spec_l00Src_pick.pr : CompPs := [(false, [.fl (.int .i64)])]
abbrev spec_l00Src_pick.N := Int × List Int × Int × Int
noncomputable def spec_l00Src_pick.E (k : Nat) : List (FuncId × Go.Rv.Fn) := [(33, spec_l00Src_next.F k)]
noncomputable def spec_l00Src_pick.f (k : Nat) (a0 : List Int) (a1 : Int) (a2 : Int) (a3 : Int) : Option spec_l00Src_pick.N := (if (decide (a3 ≤ 1)) = true then some (0, a0, a1, a2) else (spec_l00Src_next.f k a0 a1 a2).bind fun t1 => (if (decide (200 < a3)) = true then (spec_l00Src_next.f k t1.2.1 t1.2.2.1 t1.2.2.2).bind fun t2 => (if a3 = 0 then none else some (((wrap64 ((wrap64 (t1.1 * 256)) + t2.1)).tmod a3), t2.2.1, t2.2.2.1, t2.2.2.2)) else (if a3 = 0 then none else some ((t1.1.tmod a3), t1.2.1, t1.2.2.1, t1.2.2.2))))
noncomputable def spec_l00Src_pick.F (k : Nat) : Go.Rv.Fn := mkFnB 1 spec_l00Src_pick.pc spec_l00Src_pick.pr spec_l00Src_pick.bp (fun (y : spec_l00Src_pick.N) => ((((y.1, ()), ()), (y.2.1, y.2.2.1, y.2.2.2, ())) : compT spec_l00Src_pick.pr × fpatsT spec_l00Src_pick.bp)) fun x => spec_l00Src_pick.f k x.1.1 x.1.2.1 x.1.2.2.1 x.2.1.1
theorem spec_l00Src_pick.env (k : Nat) : EnvOk Go.Proofs.Tryd.prog (fun f => (spec_l00Src_pick.E k).lookup f) := envOk_of ⟨entryB Go.Proofs.Tryd.call33 rfl (spec_l00Src_next.ok k), trivial⟩
theorem spec_l00Src_pick.ok (k : Nat) : FnOkB Go.Proofs.Tryd.prog 24 (spec_l00Src_pick.F k) :=
  fn_okB tab (spec_l00Src_pick.env k) Go.Proofs.Tryd.func24 rfl (n := 1) (Nat.le_of_ble_eq_true rfl) (by kernel_rfl) (by kernel_rfl) (by kernel_rfl) (d := fun (y : compT spec_l00Src_pick.pr × fpatsT spec_l00Src_pick.bp) => ((y.1.1.1, y.2.1, y.2.2.1, y.2.2.2.1) : spec_l00Src_pick.N)) (fun _ => rfl) (C := (fun _ => [])) (k := k) noCutsG fun x => by kernel_rfl
/-! spec.B10Course -/
@[reducible] def spec_B10Course.pc : CutP := [(0, some false, [.fl (.lo (.int .u8))])]
@[reducible] def spec_B10Course.pr : CompPs := [(true, [.fl (.int .i64), .fl (.int .i64)]), (true, [.fl (.int .i64), .fl (.int .i64), .fl (.int .i64)])]
abbrev spec_B10Course.N := Int × Int × Int × Int × Int
noncomputable def spec_B10Course.E (k : Nat) : List (FuncId × Go.Rv.Fn) := [(23, spec_l00From.F k), (24, spec_l00Src_pick.F k)]
noncomputable def spec_B10Course.f (k : Nat) (a0 : List Int) : Option spec_B10Course.N := (spec_l00From.f k a0).bind fun t1 => (spec_l00Src_pick.f k t1.1 t1.2.1 t1.2.2 3).bind fun t2 => (spec_l00Src_pick.f k t2.2.1 t2.2.2.1 t2.2.2.2 5).bind fun t3 => (spec_l00Src_pick.f k t3.2.1 t3.2.2.1 t3.2.2.2 25).bind fun t4 => (spec_l00Src_pick.f k t4.2.1 t4.2.2.1 t4.2.2.2 9).bind fun t5 => (spec_l00Src_pick.f k t5.2.1 t5.2.2.1 t5.2.2.2 3).bind fun t6 => some ((wrap64 (1 + t2.1)), (wrap64 (1 + t3.1)), (wrap64 (t4.1 - 12)), (wrap64 (t5.1 - 4)), (wrap64 (t6.1 - 1)))
noncomputable def spec_B10Course.F (k : Nat) : Go.Rv.Fn := mkFn 1 spec_B10Course.pc spec_B10Course.pr (keepOf []) (fun (y : spec_B10Course.N) => (((y.1, y.2.1, ()), (y.2.2.1, y.2.2.2.1, y.2.2.2.2, ()), ()) : compT spec_B10Course.pr)) fun x => spec_B10Course.f k x.1.1
theorem spec_B10Course.env (k : Nat) : EnvOk Go.Proofs.Tryd.prog (fun f => (spec_B10Course.E k).lookup f) := envOk_of ⟨entry Go.Proofs.Tryd.call23 rfl (spec_l00From.ok k), entryB Go.Proofs.Tryd.call24 rfl (spec_l00Src_pick.ok k), trivial⟩
theorem spec_B10Course.ok (k : Nat) : FnOk Go.Proofs.Tryd.prog 13 (spec_B10Course.F k) :=
  fn_ok tab (spec_B10Course.env k) Go.Proofs.Tryd.func13 rfl (n := 1) (Nat.le_of_ble_eq_true rfl) (by kernel_rfl) (outs := []) (by kernel_rfl) (by kernel_rfl) (d := fun (y : compT spec_B10Course.pr) => ((y.1.1, y.1.2.1, y.2.1.1, y.2.1.2.1, y.2.1.2.2.1) : spec_B10Course.N)) (fun _ => rfl) (C := fun _ => []) (k := k) noCuts fun x => by kernel_rfl
/-! impl.within -/
@[reducible] def impl_within.pc : CutP := [(0, some false, [.fl (.int .i64)]), (1, some false, [.fl (.int .i64)]), (2, some false, [.fl (.int .i64)])]
@[reducible] def impl_within.pr : CompPs := [(false, [.fl .bool])]
abbrev impl_within.N := Bool
noncomputable def impl_within.E (k : Nat) : List (FuncId × Go.Rv.Fn) := []
noncomputable def impl_within.f (k : Nat) (a0 : Int) (a1 : Int) (a2 : Int) : Option impl_within.N := (if (decide (a1 ≤ a0)) = true then some (decide (a0 ≤ a2)) else some false)
noncomputable def impl_within.F (k : Nat) : Go.Rv.Fn := mkFn 3 impl_within.pc impl_within.pr (keepOf []) (fun (y : impl_within.N) => (((y, ()), ()) : compT impl_within.pr)) fun x => impl_within.f k x.1.1 x.2.1.1 x.2.2.1.1
theorem impl_within.env (k : Nat) : EnvOk Go.Proofs.Tryd.prog (fun f => (impl_within.E k).lookup f) := envOk_of trivial
theorem impl_within.ok (k : Nat) : FnOk Go.Proofs.Tryd.prog 36 (impl_within.F k) :=
  fn_ok tab (impl_within.env k) Go.Proofs.Tryd.func36 rfl (n := 3) (Nat.le_of_ble_eq_true rfl) (by kernel_rfl) (outs := []) (by kernel_rfl) (by kernel_rfl) (d := fun (y : compT impl_within.pr) => (y.1.1 : impl_within.N)) (fun _ => rfl) (C := fun _ => []) (k := k) noCuts fun x => by kernel_rfl
/-! impl.areWithin$1 -/
@[reducible] def impl_areWithin_1.pc : CutP := [(0, some false, [.fl (.int .i64)]), (1, some false, [.rptr [(.int .i64)]]), (2, some false, [.rptr [(.int .i64)]])]
@[reducible] def impl_areWithin_1.pr : CompPs := [(false, [.fl .bool])]
abbrev impl_areWithin_1.N := Bool
noncomputable def impl_areWithin_1.E (k : Nat) : List (FuncId × Go.Rv.Fn) := [(36, impl_within.F k)]
noncomputable def impl_areWithin_1.f (k : Nat) (a0 : Int) (a1 : Int) (a2 : Int) : Option impl_areWithin_1.N := (impl_within.f k a0 a1 a2).bind fun t1 => some (!t1)
noncomputable def impl_areWithin_1.F (k : Nat) : Go.Rv.Fn := mkFn 3 impl_areWithin_1.pc impl_areWithin_1.pr (keepOf []) (fun (y : impl_areWithin_1.N) => (((y, ()), ()) : compT impl_areWithin_1.pr)) fun x => impl_areWithin_1.f k x.1.1 x.2.1.1.1 x.2.2.1.1.1
theorem impl_areWithin_1.env (k : Nat) : EnvOk Go.Proofs.Tryd.prog (fun f => (impl_areWithin_1.E k).lookup f) := envOk_of ⟨entry Go.Proofs.Tryd.call36 rfl (impl_within.ok k), trivial⟩
theorem impl_areWithin_1.ok (k : Nat) : FnOk Go.Proofs.Tryd.prog 35 (impl_areWithin_1.F k) :=
  fn_ok tab (impl_areWithin_1.env k) Go.Proofs.Tryd.func35 rfl (n := 3) (Nat.le_of_ble_eq_true rfl) (by kernel_rfl) (outs := []) (by kernel_rfl) (by kernel_rfl) (d := fun (y : compT impl_areWithin_1.pr) => (y.1.1 : impl_areWithin_1.N)) (fun _ => rfl) (C := fun _ => []) (k := k) noCuts fun x => by kernel_rfl
/-! slices.IndexFunc[[]int64,int64] -/
@[reducible] def slices_IndexFunc_int64_areWithin_1.pc : CutP := [(0, some false, [.fl (.lo (.int .i64))]), (1, some false, [.fn 35 [[(.int .i64)], [(.int .i64)]]])]
@[reducible] def slices_IndexFunc_int64_areWithin_1.pr : CompPs := [(false, [.fl (.int .i64)])]
abbrev slices_IndexFunc_int64_areWithin_1.N := Int
noncomputable def slices_IndexFunc_int64_areWithin_1.E (k : Nat) : List (FuncId × Go.Rv.Fn) := [(35, impl_areWithin_1.F k)]
abbrev slices_IndexFunc_int64_areWithin_1.Cs := (List Int → Int → Int → Int → Int → Option slices_IndexFunc_int64_areWithin_1.N)
def slices_IndexFunc_int64_areWithin_1.zero : slices_IndexFunc_int64_areWithin_1.Cs := (fun _ _ _ _ _ => none)
noncomputable def slices_IndexFunc_int64_areWithin_1.step (k : Nat) (c : slices_IndexFunc_int64_areWithin_1.Cs) : slices_IndexFunc_int64_areWithin_1.Cs := (fun (x0 : List Int) (x1 : Int) (x2 : Int) (x3 : Int) (x4 : Int) => (if (decide (x4 < x3)) = true then if 0 ≤ x4 then if x4 < (x0.length : Int) then (impl_areWithin_1.f k (rd 0 x0 x4) x1 x2).bind fun t1 => (if t1 = true then some x4 else c x0 x1 x2 x3 (wrap64 (x4 + 1))) else none else none else some (-1)))
noncomputable def slices_IndexFunc_int64_areWithin_1.cs (k : Nat) : Nat → slices_IndexFunc_int64_areWithin_1.Cs
  | 0 => slices_IndexFunc_int64_areWithin_1.zero
  | n + 1 => slices_IndexFunc_int64_areWithin_1.step k (slices_IndexFunc_int64_areWithin_1.cs k n)
def slices_IndexFunc_int64_areWithin_1.CC (c : slices_IndexFunc_int64_areWithin_1.Cs) : Cuts slices_IndexFunc_int64_areWithin_1.N := [(6, ⟨[(0, some false, [.fl (.lo (.int .i64))]), (1, some false, [.fn 35 [[(.int .i64)], [(.int .i64)]]]), (7, some false, [.fl (.int .i64)]), (8, some false, [.fl (.int .i64)])], fun x => c x.1.1 x.2.1.1.1.1 x.2.1.1.2.1.1 x.2.2.1.1 x.2.2.2.1.1⟩)]
noncomputable def slices_IndexFunc_int64_areWithin_1.f (k : Nat) (a0 : List Int) (a1 : Int) (a2 : Int) : Option slices_IndexFunc_int64_areWithin_1.N := (slices_IndexFunc_int64_areWithin_1.cs k k) a0 a1 a2 (a0.length : Int) 0
noncomputable def slices_IndexFunc_int64_areWithin_1.F (k : Nat) : Go.Rv.Fn := mkFn 2 slices_IndexFunc_int64_areWithin_1.pc slices_IndexFunc_int64_areWithin_1.pr (keepOf []) (fun (y : slices_IndexFunc_int64_areWithin_1.N) => (((y, ()), ()) : compT slices_IndexFunc_int64_areWithin_1.pr)) fun x => slices_IndexFunc_int64_areWithin_1.f k x.1.1 x.2.1.1.1.1 x.2.1.1.2.1.1
theorem slices_IndexFunc_int64_areWithin_1.env (k : Nat) : EnvOk Go.Proofs.Tryd.prog (fun f => (slices_IndexFunc_int64_areWithin_1.E k).lookup f) := envOk_of ⟨entry Go.Proofs.Tryd.call35 rfl (impl_areWithin_1.ok k), trivial⟩
theorem slices_IndexFunc_int64_areWithin_1.cuts (k : Nat) : CutsOk Go.Proofs.Tryd.prog X (fun f => (slices_IndexFunc_int64_areWithin_1.E k).lookup f) Go.Proofs.Tryd.f43 [] (decN slices_IndexFunc_int64_areWithin_1.pr (fun (y : compT slices_IndexFunc_int64_areWithin_1.pr) => (y.1.1 : slices_IndexFunc_int64_areWithin_1.N))) fun n => slices_IndexFunc_int64_areWithin_1.CC (slices_IndexFunc_int64_areWithin_1.cs k n) :=
  cutsOk_of (step := slices_IndexFunc_int64_areWithin_1.step k) rfl (fun _ => rfl) ⟨fun _ => rfl, trivial⟩ (fun c => by kernel_rfl) fun c => ⟨fun x => by kernel_rfl, trivial⟩
theorem slices_IndexFunc_int64_areWithin_1.ok (k : Nat) : FnOk Go.Proofs.Tryd.prog 43 (slices_IndexFunc_int64_areWithin_1.F k) :=
  fn_ok tab (slices_IndexFunc_int64_areWithin_1.env k) Go.Proofs.Tryd.func43 rfl (n := 2) (Nat.le_of_ble_eq_true rfl) (by kernel_rfl) (outs := []) (by kernel_rfl) (by kernel_rfl) (d := fun (y : compT slices_IndexFunc_int64_areWithin_1.pr) => (y.1.1 : slices_IndexFunc_int64_areWithin_1.N)) (fun _ => rfl) (C := fun n => slices_IndexFunc_int64_areWithin_1.CC (slices_IndexFunc_int64_areWithin_1.cs k n)) (k := k) (slices_IndexFunc_int64_areWithin_1.cuts k) fun x => by kernel_rfl
/-! slices.ContainsFunc[[]int64,int64] -/
@[reducible] def slices_ContainsFunc_int64_areWithin_1.pc : CutP := [(0, some false, [.fl (.lo (.int .i64))]), (1, some false, [.fn 35 [[(.int .i64)], [(.int .i64)]]])]
@[reducible] def slices_ContainsFunc_int64_areWithin_1.pr : CompPs := [(false, [.fl .bool])]
abbrev slices_ContainsFunc_int64_areWithin_1.N := Bool
noncomputable def slices_ContainsFunc_int64_areWithin_1.E (k : Nat) : List (FuncId × Go.Rv.Fn) := [(43, slices_IndexFunc_int64_areWithin_1.F k)]
noncomputable def slices_ContainsFunc_int64_areWithin_1.f (k : Nat) (a0 : List Int) (a1 : Int) (a2 : Int) : Option slices_ContainsFunc_int64_areWithin_1.N := (slices_IndexFunc_int64_areWithin_1.f k a0 a1 a2).bind fun (t1 : Int) => some (decide (0 ≤ t1))
noncomputable def slices_ContainsFunc_int64_areWithin_1.F (k : Nat) : Go.Rv.Fn := mkFn 2 slices_ContainsFunc_int64_areWithin_1.pc slices_ContainsFunc_int64_areWithin_1.pr (keepOf []) (fun (y : slices_ContainsFunc_int64_areWithin_1.N) => (((y, ()), ()) : compT slices_ContainsFunc_int64_areWithin_1.pr)) fun x => slices_ContainsFunc_int64_areWithin_1.f k x.1.1 x.2.1.1.1.1 x.2.1.1.2.1.1
theorem slices_ContainsFunc_int64_areWithin_1.env (k : Nat) : EnvOk Go.Proofs.Tryd.prog (fun f => (slices_ContainsFunc_int64_areWithin_1.E k).lookup f) := envOk_of ⟨entry Go.Proofs.Tryd.call43 rfl (slices_IndexFunc_int64_areWithin_1.ok k), trivial⟩
theorem slices_ContainsFunc_int64_areWithin_1.ok (k : Nat) : FnOk Go.Proofs.Tryd.prog 34 (slices_ContainsFunc_int64_areWithin_1.F k) :=
  fn_ok tab (slices_ContainsFunc_int64_areWithin_1.env k) Go.Proofs.Tryd.func34 rfl (n := 2) (Nat.le_of_ble_eq_true rfl) (by kernel_rfl) (outs := []) (by kernel_rfl) (by kernel_rfl) (d := fun (y : compT slices_ContainsFunc_int64_areWithin_1.pr) => (y.1.1 : slices_ContainsFunc_int64_areWithin_1.N)) (fun _ => rfl) (C := fun _ => []) (k := k) noCuts fun x => by kernel_rfl
/-! impl.areWithin -/
@[reducible] def impl_areWithin.pc : CutP := [(0, some false, [.fl (.lo (.int .i64))]), (1, some false, [.fl (.int .i64)]), (2, some false, [.fl (.int .i64)])]
@[reducible] def impl_areWithin.pr : CompPs := [(false, [.fl .bool])]
abbrev impl_areWithin.N := Bool
noncomputable def impl_areWithin.E (k : Nat) : List (FuncId × Go.Rv.Fn) := [(34, slices_ContainsFunc_int64_areWithin_1.F k)]
noncomputable def impl_areWithin.f (k : Nat) (a0 : List Int) (a1 : Int) (a2 : Int) : Option impl_areWithin.N := (slices_ContainsFunc_int64_areWithin_1.f k a0 a1 a2).bind fun t1 => some (!t1)
noncomputable def impl_areWithin.F (k : Nat) : Go.Rv.Fn := mkFn 3 impl_areWithin.pc impl_areWithin.pr (keepOf []) (fun (y : impl_areWithin.N) => (((y, ()), ()) : compT impl_areWithin.pr)) fun x => impl_areWithin.f k x.1.1 x.2.1.1 x.2.2.1.1
theorem impl_areWithin.env (k : Nat) : EnvOk Go.Proofs.Tryd.prog (fun f => (impl_areWithin.E k).lookup f) := envOk_of ⟨entry Go.Proofs.Tryd.call34 rfl (slices_ContainsFunc_int64_areWithin_1.ok k), trivial⟩
theorem impl_areWithin.ok (k : Nat) : FnOk Go.Proofs.Tryd.prog 26 (impl_areWithin.F k) :=
  fn_ok tab (impl_areWithin.env k) Go.Proofs.Tryd.func26 rfl (n := 3) (Nat.le_of_ble_eq_true rfl) (by kernel_rfl) (outs := []) (by kernel_rfl) (by kernel_rfl) (d := fun (y : compT impl_areWithin.pr) => (y.1.1 : impl_areWithin.N)) (fun _ => rfl) (C := fun _ => []) (k := k) noCuts fun x => by kernel_rfl
/-! (impl.Course).isTold -/
@[reducible] def impl_Course_isTold.pc : CutP := [(0, some true, [.fl (.int .i64), .fl (.int .i64), .fl (.int .i64)])]
@[reducible] def impl_Course_isTold.pr : CompPs := [(false, [.fl .bool])]
abbrev impl_Course_isTold.N := Bool
noncomputable def impl_Course_isTold.E (k : Nat) : List (FuncId × Go.Rv.Fn) := [(26, impl_areWithin.F k)]
noncomputable def impl_Course_isTold.f (k : Nat) (a0 : Int) (a1 : Int) (a2 : Int) : Option impl_Course_isTold.N := (impl_areWithin.f k [a0, a1, a2] (-1000) 1000).bind fun t1 => some t1
noncomputable def impl_Course_isTold.F (k : Nat) : Go.Rv.Fn := mkFn 1 impl_Course_isTold.pc impl_Course_isTold.pr (keepOf []) (fun (y : impl_Course_isTold.N) => (((y, ()), ()) : compT impl_Course_isTold.pr)) fun x => impl_Course_isTold.f k x.1.1 x.1.2.1 x.1.2.2.1
theorem impl_Course_isTold.env (k : Nat) : EnvOk Go.Proofs.Tryd.prog (fun f => (impl_Course_isTold.E k).lookup f) := envOk_of ⟨entry Go.Proofs.Tryd.call26 rfl (impl_areWithin.ok k), trivial⟩
theorem impl_Course_isTold.ok (k : Nat) : FnOk Go.Proofs.Tryd.prog 19 (impl_Course_isTold.F k) :=
  fn_ok tab (impl_Course_isTold.env k) Go.Proofs.Tryd.func19 rfl (n := 1) (Nat.le_of_ble_eq_true rfl) (by kernel_rfl) (outs := []) (by kernel_rfl) (by kernel_rfl) (d := fun (y : compT impl_Course_isTold.pr) => (y.1.1 : impl_Course_isTold.N)) (fun _ => rfl) (C := fun _ => []) (k := k) noCuts fun x => by kernel_rfl
/-! strconv.FormatInt -/
@[reducible] def strconv_FormatInt.pc : CutP := [(0, some false, [.fl (.int .i64)]), (1, some false, [.fl (.int .i64)])]
@[reducible] def strconv_FormatInt.pr : CompPs := [(false, [.fl .str])]
abbrev strconv_FormatInt.N := ByteArray
noncomputable def strconv_FormatInt.E (k : Nat) : List (FuncId × Go.Rv.Fn) := []
noncomputable def strconv_FormatInt.f (k : Nat) (a0 : Int) (a1 : Int) : Option strconv_FormatInt.N := T.fmtF a0 a1
noncomputable def strconv_FormatInt.F (k : Nat) : Go.Rv.Fn := mkFn 2 strconv_FormatInt.pc strconv_FormatInt.pr (keepOf []) (fun (y : strconv_FormatInt.N) => (((y, ()), ()) : compT strconv_FormatInt.pr)) fun x => strconv_FormatInt.f k x.1.1 x.2.1.1
theorem strconv_FormatInt.ok (k : Nat) : FnOk Go.Proofs.Tryd.prog 37 (strconv_FormatInt.F k) := T.fmt_fn
/-! impl.Decimal -/
@[reducible] def impl_Decimal.pc : CutP := [(0, some false, [.fl (.int .i64)])]
@[reducible] def impl_Decimal.pr : CompPs := [(false, [.fl .str])]
abbrev impl_Decimal.N := ByteArray
noncomputable def impl_Decimal.E (k : Nat) : List (FuncId × Go.Rv.Fn) := [(37, strconv_FormatInt.F k)]
noncomputable def impl_Decimal.f (k : Nat) (a0 : Int) : Option impl_Decimal.N := (strconv_FormatInt.f k a0 10).bind fun t1 => some t1
noncomputable def impl_Decimal.F (k : Nat) : Go.Rv.Fn := mkFn 1 impl_Decimal.pc impl_Decimal.pr (keepOf []) (fun (y : impl_Decimal.N) => (((y, ()), ()) : compT impl_Decimal.pr)) fun x => impl_Decimal.f k x.1.1
theorem impl_Decimal.env (k : Nat) : EnvOk Go.Proofs.Tryd.prog (fun f => (impl_Decimal.E k).lookup f) := envOk_of ⟨entry Go.Proofs.Tryd.call37 rfl (strconv_FormatInt.ok k), trivial⟩
theorem impl_Decimal.ok (k : Nat) : FnOk Go.Proofs.Tryd.prog 29 (impl_Decimal.F k) :=
  fn_ok tab (impl_Decimal.env k) Go.Proofs.Tryd.func29 rfl (n := 1) (Nat.le_of_ble_eq_true rfl) (by kernel_rfl) (outs := []) (by kernel_rfl) (by kernel_rfl) (d := fun (y : compT impl_Decimal.pr) => (y.1.1 : impl_Decimal.N)) (fun _ => rfl) (C := fun _ => []) (k := k) noCuts fun x => by kernel_rfl
/-! strings.Join -/
@[reducible] def strings_Join.pc : CutP := [(0, some false, [.fl (.lo .str)]), (1, some false, [.fl .str])]
@[reducible] def strings_Join.pr : CompPs := [(false, [.fl .str])]
abbrev strings_Join.N := ByteArray
noncomputable def strings_Join.E (k : Nat) : List (FuncId × Go.Rv.Fn) := []
noncomputable def strings_Join.f (k : Nat) (a0 : List ByteArray) (a1 : ByteArray) : Option strings_Join.N := T.joinF a0 a1
noncomputable def strings_Join.F (k : Nat) : Go.Rv.Fn := mkFn 2 strings_Join.pc strings_Join.pr (keepOf []) (fun (y : strings_Join.N) => (((y, ()), ()) : compT strings_Join.pr)) fun x => strings_Join.f k x.1.1 x.2.1.1
theorem strings_Join.ok (k : Nat) : FnOk Go.Proofs.Tryd.prog 30 (strings_Join.F k) := T.join_fn
/-! impl.decimals -/
@[reducible] def impl_decimals.pc : CutP := [(0, some false, [.fl (.lo (.int .i64))]), (1, some false, [.fl .str])]
@[reducible] def impl_decimals.pr : CompPs := [(false, [.fl .str])]
abbrev impl_decimals.N := ByteArray
noncomputable def impl_decimals.E (k : Nat) : List (FuncId × Go.Rv.Fn) := [(29, impl_Decimal.F k), (30, strings_Join.F k)]
abbrev impl_decimals.Cs := (ByteArray → List ByteArray → List Int → Int → Int → Option impl_decimals.N)
def impl_decimals.zero : impl_decimals.Cs := (fun _ _ _ _ _ => none)
noncomputable def impl_decimals.step (k : Nat) (c : impl_decimals.Cs) : impl_decimals.Cs := (fun (x0 : ByteArray) (x1 : List ByteArray) (x2 : List Int) (x3 : Int) (x4 : Int) => (if (decide (x4 < x3)) = true then if 0 ≤ x4 then if x4 < (x2.length : Int) then (impl_Decimal.f k (rd 0 x2 x4)).bind fun t1 => if x1.length + [t1].length < 1099511627776 then c x0 (x1 ++ [t1]) x2 x3 (wrap64 (x4 + 1)) else none else none else none else (strings_Join.f k x1 x0).bind fun t2 => some t2))
noncomputable def impl_decimals.cs (k : Nat) : Nat → impl_decimals.Cs
  | 0 => impl_decimals.zero
  | n + 1 => impl_decimals.step k (impl_decimals.cs k n)
def impl_decimals.CC (c : impl_decimals.Cs) : Cuts impl_decimals.N := [(8, ⟨[(1, some false, [.fl .str]), (5, some false, [.fl (.own .str)]), (9, some false, [.fl (.lo (.int .i64))]), (10, some false, [.fl (.int .i64)]), (11, some false, [.fl (.int .i64)])], fun x => c x.1.1 x.2.1.1 x.2.2.1.1 x.2.2.2.1.1 x.2.2.2.2.1.1⟩)]
noncomputable def impl_decimals.f (k : Nat) (a0 : List Int) (a1 : ByteArray) : Option impl_decimals.N := (impl_decimals.cs k k) a1 ([] : List ByteArray) a0 (a0.length : Int) 0
noncomputable def impl_decimals.F (k : Nat) : Go.Rv.Fn := mkFn 2 impl_decimals.pc impl_decimals.pr (keepOf []) (fun (y : impl_decimals.N) => (((y, ()), ()) : compT impl_decimals.pr)) fun x => impl_decimals.f k x.1.1 x.2.1.1
theorem impl_decimals.env (k : Nat) : EnvOk Go.Proofs.Tryd.prog (fun f => (impl_decimals.E k).lookup f) := envOk_of ⟨entry Go.Proofs.Tryd.call29 rfl (impl_Decimal.ok k), entry Go.Proofs.Tryd.call30 rfl (strings_Join.ok k), trivial⟩
theorem impl_decimals.cuts (k : Nat) : CutsOk Go.Proofs.Tryd.prog X (fun f => (impl_decimals.E k).lookup f) Go.Proofs.Tryd.f20 [] (decN impl_decimals.pr (fun (y : compT impl_decimals.pr) => (y.1.1 : impl_decimals.N))) fun n => impl_decimals.CC (impl_decimals.cs k n) :=
  cutsOk_of (step := impl_decimals.step k) rfl (fun _ => rfl) ⟨fun _ => rfl, trivial⟩ (fun c => by kernel_rfl) fun c => ⟨fun x => by kernel_rfl, trivial⟩
theorem impl_decimals.ok (k : Nat) : FnOk Go.Proofs.Tryd.prog 20 (impl_decimals.F k) :=
  fn_ok tab (impl_decimals.env k) Go.Proofs.Tryd.func20 rfl (n := 2) (Nat.le_of_ble_eq_true rfl) (by kernel_rfl) (outs := []) (by kernel_rfl) (by kernel_rfl) (d := fun (y : compT impl_decimals.pr) => (y.1.1 : impl_decimals.N)) (fun _ => rfl) (C := fun n => impl_decimals.CC (impl_decimals.cs k n)) (k := k) (impl_decimals.cuts k) fun x => by kernel_rfl
/-! impl.CourseText -/
@[reducible] def impl_CourseText.pc : CutP := [(0, some true, [.fl (.int .i64), .fl (.int .i64), .fl (.int .i64)])]
@[reducible] def impl_CourseText.pr : CompPs := [(false, [.fl .str])]
abbrev impl_CourseText.N := ByteArray
noncomputable def impl_CourseText.E (k : Nat) : List (FuncId × Go.Rv.Fn) := [(19, impl_Course_isTold.F k), (20, impl_decimals.F k)]
noncomputable def impl_CourseText.f (k : Nat) (a0 : Int) (a1 : Int) (a2 : Int) : Option impl_CourseText.N := (impl_Course_isTold.f k a0 a1 a2).bind fun t1 => (if (!t1) = true then some ByteArray.empty else (impl_decimals.f k [a0, a1, a2] (ByteArray.mk #[47])).bind fun t2 => some t2)
noncomputable def impl_CourseText.F (k : Nat) : Go.Rv.Fn := mkFn 1 impl_CourseText.pc impl_CourseText.pr (keepOf []) (fun (y : impl_CourseText.N) => (((y, ()), ()) : compT impl_CourseText.pr)) fun x => impl_CourseText.f k x.1.1 x.1.2.1 x.1.2.2.1
theorem impl_CourseText.env (k : Nat) : EnvOk Go.Proofs.Tryd.prog (fun f => (impl_CourseText.E k).lookup f) := envOk_of ⟨entry Go.Proofs.Tryd.call19 rfl (impl_Course_isTold.ok k), entry Go.Proofs.Tryd.call20 rfl (impl_decimals.ok k), trivial⟩
theorem impl_CourseText.ok (k : Nat) : FnOk Go.Proofs.Tryd.prog 8 (impl_CourseText.F k) :=
  fn_ok tab (impl_CourseText.env k) Go.Proofs.Tryd.func8 rfl (n := 1) (Nat.le_of_ble_eq_true rfl) (by kernel_rfl) (outs := []) (by kernel_rfl) (by kernel_rfl) (d := fun (y : compT impl_CourseText.pr) => (y.1.1 : impl_CourseText.N)) (fun _ => rfl) (C := fun _ => []) (k := k) noCuts fun x => by kernel_rfl
/-! strings.Split -/
@[reducible] def strings_Split.pc : CutP := [(0, some false, [.fl .str]), (1, some false, [.fl .str])]
@[reducible] def strings_Split.pr : CompPs := [(false, [.fl (.own .str)])]
abbrev strings_Split.N := List ByteArray
noncomputable def strings_Split.E (k : Nat) : List (FuncId × Go.Rv.Fn) := []
noncomputable def strings_Split.f (k : Nat) (a0 : ByteArray) (a1 : ByteArray) : Option strings_Split.N := T.splitF a0 a1
noncomputable def strings_Split.F (k : Nat) : Go.Rv.Fn := mkFn 2 strings_Split.pc strings_Split.pr (keepOf []) (fun (y : strings_Split.N) => (((y, ()), ()) : compT strings_Split.pr)) fun x => strings_Split.f k x.1.1 x.2.1.1
theorem strings_Split.ok (k : Nat) : FnOk Go.Proofs.Tryd.prog 31 (strings_Split.F k) := T.split_fn
/-! impl.readIn -/
@[reducible] def impl_readIn.pc : CutP := [(0, some false, [.fl .str]), (1, some false, [.fl (.int .i64)]), (2, some false, [.fl (.int .i64)])]
@[reducible] def impl_readIn.pr : CompPs := [(false, [.fl (.int .i64)]), (false, [.fl .bool])]
abbrev impl_readIn.N := Int × Bool
noncomputable def impl_readIn.E (k : Nat) : List (FuncId × Go.Rv.Fn) := []
noncomputable def impl_readIn.f (k : Nat) (a0 : ByteArray) (a1 : Int) (a2 : Int) : Option impl_readIn.N := T.readInF a0 a1 a2
noncomputable def impl_readIn.F (k : Nat) : Go.Rv.Fn := mkFn 3 impl_readIn.pc impl_readIn.pr (keepOf []) (fun (y : impl_readIn.N) => (((y.1, ()), (y.2, ()), ()) : compT impl_readIn.pr)) fun x => impl_readIn.f k x.1.1 x.2.1.1 x.2.2.1.1
theorem impl_readIn.ok (k : Nat) : FnOk Go.Proofs.Tryd.prog 32 (impl_readIn.F k) := T.readIn_fn
/-! impl.readAll -/
@[reducible] def impl_readAll.pc : CutP := [(0, some false, [.fl .str]), (1, some false, [.fl .str]), (2, some false, [.fl (.int .i64)]), (3, some false, [.fl (.int .i64)])]
@[reducible] def impl_readAll.pr : CompPs := [(false, [.fl (.own (.int .i64))]), (false, [.fl .bool])]
abbrev impl_readAll.N := List Int × Bool
noncomputable def impl_readAll.E (k : Nat) : List (FuncId × Go.Rv.Fn) := [(31, strings_Split.F k), (32, impl_readIn.F k)]
abbrev impl_readAll.Cs := (Int → Int → List Int → List ByteArray → Int → Int → Option impl_readAll.N)
def impl_readAll.zero : impl_readAll.Cs := (fun _ _ _ _ _ _ => none)
noncomputable def impl_readAll.step (k : Nat) (c : impl_readAll.Cs) : impl_readAll.Cs := (fun (x0 : Int) (x1 : Int) (x2 : List Int) (x3 : List ByteArray) (x4 : Int) (x5 : Int) => (if (decide (x5 < x4)) = true then if 0 ≤ x5 then if x5 < (x3.length : Int) then (impl_readIn.f k (rd ByteArray.empty x3 x5) x0 x1).bind fun t2 => (if (!t2.2) = true then some ([], false) else if x2.length + [t2.1].length < 1099511627776 then c x0 x1 (x2 ++ [t2.1]) x3 x4 (wrap64 (x5 + 1)) else none) else none else none else some (x2, true)))
noncomputable def impl_readAll.cs (k : Nat) : Nat → impl_readAll.Cs
  | 0 => impl_readAll.zero
  | n + 1 => impl_readAll.step k (impl_readAll.cs k n)
def impl_readAll.CC (c : impl_readAll.Cs) : Cuts impl_readAll.N := [(8, ⟨[(2, some false, [.fl (.int .i64)]), (3, some false, [.fl (.int .i64)]), (10, some false, [.fl (.own (.int .i64))]), (18, some false, [.fl (.own .str)]), (19, some false, [.fl (.int .i64)]), (20, some false, [.fl (.int .i64)])], fun x => c x.1.1 x.2.1.1 x.2.2.1.1 x.2.2.2.1.1 x.2.2.2.2.1.1 x.2.2.2.2.2.1.1⟩)]
noncomputable def impl_readAll.f (k : Nat) (a0 : ByteArray) (a1 : ByteArray) (a2 : Int) (a3 : Int) : Option impl_readAll.N := (strings_Split.f k a0 a1).bind fun t1 => (impl_readAll.cs k k) a2 a3 ([] : List Int) t1 (t1.length : Int) 0
noncomputable def impl_readAll.F (k : Nat) : Go.Rv.Fn := mkFn 4 impl_readAll.pc impl_readAll.pr (keepOf []) (fun (y : impl_readAll.N) => (((y.1, ()), (y.2, ()), ()) : compT impl_readAll.pr)) fun x => impl_readAll.f k x.1.1 x.2.1.1 x.2.2.1.1 x.2.2.2.1.1
theorem impl_readAll.env (k : Nat) : EnvOk Go.Proofs.Tryd.prog (fun f => (impl_readAll.E k).lookup f) := envOk_of ⟨entry Go.Proofs.Tryd.call31 rfl (strings_Split.ok k), entry Go.Proofs.Tryd.call32 rfl (impl_readIn.ok k), trivial⟩
theorem impl_readAll.cuts (k : Nat) : CutsOk Go.Proofs.Tryd.prog X (fun f => (impl_readAll.E k).lookup f) Go.Proofs.Tryd.f22 [] (decN impl_readAll.pr (fun (y : compT impl_readAll.pr) => ((y.1.1, y.2.1.1) : impl_readAll.N))) fun n => impl_readAll.CC (impl_readAll.cs k n) :=
  cutsOk_of (step := impl_readAll.step k) rfl (fun _ => rfl) ⟨fun _ => rfl, trivial⟩ (fun c => by kernel_rfl) fun c => ⟨fun x => by kernel_rfl, trivial⟩
theorem impl_readAll.ok (k : Nat) : FnOk Go.Proofs.Tryd.prog 22 (impl_readAll.F k) :=
  fn_ok tab (impl_readAll.env k) Go.Proofs.Tryd.func22 rfl (n := 4) (Nat.le_of_ble_eq_true rfl) (by kernel_rfl) (outs := []) (by kernel_rfl) (by kernel_rfl) (d := fun (y : compT impl_readAll.pr) => ((y.1.1, y.2.1.1) : impl_readAll.N)) (fun _ => rfl) (C := fun n => impl_readAll.CC (impl_readAll.cs k n)) (k := k) (impl_readAll.cuts k) fun x => by kernel_rfl
/-! impl.ReadCourse -/
@[reducible] def impl_ReadCourse.pc : CutP := [(0, some false, [.fl .str])]
@[reducible] def impl_ReadCourse.pr : CompPs := [(true, [.fl (.int .i64), .fl (.int .i64), .fl (.int .i64)]), (false, [.fl .bool])]
abbrev impl_ReadCourse.N := Int × Int × Int × Bool
noncomputable def impl_ReadCourse.E (k : Nat) : List (FuncId × Go.Rv.Fn) := [(22, impl_readAll.F k)]
noncomputable def impl_ReadCourse.f (k : Nat) (a0 : ByteArray) : Option impl_ReadCourse.N := (impl_readAll.f k a0 (ByteArray.mk #[47]) (-1000) 1000).bind fun t1 => (if (!t1.2) = true then some (0, 0, 0, false) else (if (!decide ((t1.1.length : Int) = 3)) = true then some (0, 0, 0, false) else if 0 ≤ 0 then if 0 < (t1.1.length : Int) then if 0 ≤ 1 then if 1 < (t1.1.length : Int) then if 0 ≤ 2 then if 2 < (t1.1.length : Int) then some ((rd 0 t1.1 0), (rd 0 t1.1 1), (rd 0 t1.1 2), true) else none else none else none else none else none else none))
noncomputable def impl_ReadCourse.F (k : Nat) : Go.Rv.Fn := mkFn 1 impl_ReadCourse.pc impl_ReadCourse.pr (keepOf []) (fun (y : impl_ReadCourse.N) => (((y.1, y.2.1, y.2.2.1, ()), (y.2.2.2, ()), ()) : compT impl_ReadCourse.pr)) fun x => impl_ReadCourse.f k x.1.1
theorem impl_ReadCourse.env (k : Nat) : EnvOk Go.Proofs.Tryd.prog (fun f => (impl_ReadCourse.E k).lookup f) := envOk_of ⟨entry Go.Proofs.Tryd.call22 rfl (impl_readAll.ok k), trivial⟩
theorem impl_ReadCourse.ok (k : Nat) : FnOk Go.Proofs.Tryd.prog 10 (impl_ReadCourse.F k) :=
  fn_ok tab (impl_ReadCourse.env k) Go.Proofs.Tryd.func10 rfl (n := 1) (Nat.le_of_ble_eq_true rfl) (by kernel_rfl) (outs := []) (by kernel_rfl) (by kernel_rfl) (d := fun (y : compT impl_ReadCourse.pr) => ((y.1.1, y.1.2.1, y.1.2.2.1, y.2.1.1) : impl_ReadCourse.N)) (fun _ => rfl) (C := fun _ => []) (k := k) noCuts fun x => by kernel_rfl
/-! laws.b10At -/
@[reducible] def laws_b10At.pc : CutP := [(0, some false, [.fl (.lo (.int .u8))]), (1, some false, [.fl (.int .i64)]), (2, some false, [.fl (.int .i64)])]
@[reducible] def laws_b10At.pr : CompPs := [(false, [.fl (.int .i64)])]
abbrev laws_b10At.N := Int
noncomputable def laws_b10At.E (k : Nat) : List (FuncId × Go.Rv.Fn) := []
noncomputable def laws_b10At.f (k : Nat) (a0 : List Int) (a1 : Int) (a2 : Int) : Option laws_b10At.N := (if (decide (a2 ≤ 1)) = true then some 0 else (if (decide (a1 < (a0.length : Int))) = true then if 0 ≤ a1 then if a1 < (a0.length : Int) then (if a2 = 0 then none else some ((wrap64 ((rd 0 a0 a1))).tmod a2)) else none else none else (if a2 = 0 then none else some ((wrap64 ((wrap64 (a1 * 37)) + 11)).tmod a2))))
noncomputable def laws_b10At.F (k : Nat) : Go.Rv.Fn := mkFn 3 laws_b10At.pc laws_b10At.pr (keepOf []) (fun (y : laws_b10At.N) => (((y, ()), ()) : compT laws_b10At.pr)) fun x => laws_b10At.f k x.1.1 x.2.1.1 x.2.2.1.1
theorem laws_b10At.env (k : Nat) : EnvOk Go.Proofs.Tryd.prog (fun f => (laws_b10At.E k).lookup f) := envOk_of trivial
theorem laws_b10At.ok (k : Nat) : FnOk Go.Proofs.Tryd.prog 14 (laws_b10At.F k) :=
  fn_ok tab (laws_b10At.env k) Go.Proofs.Tryd.func14 rfl (n := 3) (Nat.le_of_ble_eq_true rfl) (by kernel_rfl) (outs := []) (by kernel_rfl) (by kernel_rfl) (d := fun (y : compT laws_b10At.pr) => (y.1.1 : laws_b10At.N)) (fun _ => rfl) (C := fun _ => []) (k := k) noCuts fun x => by kernel_rfl
/-! impl.ValidPose -/
@[reducible] def impl_ValidPose.pc : CutP := [(0, some true, [.fl (.int .i64), .fl (.int .i64), .fl (.int .i64), .fl (.int .i64)])]
@[reducible] def impl_ValidPose.pr : CompPs := [(false, [.fl .bool])]
abbrev impl_ValidPose.N := Bool
noncomputable def impl_ValidPose.E (k : Nat) : List (FuncId × Go.Rv.Fn) := [(26, impl_areWithin.F k)]
noncomputable def impl_ValidPose.f (k : Nat) (a0 : Int) (a1 : Int) (a2 : Int) (a3 : Int) : Option impl_ValidPose.N := (impl_areWithin.f k [a0, a1] (-100000) 100000).bind fun t1 => (if t1 = true then (impl_areWithin.f k [a2, a3] (-400) 400).bind fun t2 => some t2 else some false)
noncomputable def impl_ValidPose.F (k : Nat) : Go.Rv.Fn := mkFn 1 impl_ValidPose.pc impl_ValidPose.pr (keepOf []) (fun (y : impl_ValidPose.N) => (((y, ()), ()) : compT impl_ValidPose.pr)) fun x => impl_ValidPose.f k x.1.1 x.1.2.1 x.1.2.2.1 x.1.2.2.2.1
theorem impl_ValidPose.env (k : Nat) : EnvOk Go.Proofs.Tryd.prog (fun f => (impl_ValidPose.E k).lookup f) := envOk_of ⟨entry Go.Proofs.Tryd.call26 rfl (impl_areWithin.ok k), trivial⟩
theorem impl_ValidPose.ok (k : Nat) : FnOk Go.Proofs.Tryd.prog 25 (impl_ValidPose.F k) :=
  fn_ok tab (impl_ValidPose.env k) Go.Proofs.Tryd.func25 rfl (n := 1) (Nat.le_of_ble_eq_true rfl) (by kernel_rfl) (outs := []) (by kernel_rfl) (by kernel_rfl) (d := fun (y : compT impl_ValidPose.pr) => (y.1.1 : impl_ValidPose.N)) (fun _ => rfl) (C := fun _ => []) (k := k) noCuts fun x => by kernel_rfl
/-! impl.CourseOf -/
@[reducible] def impl_CourseOf.pc : CutP := [(0, some true, [.fl (.int .i64), .fl (.int .i64), .fl (.int .i64), .fl (.int .i64)]), (1, some true, [.fl (.int .i64), .fl (.int .i64), .fl (.int .i64), .fl (.int .i64)])]
@[reducible] def impl_CourseOf.pr : CompPs := [(true, [.fl (.int .i64), .fl (.int .i64), .fl (.int .i64)]), (true, [.fl (.int .i64), .fl (.int .i64), .fl (.int .i64)]), (false, [.fl .bool])]
abbrev impl_CourseOf.N := Int × Int × Int × Int × Int × Int × Bool
noncomputable def impl_CourseOf.E (k : Nat) : List (FuncId × Go.Rv.Fn) := [(25, impl_ValidPose.F k), (26, impl_areWithin.F k)]
abbrev impl_CourseOf.Cs := (Int → Int → Int → Int → Int → Int → Int → Int → Int → Int → Int → Int → Int → Int → Option impl_CourseOf.N)
def impl_CourseOf.zero : impl_CourseOf.Cs := (fun _ _ _ _ _ _ _ _ _ _ _ _ _ _ => none)
noncomputable def impl_CourseOf.step (k : Nat) (c : impl_CourseOf.Cs) : impl_CourseOf.Cs := (fun (x0 : Int) (x1 : Int) (x2 : Int) (x3 : Int) (x4 : Int) (x5 : Int) (x6 : Int) (x7 : Int) (x8 : Int) (x9 : Int) (x10 : Int) (x11 : Int) (x12 : Int) (x13 : Int) => (impl_areWithin.f k [(wrap64 (x0 - x4)), (wrap64 (x1 - x5))] (-40) 40).bind fun t3 => (if (!t3) = true then some (0, 0, 0, 0, 0, 0, false) else (impl_areWithin.f k [(wrap64 (x2 - x6)), (wrap64 (x3 - x7))] (-10) 10).bind fun t4 => (if (!t4) = true then some (0, 0, 0, 0, 0, 0, false) else some ((wrap64 (x0 - x4)), (wrap64 (x2 - x6)), 0, (wrap64 (x1 - x5)), (wrap64 (x3 - x7)), 0, true))))
noncomputable def impl_CourseOf.cs (k : Nat) : Nat → impl_CourseOf.Cs
  | 0 => impl_CourseOf.zero
  | n + 1 => impl_CourseOf.step k (impl_CourseOf.cs k n)
def impl_CourseOf.CC (c : impl_CourseOf.Cs) : Cuts impl_CourseOf.N := [(2, ⟨[(2, none, [.fl (.int .i64), .fl (.int .i64), .fl (.int .i64), .fl (.int .i64)]), (3, none, [.fl (.int .i64), .fl (.int .i64), .fl (.int .i64), .fl (.int .i64)]), (4, none, [.fl (.int .i64), .fl (.int .i64), .fl (.int .i64)]), (5, none, [.fl (.int .i64), .fl (.int .i64), .fl (.int .i64)])], fun x => c x.1.1 x.1.2.1 x.1.2.2.1 x.1.2.2.2.1 x.2.1.1 x.2.1.2.1 x.2.1.2.2.1 x.2.1.2.2.2.1 x.2.2.1.1 x.2.2.1.2.1 x.2.2.1.2.2.1 x.2.2.2.1.1 x.2.2.2.1.2.1 x.2.2.2.1.2.2.1⟩)]
noncomputable def impl_CourseOf.f (k : Nat) (a0 : Int) (a1 : Int) (a2 : Int) (a3 : Int) (a4 : Int) (a5 : Int) (a6 : Int) (a7 : Int) : Option impl_CourseOf.N := (impl_ValidPose.f k a0 a1 a2 a3).bind fun t1 => (if (!t1) = true then some (0, 0, 0, 0, 0, 0, false) else (impl_ValidPose.f k a4 a5 a6 a7).bind fun t2 => (if (!t2) = true then some (0, 0, 0, 0, 0, 0, false) else (impl_CourseOf.cs k k) a0 a1 a2 a3 a4 a5 a6 a7 0 0 0 0 0 0))
noncomputable def impl_CourseOf.F (k : Nat) : Go.Rv.Fn := mkFn 2 impl_CourseOf.pc impl_CourseOf.pr (keepOf []) (fun (y : impl_CourseOf.N) => (((y.1, y.2.1, y.2.2.1, ()), (y.2.2.2.1, y.2.2.2.2.1, y.2.2.2.2.2.1, ()), (y.2.2.2.2.2.2, ()), ()) : compT impl_CourseOf.pr)) fun x => impl_CourseOf.f k x.1.1 x.1.2.1 x.1.2.2.1 x.1.2.2.2.1 x.2.1.1 x.2.1.2.1 x.2.1.2.2.1 x.2.1.2.2.2.1
theorem impl_CourseOf.env (k : Nat) : EnvOk Go.Proofs.Tryd.prog (fun f => (impl_CourseOf.E k).lookup f) := envOk_of ⟨entry Go.Proofs.Tryd.call25 rfl (impl_ValidPose.ok k), entry Go.Proofs.Tryd.call26 rfl (impl_areWithin.ok k), trivial⟩
theorem impl_CourseOf.cuts (k : Nat) : CutsOk Go.Proofs.Tryd.prog X (fun f => (impl_CourseOf.E k).lookup f) Go.Proofs.Tryd.f15 [] (decN impl_CourseOf.pr (fun (y : compT impl_CourseOf.pr) => ((y.1.1, y.1.2.1, y.1.2.2.1, y.2.1.1, y.2.1.2.1, y.2.1.2.2.1, y.2.2.1.1) : impl_CourseOf.N))) fun n => impl_CourseOf.CC (impl_CourseOf.cs k n) :=
  cutsOk_of (step := impl_CourseOf.step k) rfl (fun _ => rfl) ⟨fun _ => rfl, trivial⟩ (fun c => by kernel_rfl) fun c => ⟨fun x => by kernel_rfl, trivial⟩
theorem impl_CourseOf.ok (k : Nat) : FnOk Go.Proofs.Tryd.prog 15 (impl_CourseOf.F k) :=
  fn_ok tab (impl_CourseOf.env k) Go.Proofs.Tryd.func15 rfl (n := 2) (Nat.le_of_ble_eq_true rfl) (by kernel_rfl) (outs := []) (by kernel_rfl) (by kernel_rfl) (d := fun (y : compT impl_CourseOf.pr) => ((y.1.1, y.1.2.1, y.1.2.2.1, y.2.1.1, y.2.1.2.1, y.2.1.2.2.1, y.2.2.1.1) : impl_CourseOf.N)) (fun _ => rfl) (C := fun n => impl_CourseOf.CC (impl_CourseOf.cs k n)) (k := k) (impl_CourseOf.cuts k) fun x => by kernel_rfl
/-! impl.MirrorCourse -/
@[reducible] def impl_MirrorCourse.pc : CutP := [(0, some true, [.fl (.int .i64), .fl (.int .i64), .fl (.int .i64)])]
@[reducible] def impl_MirrorCourse.pr : CompPs := [(true, [.fl (.int .i64), .fl (.int .i64), .fl (.int .i64)])]
abbrev impl_MirrorCourse.N := Int × Int × Int
noncomputable def impl_MirrorCourse.E (k : Nat) : List (FuncId × Go.Rv.Fn) := [(19, impl_Course_isTold.F k)]
noncomputable def impl_MirrorCourse.f (k : Nat) (a0 : Int) (a1 : Int) (a2 : Int) : Option impl_MirrorCourse.N := (impl_Course_isTold.f k a0 a1 a2).bind fun t1 => (if (!t1) = true then some (0, 0, 0) else some ((wrap64 (0 - a0)), (wrap64 (0 - a1)), (wrap64 (0 - a2))))
noncomputable def impl_MirrorCourse.F (k : Nat) : Go.Rv.Fn := mkFn 1 impl_MirrorCourse.pc impl_MirrorCourse.pr (keepOf []) (fun (y : impl_MirrorCourse.N) => (((y.1, y.2.1, y.2.2, ()), ()) : compT impl_MirrorCourse.pr)) fun x => impl_MirrorCourse.f k x.1.1 x.1.2.1 x.1.2.2.1
theorem impl_MirrorCourse.env (k : Nat) : EnvOk Go.Proofs.Tryd.prog (fun f => (impl_MirrorCourse.E k).lookup f) := envOk_of ⟨entry Go.Proofs.Tryd.call19 rfl (impl_Course_isTold.ok k), trivial⟩
theorem impl_MirrorCourse.ok (k : Nat) : FnOk Go.Proofs.Tryd.prog 16 (impl_MirrorCourse.F k) :=
  fn_ok tab (impl_MirrorCourse.env k) Go.Proofs.Tryd.func16 rfl (n := 1) (Nat.le_of_ble_eq_true rfl) (by kernel_rfl) (outs := []) (by kernel_rfl) (by kernel_rfl) (d := fun (y : compT impl_MirrorCourse.pr) => ((y.1.1, y.1.2.1, y.1.2.2.1) : impl_MirrorCourse.N)) (fun _ => rfl) (C := fun _ => []) (k := k) noCuts fun x => by kernel_rfl
/-! laws.FnCourses -/
@[reducible] def laws_FnCourses.pc : CutP := [(0, some false, [.fl (.lo (.int .u8))]), (1, some false, [.fl (.lo (.int .u8))])]
@[reducible] def laws_FnCourses.pr : CompPs := [(false, [.fl .bool])]
abbrev laws_FnCourses.N := Bool
noncomputable def laws_FnCourses.E (k : Nat) : List (FuncId × Go.Rv.Fn) := [(8, impl_CourseText.F k), (10, impl_ReadCourse.F k), (12, laws_b10Long.F k), (13, spec_B10Course.F k), (14, laws_b10At.F k), (15, impl_CourseOf.F k), (16, impl_MirrorCourse.F k)]
noncomputable def laws_FnCourses.f (k : Nat) (a0 : List Int) (a1 : List Int) : Option laws_FnCourses.N := (laws_b10Long.f k a0 a1).bind fun t1 => (if t1 = true then some true else (spec_B10Course.f k a0).bind fun t2 => (impl_CourseText.f k t2.2.2.1 t2.2.2.2.1 t2.2.2.2.2).bind fun t3 => (impl_ReadCourse.f k t3).bind fun t4 => (laws_b10At.f k a1 0 200).bind fun (t5 : Int) => (laws_b10At.f k a1 1 200).bind fun (t6 : Int) => (laws_b10At.f k a1 2 200).bind fun (t7 : Int) => (laws_b10At.f k a1 3 200).bind fun (t8 : Int) => (impl_CourseOf.f k (wrap64 (t5 + t2.2.2.1)) t6 (wrap64 (t7 + t2.2.2.2.1)) t8 t5 t6 t7 t8).bind fun t9 => (if t4.2.2.2 = true then (if (decide (t4.1 = t2.2.2.1) && (decide (t4.2.1 = t2.2.2.2.1) && (decide (t4.2.2.1 = t2.2.2.2.2) && true))) = true then (impl_MirrorCourse.f k t2.2.2.1 t2.2.2.2.1 t2.2.2.2.2).bind fun t10 => (impl_MirrorCourse.f k t10.1 t10.2.1 t10.2.2).bind fun t11 => (if (decide (t11.1 = t2.2.2.1) && (decide (t11.2.1 = t2.2.2.2.1) && (decide (t11.2.2 = t2.2.2.2.2) && true))) = true then (if t9.2.2.2.2.2.2 = true then (if (decide (t9.1 = t2.2.2.1) && (decide (t9.2.1 = t2.2.2.2.1) && (decide (t9.2.2.1 = 0) && true))) = true then some (decide (t9.2.2.2.1 = 0) && (decide (t9.2.2.2.2.1 = 0) && (decide (t9.2.2.2.2.2.1 = 0) && true))) else some false) else some false) else some false) else some false) else some false))
noncomputable def laws_FnCourses.F (k : Nat) : Go.Rv.Fn := mkFn 2 laws_FnCourses.pc laws_FnCourses.pr (keepOf []) (fun (y : laws_FnCourses.N) => (((y, ()), ()) : compT laws_FnCourses.pr)) fun x => laws_FnCourses.f k x.1.1 x.2.1.1
theorem laws_FnCourses.env (k : Nat) : EnvOk Go.Proofs.Tryd.prog (fun f => (laws_FnCourses.E k).lookup f) := envOk_of ⟨entry Go.Proofs.Tryd.call8 rfl (impl_CourseText.ok k), entry Go.Proofs.Tryd.call10 rfl (impl_ReadCourse.ok k), entry Go.Proofs.Tryd.call12 rfl (laws_b10Long.ok k), entry Go.Proofs.Tryd.call13 rfl (spec_B10Course.ok k), entry Go.Proofs.Tryd.call14 rfl (laws_b10At.ok k), entry Go.Proofs.Tryd.call15 rfl (impl_CourseOf.ok k), entry Go.Proofs.Tryd.call16 rfl (impl_MirrorCourse.ok k), trivial⟩
theorem laws_FnCourses.ok (k : Nat) : FnOk Go.Proofs.Tryd.prog 5 (laws_FnCourses.F k) :=
  fn_ok tab (laws_FnCourses.env k) Go.Proofs.Tryd.func5 rfl (n := 2) (Nat.le_of_ble_eq_true rfl) (by kernel_rfl) (outs := []) (by kernel_rfl) (by kernel_rfl) (d := fun (y : compT laws_FnCourses.pr) => (y.1.1 : laws_FnCourses.N)) (fun _ => rfl) (C := fun _ => []) (k := k) noCuts fun x => by kernel_rfl
end Go.Proofs.YtigkpbnhdkdliaaDoor.R
