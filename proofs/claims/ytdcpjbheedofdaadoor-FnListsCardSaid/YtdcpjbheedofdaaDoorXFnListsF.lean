-- written by wip/rev/gen2.py for this claim (out of the translation). Lean checks it.
import Derived.Test.YtdcpjbheedofdaaDoorRvM2
import Derived.Test.YtdcpjbheedofdaaDoorProg
import Derived.Test.YtdcpjbheedofdaaDoorRvAmb
import Derived.Test.YtdcpjbheedofdaaDoorRvStrF
import Derived.Test.YtdcpjbheedofdaaDoorRvStrJ
import Derived.Test.YtdcpjbheedofdaaDoorRvStrR
import Derived.Test.YtdcpjbheedofdaaDoorRvStrS
namespace Go.Proofs.YtdcpjbheedofdaaDoor.R
open Go.Rv
set_option linter.unusedVariables false
set_option maxRecDepth 100000
def X : Env := { n := 0, keep := [], tab := [(2, { ty := (.int .i64) }),
  (3, { ty := (.int .i64) }),
  (5, { ty := (.int .u8) }),
  (9, { ty := .str }),
  (22, { ty := (.sl (.int .u8)) }),
  (24, { ty := (.sl (.int .i64)) }),
  (46, { ty := (.int .u64) }),
  (48, { ty := (.pair (.sl (.int .u8)) (.pair (.int .i64) (.int .u64))), agg := true, offs := [(0, 1, false), (1, 1, false), (2, 1, false)] }),
  (51, { ty := (.sl .str) })] }
theorem tab : TabOk Go.Proofs.Tryd.prog X := ⟨by kernel_rfl, by kernel_rfl⟩
/-! laws.b10Long -/
@[reducible] def laws_b10Long.pc : CutP := [(0, some false, [.fl (.lo (.int .u8))]), (1, some false, [.fl (.lo (.int .u8))])]
@[reducible] def laws_b10Long.pr : CompPs := [(false, [.fl .bool])]
abbrev laws_b10Long.N := Bool
noncomputable def laws_b10Long.E (k : Nat) : List (FuncId × Go.Rv.Fn) := []
noncomputable def laws_b10Long.f (k : Nat) (a0 : List Int) (a1 : List Int) : Option laws_b10Long.N := (if (decide (1048576 < (a0.length : Int))) = true then some true else some (decide (1048576 < (a1.length : Int))))
noncomputable def laws_b10Long.F (k : Nat) : Go.Rv.Fn := mkFn 2 laws_b10Long.pc laws_b10Long.pr (keepOf []) (fun (y : laws_b10Long.N) => (((y, ()), ()) : compT laws_b10Long.pr)) fun x => laws_b10Long.f k x.1.1 x.2.1.1
theorem laws_b10Long.env (k : Nat) : EnvOk Go.Proofs.Tryd.prog (fun f => (laws_b10Long.E k).lookup f) := envOk_of trivial
theorem laws_b10Long.ok (k : Nat) : FnOk Go.Proofs.Tryd.prog 4 (laws_b10Long.F k) :=
  fn_ok tab (laws_b10Long.env k) Go.Proofs.Tryd.func4 rfl (n := 2) (Nat.le_of_ble_eq_true rfl) (by kernel_rfl) (outs := []) (by kernel_rfl) (by kernel_rfl) (d := fun (y : compT laws_b10Long.pr) => (y.1.1 : laws_b10Long.N)) (fun _ => rfl) (C := fun _ => []) (k := k) noCuts fun x => by kernel_rfl
/-! spec.l00From -/
@[reducible] def spec_l00From.bp : List FPat := [(.lo (.int .u8)), (.int .i64), (.int .u64)]
@[reducible] def spec_l00From.pc : CutP := [(0, some false, [.fl (.lo (.int .u8))])]
@[reducible] def spec_l00From.pr : CompPs := []
abbrev spec_l00From.N := List Int × Int × Int
noncomputable def spec_l00From.E (k : Nat) : List (FuncId × Go.Rv.Fn) := []
noncomputable def spec_l00From.f (k : Nat) (a0 : List Int) : Option spec_l00From.N := some (a0, 0, 0)
noncomputable def spec_l00From.F (k : Nat) : Go.Rv.Fn := mkFnR 1 spec_l00From.pc spec_l00From.bp (fun (y : spec_l00From.N) => ((y.1, y.2.1, y.2.2, ()) : fpatsT spec_l00From.bp)) fun x => spec_l00From.f k x.1.1
theorem spec_l00From.env (k : Nat) : EnvOk Go.Proofs.Tryd.prog (fun f => (spec_l00From.E k).lookup f) := envOk_of trivial
theorem spec_l00From.ok (k : Nat) : FnOk Go.Proofs.Tryd.prog 13 (spec_l00From.F k) :=
  fn_okR tab (spec_l00From.env k) Go.Proofs.Tryd.func13 rfl (n := 1) (Nat.le_of_ble_eq_true rfl) (by kernel_rfl) (by kernel_rfl) (d := fun (y : fpatsT spec_l00From.bp) => ((y.1, y.2.1, y.2.2.1) : spec_l00From.N)) (fun _ => rfl) (C := (fun _ => [])) (k := k) noCutsG fun x => by kernel_rfl
/-! (*spec.l00Src).next -/
@[reducible] def spec_l00Src_next.bp : List FPat := [(.lo (.int .u8)), (.int .i64), (.int .u64)]
@[reducible] def spec_l00Src_next.pc : CutP := [(0, none, [.fl (.lo (.int .u8)), .fl (.int .i64), .fl (.int .u64)])]
@[reducible] def spec_l00Src_next.pr : CompPs := [(false, [.fl (.int .i64)])]
abbrev spec_l00Src_next.N := Int × List Int × Int × Int
noncomputable def spec_l00Src_next.E (k : Nat) : List (FuncId × Go.Rv.Fn) := []
abbrev spec_l00Src_next.Cs := (List Int → Int → Int → Int → Option spec_l00Src_next.N)
def spec_l00Src_next.zero : spec_l00Src_next.Cs := (fun _ _ _ _ => none)
noncomputable def spec_l00Src_next.step (k : Nat) (c : spec_l00Src_next.Cs) : spec_l00Src_next.Cs := (fun (x0 : List Int) (x1 : Int) (x2 : Int) (x3 : Int) => (if (decide ((wrap64 (x1 + 1)) ≤ (x0.length : Int))) = true then some (x3, x0, (wrap64 (x1 + 1)), (IntKind.u64.wrap ((IntKind.u64.wrap ((IntKind.u64.wrap (x2 * 6364136223846793005)) + (IntKind.u64.wrap (x3)))) + 1442695040888963407))) else (if 40 < 0 then none else some ((wrap64 ((IntKind.u64.wrap ((BitVec.ofInt IntKind.u64.bits ((IntKind.u64.wrap ((IntKind.u64.wrap ((IntKind.u64.wrap (x2 * 6364136223846793005)) + (IntKind.u64.wrap (x3)))) + 1442695040888963407)).fdiv (2 ^ min (40 : Int).toNat IntKind.u64.bits)) &&& BitVec.ofInt IntKind.u64.bits 255).toNat : Int)))), x0, (wrap64 (x1 + 1)), (IntKind.u64.wrap ((IntKind.u64.wrap ((IntKind.u64.wrap (x2 * 6364136223846793005)) + (IntKind.u64.wrap (x3)))) + 1442695040888963407))))))
noncomputable def spec_l00Src_next.cs (k : Nat) : Nat → spec_l00Src_next.Cs
  | 0 => spec_l00Src_next.zero
  | n + 1 => spec_l00Src_next.step k (spec_l00Src_next.cs k n)
def spec_l00Src_next.CC (c : spec_l00Src_next.Cs) : Cuts spec_l00Src_next.N := [(4, ⟨[(0, none, [.fl (.lo (.int .u8)), .fl (.int .i64), .fl (.int .u64)]), (3, some false, [.fl (.int .i64)])], fun x => c x.1.1 x.1.2.1 x.1.2.2.1 x.2.1.1⟩)]
noncomputable def spec_l00Src_next.f (k : Nat) (a0 : List Int) (a1 : Int) (a2 : Int) : Option spec_l00Src_next.N := (if (decide (a1 < (a0.length : Int))) = true then if 0 ≤ a1 then if a1 < (a0.length : Int) then (spec_l00Src_next.cs k k) a0 a1 a2 (wrap64 ((rd 0 a0 a1))) else none else none else (spec_l00Src_next.cs k k) a0 a1 a2 0)
noncomputable def spec_l00Src_next.F (k : Nat) : Go.Rv.Fn := mkFnB 0 spec_l00Src_next.pc spec_l00Src_next.pr spec_l00Src_next.bp (fun (y : spec_l00Src_next.N) => ((((y.1, ()), ()), (y.2.1, y.2.2.1, y.2.2.2, ())) : compT spec_l00Src_next.pr × fpatsT spec_l00Src_next.bp)) fun x => spec_l00Src_next.f k x.1.1 x.1.2.1 x.1.2.2.1
theorem spec_l00Src_next.env (k : Nat) : EnvOk Go.Proofs.Tryd.prog (fun f => (spec_l00Src_next.E k).lookup f) := envOk_of trivial
theorem spec_l00Src_next.cuts (k : Nat) : CutsOkG Go.Proofs.Tryd.prog { X with n := Go.Proofs.Tryd.f22.ntmps, keep := [0] } (fun f => (spec_l00Src_next.E k).lookup f) Go.Proofs.Tryd.f22 (endB { X with n := Go.Proofs.Tryd.f22.ntmps, keep := [0] } Go.Proofs.Tryd.f22 spec_l00Src_next.pr spec_l00Src_next.bp (fun (y : compT spec_l00Src_next.pr × fpatsT spec_l00Src_next.bp) => ((y.1.1.1, y.2.1, y.2.2.1, y.2.2.2.1) : spec_l00Src_next.N))) fun n => spec_l00Src_next.CC (spec_l00Src_next.cs k n) :=
  cutsOkG_of (step := spec_l00Src_next.step k) rfl (fun _ => rfl) ⟨fun _ => rfl, trivial⟩ (fun c => by kernel_rfl) fun c => ⟨fun x => by kernel_rfl, trivial⟩
theorem spec_l00Src_next.ok (k : Nat) : FnOkB Go.Proofs.Tryd.prog 22 (spec_l00Src_next.F k) :=
  fn_okB tab (spec_l00Src_next.env k) Go.Proofs.Tryd.func22 rfl (n := 0) (Nat.le_of_ble_eq_true rfl) (by kernel_rfl) (by kernel_rfl) (by kernel_rfl) (d := fun (y : compT spec_l00Src_next.pr × fpatsT spec_l00Src_next.bp) => ((y.1.1.1, y.2.1, y.2.2.1, y.2.2.2.1) : spec_l00Src_next.N)) (fun _ => rfl) (C := (fun n => spec_l00Src_next.CC (spec_l00Src_next.cs k n))) (k := k) (spec_l00Src_next.cuts k) fun x => by kernel_rfl
/-! (*spec.l00Src).pick -/
@[reducible] def spec_l00Src_pick.bp : List FPat := [(.lo (.int .u8)), (.int .i64), (.int .u64)]
@[reducible] def spec_l00Src_pick.pc : CutP := [(0, none, [.fl (.lo (.int .u8)), .fl (.int .i64), .fl (.int .u64)]), (1, some false, [.fl (.int .i64)])]
@[reducible] def spec_l00Src_pick.pr : CompPs := [(false, [.fl (.int .i64)])]
abbrev spec_l00Src_pick.N := Int × List Int × Int × Int
noncomputable def spec_l00Src_pick.E (k : Nat) : List (FuncId × Go.Rv.Fn) := [(22, spec_l00Src_next.F k)]
noncomputable def spec_l00Src_pick.f (k : Nat) (a0 : List Int) (a1 : Int) (a2 : Int) (a3 : Int) : Option spec_l00Src_pick.N := (if (decide (a3 ≤ 1)) = true then some (0, a0, a1, a2) else (spec_l00Src_next.f k a0 a1 a2).bind fun t1 => (if (decide (200 < a3)) = true then (spec_l00Src_next.f k t1.2.1 t1.2.2.1 t1.2.2.2).bind fun t2 => (if a3 = 0 then none else some (((wrap64 ((wrap64 (t1.1 * 256)) + t2.1)).tmod a3), t2.2.1, t2.2.2.1, t2.2.2.2)) else (if a3 = 0 then none else some ((t1.1.tmod a3), t1.2.1, t1.2.2.1, t1.2.2.2))))
noncomputable def spec_l00Src_pick.F (k : Nat) : Go.Rv.Fn := mkFnB 1 spec_l00Src_pick.pc spec_l00Src_pick.pr spec_l00Src_pick.bp (fun (y : spec_l00Src_pick.N) => ((((y.1, ()), ()), (y.2.1, y.2.2.1, y.2.2.2, ())) : compT spec_l00Src_pick.pr × fpatsT spec_l00Src_pick.bp)) fun x => spec_l00Src_pick.f k x.1.1 x.1.2.1 x.1.2.2.1 x.2.1.1
theorem spec_l00Src_pick.env (k : Nat) : EnvOk Go.Proofs.Tryd.prog (fun f => (spec_l00Src_pick.E k).lookup f) := envOk_of ⟨entryB Go.Proofs.Tryd.call22 rfl (spec_l00Src_next.ok k), trivial⟩
theorem spec_l00Src_pick.ok (k : Nat) : FnOkB Go.Proofs.Tryd.prog 14 (spec_l00Src_pick.F k) :=
  fn_okB tab (spec_l00Src_pick.env k) Go.Proofs.Tryd.func14 rfl (n := 1) (Nat.le_of_ble_eq_true rfl) (by kernel_rfl) (by kernel_rfl) (by kernel_rfl) (d := fun (y : compT spec_l00Src_pick.pr × fpatsT spec_l00Src_pick.bp) => ((y.1.1.1, y.2.1, y.2.2.1, y.2.2.2.1) : spec_l00Src_pick.N)) (fun _ => rfl) (C := (fun _ => [])) (k := k) noCutsG fun x => by kernel_rfl
/-! spec.B10List -/
@[reducible] def spec_B10List.pc : CutP := [(0, some false, [.fl (.lo (.int .u8))])]
@[reducible] def spec_B10List.pr : CompPs := [(false, [.fl (.own (.int .i64))])]
abbrev spec_B10List.N := List Int
noncomputable def spec_B10List.E (k : Nat) : List (FuncId × Go.Rv.Fn) := [(13, spec_l00From.F k), (14, spec_l00Src_pick.F k)]
abbrev spec_B10List.Cs := (List Int → Int → List Int → Int → Int → Option spec_B10List.N)
def spec_B10List.zero : spec_B10List.Cs := (fun _ _ _ _ _ => none)
noncomputable def spec_B10List.step (k : Nat) (c : spec_B10List.Cs) : spec_B10List.Cs := (fun (x0 : List Int) (x1 : Int) (x2 : List Int) (x3 : Int) (x4 : Int) => (if (decide (0 < x1)) = true then (spec_l00Src_pick.f k x2 x3 x4 30).bind fun t4 => if x0.length + [(wrap64 (t4.1 - 10))].length < 1099511627776 then c (x0 ++ [(wrap64 (t4.1 - 10))]) (wrap64 (x1 - 1)) t4.2.1 t4.2.2.1 t4.2.2.2 else none else some x0))
noncomputable def spec_B10List.cs (k : Nat) : Nat → spec_B10List.Cs
  | 0 => spec_B10List.zero
  | n + 1 => spec_B10List.step k (spec_B10List.cs k n)
def spec_B10List.CC (c : spec_B10List.Cs) : Cuts spec_B10List.N := [(10, ⟨[(3, some false, [.fl (.ptr 7 0)]), (4, some false, [.fl (.own (.int .i64))]), (5, some false, [.fl (.int .i64)]), (7, none, [.fl (.lo (.int .u8)), .fl (.int .i64), .fl (.int .u64)])], fun x => c x.2.1.1 x.2.2.1.1 x.2.2.2.1.1 x.2.2.2.1.2.1 x.2.2.2.1.2.2.1⟩)]
noncomputable def spec_B10List.f (k : Nat) (a0 : List Int) : Option spec_B10List.N := (spec_l00From.f k a0).bind fun t1 => (spec_l00Src_pick.f k t1.1 t1.2.1 t1.2.2 30).bind fun t2 => (spec_l00Src_pick.f k t2.2.1 t2.2.2.1 t2.2.2.2 9).bind fun t3 => (spec_B10List.cs k k) [(wrap64 (t2.1 - 10))] t3.1 t3.2.1 t3.2.2.1 t3.2.2.2
noncomputable def spec_B10List.F (k : Nat) : Go.Rv.Fn := mkFn 1 spec_B10List.pc spec_B10List.pr (keepOf []) (fun (y : spec_B10List.N) => (((y, ()), ()) : compT spec_B10List.pr)) fun x => spec_B10List.f k x.1.1
theorem spec_B10List.env (k : Nat) : EnvOk Go.Proofs.Tryd.prog (fun f => (spec_B10List.E k).lookup f) := envOk_of ⟨entry Go.Proofs.Tryd.call13 rfl (spec_l00From.ok k), entryB Go.Proofs.Tryd.call14 rfl (spec_l00Src_pick.ok k), trivial⟩
theorem spec_B10List.cuts (k : Nat) : CutsOk Go.Proofs.Tryd.prog X (fun f => (spec_B10List.E k).lookup f) Go.Proofs.Tryd.f5 [] (decN spec_B10List.pr (fun (y : compT spec_B10List.pr) => (y.1.1 : spec_B10List.N))) fun n => spec_B10List.CC (spec_B10List.cs k n) :=
  cutsOk_of (step := spec_B10List.step k) rfl (fun _ => rfl) ⟨fun _ => rfl, trivial⟩ (fun c => by kernel_rfl) fun c => ⟨fun x => by kernel_rfl, trivial⟩
theorem spec_B10List.ok (k : Nat) : FnOk Go.Proofs.Tryd.prog 5 (spec_B10List.F k) :=
  fn_ok tab (spec_B10List.env k) Go.Proofs.Tryd.func5 rfl (n := 1) (Nat.le_of_ble_eq_true rfl) (by kernel_rfl) (outs := []) (by kernel_rfl) (by kernel_rfl) (d := fun (y : compT spec_B10List.pr) => (y.1.1 : spec_B10List.N)) (fun _ => rfl) (C := fun n => spec_B10List.CC (spec_B10List.cs k n)) (k := k) (spec_B10List.cuts k) fun x => by kernel_rfl
/-! impl.within -/
@[reducible] def impl_within.pc : CutP := [(0, some false, [.fl (.int .i64)]), (1, some false, [.fl (.int .i64)]), (2, some false, [.fl (.int .i64)])]
@[reducible] def impl_within.pr : CompPs := [(false, [.fl .bool])]
abbrev impl_within.N := Bool
noncomputable def impl_within.E (k : Nat) : List (FuncId × Go.Rv.Fn) := []
noncomputable def impl_within.f (k : Nat) (a0 : Int) (a1 : Int) (a2 : Int) : Option impl_within.N := (if (decide (a1 ≤ a0)) = true then some (decide (a0 ≤ a2)) else some false)
noncomputable def impl_within.F (k : Nat) : Go.Rv.Fn := mkFn 3 impl_within.pc impl_within.pr (keepOf []) (fun (y : impl_within.N) => (((y, ()), ()) : compT impl_within.pr)) fun x => impl_within.f k x.1.1 x.2.1.1 x.2.2.1.1
theorem impl_within.env (k : Nat) : EnvOk Go.Proofs.Tryd.prog (fun f => (impl_within.E k).lookup f) := envOk_of trivial
theorem impl_within.ok (k : Nat) : FnOk Go.Proofs.Tryd.prog 18 (impl_within.F k) :=
  fn_ok tab (impl_within.env k) Go.Proofs.Tryd.func18 rfl (n := 3) (Nat.le_of_ble_eq_true rfl) (by kernel_rfl) (outs := []) (by kernel_rfl) (by kernel_rfl) (d := fun (y : compT impl_within.pr) => (y.1.1 : impl_within.N)) (fun _ => rfl) (C := fun _ => []) (k := k) noCuts fun x => by kernel_rfl
/-! impl.areWithin$1 -/
@[reducible] def impl_areWithin_1.pc : CutP := [(0, some false, [.fl (.int .i64)]), (1, some false, [.rptr [(.int .i64)]]), (2, some false, [.rptr [(.int .i64)]])]
@[reducible] def impl_areWithin_1.pr : CompPs := [(false, [.fl .bool])]
abbrev impl_areWithin_1.N := Bool
noncomputable def impl_areWithin_1.E (k : Nat) : List (FuncId × Go.Rv.Fn) := [(18, impl_within.F k)]
noncomputable def impl_areWithin_1.f (k : Nat) (a0 : Int) (a1 : Int) (a2 : Int) : Option impl_areWithin_1.N := (impl_within.f k a0 a1 a2).bind fun t1 => some (!t1)
noncomputable def impl_areWithin_1.F (k : Nat) : Go.Rv.Fn := mkFn 3 impl_areWithin_1.pc impl_areWithin_1.pr (keepOf []) (fun (y : impl_areWithin_1.N) => (((y, ()), ()) : compT impl_areWithin_1.pr)) fun x => impl_areWithin_1.f k x.1.1 x.2.1.1.1 x.2.2.1.1.1
theorem impl_areWithin_1.env (k : Nat) : EnvOk Go.Proofs.Tryd.prog (fun f => (impl_areWithin_1.E k).lookup f) := envOk_of ⟨entry Go.Proofs.Tryd.call18 rfl (impl_within.ok k), trivial⟩
theorem impl_areWithin_1.ok (k : Nat) : FnOk Go.Proofs.Tryd.prog 29 (impl_areWithin_1.F k) :=
  fn_ok tab (impl_areWithin_1.env k) Go.Proofs.Tryd.func29 rfl (n := 3) (Nat.le_of_ble_eq_true rfl) (by kernel_rfl) (outs := []) (by kernel_rfl) (by kernel_rfl) (d := fun (y : compT impl_areWithin_1.pr) => (y.1.1 : impl_areWithin_1.N)) (fun _ => rfl) (C := fun _ => []) (k := k) noCuts fun x => by kernel_rfl
/-! slices.IndexFunc[[]int64,int64] -/
@[reducible] def slices_IndexFunc_int64_areWithin_1.pc : CutP := [(0, some false, [.fl (.lo (.int .i64))]), (1, some false, [.fn 29 [[(.int .i64)], [(.int .i64)]]])]
@[reducible] def slices_IndexFunc_int64_areWithin_1.pr : CompPs := [(false, [.fl (.int .i64)])]
abbrev slices_IndexFunc_int64_areWithin_1.N := Int
noncomputable def slices_IndexFunc_int64_areWithin_1.E (k : Nat) : List (FuncId × Go.Rv.Fn) := [(29, impl_areWithin_1.F k)]
abbrev slices_IndexFunc_int64_areWithin_1.Cs := (List Int → Int → Int → Int → Int → Option slices_IndexFunc_int64_areWithin_1.N)
def slices_IndexFunc_int64_areWithin_1.zero : slices_IndexFunc_int64_areWithin_1.Cs := (fun _ _ _ _ _ => none)
noncomputable def slices_IndexFunc_int64_areWithin_1.step (k : Nat) (c : slices_IndexFunc_int64_areWithin_1.Cs) : slices_IndexFunc_int64_areWithin_1.Cs := (fun (x0 : List Int) (x1 : Int) (x2 : Int) (x3 : Int) (x4 : Int) => (if (decide (x4 < x3)) = true then if 0 ≤ x4 then if x4 < (x0.length : Int) then (impl_areWithin_1.f k (rd 0 x0 x4) x1 x2).bind fun t1 => (if t1 = true then some x4 else c x0 x1 x2 x3 (wrap64 (x4 + 1))) else none else none else some (-1)))
noncomputable def slices_IndexFunc_int64_areWithin_1.cs (k : Nat) : Nat → slices_IndexFunc_int64_areWithin_1.Cs
  | 0 => slices_IndexFunc_int64_areWithin_1.zero
  | n + 1 => slices_IndexFunc_int64_areWithin_1.step k (slices_IndexFunc_int64_areWithin_1.cs k n)
def slices_IndexFunc_int64_areWithin_1.CC (c : slices_IndexFunc_int64_areWithin_1.Cs) : Cuts slices_IndexFunc_int64_areWithin_1.N := [(6, ⟨[(0, some false, [.fl (.lo (.int .i64))]), (1, some false, [.fn 29 [[(.int .i64)], [(.int .i64)]]]), (7, some false, [.fl (.int .i64)]), (8, some false, [.fl (.int .i64)])], fun x => c x.1.1 x.2.1.1.1.1 x.2.1.1.2.1.1 x.2.2.1.1 x.2.2.2.1.1⟩)]
noncomputable def slices_IndexFunc_int64_areWithin_1.f (k : Nat) (a0 : List Int) (a1 : Int) (a2 : Int) : Option slices_IndexFunc_int64_areWithin_1.N := (slices_IndexFunc_int64_areWithin_1.cs k k) a0 a1 a2 (a0.length : Int) 0
noncomputable def slices_IndexFunc_int64_areWithin_1.F (k : Nat) : Go.Rv.Fn := mkFn 2 slices_IndexFunc_int64_areWithin_1.pc slices_IndexFunc_int64_areWithin_1.pr (keepOf []) (fun (y : slices_IndexFunc_int64_areWithin_1.N) => (((y, ()), ()) : compT slices_IndexFunc_int64_areWithin_1.pr)) fun x => slices_IndexFunc_int64_areWithin_1.f k x.1.1 x.2.1.1.1.1 x.2.1.1.2.1.1
theorem slices_IndexFunc_int64_areWithin_1.env (k : Nat) : EnvOk Go.Proofs.Tryd.prog (fun f => (slices_IndexFunc_int64_areWithin_1.E k).lookup f) := envOk_of ⟨entry Go.Proofs.Tryd.call29 rfl (impl_areWithin_1.ok k), trivial⟩
theorem slices_IndexFunc_int64_areWithin_1.cuts (k : Nat) : CutsOk Go.Proofs.Tryd.prog X (fun f => (slices_IndexFunc_int64_areWithin_1.E k).lookup f) Go.Proofs.Tryd.f40 [] (decN slices_IndexFunc_int64_areWithin_1.pr (fun (y : compT slices_IndexFunc_int64_areWithin_1.pr) => (y.1.1 : slices_IndexFunc_int64_areWithin_1.N))) fun n => slices_IndexFunc_int64_areWithin_1.CC (slices_IndexFunc_int64_areWithin_1.cs k n) :=
  cutsOk_of (step := slices_IndexFunc_int64_areWithin_1.step k) rfl (fun _ => rfl) ⟨fun _ => rfl, trivial⟩ (fun c => by kernel_rfl) fun c => ⟨fun x => by kernel_rfl, trivial⟩
theorem slices_IndexFunc_int64_areWithin_1.ok (k : Nat) : FnOk Go.Proofs.Tryd.prog 40 (slices_IndexFunc_int64_areWithin_1.F k) :=
  fn_ok tab (slices_IndexFunc_int64_areWithin_1.env k) Go.Proofs.Tryd.func40 rfl (n := 2) (Nat.le_of_ble_eq_true rfl) (by kernel_rfl) (outs := []) (by kernel_rfl) (by kernel_rfl) (d := fun (y : compT slices_IndexFunc_int64_areWithin_1.pr) => (y.1.1 : slices_IndexFunc_int64_areWithin_1.N)) (fun _ => rfl) (C := fun n => slices_IndexFunc_int64_areWithin_1.CC (slices_IndexFunc_int64_areWithin_1.cs k n)) (k := k) (slices_IndexFunc_int64_areWithin_1.cuts k) fun x => by kernel_rfl
/-! slices.ContainsFunc[[]int64,int64] -/
@[reducible] def slices_ContainsFunc_int64_areWithin_1.pc : CutP := [(0, some false, [.fl (.lo (.int .i64))]), (1, some false, [.fn 29 [[(.int .i64)], [(.int .i64)]]])]
@[reducible] def slices_ContainsFunc_int64_areWithin_1.pr : CompPs := [(false, [.fl .bool])]
abbrev slices_ContainsFunc_int64_areWithin_1.N := Bool
noncomputable def slices_ContainsFunc_int64_areWithin_1.E (k : Nat) : List (FuncId × Go.Rv.Fn) := [(40, slices_IndexFunc_int64_areWithin_1.F k)]
noncomputable def slices_ContainsFunc_int64_areWithin_1.f (k : Nat) (a0 : List Int) (a1 : Int) (a2 : Int) : Option slices_ContainsFunc_int64_areWithin_1.N := (slices_IndexFunc_int64_areWithin_1.f k a0 a1 a2).bind fun (t1 : Int) => some (decide (0 ≤ t1))
noncomputable def slices_ContainsFunc_int64_areWithin_1.F (k : Nat) : Go.Rv.Fn := mkFn 2 slices_ContainsFunc_int64_areWithin_1.pc slices_ContainsFunc_int64_areWithin_1.pr (keepOf []) (fun (y : slices_ContainsFunc_int64_areWithin_1.N) => (((y, ()), ()) : compT slices_ContainsFunc_int64_areWithin_1.pr)) fun x => slices_ContainsFunc_int64_areWithin_1.f k x.1.1 x.2.1.1.1.1 x.2.1.1.2.1.1
theorem slices_ContainsFunc_int64_areWithin_1.env (k : Nat) : EnvOk Go.Proofs.Tryd.prog (fun f => (slices_ContainsFunc_int64_areWithin_1.E k).lookup f) := envOk_of ⟨entry Go.Proofs.Tryd.call40 rfl (slices_IndexFunc_int64_areWithin_1.ok k), trivial⟩
theorem slices_ContainsFunc_int64_areWithin_1.ok (k : Nat) : FnOk Go.Proofs.Tryd.prog 28 (slices_ContainsFunc_int64_areWithin_1.F k) :=
  fn_ok tab (slices_ContainsFunc_int64_areWithin_1.env k) Go.Proofs.Tryd.func28 rfl (n := 2) (Nat.le_of_ble_eq_true rfl) (by kernel_rfl) (outs := []) (by kernel_rfl) (by kernel_rfl) (d := fun (y : compT slices_ContainsFunc_int64_areWithin_1.pr) => (y.1.1 : slices_ContainsFunc_int64_areWithin_1.N)) (fun _ => rfl) (C := fun _ => []) (k := k) noCuts fun x => by kernel_rfl
/-! impl.areWithin -/
@[reducible] def impl_areWithin.pc : CutP := [(0, some false, [.fl (.lo (.int .i64))]), (1, some false, [.fl (.int .i64)]), (2, some false, [.fl (.int .i64)])]
@[reducible] def impl_areWithin.pr : CompPs := [(false, [.fl .bool])]
abbrev impl_areWithin.N := Bool
noncomputable def impl_areWithin.E (k : Nat) : List (FuncId × Go.Rv.Fn) := [(28, slices_ContainsFunc_int64_areWithin_1.F k)]
noncomputable def impl_areWithin.f (k : Nat) (a0 : List Int) (a1 : Int) (a2 : Int) : Option impl_areWithin.N := (slices_ContainsFunc_int64_areWithin_1.f k a0 a1 a2).bind fun t1 => some (!t1)
noncomputable def impl_areWithin.F (k : Nat) : Go.Rv.Fn := mkFn 3 impl_areWithin.pc impl_areWithin.pr (keepOf []) (fun (y : impl_areWithin.N) => (((y, ()), ()) : compT impl_areWithin.pr)) fun x => impl_areWithin.f k x.1.1 x.2.1.1 x.2.2.1.1
theorem impl_areWithin.env (k : Nat) : EnvOk Go.Proofs.Tryd.prog (fun f => (impl_areWithin.E k).lookup f) := envOk_of ⟨entry Go.Proofs.Tryd.call28 rfl (slices_ContainsFunc_int64_areWithin_1.ok k), trivial⟩
theorem impl_areWithin.ok (k : Nat) : FnOk Go.Proofs.Tryd.prog 23 (impl_areWithin.F k) :=
  fn_ok tab (impl_areWithin.env k) Go.Proofs.Tryd.func23 rfl (n := 3) (Nat.le_of_ble_eq_true rfl) (by kernel_rfl) (outs := []) (by kernel_rfl) (by kernel_rfl) (d := fun (y : compT impl_areWithin.pr) => (y.1.1 : impl_areWithin.N)) (fun _ => rfl) (C := fun _ => []) (k := k) noCuts fun x => by kernel_rfl
/-! impl.isList -/
@[reducible] def impl_isList.pc : CutP := [(0, some false, [.fl (.lo (.int .i64))])]
@[reducible] def impl_isList.pr : CompPs := [(false, [.fl .bool])]
abbrev impl_isList.N := Bool
noncomputable def impl_isList.E (k : Nat) : List (FuncId × Go.Rv.Fn) := [(23, impl_areWithin.F k)]
noncomputable def impl_isList.f (k : Nat) (a0 : List Int) : Option impl_isList.N := (if (decide ((a0.length : Int) ≤ 64)) = true then (impl_areWithin.f k a0 (-1000000000) 1000000000).bind fun t1 => some t1 else some false)
noncomputable def impl_isList.F (k : Nat) : Go.Rv.Fn := mkFn 1 impl_isList.pc impl_isList.pr (keepOf []) (fun (y : impl_isList.N) => (((y, ()), ()) : compT impl_isList.pr)) fun x => impl_isList.f k x.1.1
theorem impl_isList.env (k : Nat) : EnvOk Go.Proofs.Tryd.prog (fun f => (impl_isList.E k).lookup f) := envOk_of ⟨entry Go.Proofs.Tryd.call23 rfl (impl_areWithin.ok k), trivial⟩
theorem impl_isList.ok (k : Nat) : FnOk Go.Proofs.Tryd.prog 15 (impl_isList.F k) :=
  fn_ok tab (impl_isList.env k) Go.Proofs.Tryd.func15 rfl (n := 1) (Nat.le_of_ble_eq_true rfl) (by kernel_rfl) (outs := []) (by kernel_rfl) (by kernel_rfl) (d := fun (y : compT impl_isList.pr) => (y.1.1 : impl_isList.N)) (fun _ => rfl) (C := fun _ => []) (k := k) noCuts fun x => by kernel_rfl
/-! strconv.FormatInt -/
@[reducible] def strconv_FormatInt.pc : CutP := [(0, some false, [.fl (.int .i64)]), (1, some false, [.fl (.int .i64)])]
@[reducible] def strconv_FormatInt.pr : CompPs := [(false, [.fl .str])]
abbrev strconv_FormatInt.N := ByteArray
noncomputable def strconv_FormatInt.E (k : Nat) : List (FuncId × Go.Rv.Fn) := []
noncomputable def strconv_FormatInt.f (k : Nat) (a0 : Int) (a1 : Int) : Option strconv_FormatInt.N := T.fmtF a0 a1
noncomputable def strconv_FormatInt.F (k : Nat) : Go.Rv.Fn := mkFn 2 strconv_FormatInt.pc strconv_FormatInt.pr (keepOf []) (fun (y : strconv_FormatInt.N) => (((y, ()), ()) : compT strconv_FormatInt.pr)) fun x => strconv_FormatInt.f k x.1.1 x.2.1.1
theorem strconv_FormatInt.ok (k : Nat) : FnOk Go.Proofs.Tryd.prog 21 (strconv_FormatInt.F k) := T.fmt_fn
/-! impl.Decimal -/
@[reducible] def impl_Decimal.pc : CutP := [(0, some false, [.fl (.int .i64)])]
@[reducible] def impl_Decimal.pr : CompPs := [(false, [.fl .str])]
abbrev impl_Decimal.N := ByteArray
noncomputable def impl_Decimal.E (k : Nat) : List (FuncId × Go.Rv.Fn) := [(21, strconv_FormatInt.F k)]
noncomputable def impl_Decimal.f (k : Nat) (a0 : Int) : Option impl_Decimal.N := (strconv_FormatInt.f k a0 10).bind fun t1 => some t1
noncomputable def impl_Decimal.F (k : Nat) : Go.Rv.Fn := mkFn 1 impl_Decimal.pc impl_Decimal.pr (keepOf []) (fun (y : impl_Decimal.N) => (((y, ()), ()) : compT impl_Decimal.pr)) fun x => impl_Decimal.f k x.1.1
theorem impl_Decimal.env (k : Nat) : EnvOk Go.Proofs.Tryd.prog (fun f => (impl_Decimal.E k).lookup f) := envOk_of ⟨entry Go.Proofs.Tryd.call21 rfl (strconv_FormatInt.ok k), trivial⟩
theorem impl_Decimal.ok (k : Nat) : FnOk Go.Proofs.Tryd.prog 11 (impl_Decimal.F k) :=
  fn_ok tab (impl_Decimal.env k) Go.Proofs.Tryd.func11 rfl (n := 1) (Nat.le_of_ble_eq_true rfl) (by kernel_rfl) (outs := []) (by kernel_rfl) (by kernel_rfl) (d := fun (y : compT impl_Decimal.pr) => (y.1.1 : impl_Decimal.N)) (fun _ => rfl) (C := fun _ => []) (k := k) noCuts fun x => by kernel_rfl
/-! strings.Join -/
@[reducible] def strings_Join.pc : CutP := [(0, some false, [.fl (.lo .str)]), (1, some false, [.fl .str])]
@[reducible] def strings_Join.pr : CompPs := [(false, [.fl .str])]
abbrev strings_Join.N := ByteArray
noncomputable def strings_Join.E (k : Nat) : List (FuncId × Go.Rv.Fn) := []
noncomputable def strings_Join.f (k : Nat) (a0 : List ByteArray) (a1 : ByteArray) : Option strings_Join.N := T.joinF a0 a1
noncomputable def strings_Join.F (k : Nat) : Go.Rv.Fn := mkFn 2 strings_Join.pc strings_Join.pr (keepOf []) (fun (y : strings_Join.N) => (((y, ()), ()) : compT strings_Join.pr)) fun x => strings_Join.f k x.1.1 x.2.1.1
theorem strings_Join.ok (k : Nat) : FnOk Go.Proofs.Tryd.prog 24 (strings_Join.F k) := T.join_fn
/-! impl.decimals -/
@[reducible] def impl_decimals.pc : CutP := [(0, some false, [.fl (.lo (.int .i64))]), (1, some false, [.fl .str])]
@[reducible] def impl_decimals.pr : CompPs := [(false, [.fl .str])]
abbrev impl_decimals.N := ByteArray
noncomputable def impl_decimals.E (k : Nat) : List (FuncId × Go.Rv.Fn) := [(11, impl_Decimal.F k), (24, strings_Join.F k)]
abbrev impl_decimals.Cs := (ByteArray → List ByteArray → List Int → Int → Int → Option impl_decimals.N)
def impl_decimals.zero : impl_decimals.Cs := (fun _ _ _ _ _ => none)
noncomputable def impl_decimals.step (k : Nat) (c : impl_decimals.Cs) : impl_decimals.Cs := (fun (x0 : ByteArray) (x1 : List ByteArray) (x2 : List Int) (x3 : Int) (x4 : Int) => (if (decide (x4 < x3)) = true then if 0 ≤ x4 then if x4 < (x2.length : Int) then (impl_Decimal.f k (rd 0 x2 x4)).bind fun t1 => if x1.length + [t1].length < 1099511627776 then c x0 (x1 ++ [t1]) x2 x3 (wrap64 (x4 + 1)) else none else none else none else (strings_Join.f k x1 x0).bind fun t2 => some t2))
noncomputable def impl_decimals.cs (k : Nat) : Nat → impl_decimals.Cs
  | 0 => impl_decimals.zero
  | n + 1 => impl_decimals.step k (impl_decimals.cs k n)
def impl_decimals.CC (c : impl_decimals.Cs) : Cuts impl_decimals.N := [(8, ⟨[(1, some false, [.fl .str]), (5, some false, [.fl (.own .str)]), (9, some false, [.fl (.lo (.int .i64))]), (10, some false, [.fl (.int .i64)]), (11, some false, [.fl (.int .i64)])], fun x => c x.1.1 x.2.1.1 x.2.2.1.1 x.2.2.2.1.1 x.2.2.2.2.1.1⟩)]
noncomputable def impl_decimals.f (k : Nat) (a0 : List Int) (a1 : ByteArray) : Option impl_decimals.N := (impl_decimals.cs k k) a1 ([] : List ByteArray) a0 (a0.length : Int) 0
noncomputable def impl_decimals.F (k : Nat) : Go.Rv.Fn := mkFn 2 impl_decimals.pc impl_decimals.pr (keepOf []) (fun (y : impl_decimals.N) => (((y, ()), ()) : compT impl_decimals.pr)) fun x => impl_decimals.f k x.1.1 x.2.1.1
theorem impl_decimals.env (k : Nat) : EnvOk Go.Proofs.Tryd.prog (fun f => (impl_decimals.E k).lookup f) := envOk_of ⟨entry Go.Proofs.Tryd.call11 rfl (impl_Decimal.ok k), entry Go.Proofs.Tryd.call24 rfl (strings_Join.ok k), trivial⟩
theorem impl_decimals.cuts (k : Nat) : CutsOk Go.Proofs.Tryd.prog X (fun f => (impl_decimals.E k).lookup f) Go.Proofs.Tryd.f16 [] (decN impl_decimals.pr (fun (y : compT impl_decimals.pr) => (y.1.1 : impl_decimals.N))) fun n => impl_decimals.CC (impl_decimals.cs k n) :=
  cutsOk_of (step := impl_decimals.step k) rfl (fun _ => rfl) ⟨fun _ => rfl, trivial⟩ (fun c => by kernel_rfl) fun c => ⟨fun x => by kernel_rfl, trivial⟩
theorem impl_decimals.ok (k : Nat) : FnOk Go.Proofs.Tryd.prog 16 (impl_decimals.F k) :=
  fn_ok tab (impl_decimals.env k) Go.Proofs.Tryd.func16 rfl (n := 2) (Nat.le_of_ble_eq_true rfl) (by kernel_rfl) (outs := []) (by kernel_rfl) (by kernel_rfl) (d := fun (y : compT impl_decimals.pr) => (y.1.1 : impl_decimals.N)) (fun _ => rfl) (C := fun n => impl_decimals.CC (impl_decimals.cs k n)) (k := k) (impl_decimals.cuts k) fun x => by kernel_rfl
/-! impl.ListText -/
@[reducible] def impl_ListText.pc : CutP := [(0, some false, [.fl (.lo (.int .i64))])]
@[reducible] def impl_ListText.pr : CompPs := [(false, [.fl .str]), (false, [.fl .bool])]
abbrev impl_ListText.N := ByteArray × Bool
noncomputable def impl_ListText.E (k : Nat) : List (FuncId × Go.Rv.Fn) := [(15, impl_isList.F k), (16, impl_decimals.F k)]
noncomputable def impl_ListText.f (k : Nat) (a0 : List Int) : Option impl_ListText.N := (impl_isList.f k a0).bind fun t1 => (if (!t1) = true then some (ByteArray.empty, false) else (if (decide ((a0.length : Int) = 0)) = true then some ((ByteArray.mk #[45]), true) else (impl_decimals.f k a0 (ByteArray.mk #[44])).bind fun t2 => some (t2, true)))
noncomputable def impl_ListText.F (k : Nat) : Go.Rv.Fn := mkFn 1 impl_ListText.pc impl_ListText.pr (keepOf []) (fun (y : impl_ListText.N) => (((y.1, ()), (y.2, ()), ()) : compT impl_ListText.pr)) fun x => impl_ListText.f k x.1.1
theorem impl_ListText.env (k : Nat) : EnvOk Go.Proofs.Tryd.prog (fun f => (impl_ListText.E k).lookup f) := envOk_of ⟨entry Go.Proofs.Tryd.call15 rfl (impl_isList.ok k), entry Go.Proofs.Tryd.call16 rfl (impl_decimals.ok k), trivial⟩
theorem impl_ListText.ok (k : Nat) : FnOk Go.Proofs.Tryd.prog 6 (impl_ListText.F k) :=
  fn_ok tab (impl_ListText.env k) Go.Proofs.Tryd.func6 rfl (n := 1) (Nat.le_of_ble_eq_true rfl) (by kernel_rfl) (outs := []) (by kernel_rfl) (by kernel_rfl) (d := fun (y : compT impl_ListText.pr) => ((y.1.1, y.2.1.1) : impl_ListText.N)) (fun _ => rfl) (C := fun _ => []) (k := k) noCuts fun x => by kernel_rfl
/-! strings.Split -/
@[reducible] def strings_Split.pc : CutP := [(0, some false, [.fl .str]), (1, some false, [.fl .str])]
@[reducible] def strings_Split.pr : CompPs := [(false, [.fl (.own .str)])]
abbrev strings_Split.N := List ByteArray
noncomputable def strings_Split.E (k : Nat) : List (FuncId × Go.Rv.Fn) := []
noncomputable def strings_Split.f (k : Nat) (a0 : ByteArray) (a1 : ByteArray) : Option strings_Split.N := T.splitF a0 a1
noncomputable def strings_Split.F (k : Nat) : Go.Rv.Fn := mkFn 2 strings_Split.pc strings_Split.pr (keepOf []) (fun (y : strings_Split.N) => (((y, ()), ()) : compT strings_Split.pr)) fun x => strings_Split.f k x.1.1 x.2.1.1
theorem strings_Split.ok (k : Nat) : FnOk Go.Proofs.Tryd.prog 25 (strings_Split.F k) := T.split_fn
/-! impl.readIn -/
@[reducible] def impl_readIn.pc : CutP := [(0, some false, [.fl .str]), (1, some false, [.fl (.int .i64)]), (2, some false, [.fl (.int .i64)])]
@[reducible] def impl_readIn.pr : CompPs := [(false, [.fl (.int .i64)]), (false, [.fl .bool])]
abbrev impl_readIn.N := Int × Bool
noncomputable def impl_readIn.E (k : Nat) : List (FuncId × Go.Rv.Fn) := []
noncomputable def impl_readIn.f (k : Nat) (a0 : ByteArray) (a1 : Int) (a2 : Int) : Option impl_readIn.N := T.readInF a0 a1 a2
noncomputable def impl_readIn.F (k : Nat) : Go.Rv.Fn := mkFn 3 impl_readIn.pc impl_readIn.pr (keepOf []) (fun (y : impl_readIn.N) => (((y.1, ()), (y.2, ()), ()) : compT impl_readIn.pr)) fun x => impl_readIn.f k x.1.1 x.2.1.1 x.2.2.1.1
theorem impl_readIn.ok (k : Nat) : FnOk Go.Proofs.Tryd.prog 20 (impl_readIn.F k) := T.readIn_fn
/-! impl.readAll -/
@[reducible] def impl_readAll.pc : CutP := [(0, some false, [.fl .str]), (1, some false, [.fl .str]), (2, some false, [.fl (.int .i64)]), (3, some false, [.fl (.int .i64)])]
@[reducible] def impl_readAll.pr : CompPs := [(false, [.fl (.own (.int .i64))]), (false, [.fl .bool])]
abbrev impl_readAll.N := List Int × Bool
noncomputable def impl_readAll.E (k : Nat) : List (FuncId × Go.Rv.Fn) := [(20, impl_readIn.F k), (25, strings_Split.F k)]
abbrev impl_readAll.Cs := (Int → Int → List Int → List ByteArray → Int → Int → Option impl_readAll.N)
def impl_readAll.zero : impl_readAll.Cs := (fun _ _ _ _ _ _ => none)
noncomputable def impl_readAll.step (k : Nat) (c : impl_readAll.Cs) : impl_readAll.Cs := (fun (x0 : Int) (x1 : Int) (x2 : List Int) (x3 : List ByteArray) (x4 : Int) (x5 : Int) => (if (decide (x5 < x4)) = true then if 0 ≤ x5 then if x5 < (x3.length : Int) then (impl_readIn.f k (rd ByteArray.empty x3 x5) x0 x1).bind fun t2 => (if (!t2.2) = true then some ([], false) else if x2.length + [t2.1].length < 1099511627776 then c x0 x1 (x2 ++ [t2.1]) x3 x4 (wrap64 (x5 + 1)) else none) else none else none else some (x2, true)))
noncomputable def impl_readAll.cs (k : Nat) : Nat → impl_readAll.Cs
  | 0 => impl_readAll.zero
  | n + 1 => impl_readAll.step k (impl_readAll.cs k n)
def impl_readAll.CC (c : impl_readAll.Cs) : Cuts impl_readAll.N := [(8, ⟨[(2, some false, [.fl (.int .i64)]), (3, some false, [.fl (.int .i64)]), (10, some false, [.fl (.own (.int .i64))]), (18, some false, [.fl (.own .str)]), (19, some false, [.fl (.int .i64)]), (20, some false, [.fl (.int .i64)])], fun x => c x.1.1 x.2.1.1 x.2.2.1.1 x.2.2.2.1.1 x.2.2.2.2.1.1 x.2.2.2.2.2.1.1⟩)]
noncomputable def impl_readAll.f (k : Nat) (a0 : ByteArray) (a1 : ByteArray) (a2 : Int) (a3 : Int) : Option impl_readAll.N := (strings_Split.f k a0 a1).bind fun t1 => (impl_readAll.cs k k) a2 a3 ([] : List Int) t1 (t1.length : Int) 0
noncomputable def impl_readAll.F (k : Nat) : Go.Rv.Fn := mkFn 4 impl_readAll.pc impl_readAll.pr (keepOf []) (fun (y : impl_readAll.N) => (((y.1, ()), (y.2, ()), ()) : compT impl_readAll.pr)) fun x => impl_readAll.f k x.1.1 x.2.1.1 x.2.2.1.1 x.2.2.2.1.1
theorem impl_readAll.env (k : Nat) : EnvOk Go.Proofs.Tryd.prog (fun f => (impl_readAll.E k).lookup f) := envOk_of ⟨entry Go.Proofs.Tryd.call20 rfl (impl_readIn.ok k), entry Go.Proofs.Tryd.call25 rfl (strings_Split.ok k), trivial⟩
theorem impl_readAll.cuts (k : Nat) : CutsOk Go.Proofs.Tryd.prog X (fun f => (impl_readAll.E k).lookup f) Go.Proofs.Tryd.f17 [] (decN impl_readAll.pr (fun (y : compT impl_readAll.pr) => ((y.1.1, y.2.1.1) : impl_readAll.N))) fun n => impl_readAll.CC (impl_readAll.cs k n) :=
  cutsOk_of (step := impl_readAll.step k) rfl (fun _ => rfl) ⟨fun _ => rfl, trivial⟩ (fun c => by kernel_rfl) fun c => ⟨fun x => by kernel_rfl, trivial⟩
theorem impl_readAll.ok (k : Nat) : FnOk Go.Proofs.Tryd.prog 17 (impl_readAll.F k) :=
  fn_ok tab (impl_readAll.env k) Go.Proofs.Tryd.func17 rfl (n := 4) (Nat.le_of_ble_eq_true rfl) (by kernel_rfl) (outs := []) (by kernel_rfl) (by kernel_rfl) (d := fun (y : compT impl_readAll.pr) => ((y.1.1, y.2.1.1) : impl_readAll.N)) (fun _ => rfl) (C := fun n => impl_readAll.CC (impl_readAll.cs k n)) (k := k) (impl_readAll.cuts k) fun x => by kernel_rfl
/-! impl.ReadList -/
@[reducible] def impl_ReadList.pc : CutP := [(0, some false, [.fl .str])]
@[reducible] def impl_ReadList.pr : CompPs := [(false, [.fl (.own (.int .i64))]), (false, [.fl .bool])]
abbrev impl_ReadList.N := List Int × Bool
noncomputable def impl_ReadList.E (k : Nat) : List (FuncId × Go.Rv.Fn) := [(17, impl_readAll.F k)]
noncomputable def impl_ReadList.f (k : Nat) (a0 : ByteArray) : Option impl_ReadList.N := (if (sEq a0 (ByteArray.mk #[45])) = true then some (([] : List Int), true) else (impl_readAll.f k a0 (ByteArray.mk #[44]) (-1000000000) 1000000000).bind fun t1 => (if (!t1.2) = true then some ([], false) else (if (decide (64 < (t1.1.length : Int))) = true then some ([], false) else some (t1.1, true))))
noncomputable def impl_ReadList.F (k : Nat) : Go.Rv.Fn := mkFn 1 impl_ReadList.pc impl_ReadList.pr (keepOf []) (fun (y : impl_ReadList.N) => (((y.1, ()), (y.2, ()), ()) : compT impl_ReadList.pr)) fun x => impl_ReadList.f k x.1.1
theorem impl_ReadList.env (k : Nat) : EnvOk Go.Proofs.Tryd.prog (fun f => (impl_ReadList.E k).lookup f) := envOk_of ⟨entry Go.Proofs.Tryd.call17 rfl (impl_readAll.ok k), trivial⟩
theorem impl_ReadList.ok (k : Nat) : FnOk Go.Proofs.Tryd.prog 7 (impl_ReadList.F k) :=
  fn_ok tab (impl_ReadList.env k) Go.Proofs.Tryd.func7 rfl (n := 1) (Nat.le_of_ble_eq_true rfl) (by kernel_rfl) (outs := []) (by kernel_rfl) (by kernel_rfl) (d := fun (y : compT impl_ReadList.pr) => ((y.1.1, y.2.1.1) : impl_ReadList.N)) (fun _ => rfl) (C := fun _ => []) (k := k) noCuts fun x => by kernel_rfl
/-! laws.b10At -/
@[reducible] def laws_b10At.pc : CutP := [(0, some false, [.fl (.lo (.int .u8))]), (1, some false, [.fl (.int .i64)]), (2, some false, [.fl (.int .i64)])]
@[reducible] def laws_b10At.pr : CompPs := [(false, [.fl (.int .i64)])]
abbrev laws_b10At.N := Int
noncomputable def laws_b10At.E (k : Nat) : List (FuncId × Go.Rv.Fn) := []
noncomputable def laws_b10At.f (k : Nat) (a0 : List Int) (a1 : Int) (a2 : Int) : Option laws_b10At.N := (if (decide (a2 ≤ 1)) = true then some 0 else (if (decide (a1 < (a0.length : Int))) = true then if 0 ≤ a1 then if a1 < (a0.length : Int) then (if a2 = 0 then none else some ((wrap64 ((rd 0 a0 a1))).tmod a2)) else none else none else (if a2 = 0 then none else some ((wrap64 ((wrap64 (a1 * 37)) + 11)).tmod a2))))
noncomputable def laws_b10At.F (k : Nat) : Go.Rv.Fn := mkFn 3 laws_b10At.pc laws_b10At.pr (keepOf []) (fun (y : laws_b10At.N) => (((y, ()), ()) : compT laws_b10At.pr)) fun x => laws_b10At.f k x.1.1 x.2.1.1 x.2.2.1.1
theorem laws_b10At.env (k : Nat) : EnvOk Go.Proofs.Tryd.prog (fun f => (laws_b10At.E k).lookup f) := envOk_of trivial
theorem laws_b10At.ok (k : Nat) : FnOk Go.Proofs.Tryd.prog 8 (laws_b10At.F k) :=
  fn_ok tab (laws_b10At.env k) Go.Proofs.Tryd.func8 rfl (n := 3) (Nat.le_of_ble_eq_true rfl) (by kernel_rfl) (outs := []) (by kernel_rfl) (by kernel_rfl) (d := fun (y : compT laws_b10At.pr) => (y.1.1 : laws_b10At.N)) (fun _ => rfl) (C := fun _ => []) (k := k) noCuts fun x => by kernel_rfl
/-! impl.check -/
@[reducible] def impl_check.pc : CutP := [(0, some false, [.fl (.int .i64)]), (1, some false, [.fl .str])]
@[reducible] def impl_check.pr : CompPs := [(false, [.fl (.int .i64)])]
abbrev impl_check.N := Int
noncomputable def impl_check.E (k : Nat) : List (FuncId × Go.Rv.Fn) := []
abbrev impl_check.Cs := (Int → ByteArray → Int → Int → Option impl_check.N)
def impl_check.zero : impl_check.Cs := (fun _ _ _ _ => none)
noncomputable def impl_check.step (k : Nat) (c : impl_check.Cs) : impl_check.Cs := (fun (x0 : Int) (x1 : ByteArray) (x2 : Int) (x3 : Int) => (if (decide (x3 < x2)) = true then if 0 ≤ x3 then if x3 < sLen x1 then (if 99991 = 0 then none else c ((wrap64 ((wrap64 ((wrap64 (257 * x0)) + (wrap64 ((sAt x1 x3))))) + 1)).tmod 99991) x1 x2 (wrap64 (x3 + 1))) else none else none else some x0))
noncomputable def impl_check.cs (k : Nat) : Nat → impl_check.Cs
  | 0 => impl_check.zero
  | n + 1 => impl_check.step k (impl_check.cs k n)
def impl_check.CC (c : impl_check.Cs) : Cuts impl_check.N := [(6, ⟨[(0, some false, [.fl (.int .i64)]), (1, some false, [.fl .str]), (7, some false, [.fl (.int .i64)]), (8, some false, [.fl (.int .i64)])], fun x => c x.1.1 x.2.1.1 x.2.2.1.1 x.2.2.2.1.1⟩)]
noncomputable def impl_check.f (k : Nat) (a0 : Int) (a1 : ByteArray) : Option impl_check.N := (impl_check.cs k k) a0 a1 (sLen a1) 0
noncomputable def impl_check.F (k : Nat) : Go.Rv.Fn := mkFn 2 impl_check.pc impl_check.pr (keepOf []) (fun (y : impl_check.N) => (((y, ()), ()) : compT impl_check.pr)) fun x => impl_check.f k x.1.1 x.2.1.1
theorem impl_check.env (k : Nat) : EnvOk Go.Proofs.Tryd.prog (fun f => (impl_check.E k).lookup f) := envOk_of trivial
theorem impl_check.cuts (k : Nat) : CutsOk Go.Proofs.Tryd.prog X (fun f => (impl_check.E k).lookup f) Go.Proofs.Tryd.f19 [] (decN impl_check.pr (fun (y : compT impl_check.pr) => (y.1.1 : impl_check.N))) fun n => impl_check.CC (impl_check.cs k n) :=
  cutsOk_of (step := impl_check.step k) rfl (fun _ => rfl) ⟨fun _ => rfl, trivial⟩ (fun c => by kernel_rfl) fun c => ⟨fun x => by kernel_rfl, trivial⟩
theorem impl_check.ok (k : Nat) : FnOk Go.Proofs.Tryd.prog 19 (impl_check.F k) :=
  fn_ok tab (impl_check.env k) Go.Proofs.Tryd.func19 rfl (n := 2) (Nat.le_of_ble_eq_true rfl) (by kernel_rfl) (outs := []) (by kernel_rfl) (by kernel_rfl) (d := fun (y : compT impl_check.pr) => (y.1.1 : impl_check.N)) (fun _ => rfl) (C := fun n => impl_check.CC (impl_check.cs k n)) (k := k) (impl_check.cuts k) fun x => by kernel_rfl
/-! impl.CheckOf -/
@[reducible] def impl_CheckOf.pc : CutP := [(0, some false, [.fl (.int .i64)]), (1, some false, [.fl .str])]
@[reducible] def impl_CheckOf.pr : CompPs := [(false, [.fl (.int .i64)]), (false, [.fl .bool])]
abbrev impl_CheckOf.N := Int × Bool
noncomputable def impl_CheckOf.E (k : Nat) : List (FuncId × Go.Rv.Fn) := [(18, impl_within.F k), (19, impl_check.F k)]
noncomputable def impl_CheckOf.f (k : Nat) (a0 : Int) (a1 : ByteArray) : Option impl_CheckOf.N := (impl_within.f k a0 0 99990).bind fun t1 => (if (!t1) = true then some (0, false) else (impl_check.f k a0 a1).bind fun (t2 : Int) => some (t2, true))
noncomputable def impl_CheckOf.F (k : Nat) : Go.Rv.Fn := mkFn 2 impl_CheckOf.pc impl_CheckOf.pr (keepOf []) (fun (y : impl_CheckOf.N) => (((y.1, ()), (y.2, ()), ()) : compT impl_CheckOf.pr)) fun x => impl_CheckOf.f k x.1.1 x.2.1.1
theorem impl_CheckOf.env (k : Nat) : EnvOk Go.Proofs.Tryd.prog (fun f => (impl_CheckOf.E k).lookup f) := envOk_of ⟨entry Go.Proofs.Tryd.call18 rfl (impl_within.ok k), entry Go.Proofs.Tryd.call19 rfl (impl_check.ok k), trivial⟩
theorem impl_CheckOf.ok (k : Nat) : FnOk Go.Proofs.Tryd.prog 9 (impl_CheckOf.F k) :=
  fn_ok tab (impl_CheckOf.env k) Go.Proofs.Tryd.func9 rfl (n := 2) (Nat.le_of_ble_eq_true rfl) (by kernel_rfl) (outs := []) (by kernel_rfl) (by kernel_rfl) (d := fun (y : compT impl_CheckOf.pr) => ((y.1.1, y.2.1.1) : impl_CheckOf.N)) (fun _ => rfl) (C := fun _ => []) (k := k) noCuts fun x => by kernel_rfl
/-! impl.ReadDecimal -/
@[reducible] def impl_ReadDecimal.pc : CutP := [(0, some false, [.fl .str])]
@[reducible] def impl_ReadDecimal.pr : CompPs := [(false, [.fl (.int .i64)]), (false, [.fl .bool])]
abbrev impl_ReadDecimal.N := Int × Bool
noncomputable def impl_ReadDecimal.E (k : Nat) : List (FuncId × Go.Rv.Fn) := [(20, impl_readIn.F k)]
noncomputable def impl_ReadDecimal.f (k : Nat) (a0 : ByteArray) : Option impl_ReadDecimal.N := (impl_readIn.f k a0 (-1000000000) 1000000000).bind fun t1 => some (t1.1, t1.2)
noncomputable def impl_ReadDecimal.F (k : Nat) : Go.Rv.Fn := mkFn 1 impl_ReadDecimal.pc impl_ReadDecimal.pr (keepOf []) (fun (y : impl_ReadDecimal.N) => (((y.1, ()), (y.2, ()), ()) : compT impl_ReadDecimal.pr)) fun x => impl_ReadDecimal.f k x.1.1
theorem impl_ReadDecimal.env (k : Nat) : EnvOk Go.Proofs.Tryd.prog (fun f => (impl_ReadDecimal.E k).lookup f) := envOk_of ⟨entry Go.Proofs.Tryd.call20 rfl (impl_readIn.ok k), trivial⟩
theorem impl_ReadDecimal.ok (k : Nat) : FnOk Go.Proofs.Tryd.prog 10 (impl_ReadDecimal.F k) :=
  fn_ok tab (impl_ReadDecimal.env k) Go.Proofs.Tryd.func10 rfl (n := 1) (Nat.le_of_ble_eq_true rfl) (by kernel_rfl) (outs := []) (by kernel_rfl) (by kernel_rfl) (d := fun (y : compT impl_ReadDecimal.pr) => ((y.1.1, y.2.1.1) : impl_ReadDecimal.N)) (fun _ => rfl) (C := fun _ => []) (k := k) noCuts fun x => by kernel_rfl
/-! laws.b10Nums -/
@[reducible] def laws_b10Nums.pc : CutP := [(0, some false, [.fl (.lo (.int .i64))]), (1, some false, [.fl (.lo (.int .i64))])]
@[reducible] def laws_b10Nums.pr : CompPs := [(false, [.fl .bool])]
abbrev laws_b10Nums.N := Bool
noncomputable def laws_b10Nums.E (k : Nat) : List (FuncId × Go.Rv.Fn) := []
abbrev laws_b10Nums.Cs := (List Int → List Int → Int → Option laws_b10Nums.N)
def laws_b10Nums.zero : laws_b10Nums.Cs := (fun _ _ _ => none)
noncomputable def laws_b10Nums.step (k : Nat) (c : laws_b10Nums.Cs) : laws_b10Nums.Cs := (fun (x0 : List Int) (x1 : List Int) (x2 : Int) => (if (decide (x2 < (x0.length : Int))) = true then if 0 ≤ x2 then if x2 < (x0.length : Int) then if 0 ≤ x2 then if x2 < (x1.length : Int) then (if (!decide ((rd 0 x0 x2) = (rd 0 x1 x2))) = true then some false else c x0 x1 (wrap64 (x2 + 1))) else none else none else none else none else some true))
noncomputable def laws_b10Nums.cs (k : Nat) : Nat → laws_b10Nums.Cs
  | 0 => laws_b10Nums.zero
  | n + 1 => laws_b10Nums.step k (laws_b10Nums.cs k n)
def laws_b10Nums.CC (c : laws_b10Nums.Cs) : Cuts laws_b10Nums.N := [(14, ⟨[(0, some false, [.fl (.lo (.int .i64))]), (1, some false, [.fl (.lo (.int .i64))]), (5, some false, [.fl (.int .i64)])], fun x => c x.1.1 x.2.1.1 x.2.2.1.1⟩)]
noncomputable def laws_b10Nums.f (k : Nat) (a0 : List Int) (a1 : List Int) : Option laws_b10Nums.N := (if (!decide ((a0.length : Int) = (a1.length : Int))) = true then some false else (laws_b10Nums.cs k k) a0 a1 0)
noncomputable def laws_b10Nums.F (k : Nat) : Go.Rv.Fn := mkFn 2 laws_b10Nums.pc laws_b10Nums.pr (keepOf []) (fun (y : laws_b10Nums.N) => (((y, ()), ()) : compT laws_b10Nums.pr)) fun x => laws_b10Nums.f k x.1.1 x.2.1.1
theorem laws_b10Nums.env (k : Nat) : EnvOk Go.Proofs.Tryd.prog (fun f => (laws_b10Nums.E k).lookup f) := envOk_of trivial
theorem laws_b10Nums.cuts (k : Nat) : CutsOk Go.Proofs.Tryd.prog X (fun f => (laws_b10Nums.E k).lookup f) Go.Proofs.Tryd.f12 [] (decN laws_b10Nums.pr (fun (y : compT laws_b10Nums.pr) => (y.1.1 : laws_b10Nums.N))) fun n => laws_b10Nums.CC (laws_b10Nums.cs k n) :=
  cutsOk_of (step := laws_b10Nums.step k) rfl (fun _ => rfl) ⟨fun _ => rfl, trivial⟩ (fun c => by kernel_rfl) fun c => ⟨fun x => by kernel_rfl, trivial⟩
theorem laws_b10Nums.ok (k : Nat) : FnOk Go.Proofs.Tryd.prog 12 (laws_b10Nums.F k) :=
  fn_ok tab (laws_b10Nums.env k) Go.Proofs.Tryd.func12 rfl (n := 2) (Nat.le_of_ble_eq_true rfl) (by kernel_rfl) (outs := []) (by kernel_rfl) (by kernel_rfl) (d := fun (y : compT laws_b10Nums.pr) => (y.1.1 : laws_b10Nums.N)) (fun _ => rfl) (C := fun n => laws_b10Nums.CC (laws_b10Nums.cs k n)) (k := k) (laws_b10Nums.cuts k) fun x => by kernel_rfl
/-! laws.FnLists -/
@[reducible] def laws_FnLists.pc : CutP := [(0, some false, [.fl (.lo (.int .u8))]), (1, some false, [.fl (.lo (.int .u8))])]
@[reducible] def laws_FnLists.pr : CompPs := [(false, [.fl .bool])]
abbrev laws_FnLists.N := Bool
noncomputable def laws_FnLists.E (k : Nat) : List (FuncId × Go.Rv.Fn) := [(4, laws_b10Long.F k), (5, spec_B10List.F k), (6, impl_ListText.F k), (7, impl_ReadList.F k), (8, laws_b10At.F k), (9, impl_CheckOf.F k), (10, impl_ReadDecimal.F k), (11, impl_Decimal.F k), (12, laws_b10Nums.F k)]
noncomputable def laws_FnLists.f (k : Nat) (a0 : List Int) (a1 : List Int) : Option laws_FnLists.N := (laws_b10Long.f k a0 a1).bind fun t1 => (if t1 = true then some true else (spec_B10List.f k a0).bind fun t2 => (impl_ListText.f k t2).bind fun t3 => (impl_ReadList.f k t3.1).bind fun t4 => (laws_b10At.f k a1 0 256).bind fun (t5 : Int) => (laws_b10At.f k a1 1 (wrap64 ((sLen t3.1) + 1))).bind fun (t6 : Int) => (impl_CheckOf.f k t5 t3.1).bind fun t7 => if 0 ≤ 0 then if 0 ≤ t6 then if t6 ≤ sLen t3.1 then (impl_CheckOf.f k t5 (sCut t3.1 0 t6)).bind fun t8 => if 0 ≤ t6 then if t6 ≤ (sLen t3.1) then if (sLen t3.1) ≤ sLen t3.1 then (impl_CheckOf.f k t8.1 (sCut t3.1 t6 (sLen t3.1))).bind fun t9 => if 0 ≤ 0 then if 0 < (t2.length : Int) then (impl_Decimal.f k (rd 0 t2 0)).bind fun t10 => (impl_ReadDecimal.f k t10).bind fun t11 => (if t3.2 = true then (if t4.2 = true then (if t7.2 = true then (if t8.2 = true then (if t9.2 = true then (if t11.2 = true then (laws_b10Nums.f k t4.1 t2).bind fun t12 => (if t12 = true then (if (decide (t7.1 = t9.1)) = true then if 0 ≤ 0 then if 0 < (t2.length : Int) then (if (decide (t11.1 = (rd 0 t2 0))) = true then some (decide (0 < (sLen t3.1))) else some false) else none else none else some false) else some false) else some false) else some false) else some false) else some false) else some false) else some false) else none else none else none else none else none else none else none else none)
noncomputable def laws_FnLists.F (k : Nat) : Go.Rv.Fn := mkFn 2 laws_FnLists.pc laws_FnLists.pr (keepOf []) (fun (y : laws_FnLists.N) => (((y, ()), ()) : compT laws_FnLists.pr)) fun x => laws_FnLists.f k x.1.1 x.2.1.1
theorem laws_FnLists.env (k : Nat) : EnvOk Go.Proofs.Tryd.prog (fun f => (laws_FnLists.E k).lookup f) := envOk_of ⟨entry Go.Proofs.Tryd.call4 rfl (laws_b10Long.ok k), entry Go.Proofs.Tryd.call5 rfl (spec_B10List.ok k), entry Go.Proofs.Tryd.call6 rfl (impl_ListText.ok k), entry Go.Proofs.Tryd.call7 rfl (impl_ReadList.ok k), entry Go.Proofs.Tryd.call8 rfl (laws_b10At.ok k), entry Go.Proofs.Tryd.call9 rfl (impl_CheckOf.ok k), entry Go.Proofs.Tryd.call10 rfl (impl_ReadDecimal.ok k), entry Go.Proofs.Tryd.call11 rfl (impl_Decimal.ok k), entry Go.Proofs.Tryd.call12 rfl (laws_b10Nums.ok k), trivial⟩
theorem laws_FnLists.ok (k : Nat) : FnOk Go.Proofs.Tryd.prog 3 (laws_FnLists.F k) :=
  fn_ok tab (laws_FnLists.env k) Go.Proofs.Tryd.func3 rfl (n := 2) (Nat.le_of_ble_eq_true rfl) (by kernel_rfl) (outs := []) (by kernel_rfl) (by kernel_rfl) (d := fun (y : compT laws_FnLists.pr) => (y.1.1 : laws_FnLists.N)) (fun _ => rfl) (C := fun _ => []) (k := k) noCuts fun x => by kernel_rfl
end Go.Proofs.YtdcpjbheedofdaaDoor.R
