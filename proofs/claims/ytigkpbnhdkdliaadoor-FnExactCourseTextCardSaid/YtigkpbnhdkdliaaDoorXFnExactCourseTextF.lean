-- written by wip/rev/gen2.py for this claim (out of the translation). Lean checks it.
import Derived.Test.YtigkpbnhdkdliaaDoorRvM2
import Derived.Test.YtigkpbnhdkdliaaDoorProg
import Derived.Test.YtigkpbnhdkdliaaDoorRvAmb
import Derived.Test.YtigkpbnhdkdliaaDoorRvStrF
import Derived.Test.YtigkpbnhdkdliaaDoorRvStrJ
namespace Go.Proofs.YtigkpbnhdkdliaaDoor.R
open Go.Rv
set_option linter.unusedVariables false
set_option maxRecDepth 100000
def X : Env := { n := 0, keep := [], tab := [(2, { ty := (.int .i64) }),
  (3, { ty := (.int .i64) }),
  (5, { ty := (.int .u8) }),
  (9, { ty := .str }),
  (23, { ty := (.pair (.int .i64) (.pair (.int .i64) (.int .i64))), agg := true, offs := [(0, 1, false), (1, 1, false), (2, 1, false)] }),
  (25, { ty := (.pair (.int .i64) (.pair (.int .i64) (.int .i64))), agg := true, offs := [(0, 1, false), (1, 1, false), (2, 1, false)] }),
  (32, { ty := (.sl (.int .u8)), b8 := true }),
  (47, { ty := (.sl (.int .i64)) }),
  (59, { ty := (.sl .str) })] }
theorem tab : TabOk Go.Proofs.Tryd.prog X := ⟨by kernel_rfl, by kernel_rfl⟩
/-! laws.toCourse -/
@[reducible] def laws_toCourse.pc : CutP := [(0, some true, [.fl (.int .i64), .fl (.int .i64), .fl (.int .i64)])]
@[reducible] def laws_toCourse.pr : CompPs := [(true, [.fl (.int .i64), .fl (.int .i64), .fl (.int .i64)])]
abbrev laws_toCourse.N := Int × Int × Int
noncomputable def laws_toCourse.E (k : Nat) : List (FuncId × Go.Rv.Fn) := []
noncomputable def laws_toCourse.f (k : Nat) (a0 : Int) (a1 : Int) (a2 : Int) : Option laws_toCourse.N := some (a0, a1, a2)
noncomputable def laws_toCourse.F (k : Nat) : Go.Rv.Fn := mkFn 1 laws_toCourse.pc laws_toCourse.pr (keepOf []) (fun (y : laws_toCourse.N) => (((y.1, y.2.1, y.2.2, ()), ()) : compT laws_toCourse.pr)) fun x => laws_toCourse.f k x.1.1 x.1.2.1 x.1.2.2.1
theorem laws_toCourse.env (k : Nat) : EnvOk Go.Proofs.Tryd.prog (fun f => (laws_toCourse.E k).lookup f) := envOk_of trivial
theorem laws_toCourse.ok (k : Nat) : FnOk Go.Proofs.Tryd.prog 7 (laws_toCourse.F k) :=
  fn_ok tab (laws_toCourse.env k) Go.Proofs.Tryd.func7 rfl (n := 1) (Nat.le_of_ble_eq_true rfl) (by kernel_rfl) (outs := []) (by kernel_rfl) (by kernel_rfl) (d := fun (y : compT laws_toCourse.pr) => ((y.1.1, y.1.2.1, y.1.2.2.1) : laws_toCourse.N)) (fun _ => rfl) (C := fun _ => []) (k := k) noCuts fun x => by kernel_rfl
/-! spec.l00In -/
@[reducible] def spec_l00In.pc : CutP := [(0, some false, [.fl (.int .i64)]), (1, some false, [.fl (.int .i64)]), (2, some false, [.fl (.int .i64)])]
@[reducible] def spec_l00In.pr : CompPs := [(false, [.fl .bool])]
abbrev spec_l00In.N := Bool
noncomputable def spec_l00In.E (k : Nat) : List (FuncId × Go.Rv.Fn) := []
noncomputable def spec_l00In.f (k : Nat) (a0 : Int) (a1 : Int) (a2 : Int) : Option spec_l00In.N := (if (decide (a1 ≤ a0)) = true then some (decide (a0 ≤ a2)) else some false)
noncomputable def spec_l00In.F (k : Nat) : Go.Rv.Fn := mkFn 3 spec_l00In.pc spec_l00In.pr (keepOf []) (fun (y : spec_l00In.N) => (((y, ()), ()) : compT spec_l00In.pr)) fun x => spec_l00In.f k x.1.1 x.2.1.1 x.2.2.1.1
theorem spec_l00In.env (k : Nat) : EnvOk Go.Proofs.Tryd.prog (fun f => (spec_l00In.E k).lookup f) := envOk_of trivial
theorem spec_l00In.ok (k : Nat) : FnOk Go.Proofs.Tryd.prog 27 (spec_l00In.F k) :=
  fn_ok tab (spec_l00In.env k) Go.Proofs.Tryd.func27 rfl (n := 3) (Nat.le_of_ble_eq_true rfl) (by kernel_rfl) (outs := []) (by kernel_rfl) (by kernel_rfl) (d := fun (y : compT spec_l00In.pr) => (y.1.1 : spec_l00In.N)) (fun _ => rfl) (C := fun _ => []) (k := k) noCuts fun x => by kernel_rfl
/-! spec.l05Small -/
@[reducible] def spec_l05Small.pc : CutP := [(0, some true, [.fl (.int .i64), .fl (.int .i64), .fl (.int .i64)])]
@[reducible] def spec_l05Small.pr : CompPs := [(false, [.fl .bool])]
abbrev spec_l05Small.N := Bool
noncomputable def spec_l05Small.E (k : Nat) : List (FuncId × Go.Rv.Fn) := [(27, spec_l00In.F k)]
noncomputable def spec_l05Small.f (k : Nat) (a0 : Int) (a1 : Int) (a2 : Int) : Option spec_l05Small.N := (spec_l00In.f k a0 (-1000) 1000).bind fun t1 => (if t1 = true then (spec_l00In.f k a1 (-1000) 1000).bind fun t2 => (if t2 = true then (spec_l00In.f k a2 (-1000) 1000).bind fun t3 => some t3 else some false) else some false)
noncomputable def spec_l05Small.F (k : Nat) : Go.Rv.Fn := mkFn 1 spec_l05Small.pc spec_l05Small.pr (keepOf []) (fun (y : spec_l05Small.N) => (((y, ()), ()) : compT spec_l05Small.pr)) fun x => spec_l05Small.f k x.1.1 x.1.2.1 x.1.2.2.1
theorem spec_l05Small.env (k : Nat) : EnvOk Go.Proofs.Tryd.prog (fun f => (spec_l05Small.E k).lookup f) := envOk_of ⟨entry Go.Proofs.Tryd.call27 rfl (spec_l00In.ok k), trivial⟩
theorem spec_l05Small.ok (k : Nat) : FnOk Go.Proofs.Tryd.prog 17 (spec_l05Small.F k) :=
  fn_ok tab (spec_l05Small.env k) Go.Proofs.Tryd.func17 rfl (n := 1) (Nat.le_of_ble_eq_true rfl) (by kernel_rfl) (outs := []) (by kernel_rfl) (by kernel_rfl) (d := fun (y : compT spec_l05Small.pr) => (y.1.1 : spec_l05Small.N)) (fun _ => rfl) (C := fun _ => []) (k := k) noCuts fun x => by kernel_rfl
/-! spec.l01Dec -/
@[reducible] def spec_l01Dec.pc : CutP := [(0, some false, [.fl (.int .i64)])]
@[reducible] def spec_l01Dec.pr : CompPs := [(false, [.fl .str])]
abbrev spec_l01Dec.N := ByteArray
noncomputable def spec_l01Dec.E (k : Nat) : List (FuncId × Go.Rv.Fn) := []
abbrev spec_l01Dec.Cs := (ByteArray → Int → Option spec_l01Dec.N) × (ByteArray → Int → ByteArray → Option spec_l01Dec.N)
def spec_l01Dec.zero : spec_l01Dec.Cs := (fun _ _ => none, fun _ _ _ => none)
noncomputable def spec_l01Dec.step (k : Nat) (c : spec_l01Dec.Cs) : spec_l01Dec.Cs := (fun (x0 : ByteArray) (x1 : Int) => (if 10 = 0 then none else (if 10 = 0 then none else c.2 x0 (wrap64 (x1.tdiv 10)) (sOf [(IntKind.u8.wrap ((wrap64 (48 - (x1.tmod 10)))))]))),
  fun (x0 : ByteArray) (x1 : Int) (x2 : ByteArray) => (if (decide (x1 < 0)) = true then (if 10 = 0 then none else if sFit (sOf [(IntKind.u8.wrap ((wrap64 (48 - (x1.tmod 10)))))]) x2 = true then (if 10 = 0 then none else c.2 x0 (wrap64 (x1.tdiv 10)) (sCat (sOf [(IntKind.u8.wrap ((wrap64 (48 - (x1.tmod 10)))))]) x2)) else none) else if sFit x0 x2 = true then some (sCat x0 x2) else none))
noncomputable def spec_l01Dec.cs (k : Nat) : Nat → spec_l01Dec.Cs
  | 0 => spec_l01Dec.zero
  | n + 1 => spec_l01Dec.step k (spec_l01Dec.cs k n)
def spec_l01Dec.CC (c : spec_l01Dec.Cs) : Cuts spec_l01Dec.N := [(6, ⟨[(3, some false, [.fl .str]), (4, some false, [.fl (.int .i64)])], fun x => c.1 x.1.1 x.2.1.1⟩),
  (18, ⟨[(3, some false, [.fl .str]), (4, some false, [.fl (.int .i64)]), (5, some false, [.fl .str])], fun x => c.2 x.1.1 x.2.1.1 x.2.2.1.1⟩)]
noncomputable def spec_l01Dec.f (k : Nat) (a0 : Int) : Option spec_l01Dec.N := (if (decide (a0 < 0)) = true then (spec_l01Dec.cs k k).1 (ByteArray.mk #[45]) a0 else (spec_l01Dec.cs k k).1 ByteArray.empty (wrap64 (0 - a0)))
noncomputable def spec_l01Dec.F (k : Nat) : Go.Rv.Fn := mkFn 1 spec_l01Dec.pc spec_l01Dec.pr (keepOf []) (fun (y : spec_l01Dec.N) => (((y, ()), ()) : compT spec_l01Dec.pr)) fun x => spec_l01Dec.f k x.1.1
theorem spec_l01Dec.env (k : Nat) : EnvOk Go.Proofs.Tryd.prog (fun f => (spec_l01Dec.E k).lookup f) := envOk_of trivial
theorem spec_l01Dec.cuts (k : Nat) : CutsOk Go.Proofs.Tryd.prog X (fun f => (spec_l01Dec.E k).lookup f) Go.Proofs.Tryd.f28 [] (decN spec_l01Dec.pr (fun (y : compT spec_l01Dec.pr) => (y.1.1 : spec_l01Dec.N))) fun n => spec_l01Dec.CC (spec_l01Dec.cs k n) :=
  cutsOk_of (step := spec_l01Dec.step k) rfl (fun _ => rfl) ⟨fun _ => rfl, fun _ => rfl, trivial⟩ (fun c => by kernel_rfl) fun c => ⟨fun x => by kernel_rfl, fun x => by kernel_rfl, trivial⟩
theorem spec_l01Dec.ok (k : Nat) : FnOk Go.Proofs.Tryd.prog 28 (spec_l01Dec.F k) :=
  fn_ok tab (spec_l01Dec.env k) Go.Proofs.Tryd.func28 rfl (n := 1) (Nat.le_of_ble_eq_true rfl) (by kernel_rfl) (outs := []) (by kernel_rfl) (by kernel_rfl) (d := fun (y : compT spec_l01Dec.pr) => (y.1.1 : spec_l01Dec.N)) (fun _ => rfl) (C := fun n => spec_l01Dec.CC (spec_l01Dec.cs k n)) (k := k) (spec_l01Dec.cuts k) fun x => by kernel_rfl
/-! spec.l05Text -/
@[reducible] def spec_l05Text.pc : CutP := [(0, some true, [.fl (.int .i64), .fl (.int .i64), .fl (.int .i64)])]
@[reducible] def spec_l05Text.pr : CompPs := [(false, [.fl .str])]
abbrev spec_l05Text.N := ByteArray
noncomputable def spec_l05Text.E (k : Nat) : List (FuncId × Go.Rv.Fn) := [(28, spec_l01Dec.F k)]
noncomputable def spec_l05Text.f (k : Nat) (a0 : Int) (a1 : Int) (a2 : Int) : Option spec_l05Text.N := (spec_l01Dec.f k a0).bind fun t1 => if sFit t1 (ByteArray.mk #[47]) = true then (spec_l01Dec.f k a1).bind fun t2 => if sFit (sCat t1 (ByteArray.mk #[47])) t2 = true then if sFit (sCat (sCat t1 (ByteArray.mk #[47])) t2) (ByteArray.mk #[47]) = true then (spec_l01Dec.f k a2).bind fun t3 => if sFit (sCat (sCat (sCat t1 (ByteArray.mk #[47])) t2) (ByteArray.mk #[47])) t3 = true then some (sCat (sCat (sCat (sCat t1 (ByteArray.mk #[47])) t2) (ByteArray.mk #[47])) t3) else none else none else none else none
noncomputable def spec_l05Text.F (k : Nat) : Go.Rv.Fn := mkFn 1 spec_l05Text.pc spec_l05Text.pr (keepOf []) (fun (y : spec_l05Text.N) => (((y, ()), ()) : compT spec_l05Text.pr)) fun x => spec_l05Text.f k x.1.1 x.1.2.1 x.1.2.2.1
theorem spec_l05Text.env (k : Nat) : EnvOk Go.Proofs.Tryd.prog (fun f => (spec_l05Text.E k).lookup f) := envOk_of ⟨entry Go.Proofs.Tryd.call28 rfl (spec_l01Dec.ok k), trivial⟩
theorem spec_l05Text.ok (k : Nat) : FnOk Go.Proofs.Tryd.prog 18 (spec_l05Text.F k) :=
  fn_ok tab (spec_l05Text.env k) Go.Proofs.Tryd.func18 rfl (n := 1) (Nat.le_of_ble_eq_true rfl) (by kernel_rfl) (outs := []) (by kernel_rfl) (by kernel_rfl) (d := fun (y : compT spec_l05Text.pr) => (y.1.1 : spec_l05Text.N)) (fun _ => rfl) (C := fun _ => []) (k := k) noCuts fun x => by kernel_rfl
/-! spec.CourseText -/
@[reducible] def spec_CourseText.pc : CutP := [(0, some true, [.fl (.int .i64), .fl (.int .i64), .fl (.int .i64)])]
@[reducible] def spec_CourseText.pr : CompPs := [(false, [.fl .str])]
abbrev spec_CourseText.N := ByteArray
noncomputable def spec_CourseText.E (k : Nat) : List (FuncId × Go.Rv.Fn) := [(17, spec_l05Small.F k), (18, spec_l05Text.F k)]
noncomputable def spec_CourseText.f (k : Nat) (a0 : Int) (a1 : Int) (a2 : Int) : Option spec_CourseText.N := (spec_l05Small.f k a0 a1 a2).bind fun t1 => (if (!t1) = true then some ByteArray.empty else (spec_l05Text.f k a0 a1 a2).bind fun t2 => some t2)
noncomputable def spec_CourseText.F (k : Nat) : Go.Rv.Fn := mkFn 1 spec_CourseText.pc spec_CourseText.pr (keepOf []) (fun (y : spec_CourseText.N) => (((y, ()), ()) : compT spec_CourseText.pr)) fun x => spec_CourseText.f k x.1.1 x.1.2.1 x.1.2.2.1
theorem spec_CourseText.env (k : Nat) : EnvOk Go.Proofs.Tryd.prog (fun f => (spec_CourseText.E k).lookup f) := envOk_of ⟨entry Go.Proofs.Tryd.call17 rfl (spec_l05Small.ok k), entry Go.Proofs.Tryd.call18 rfl (spec_l05Text.ok k), trivial⟩
theorem spec_CourseText.ok (k : Nat) : FnOk Go.Proofs.Tryd.prog 6 (spec_CourseText.F k) :=
  fn_ok tab (spec_CourseText.env k) Go.Proofs.Tryd.func6 rfl (n := 1) (Nat.le_of_ble_eq_true rfl) (by kernel_rfl) (outs := []) (by kernel_rfl) (by kernel_rfl) (d := fun (y : compT spec_CourseText.pr) => (y.1.1 : spec_CourseText.N)) (fun _ => rfl) (C := fun _ => []) (k := k) noCuts fun x => by kernel_rfl
/-! impl.within -/
@[reducible] def impl_within.pc : CutP := [(0, some false, [.fl (.int .i64)]), (1, some false, [.fl (.int .i64)]), (2, some false, [.fl (.int .i64)])]
@[reducible] def impl_within.pr : CompPs := [(false, [.fl .bool])]
abbrev impl_within.N := Bool
noncomputable def impl_within.E (k : Nat) : List (FuncId × Go.Rv.Fn) := []
noncomputable def impl_within.f (k : Nat) (a0 : Int) (a1 : Int) (a2 : Int) : Option impl_within.N := (if (decide (a1 ≤ a0)) = true then some (decide (a0 ≤ a2)) else some false)
noncomputable def impl_within.F (k : Nat) : Go.Rv.Fn := mkFn 3 impl_within.pc impl_within.pr (keepOf []) (fun (y : impl_within.N) => (((y, ()), ()) : compT impl_within.pr)) fun x => impl_within.f k x.1.1 x.2.1.1 x.2.2.1.1
theorem impl_within.env (k : Nat) : EnvOk Go.Proofs.Tryd.prog (fun f => (impl_within.E k).lookup f) := envOk_of trivial
theorem impl_within.ok (k : Nat) : FnOk Go.Proofs.Tryd.prog 36 (impl_within.F k) :=
  fn_ok tab (impl_within.env k) Go.Proofs.Tryd.func36 rfl (n := 3) (Nat.le_of_ble_eq_true rfl) (by kernel_rfl) (outs := []) (by kernel_rfl) (by kernel_rfl) (d := fun (y : compT impl_within.pr) => (y.1.1 : impl_within.N)) (fun _ => rfl) (C := fun _ => []) (k := k) noCuts fun x => by kernel_rfl
/-! impl.areWithin$1 -/
@[reducible] def impl_areWithin_1.pc : CutP := [(0, some false, [.fl (.int .i64)]), (1, some false, [.rptr [(.int .i64)]]), (2, some false, [.rptr [(.int .i64)]])]
@[reducible] def impl_areWithin_1.pr : CompPs := [(false, [.fl .bool])]
abbrev impl_areWithin_1.N := Bool
noncomputable def impl_areWithin_1.E (k : Nat) : List (FuncId × Go.Rv.Fn) := [(36, impl_within.F k)]
noncomputable def impl_areWithin_1.f (k : Nat) (a0 : Int) (a1 : Int) (a2 : Int) : Option impl_areWithin_1.N := (impl_within.f k a0 a1 a2).bind fun t1 => some (!t1)
noncomputable def impl_areWithin_1.F (k : Nat) : Go.Rv.Fn := mkFn 3 impl_areWithin_1.pc impl_areWithin_1.pr (keepOf []) (fun (y : impl_areWithin_1.N) => (((y, ()), ()) : compT impl_areWithin_1.pr)) fun x => impl_areWithin_1.f k x.1.1 x.2.1.1.1 x.2.2.1.1.1
theorem impl_areWithin_1.env (k : Nat) : EnvOk Go.Proofs.Tryd.prog (fun f => (impl_areWithin_1.E k).lookup f) := envOk_of ⟨entry Go.Proofs.Tryd.call36 rfl (impl_within.ok k), trivial⟩
theorem impl_areWithin_1.ok (k : Nat) : FnOk Go.Proofs.Tryd.prog 35 (impl_areWithin_1.F k) :=
  fn_ok tab (impl_areWithin_1.env k) Go.Proofs.Tryd.func35 rfl (n := 3) (Nat.le_of_ble_eq_true rfl) (by kernel_rfl) (outs := []) (by kernel_rfl) (by kernel_rfl) (d := fun (y : compT impl_areWithin_1.pr) => (y.1.1 : impl_areWithin_1.N)) (fun _ => rfl) (C := fun _ => []) (k := k) noCuts fun x => by kernel_rfl
/-! slices.IndexFunc[[]int64,int64] -/
@[reducible] def slices_IndexFunc_int64_areWithin_1.pc : CutP := [(0, some false, [.fl (.lo (.int .i64))]), (1, some false, [.fn 35 [[(.int .i64)], [(.int .i64)]]])]
@[reducible] def slices_IndexFunc_int64_areWithin_1.pr : CompPs := [(false, [.fl (.int .i64)])]
abbrev slices_IndexFunc_int64_areWithin_1.N := Int
noncomputable def slices_IndexFunc_int64_areWithin_1.E (k : Nat) : List (FuncId × Go.Rv.Fn) := [(35, impl_areWithin_1.F k)]
abbrev slices_IndexFunc_int64_areWithin_1.Cs := (List Int → Int → Int → Int → Int → Option slices_IndexFunc_int64_areWithin_1.N)
def slices_IndexFunc_int64_areWithin_1.zero : slices_IndexFunc_int64_areWithin_1.Cs := (fun _ _ _ _ _ => none)
noncomputable def slices_IndexFunc_int64_areWithin_1.step (k : Nat) (c : slices_IndexFunc_int64_areWithin_1.Cs) : slices_IndexFunc_int64_areWithin_1.Cs := (fun (x0 : List Int) (x1 : Int) (x2 : Int) (x3 : Int) (x4 : Int) => (if (decide (x4 < x3)) = true then if 0 ≤ x4 then if x4 < (x0.length : Int) then (impl_areWithin_1.f k (rd 0 x0 x4) x1 x2).bind fun t1 => (if t1 = true then some x4 else c x0 x1 x2 x3 (wrap64 (x4 + 1))) else none else none else some (-1)))
noncomputable def slices_IndexFunc_int64_areWithin_1.cs (k : Nat) : Nat → slices_IndexFunc_int64_areWithin_1.Cs
  | 0 => slices_IndexFunc_int64_areWithin_1.zero
  | n + 1 => slices_IndexFunc_int64_areWithin_1.step k (slices_IndexFunc_int64_areWithin_1.cs k n)
def slices_IndexFunc_int64_areWithin_1.CC (c : slices_IndexFunc_int64_areWithin_1.Cs) : Cuts slices_IndexFunc_int64_areWithin_1.N := [(6, ⟨[(0, some false, [.fl (.lo (.int .i64))]), (1, some false, [.fn 35 [[(.int .i64)], [(.int .i64)]]]), (7, some false, [.fl (.int .i64)]), (8, some false, [.fl (.int .i64)])], fun x => c x.1.1 x.2.1.1.1.1 x.2.1.1.2.1.1 x.2.2.1.1 x.2.2.2.1.1⟩)]
noncomputable def slices_IndexFunc_int64_areWithin_1.f (k : Nat) (a0 : List Int) (a1 : Int) (a2 : Int) : Option slices_IndexFunc_int64_areWithin_1.N := (slices_IndexFunc_int64_areWithin_1.cs k k) a0 a1 a2 (a0.length : Int) 0
noncomputable def slices_IndexFunc_int64_areWithin_1.F (k : Nat) : Go.Rv.Fn := mkFn 2 slices_IndexFunc_int64_areWithin_1.pc slices_IndexFunc_int64_areWithin_1.pr (keepOf []) (fun (y : slices_IndexFunc_int64_areWithin_1.N) => (((y, ()), ()) : compT slices_IndexFunc_int64_areWithin_1.pr)) fun x => slices_IndexFunc_int64_areWithin_1.f k x.1.1 x.2.1.1.1.1 x.2.1.1.2.1.1
theorem slices_IndexFunc_int64_areWithin_1.env (k : Nat) : EnvOk Go.Proofs.Tryd.prog (fun f => (slices_IndexFunc_int64_areWithin_1.E k).lookup f) := envOk_of ⟨entry Go.Proofs.Tryd.call35 rfl (impl_areWithin_1.ok k), trivial⟩
theorem slices_IndexFunc_int64_areWithin_1.cuts (k : Nat) : CutsOk Go.Proofs.Tryd.prog X (fun f => (slices_IndexFunc_int64_areWithin_1.E k).lookup f) Go.Proofs.Tryd.f43 [] (decN slices_IndexFunc_int64_areWithin_1.pr (fun (y : compT slices_IndexFunc_int64_areWithin_1.pr) => (y.1.1 : slices_IndexFunc_int64_areWithin_1.N))) fun n => slices_IndexFunc_int64_areWithin_1.CC (slices_IndexFunc_int64_areWithin_1.cs k n) :=
  cutsOk_of (step := slices_IndexFunc_int64_areWithin_1.step k) rfl (fun _ => rfl) ⟨fun _ => rfl, trivial⟩ (fun c => by kernel_rfl) fun c => ⟨fun x => by kernel_rfl, trivial⟩
theorem slices_IndexFunc_int64_areWithin_1.ok (k : Nat) : FnOk Go.Proofs.Tryd.prog 43 (slices_IndexFunc_int64_areWithin_1.F k) :=
  fn_ok tab (slices_IndexFunc_int64_areWithin_1.env k) Go.Proofs.Tryd.func43 rfl (n := 2) (Nat.le_of_ble_eq_true rfl) (by kernel_rfl) (outs := []) (by kernel_rfl) (by kernel_rfl) (d := fun (y : compT slices_IndexFunc_int64_areWithin_1.pr) => (y.1.1 : slices_IndexFunc_int64_areWithin_1.N)) (fun _ => rfl) (C := fun n => slices_IndexFunc_int64_areWithin_1.CC (slices_IndexFunc_int64_areWithin_1.cs k n)) (k := k) (slices_IndexFunc_int64_areWithin_1.cuts k) fun x => by kernel_rfl
/-! slices.ContainsFunc[[]int64,int64] -/
@[reducible] def slices_ContainsFunc_int64_areWithin_1.pc : CutP := [(0, some false, [.fl (.lo (.int .i64))]), (1, some false, [.fn 35 [[(.int .i64)], [(.int .i64)]]])]
@[reducible] def slices_ContainsFunc_int64_areWithin_1.pr : CompPs := [(false, [.fl .bool])]
abbrev slices_ContainsFunc_int64_areWithin_1.N := Bool
noncomputable def slices_ContainsFunc_int64_areWithin_1.E (k : Nat) : List (FuncId × Go.Rv.Fn) := [(43, slices_IndexFunc_int64_areWithin_1.F k)]
noncomputable def slices_ContainsFunc_int64_areWithin_1.f (k : Nat) (a0 : List Int) (a1 : Int) (a2 : Int) : Option slices_ContainsFunc_int64_areWithin_1.N := (slices_IndexFunc_int64_areWithin_1.f k a0 a1 a2).bind fun (t1 : Int) => some (decide (0 ≤ t1))
noncomputable def slices_ContainsFunc_int64_areWithin_1.F (k : Nat) : Go.Rv.Fn := mkFn 2 slices_ContainsFunc_int64_areWithin_1.pc slices_ContainsFunc_int64_areWithin_1.pr (keepOf []) (fun (y : slices_ContainsFunc_int64_areWithin_1.N) => (((y, ()), ()) : compT slices_ContainsFunc_int64_areWithin_1.pr)) fun x => slices_ContainsFunc_int64_areWithin_1.f k x.1.1 x.2.1.1.1.1 x.2.1.1.2.1.1
theorem slices_ContainsFunc_int64_areWithin_1.env (k : Nat) : EnvOk Go.Proofs.Tryd.prog (fun f => (slices_ContainsFunc_int64_areWithin_1.E k).lookup f) := envOk_of ⟨entry Go.Proofs.Tryd.call43 rfl (slices_IndexFunc_int64_areWithin_1.ok k), trivial⟩
theorem slices_ContainsFunc_int64_areWithin_1.ok (k : Nat) : FnOk Go.Proofs.Tryd.prog 34 (slices_ContainsFunc_int64_areWithin_1.F k) :=
  fn_ok tab (slices_ContainsFunc_int64_areWithin_1.env k) Go.Proofs.Tryd.func34 rfl (n := 2) (Nat.le_of_ble_eq_true rfl) (by kernel_rfl) (outs := []) (by kernel_rfl) (by kernel_rfl) (d := fun (y : compT slices_ContainsFunc_int64_areWithin_1.pr) => (y.1.1 : slices_ContainsFunc_int64_areWithin_1.N)) (fun _ => rfl) (C := fun _ => []) (k := k) noCuts fun x => by kernel_rfl
/-! impl.areWithin -/
@[reducible] def impl_areWithin.pc : CutP := [(0, some false, [.fl (.lo (.int .i64))]), (1, some false, [.fl (.int .i64)]), (2, some false, [.fl (.int .i64)])]
@[reducible] def impl_areWithin.pr : CompPs := [(false, [.fl .bool])]
abbrev impl_areWithin.N := Bool
noncomputable def impl_areWithin.E (k : Nat) : List (FuncId × Go.Rv.Fn) := [(34, slices_ContainsFunc_int64_areWithin_1.F k)]
noncomputable def impl_areWithin.f (k : Nat) (a0 : List Int) (a1 : Int) (a2 : Int) : Option impl_areWithin.N := (slices_ContainsFunc_int64_areWithin_1.f k a0 a1 a2).bind fun t1 => some (!t1)
noncomputable def impl_areWithin.F (k : Nat) : Go.Rv.Fn := mkFn 3 impl_areWithin.pc impl_areWithin.pr (keepOf []) (fun (y : impl_areWithin.N) => (((y, ()), ()) : compT impl_areWithin.pr)) fun x => impl_areWithin.f k x.1.1 x.2.1.1 x.2.2.1.1
theorem impl_areWithin.env (k : Nat) : EnvOk Go.Proofs.Tryd.prog (fun f => (impl_areWithin.E k).lookup f) := envOk_of ⟨entry Go.Proofs.Tryd.call34 rfl (slices_ContainsFunc_int64_areWithin_1.ok k), trivial⟩
theorem impl_areWithin.ok (k : Nat) : FnOk Go.Proofs.Tryd.prog 26 (impl_areWithin.F k) :=
  fn_ok tab (impl_areWithin.env k) Go.Proofs.Tryd.func26 rfl (n := 3) (Nat.le_of_ble_eq_true rfl) (by kernel_rfl) (outs := []) (by kernel_rfl) (by kernel_rfl) (d := fun (y : compT impl_areWithin.pr) => (y.1.1 : impl_areWithin.N)) (fun _ => rfl) (C := fun _ => []) (k := k) noCuts fun x => by kernel_rfl
/-! (impl.Course).isTold -/
@[reducible] def impl_Course_isTold.pc : CutP := [(0, some true, [.fl (.int .i64), .fl (.int .i64), .fl (.int .i64)])]
@[reducible] def impl_Course_isTold.pr : CompPs := [(false, [.fl .bool])]
abbrev impl_Course_isTold.N := Bool
noncomputable def impl_Course_isTold.E (k : Nat) : List (FuncId × Go.Rv.Fn) := [(26, impl_areWithin.F k)]
noncomputable def impl_Course_isTold.f (k : Nat) (a0 : Int) (a1 : Int) (a2 : Int) : Option impl_Course_isTold.N := (impl_areWithin.f k [a0, a1, a2] (-1000) 1000).bind fun t1 => some t1
noncomputable def impl_Course_isTold.F (k : Nat) : Go.Rv.Fn := mkFn 1 impl_Course_isTold.pc impl_Course_isTold.pr (keepOf []) (fun (y : impl_Course_isTold.N) => (((y, ()), ()) : compT impl_Course_isTold.pr)) fun x => impl_Course_isTold.f k x.1.1 x.1.2.1 x.1.2.2.1
theorem impl_Course_isTold.env (k : Nat) : EnvOk Go.Proofs.Tryd.prog (fun f => (impl_Course_isTold.E k).lookup f) := envOk_of ⟨entry Go.Proofs.Tryd.call26 rfl (impl_areWithin.ok k), trivial⟩
theorem impl_Course_isTold.ok (k : Nat) : FnOk Go.Proofs.Tryd.prog 19 (impl_Course_isTold.F k) :=
  fn_ok tab (impl_Course_isTold.env k) Go.Proofs.Tryd.func19 rfl (n := 1) (Nat.le_of_ble_eq_true rfl) (by kernel_rfl) (outs := []) (by kernel_rfl) (by kernel_rfl) (d := fun (y : compT impl_Course_isTold.pr) => (y.1.1 : impl_Course_isTold.N)) (fun _ => rfl) (C := fun _ => []) (k := k) noCuts fun x => by kernel_rfl
/-! strconv.FormatInt -/
@[reducible] def strconv_FormatInt.pc : CutP := [(0, some false, [.fl (.int .i64)]), (1, some false, [.fl (.int .i64)])]
@[reducible] def strconv_FormatInt.pr : CompPs := [(false, [.fl .str])]
abbrev strconv_FormatInt.N := ByteArray
noncomputable def strconv_FormatInt.E (k : Nat) : List (FuncId × Go.Rv.Fn) := []
noncomputable def strconv_FormatInt.f (k : Nat) (a0 : Int) (a1 : Int) : Option strconv_FormatInt.N := T.fmtF a0 a1
noncomputable def strconv_FormatInt.F (k : Nat) : Go.Rv.Fn := mkFn 2 strconv_FormatInt.pc strconv_FormatInt.pr (keepOf []) (fun (y : strconv_FormatInt.N) => (((y, ()), ()) : compT strconv_FormatInt.pr)) fun x => strconv_FormatInt.f k x.1.1 x.2.1.1
theorem strconv_FormatInt.ok (k : Nat) : FnOk Go.Proofs.Tryd.prog 37 (strconv_FormatInt.F k) := T.fmt_fn
/-! impl.Decimal -/
@[reducible] def impl_Decimal.pc : CutP := [(0, some false, [.fl (.int .i64)])]
@[reducible] def impl_Decimal.pr : CompPs := [(false, [.fl .str])]
abbrev impl_Decimal.N := ByteArray
noncomputable def impl_Decimal.E (k : Nat) : List (FuncId × Go.Rv.Fn) := [(37, strconv_FormatInt.F k)]
noncomputable def impl_Decimal.f (k : Nat) (a0 : Int) : Option impl_Decimal.N := (strconv_FormatInt.f k a0 10).bind fun t1 => some t1
noncomputable def impl_Decimal.F (k : Nat) : Go.Rv.Fn := mkFn 1 impl_Decimal.pc impl_Decimal.pr (keepOf []) (fun (y : impl_Decimal.N) => (((y, ()), ()) : compT impl_Decimal.pr)) fun x => impl_Decimal.f k x.1.1
theorem impl_Decimal.env (k : Nat) : EnvOk Go.Proofs.Tryd.prog (fun f => (impl_Decimal.E k).lookup f) := envOk_of ⟨entry Go.Proofs.Tryd.call37 rfl (strconv_FormatInt.ok k), trivial⟩
theorem impl_Decimal.ok (k : Nat) : FnOk Go.Proofs.Tryd.prog 29 (impl_Decimal.F k) :=
  fn_ok tab (impl_Decimal.env k) Go.Proofs.Tryd.func29 rfl (n := 1) (Nat.le_of_ble_eq_true rfl) (by kernel_rfl) (outs := []) (by kernel_rfl) (by kernel_rfl) (d := fun (y : compT impl_Decimal.pr) => (y.1.1 : impl_Decimal.N)) (fun _ => rfl) (C := fun _ => []) (k := k) noCuts fun x => by kernel_rfl
/-! strings.Join -/
@[reducible] def strings_Join.pc : CutP := [(0, some false, [.fl (.lo .str)]), (1, some false, [.fl .str])]
@[reducible] def strings_Join.pr : CompPs := [(false, [.fl .str])]
abbrev strings_Join.N := ByteArray
noncomputable def strings_Join.E (k : Nat) : List (FuncId × Go.Rv.Fn) := []
noncomputable def strings_Join.f (k : Nat) (a0 : List ByteArray) (a1 : ByteArray) : Option strings_Join.N := T.joinF a0 a1
noncomputable def strings_Join.F (k : Nat) : Go.Rv.Fn := mkFn 2 strings_Join.pc strings_Join.pr (keepOf []) (fun (y : strings_Join.N) => (((y, ()), ()) : compT strings_Join.pr)) fun x => strings_Join.f k x.1.1 x.2.1.1
theorem strings_Join.ok (k : Nat) : FnOk Go.Proofs.Tryd.prog 30 (strings_Join.F k) := T.join_fn
/-! impl.decimals -/
@[reducible] def impl_decimals.pc : CutP := [(0, some false, [.fl (.lo (.int .i64))]), (1, some false, [.fl .str])]
@[reducible] def impl_decimals.pr : CompPs := [(false, [.fl .str])]
abbrev impl_decimals.N := ByteArray
noncomputable def impl_decimals.E (k : Nat) : List (FuncId × Go.Rv.Fn) := [(29, impl_Decimal.F k), (30, strings_Join.F k)]
abbrev impl_decimals.Cs := (ByteArray → List ByteArray → List Int → Int → Int → Option impl_decimals.N)
def impl_decimals.zero : impl_decimals.Cs := (fun _ _ _ _ _ => none)
noncomputable def impl_decimals.step (k : Nat) (c : impl_decimals.Cs) : impl_decimals.Cs := (fun (x0 : ByteArray) (x1 : List ByteArray) (x2 : List Int) (x3 : Int) (x4 : Int) => (if (decide (x4 < x3)) = true then if 0 ≤ x4 then if x4 < (x2.length : Int) then (impl_Decimal.f k (rd 0 x2 x4)).bind fun t1 => if x1.length + [t1].length < 1099511627776 then c x0 (x1 ++ [t1]) x2 x3 (wrap64 (x4 + 1)) else none else none else none else (strings_Join.f k x1 x0).bind fun t2 => some t2))
noncomputable def impl_decimals.cs (k : Nat) : Nat → impl_decimals.Cs
  | 0 => impl_decimals.zero
  | n + 1 => impl_decimals.step k (impl_decimals.cs k n)
def impl_decimals.CC (c : impl_decimals.Cs) : Cuts impl_decimals.N := [(8, ⟨[(1, some false, [.fl .str]), (5, some false, [.fl (.own .str)]), (9, some false, [.fl (.lo (.int .i64))]), (10, some false, [.fl (.int .i64)]), (11, some false, [.fl (.int .i64)])], fun x => c x.1.1 x.2.1.1 x.2.2.1.1 x.2.2.2.1.1 x.2.2.2.2.1.1⟩)]
noncomputable def impl_decimals.f (k : Nat) (a0 : List Int) (a1 : ByteArray) : Option impl_decimals.N := (impl_decimals.cs k k) a1 ([] : List ByteArray) a0 (a0.length : Int) 0
noncomputable def impl_decimals.F (k : Nat) : Go.Rv.Fn := mkFn 2 impl_decimals.pc impl_decimals.pr (keepOf []) (fun (y : impl_decimals.N) => (((y, ()), ()) : compT impl_decimals.pr)) fun x => impl_decimals.f k x.1.1 x.2.1.1
theorem impl_decimals.env (k : Nat) : EnvOk Go.Proofs.Tryd.prog (fun f => (impl_decimals.E k).lookup f) := envOk_of ⟨entry Go.Proofs.Tryd.call29 rfl (impl_Decimal.ok k), entry Go.Proofs.Tryd.call30 rfl (strings_Join.ok k), trivial⟩
theorem impl_decimals.cuts (k : Nat) : CutsOk Go.Proofs.Tryd.prog X (fun f => (impl_decimals.E k).lookup f) Go.Proofs.Tryd.f20 [] (decN impl_decimals.pr (fun (y : compT impl_decimals.pr) => (y.1.1 : impl_decimals.N))) fun n => impl_decimals.CC (impl_decimals.cs k n) :=
  cutsOk_of (step := impl_decimals.step k) rfl (fun _ => rfl) ⟨fun _ => rfl, trivial⟩ (fun c => by kernel_rfl) fun c => ⟨fun x => by kernel_rfl, trivial⟩
theorem impl_decimals.ok (k : Nat) : FnOk Go.Proofs.Tryd.prog 20 (impl_decimals.F k) :=
  fn_ok tab (impl_decimals.env k) Go.Proofs.Tryd.func20 rfl (n := 2) (Nat.le_of_ble_eq_true rfl) (by kernel_rfl) (outs := []) (by kernel_rfl) (by kernel_rfl) (d := fun (y : compT impl_decimals.pr) => (y.1.1 : impl_decimals.N)) (fun _ => rfl) (C := fun n => impl_decimals.CC (impl_decimals.cs k n)) (k := k) (impl_decimals.cuts k) fun x => by kernel_rfl
/-! impl.CourseText -/
@[reducible] def impl_CourseText.pc : CutP := [(0, some true, [.fl (.int .i64), .fl (.int .i64), .fl (.int .i64)])]
@[reducible] def impl_CourseText.pr : CompPs := [(false, [.fl .str])]
abbrev impl_CourseText.N := ByteArray
noncomputable def impl_CourseText.E (k : Nat) : List (FuncId × Go.Rv.Fn) := [(19, impl_Course_isTold.F k), (20, impl_decimals.F k)]
noncomputable def impl_CourseText.f (k : Nat) (a0 : Int) (a1 : Int) (a2 : Int) : Option impl_CourseText.N := (impl_Course_isTold.f k a0 a1 a2).bind fun t1 => (if (!t1) = true then some ByteArray.empty else (impl_decimals.f k [a0, a1, a2] (ByteArray.mk #[47])).bind fun t2 => some t2)
noncomputable def impl_CourseText.F (k : Nat) : Go.Rv.Fn := mkFn 1 impl_CourseText.pc impl_CourseText.pr (keepOf []) (fun (y : impl_CourseText.N) => (((y, ()), ()) : compT impl_CourseText.pr)) fun x => impl_CourseText.f k x.1.1 x.1.2.1 x.1.2.2.1
theorem impl_CourseText.env (k : Nat) : EnvOk Go.Proofs.Tryd.prog (fun f => (impl_CourseText.E k).lookup f) := envOk_of ⟨entry Go.Proofs.Tryd.call19 rfl (impl_Course_isTold.ok k), entry Go.Proofs.Tryd.call20 rfl (impl_decimals.ok k), trivial⟩
theorem impl_CourseText.ok (k : Nat) : FnOk Go.Proofs.Tryd.prog 8 (impl_CourseText.F k) :=
  fn_ok tab (impl_CourseText.env k) Go.Proofs.Tryd.func8 rfl (n := 1) (Nat.le_of_ble_eq_true rfl) (by kernel_rfl) (outs := []) (by kernel_rfl) (by kernel_rfl) (d := fun (y : compT impl_CourseText.pr) => (y.1.1 : impl_CourseText.N)) (fun _ => rfl) (C := fun _ => []) (k := k) noCuts fun x => by kernel_rfl
/-! laws.FnExactCourseText -/
@[reducible] def laws_FnExactCourseText.pc : CutP := [(0, some true, [.fl (.int .i64), .fl (.int .i64), .fl (.int .i64)])]
@[reducible] def laws_FnExactCourseText.pr : CompPs := [(false, [.fl .bool])]
abbrev laws_FnExactCourseText.N := Bool
noncomputable def laws_FnExactCourseText.E (k : Nat) : List (FuncId × Go.Rv.Fn) := [(6, spec_CourseText.F k), (7, laws_toCourse.F k), (8, impl_CourseText.F k)]
noncomputable def laws_FnExactCourseText.f (k : Nat) (a0 : Int) (a1 : Int) (a2 : Int) : Option laws_FnExactCourseText.N := (laws_toCourse.f k a0 a1 a2).bind fun t1 => (spec_CourseText.f k t1.1 t1.2.1 t1.2.2).bind fun t2 => (laws_toCourse.f k a0 a1 a2).bind fun t3 => (impl_CourseText.f k t3.1 t3.2.1 t3.2.2).bind fun t4 => (if (!sEq t4 t2) = true then some false else some true)
noncomputable def laws_FnExactCourseText.F (k : Nat) : Go.Rv.Fn := mkFn 1 laws_FnExactCourseText.pc laws_FnExactCourseText.pr (keepOf []) (fun (y : laws_FnExactCourseText.N) => (((y, ()), ()) : compT laws_FnExactCourseText.pr)) fun x => laws_FnExactCourseText.f k x.1.1 x.1.2.1 x.1.2.2.1
theorem laws_FnExactCourseText.env (k : Nat) : EnvOk Go.Proofs.Tryd.prog (fun f => (laws_FnExactCourseText.E k).lookup f) := envOk_of ⟨entry Go.Proofs.Tryd.call6 rfl (spec_CourseText.ok k), entry Go.Proofs.Tryd.call7 rfl (laws_toCourse.ok k), entry Go.Proofs.Tryd.call8 rfl (impl_CourseText.ok k), trivial⟩
theorem laws_FnExactCourseText.ok (k : Nat) : FnOk Go.Proofs.Tryd.prog 3 (laws_FnExactCourseText.F k) :=
  fn_ok tab (laws_FnExactCourseText.env k) Go.Proofs.Tryd.func3 rfl (n := 1) (Nat.le_of_ble_eq_true rfl) (by kernel_rfl) (outs := []) (by kernel_rfl) (by kernel_rfl) (d := fun (y : compT laws_FnExactCourseText.pr) => (y.1.1 : laws_FnExactCourseText.N)) (fun _ => rfl) (C := fun _ => []) (k := k) noCuts fun x => by kernel_rfl
end Go.Proofs.YtigkpbnhdkdliaaDoor.R
