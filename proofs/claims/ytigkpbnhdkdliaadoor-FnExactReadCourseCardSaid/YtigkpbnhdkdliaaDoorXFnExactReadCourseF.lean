-- written by wip/rev/gen2.py for this claim (out of the translation). Lean checks it.
import Derived.Test.YtigkpbnhdkdliaaDoorRvM2
import Derived.Test.YtigkpbnhdkdliaaDoorProg
import Derived.Test.YtigkpbnhdkdliaaDoorRvAmb
import Derived.Test.YtigkpbnhdkdliaaDoorRvStrR
import Derived.Test.YtigkpbnhdkdliaaDoorRvStrS
namespace Go.Proofs.YtigkpbnhdkdliaaDoor.R
open Go.Rv
set_option linter.unusedVariables false
set_option maxRecDepth 100000
def X : Env := { n := 0, keep := [], tab := [(2, { ty := (.int .i64) }),
  (3, { ty := (.int .i64) }),
  (4, { ty := .bool }),
  (5, { ty := (.int .u8) }),
  (9, { ty := .str }),
  (25, { ty := (.pair (.int .i64) (.pair (.int .i64) (.int .i64))), agg := true, offs := [(0, 1, false), (1, 1, false), (2, 1, false)] }),
  (32, { ty := (.sl (.int .u8)), b8 := true }),
  (47, { ty := (.sl (.int .i64)) }),
  (59, { ty := (.sl .str) })] }
theorem tab : TabOk Go.Proofs.Tryd.prog X := ⟨by kernel_rfl, by kernel_rfl⟩
/-! spec.l00In -/
@[reducible] def spec_l00In.pc : CutP := [(0, some false, [.fl (.int .i64)]), (1, some false, [.fl (.int .i64)]), (2, some false, [.fl (.int .i64)])]
@[reducible] def spec_l00In.pr : CompPs := [(false, [.fl .bool])]
abbrev spec_l00In.N := Bool
noncomputable def spec_l00In.E (k : Nat) : List (FuncId × Go.Rv.Fn) := []
noncomputable def spec_l00In.f (k : Nat) (a0 : Int) (a1 : Int) (a2 : Int) : Option spec_l00In.N := (if (decide (a1 ≤ a0)) = true then some (decide (a0 ≤ a2)) else some false)
noncomputable def spec_l00In.F (k : Nat) : Go.Rv.Fn := mkFn 3 spec_l00In.pc spec_l00In.pr (keepOf []) (fun (y : spec_l00In.N) => (((y, ()), ()) : compT spec_l00In.pr)) fun x => spec_l00In.f k x.1.1 x.2.1.1 x.2.2.1.1
theorem spec_l00In.env (k : Nat) : EnvOk Go.Proofs.Tryd.prog (fun f => (spec_l00In.E k).lookup f) := envOk_of trivial
theorem spec_l00In.ok (k : Nat) : FnOk Go.Proofs.Tryd.prog 27 (spec_l00In.F k) :=
  fn_ok tab (spec_l00In.env k) Go.Proofs.Tryd.func27 rfl (n := 3) (Nat.le_of_ble_eq_true rfl) (by kernel_rfl) (outs := []) (by kernel_rfl) (by kernel_rfl) (d := fun (y : compT spec_l00In.pr) => (y.1.1 : spec_l00In.N)) (fun _ => rfl) (C := fun _ => []) (k := k) noCuts fun x => by kernel_rfl
/-! spec.l05Small -/
@[reducible] def spec_l05Small.pc : CutP := [(0, some true, [.fl (.int .i64), .fl (.int .i64), .fl (.int .i64)])]
@[reducible] def spec_l05Small.pr : CompPs := [(false, [.fl .bool])]
abbrev spec_l05Small.N := Bool
noncomputable def spec_l05Small.E (k : Nat) : List (FuncId × Go.Rv.Fn) := [(27, spec_l00In.F k)]
noncomputable def spec_l05Small.f (k : Nat) (a0 : Int) (a1 : Int) (a2 : Int) : Option spec_l05Small.N := (spec_l00In.f k a0 (-1000) 1000).bind fun t1 => (if t1 = true then (spec_l00In.f k a1 (-1000) 1000).bind fun t2 => (if t2 = true then (spec_l00In.f k a2 (-1000) 1000).bind fun t3 => some t3 else some false) else some false)
noncomputable def spec_l05Small.F (k : Nat) : Go.Rv.Fn := mkFn 1 spec_l05Small.pc spec_l05Small.pr (keepOf []) (fun (y : spec_l05Small.N) => (((y, ()), ()) : compT spec_l05Small.pr)) fun x => spec_l05Small.f k x.1.1 x.1.2.1 x.1.2.2.1
theorem spec_l05Small.env (k : Nat) : EnvOk Go.Proofs.Tryd.prog (fun f => (spec_l05Small.E k).lookup f) := envOk_of ⟨entry Go.Proofs.Tryd.call27 rfl (spec_l00In.ok k), trivial⟩
theorem spec_l05Small.ok (k : Nat) : FnOk Go.Proofs.Tryd.prog 17 (spec_l05Small.F k) :=
  fn_ok tab (spec_l05Small.env k) Go.Proofs.Tryd.func17 rfl (n := 1) (Nat.le_of_ble_eq_true rfl) (by kernel_rfl) (outs := []) (by kernel_rfl) (by kernel_rfl) (d := fun (y : compT spec_l05Small.pr) => (y.1.1 : spec_l05Small.N)) (fun _ => rfl) (C := fun _ => []) (k := k) noCuts fun x => by kernel_rfl
/-! spec.l01Dec -/
@[reducible] def spec_l01Dec.pc : CutP := [(0, some false, [.fl (.int .i64)])]
@[reducible] def spec_l01Dec.pr : CompPs := [(false, [.fl .str])]
abbrev spec_l01Dec.N := ByteArray
noncomputable def spec_l01Dec.E (k : Nat) : List (FuncId × Go.Rv.Fn) := []
abbrev spec_l01Dec.Cs := (ByteArray → Int → Option spec_l01Dec.N) × (ByteArray → Int → ByteArray → Option spec_l01Dec.N)
def spec_l01Dec.zero : spec_l01Dec.Cs := (fun _ _ => none, fun _ _ _ => none)
noncomputable def spec_l01Dec.step (k : Nat) (c : spec_l01Dec.Cs) : spec_l01Dec.Cs := (fun (x0 : ByteArray) (x1 : Int) => (if 10 = 0 then none else (if 10 = 0 then none else c.2 x0 (wrap64 (x1.tdiv 10)) (sOf [(IntKind.u8.wrap ((wrap64 (48 - (x1.tmod 10)))))]))),
  fun (x0 : ByteArray) (x1 : Int) (x2 : ByteArray) => (if (decide (x1 < 0)) = true then (if 10 = 0 then none else if sFit (sOf [(IntKind.u8.wrap ((wrap64 (48 - (x1.tmod 10)))))]) x2 = true then (if 10 = 0 then none else c.2 x0 (wrap64 (x1.tdiv 10)) (sCat (sOf [(IntKind.u8.wrap ((wrap64 (48 - (x1.tmod 10)))))]) x2)) else none) else if sFit x0 x2 = true then some (sCat x0 x2) else none))
noncomputable def spec_l01Dec.cs (k : Nat) : Nat → spec_l01Dec.Cs
  | 0 => spec_l01Dec.zero
  | n + 1 => spec_l01Dec.step k (spec_l01Dec.cs k n)
def spec_l01Dec.CC (c : spec_l01Dec.Cs) : Cuts spec_l01Dec.N := [(6, ⟨[(3, some false, [.fl .str]), (4, some false, [.fl (.int .i64)])], fun x => c.1 x.1.1 x.2.1.1⟩),
  (18, ⟨[(3, some false, [.fl .str]), (4, some false, [.fl (.int .i64)]), (5, some false, [.fl .str])], fun x => c.2 x.1.1 x.2.1.1 x.2.2.1.1⟩)]
noncomputable def spec_l01Dec.f (k : Nat) (a0 : Int) : Option spec_l01Dec.N := (if (decide (a0 < 0)) = true then (spec_l01Dec.cs k k).1 (ByteArray.mk #[45]) a0 else (spec_l01Dec.cs k k).1 ByteArray.empty (wrap64 (0 - a0)))
noncomputable def spec_l01Dec.F (k : Nat) : Go.Rv.Fn := mkFn 1 spec_l01Dec.pc spec_l01Dec.pr (keepOf []) (fun (y : spec_l01Dec.N) => (((y, ()), ()) : compT spec_l01Dec.pr)) fun x => spec_l01Dec.f k x.1.1
theorem spec_l01Dec.env (k : Nat) : EnvOk Go.Proofs.Tryd.prog (fun f => (spec_l01Dec.E k).lookup f) := envOk_of trivial
theorem spec_l01Dec.cuts (k : Nat) : CutsOk Go.Proofs.Tryd.prog X (fun f => (spec_l01Dec.E k).lookup f) Go.Proofs.Tryd.f28 [] (decN spec_l01Dec.pr (fun (y : compT spec_l01Dec.pr) => (y.1.1 : spec_l01Dec.N))) fun n => spec_l01Dec.CC (spec_l01Dec.cs k n) :=
  cutsOk_of (step := spec_l01Dec.step k) rfl (fun _ => rfl) ⟨fun _ => rfl, fun _ => rfl, trivial⟩ (fun c => by kernel_rfl) fun c => ⟨fun x => by kernel_rfl, fun x => by kernel_rfl, trivial⟩
theorem spec_l01Dec.ok (k : Nat) : FnOk Go.Proofs.Tryd.prog 28 (spec_l01Dec.F k) :=
  fn_ok tab (spec_l01Dec.env k) Go.Proofs.Tryd.func28 rfl (n := 1) (Nat.le_of_ble_eq_true rfl) (by kernel_rfl) (outs := []) (by kernel_rfl) (by kernel_rfl) (d := fun (y : compT spec_l01Dec.pr) => (y.1.1 : spec_l01Dec.N)) (fun _ => rfl) (C := fun n => spec_l01Dec.CC (spec_l01Dec.cs k n)) (k := k) (spec_l01Dec.cuts k) fun x => by kernel_rfl
/-! spec.l01Value -/
@[reducible] def spec_l01Value.pc : CutP := [(0, some false, [.fl .str])]
@[reducible] def spec_l01Value.pr : CompPs := [(false, [.fl (.int .i64)]), (false, [.fl .bool])]
abbrev spec_l01Value.N := Int × Bool
noncomputable def spec_l01Value.E (k : Nat) : List (FuncId × Go.Rv.Fn) := [(27, spec_l00In.F k), (28, spec_l01Dec.F k)]
abbrev spec_l01Value.Cs := (ByteArray → Option spec_l01Value.N) × (ByteArray → Int → Int → Option spec_l01Value.N) × (ByteArray → Int → Int → Int → Option spec_l01Value.N)
def spec_l01Value.zero : spec_l01Value.Cs := (fun _ => none, fun _ _ _ => none, fun _ _ _ _ => none)
noncomputable def spec_l01Value.step (k : Nat) (c : spec_l01Value.Cs) : spec_l01Value.Cs := (fun (x0 : ByteArray) => if 0 ≤ 0 then if 0 < sLen x0 then (if (decide ((sAt x0 0) = 45)) = true then c.2.1 x0 0 1 else c.2.1 x0 0 0) else none else none,
  fun (x0 : ByteArray) (x1 : Int) (x2 : Int) => c.2.2 x0 x1 x2 x2,
  fun (x0 : ByteArray) (x1 : Int) (x2 : Int) (x3 : Int) => (if (decide (x3 < (sLen x0))) = true then if 0 ≤ x3 then if x3 < sLen x0 then (if (decide ((sAt x0 x3) < 48)) = true then some (0, false) else if 0 ≤ x3 then if x3 < sLen x0 then (if (decide (57 < (sAt x0 x3))) = true then some (0, false) else if 0 ≤ x3 then if x3 < sLen x0 then c.2.2 x0 (wrap64 ((wrap64 (10 * x1)) + (wrap64 ((IntKind.u8.wrap ((sAt x0 x3) - 48)))))) x2 (wrap64 (x3 + 1)) else none else none) else none else none) else none else none else (if (decide (x2 = 1)) = true then (spec_l00In.f k (wrap64 (0 - x1)) (-1000000000) 1000000000).bind fun t1 => (if (!t1) = true then some (0, false) else (spec_l01Dec.f k (wrap64 (0 - x1))).bind fun t2 => (if (!sEq t2 x0) = true then some (0, false) else some ((wrap64 (0 - x1)), true))) else (spec_l00In.f k x1 (-1000000000) 1000000000).bind fun t3 => (if (!t3) = true then some (0, false) else (spec_l01Dec.f k x1).bind fun t4 => (if (!sEq t4 x0) = true then some (0, false) else some (x1, true))))))
noncomputable def spec_l01Value.cs (k : Nat) : Nat → spec_l01Value.Cs
  | 0 => spec_l01Value.zero
  | n + 1 => spec_l01Value.step k (spec_l01Value.cs k n)
def spec_l01Value.CC (c : spec_l01Value.Cs) : Cuts spec_l01Value.N := [(2, ⟨[(0, some false, [.fl .str])], fun x => c.1 x.1.1⟩),
  (14, ⟨[(0, some false, [.fl .str]), (4, some false, [.fl (.int .i64)]), (5, some false, [.fl (.int .i64)])], fun x => c.2.1 x.1.1 x.2.1.1 x.2.2.1.1⟩),
  (24, ⟨[(0, some false, [.fl .str]), (4, some false, [.fl (.int .i64)]), (5, some false, [.fl (.int .i64)]), (6, some false, [.fl (.int .i64)])], fun x => c.2.2 x.1.1 x.2.1.1 x.2.2.1.1 x.2.2.2.1.1⟩)]
noncomputable def spec_l01Value.f (k : Nat) (a0 : ByteArray) : Option spec_l01Value.N := (if (decide ((sLen a0) = 0)) = true then some (0, false) else (if (decide (11 < (sLen a0))) = true then some (0, false) else (spec_l01Value.cs k k).1 a0))
noncomputable def spec_l01Value.F (k : Nat) : Go.Rv.Fn := mkFn 1 spec_l01Value.pc spec_l01Value.pr (keepOf []) (fun (y : spec_l01Value.N) => (((y.1, ()), (y.2, ()), ()) : compT spec_l01Value.pr)) fun x => spec_l01Value.f k x.1.1
theorem spec_l01Value.env (k : Nat) : EnvOk Go.Proofs.Tryd.prog (fun f => (spec_l01Value.E k).lookup f) := envOk_of ⟨entry Go.Proofs.Tryd.call27 rfl (spec_l00In.ok k), entry Go.Proofs.Tryd.call28 rfl (spec_l01Dec.ok k), trivial⟩
theorem spec_l01Value.cuts (k : Nat) : CutsOk Go.Proofs.Tryd.prog X (fun f => (spec_l01Value.E k).lookup f) Go.Proofs.Tryd.f21 [] (decN spec_l01Value.pr (fun (y : compT spec_l01Value.pr) => ((y.1.1, y.2.1.1) : spec_l01Value.N))) fun n => spec_l01Value.CC (spec_l01Value.cs k n) :=
  cutsOk_of (step := spec_l01Value.step k) rfl (fun _ => rfl) ⟨fun _ => rfl, fun _ => rfl, fun _ => rfl, trivial⟩ (fun c => by kernel_rfl) fun c => ⟨fun x => by kernel_rfl, fun x => by kernel_rfl, fun x => by kernel_rfl, trivial⟩
theorem spec_l01Value.ok (k : Nat) : FnOk Go.Proofs.Tryd.prog 21 (spec_l01Value.F k) :=
  fn_ok tab (spec_l01Value.env k) Go.Proofs.Tryd.func21 rfl (n := 1) (Nat.le_of_ble_eq_true rfl) (by kernel_rfl) (outs := []) (by kernel_rfl) (by kernel_rfl) (d := fun (y : compT spec_l01Value.pr) => ((y.1.1, y.2.1.1) : spec_l01Value.N)) (fun _ => rfl) (C := fun n => spec_l01Value.CC (spec_l01Value.cs k n)) (k := k) (spec_l01Value.cuts k) fun x => by kernel_rfl
/-! spec.ReadCourse -/
@[reducible] def spec_ReadCourse.pc : CutP := [(0, some false, [.fl .str])]
@[reducible] def spec_ReadCourse.pr : CompPs := [(true, [.fl (.int .i64), .fl (.int .i64), .fl (.int .i64)]), (false, [.fl .bool])]
abbrev spec_ReadCourse.N := Int × Int × Int × Bool
noncomputable def spec_ReadCourse.E (k : Nat) : List (FuncId × Go.Rv.Fn) := [(17, spec_l05Small.F k), (21, spec_l01Value.F k)]
abbrev spec_ReadCourse.Cs := (ByteArray → Int → Int → Int → List Int → Int → Int → Option spec_ReadCourse.N) × (ByteArray → Int → Int → Int → List Int → Int → Int → Option spec_ReadCourse.N)
def spec_ReadCourse.zero : spec_ReadCourse.Cs := (fun _ _ _ _ _ _ _ => none, fun _ _ _ _ _ _ _ => none)
noncomputable def spec_ReadCourse.step (k : Nat) (c : spec_ReadCourse.Cs) : spec_ReadCourse.Cs := (fun (x0 : ByteArray) (x1 : Int) (x2 : Int) (x3 : Int) (x4 : List Int) (x5 : Int) (x6 : Int) => (if (decide (x6 ≤ (sLen x0))) = true then (if (decide (x6 < (sLen x0))) = true then if 0 ≤ x6 then if x6 < sLen x0 then (if (!decide ((sAt x0 x6) = 47)) = true then c.1 x0 x1 x2 x3 x4 x5 (wrap64 (x6 + 1)) else c.2 x0 x1 x2 x3 x4 x5 x6) else none else none else c.2 x0 x1 x2 x3 x4 x5 x6) else (if (!decide ((x4.length : Int) = 3)) = true then some (0, 0, 0, false) else if 0 ≤ 0 then if 0 < (x4.length : Int) then if 0 ≤ 1 then if 1 < (x4.length : Int) then if 0 ≤ 2 then if 2 < (x4.length : Int) then (spec_l05Small.f k (rd 0 x4 0) (rd 0 x4 1) (rd 0 x4 2)).bind fun t1 => (if (!t1) = true then some (0, 0, 0, false) else some ((rd 0 x4 0), (rd 0 x4 1), (rd 0 x4 2), true)) else none else none else none else none else none else none)),
  fun (x0 : ByteArray) (x1 : Int) (x2 : Int) (x3 : Int) (x4 : List Int) (x5 : Int) (x6 : Int) => if 0 ≤ x5 then if x5 ≤ x6 then if x6 ≤ sLen x0 then (spec_l01Value.f k (sCut x0 x5 x6)).bind fun t2 => (if (!t2.2) = true then some (0, 0, 0, false) else (if (decide ((x4.length : Int) = 3)) = true then some (0, 0, 0, false) else if x4.length + [t2.1].length < 1099511627776 then c.1 x0 x1 x2 x3 (x4 ++ [t2.1]) (wrap64 (x6 + 1)) (wrap64 (x6 + 1)) else none)) else none else none else none)
noncomputable def spec_ReadCourse.cs (k : Nat) : Nat → spec_ReadCourse.Cs
  | 0 => spec_ReadCourse.zero
  | n + 1 => spec_ReadCourse.step k (spec_ReadCourse.cs k n)
def spec_ReadCourse.CC (c : spec_ReadCourse.Cs) : Cuts spec_ReadCourse.N := [(10, ⟨[(0, some false, [.fl .str]), (2, none, [.fl (.int .i64), .fl (.int .i64), .fl (.int .i64)]), (4, some false, [.fl (.own (.int .i64))]), (5, some false, [.fl (.int .i64)]), (6, some false, [.fl (.int .i64)])], fun x => c.1 x.1.1 x.2.1.1 x.2.1.2.1 x.2.1.2.2.1 x.2.2.1.1 x.2.2.2.1.1 x.2.2.2.2.1.1⟩),
  (19, ⟨[(0, some false, [.fl .str]), (2, none, [.fl (.int .i64), .fl (.int .i64), .fl (.int .i64)]), (4, some false, [.fl (.own (.int .i64))]), (5, some false, [.fl (.int .i64)]), (6, some false, [.fl (.int .i64)])], fun x => c.2 x.1.1 x.2.1.1 x.2.1.2.1 x.2.1.2.2.1 x.2.2.1.1 x.2.2.2.1.1 x.2.2.2.2.1.1⟩)]
noncomputable def spec_ReadCourse.f (k : Nat) (a0 : ByteArray) : Option spec_ReadCourse.N := (spec_ReadCourse.cs k k).1 a0 0 0 0 ([] : List Int) 0 0
noncomputable def spec_ReadCourse.F (k : Nat) : Go.Rv.Fn := mkFn 1 spec_ReadCourse.pc spec_ReadCourse.pr (keepOf []) (fun (y : spec_ReadCourse.N) => (((y.1, y.2.1, y.2.2.1, ()), (y.2.2.2, ()), ()) : compT spec_ReadCourse.pr)) fun x => spec_ReadCourse.f k x.1.1
theorem spec_ReadCourse.env (k : Nat) : EnvOk Go.Proofs.Tryd.prog (fun f => (spec_ReadCourse.E k).lookup f) := envOk_of ⟨entry Go.Proofs.Tryd.call17 rfl (spec_l05Small.ok k), entry Go.Proofs.Tryd.call21 rfl (spec_l01Value.ok k), trivial⟩
theorem spec_ReadCourse.cuts (k : Nat) : CutsOk Go.Proofs.Tryd.prog X (fun f => (spec_ReadCourse.E k).lookup f) Go.Proofs.Tryd.f9 [] (decN spec_ReadCourse.pr (fun (y : compT spec_ReadCourse.pr) => ((y.1.1, y.1.2.1, y.1.2.2.1, y.2.1.1) : spec_ReadCourse.N))) fun n => spec_ReadCourse.CC (spec_ReadCourse.cs k n) :=
  cutsOk_of (step := spec_ReadCourse.step k) rfl (fun _ => rfl) ⟨fun _ => rfl, fun _ => rfl, trivial⟩ (fun c => by kernel_rfl) fun c => ⟨fun x => by kernel_rfl, fun x => by kernel_rfl, trivial⟩
theorem spec_ReadCourse.ok (k : Nat) : FnOk Go.Proofs.Tryd.prog 9 (spec_ReadCourse.F k) :=
  fn_ok tab (spec_ReadCourse.env k) Go.Proofs.Tryd.func9 rfl (n := 1) (Nat.le_of_ble_eq_true rfl) (by kernel_rfl) (outs := []) (by kernel_rfl) (by kernel_rfl) (d := fun (y : compT spec_ReadCourse.pr) => ((y.1.1, y.1.2.1, y.1.2.2.1, y.2.1.1) : spec_ReadCourse.N)) (fun _ => rfl) (C := fun n => spec_ReadCourse.CC (spec_ReadCourse.cs k n)) (k := k) (spec_ReadCourse.cuts k) fun x => by kernel_rfl
/-! strings.Split -/
@[reducible] def strings_Split.pc : CutP := [(0, some false, [.fl .str]), (1, some false, [.fl .str])]
@[reducible] def strings_Split.pr : CompPs := [(false, [.fl (.own .str)])]
abbrev strings_Split.N := List ByteArray
noncomputable def strings_Split.E (k : Nat) : List (FuncId × Go.Rv.Fn) := []
noncomputable def strings_Split.f (k : Nat) (a0 : ByteArray) (a1 : ByteArray) : Option strings_Split.N := T.splitF a0 a1
noncomputable def strings_Split.F (k : Nat) : Go.Rv.Fn := mkFn 2 strings_Split.pc strings_Split.pr (keepOf []) (fun (y : strings_Split.N) => (((y, ()), ()) : compT strings_Split.pr)) fun x => strings_Split.f k x.1.1 x.2.1.1
theorem strings_Split.ok (k : Nat) : FnOk Go.Proofs.Tryd.prog 31 (strings_Split.F k) := T.split_fn
/-! impl.readIn -/
@[reducible] def impl_readIn.pc : CutP := [(0, some false, [.fl .str]), (1, some false, [.fl (.int .i64)]), (2, some false, [.fl (.int .i64)])]
@[reducible] def impl_readIn.pr : CompPs := [(false, [.fl (.int .i64)]), (false, [.fl .bool])]
abbrev impl_readIn.N := Int × Bool
noncomputable def impl_readIn.E (k : Nat) : List (FuncId × Go.Rv.Fn) := []
noncomputable def impl_readIn.f (k : Nat) (a0 : ByteArray) (a1 : Int) (a2 : Int) : Option impl_readIn.N := T.readInF a0 a1 a2
noncomputable def impl_readIn.F (k : Nat) : Go.Rv.Fn := mkFn 3 impl_readIn.pc impl_readIn.pr (keepOf []) (fun (y : impl_readIn.N) => (((y.1, ()), (y.2, ()), ()) : compT impl_readIn.pr)) fun x => impl_readIn.f k x.1.1 x.2.1.1 x.2.2.1.1
theorem impl_readIn.ok (k : Nat) : FnOk Go.Proofs.Tryd.prog 32 (impl_readIn.F k) := T.readIn_fn
/-! impl.readAll -/
@[reducible] def impl_readAll.pc : CutP := [(0, some false, [.fl .str]), (1, some false, [.fl .str]), (2, some false, [.fl (.int .i64)]), (3, some false, [.fl (.int .i64)])]
@[reducible] def impl_readAll.pr : CompPs := [(false, [.fl (.own (.int .i64))]), (false, [.fl .bool])]
abbrev impl_readAll.N := List Int × Bool
noncomputable def impl_readAll.E (k : Nat) : List (FuncId × Go.Rv.Fn) := [(31, strings_Split.F k), (32, impl_readIn.F k)]
abbrev impl_readAll.Cs := (Int → Int → List Int → List ByteArray → Int → Int → Option impl_readAll.N)
def impl_readAll.zero : impl_readAll.Cs := (fun _ _ _ _ _ _ => none)
noncomputable def impl_readAll.step (k : Nat) (c : impl_readAll.Cs) : impl_readAll.Cs := (fun (x0 : Int) (x1 : Int) (x2 : List Int) (x3 : List ByteArray) (x4 : Int) (x5 : Int) => (if (decide (x5 < x4)) = true then if 0 ≤ x5 then if x5 < (x3.length : Int) then (impl_readIn.f k (rd ByteArray.empty x3 x5) x0 x1).bind fun t2 => (if (!t2.2) = true then some ([], false) else if x2.length + [t2.1].length < 1099511627776 then c x0 x1 (x2 ++ [t2.1]) x3 x4 (wrap64 (x5 + 1)) else none) else none else none else some (x2, true)))
noncomputable def impl_readAll.cs (k : Nat) : Nat → impl_readAll.Cs
  | 0 => impl_readAll.zero
  | n + 1 => impl_readAll.step k (impl_readAll.cs k n)
def impl_readAll.CC (c : impl_readAll.Cs) : Cuts impl_readAll.N := [(8, ⟨[(2, some false, [.fl (.int .i64)]), (3, some false, [.fl (.int .i64)]), (10, some false, [.fl (.own (.int .i64))]), (18, some false, [.fl (.own .str)]), (19, some false, [.fl (.int .i64)]), (20, some false, [.fl (.int .i64)])], fun x => c x.1.1 x.2.1.1 x.2.2.1.1 x.2.2.2.1.1 x.2.2.2.2.1.1 x.2.2.2.2.2.1.1⟩)]
noncomputable def impl_readAll.f (k : Nat) (a0 : ByteArray) (a1 : ByteArray) (a2 : Int) (a3 : Int) : Option impl_readAll.N := (strings_Split.f k a0 a1).bind fun t1 => (impl_readAll.cs k k) a2 a3 ([] : List Int) t1 (t1.length : Int) 0
noncomputable def impl_readAll.F (k : Nat) : Go.Rv.Fn := mkFn 4 impl_readAll.pc impl_readAll.pr (keepOf []) (fun (y : impl_readAll.N) => (((y.1, ()), (y.2, ()), ()) : compT impl_readAll.pr)) fun x => impl_readAll.f k x.1.1 x.2.1.1 x.2.2.1.1 x.2.2.2.1.1
theorem impl_readAll.env (k : Nat) : EnvOk Go.Proofs.Tryd.prog (fun f => (impl_readAll.E k).lookup f) := envOk_of ⟨entry Go.Proofs.Tryd.call31 rfl (strings_Split.ok k), entry Go.Proofs.Tryd.call32 rfl (impl_readIn.ok k), trivial⟩
theorem impl_readAll.cuts (k : Nat) : CutsOk Go.Proofs.Tryd.prog X (fun f => (impl_readAll.E k).lookup f) Go.Proofs.Tryd.f22 [] (decN impl_readAll.pr (fun (y : compT impl_readAll.pr) => ((y.1.1, y.2.1.1) : impl_readAll.N))) fun n => impl_readAll.CC (impl_readAll.cs k n) :=
  cutsOk_of (step := impl_readAll.step k) rfl (fun _ => rfl) ⟨fun _ => rfl, trivial⟩ (fun c => by kernel_rfl) fun c => ⟨fun x => by kernel_rfl, trivial⟩
theorem impl_readAll.ok (k : Nat) : FnOk Go.Proofs.Tryd.prog 22 (impl_readAll.F k) :=
  fn_ok tab (impl_readAll.env k) Go.Proofs.Tryd.func22 rfl (n := 4) (Nat.le_of_ble_eq_true rfl) (by kernel_rfl) (outs := []) (by kernel_rfl) (by kernel_rfl) (d := fun (y : compT impl_readAll.pr) => ((y.1.1, y.2.1.1) : impl_readAll.N)) (fun _ => rfl) (C := fun n => impl_readAll.CC (impl_readAll.cs k n)) (k := k) (impl_readAll.cuts k) fun x => by kernel_rfl
/-! impl.ReadCourse -/
@[reducible] def impl_ReadCourse.pc : CutP := [(0, some false, [.fl .str])]
@[reducible] def impl_ReadCourse.pr : CompPs := [(true, [.fl (.int .i64), .fl (.int .i64), .fl (.int .i64)]), (false, [.fl .bool])]
abbrev impl_ReadCourse.N := Int × Int × Int × Bool
noncomputable def impl_ReadCourse.E (k : Nat) : List (FuncId × Go.Rv.Fn) := [(22, impl_readAll.F k)]
noncomputable def impl_ReadCourse.f (k : Nat) (a0 : ByteArray) : Option impl_ReadCourse.N := (impl_readAll.f k a0 (ByteArray.mk #[47]) (-1000) 1000).bind fun t1 => (if (!t1.2) = true then some (0, 0, 0, false) else (if (!decide ((t1.1.length : Int) = 3)) = true then some (0, 0, 0, false) else if 0 ≤ 0 then if 0 < (t1.1.length : Int) then if 0 ≤ 1 then if 1 < (t1.1.length : Int) then if 0 ≤ 2 then if 2 < (t1.1.length : Int) then some ((rd 0 t1.1 0), (rd 0 t1.1 1), (rd 0 t1.1 2), true) else none else none else none else none else none else none))
noncomputable def impl_ReadCourse.F (k : Nat) : Go.Rv.Fn := mkFn 1 impl_ReadCourse.pc impl_ReadCourse.pr (keepOf []) (fun (y : impl_ReadCourse.N) => (((y.1, y.2.1, y.2.2.1, ()), (y.2.2.2, ()), ()) : compT impl_ReadCourse.pr)) fun x => impl_ReadCourse.f k x.1.1
theorem impl_ReadCourse.env (k : Nat) : EnvOk Go.Proofs.Tryd.prog (fun f => (impl_ReadCourse.E k).lookup f) := envOk_of ⟨entry Go.Proofs.Tryd.call22 rfl (impl_readAll.ok k), trivial⟩
theorem impl_ReadCourse.ok (k : Nat) : FnOk Go.Proofs.Tryd.prog 10 (impl_ReadCourse.F k) :=
  fn_ok tab (impl_ReadCourse.env k) Go.Proofs.Tryd.func10 rfl (n := 1) (Nat.le_of_ble_eq_true rfl) (by kernel_rfl) (outs := []) (by kernel_rfl) (by kernel_rfl) (d := fun (y : compT impl_ReadCourse.pr) => ((y.1.1, y.1.2.1, y.1.2.2.1, y.2.1.1) : impl_ReadCourse.N)) (fun _ => rfl) (C := fun _ => []) (k := k) noCuts fun x => by kernel_rfl
/-! laws.eqCourse -/
@[reducible] def laws_eqCourse.pc : CutP := [(0, some true, [.fl (.int .i64), .fl (.int .i64), .fl (.int .i64)]), (1, some true, [.fl (.int .i64), .fl (.int .i64), .fl (.int .i64)])]
@[reducible] def laws_eqCourse.pr : CompPs := [(false, [.fl .bool])]
abbrev laws_eqCourse.N := Bool
noncomputable def laws_eqCourse.E (k : Nat) : List (FuncId × Go.Rv.Fn) := []
noncomputable def laws_eqCourse.f (k : Nat) (a0 : Int) (a1 : Int) (a2 : Int) (a3 : Int) (a4 : Int) (a5 : Int) : Option laws_eqCourse.N := (if (!decide (a0 = a3)) = true then some false else (if (!decide (a1 = a4)) = true then some false else (if (!decide (a2 = a5)) = true then some false else some true)))
noncomputable def laws_eqCourse.F (k : Nat) : Go.Rv.Fn := mkFn 2 laws_eqCourse.pc laws_eqCourse.pr (keepOf []) (fun (y : laws_eqCourse.N) => (((y, ()), ()) : compT laws_eqCourse.pr)) fun x => laws_eqCourse.f k x.1.1 x.1.2.1 x.1.2.2.1 x.2.1.1 x.2.1.2.1 x.2.1.2.2.1
theorem laws_eqCourse.env (k : Nat) : EnvOk Go.Proofs.Tryd.prog (fun f => (laws_eqCourse.E k).lookup f) := envOk_of trivial
theorem laws_eqCourse.ok (k : Nat) : FnOk Go.Proofs.Tryd.prog 11 (laws_eqCourse.F k) :=
  fn_ok tab (laws_eqCourse.env k) Go.Proofs.Tryd.func11 rfl (n := 2) (Nat.le_of_ble_eq_true rfl) (by kernel_rfl) (outs := []) (by kernel_rfl) (by kernel_rfl) (d := fun (y : compT laws_eqCourse.pr) => (y.1.1 : laws_eqCourse.N)) (fun _ => rfl) (C := fun _ => []) (k := k) noCuts fun x => by kernel_rfl
/-! laws.FnExactReadCourse -/
@[reducible] def laws_FnExactReadCourse.pc : CutP := [(0, some false, [.fl .str])]
@[reducible] def laws_FnExactReadCourse.pr : CompPs := [(false, [.fl .bool])]
abbrev laws_FnExactReadCourse.N := Bool
noncomputable def laws_FnExactReadCourse.E (k : Nat) : List (FuncId × Go.Rv.Fn) := [(9, spec_ReadCourse.F k), (10, impl_ReadCourse.F k), (11, laws_eqCourse.F k)]
noncomputable def laws_FnExactReadCourse.f (k : Nat) (a0 : ByteArray) : Option laws_FnExactReadCourse.N := (if (decide (1048576 < (sLen a0))) = true then some true else (spec_ReadCourse.f k a0).bind fun t1 => (impl_ReadCourse.f k a0).bind fun t2 => (laws_eqCourse.f k t2.1 t2.2.1 t2.2.2.1 t1.1 t1.2.1 t1.2.2.1).bind fun t3 => (if (!t3) = true then some false else (if (!(t2.2.2.2 == t1.2.2.2)) = true then some false else some true)))
noncomputable def laws_FnExactReadCourse.F (k : Nat) : Go.Rv.Fn := mkFn 1 laws_FnExactReadCourse.pc laws_FnExactReadCourse.pr (keepOf []) (fun (y : laws_FnExactReadCourse.N) => (((y, ()), ()) : compT laws_FnExactReadCourse.pr)) fun x => laws_FnExactReadCourse.f k x.1.1
theorem laws_FnExactReadCourse.env (k : Nat) : EnvOk Go.Proofs.Tryd.prog (fun f => (laws_FnExactReadCourse.E k).lookup f) := envOk_of ⟨entry Go.Proofs.Tryd.call9 rfl (spec_ReadCourse.ok k), entry Go.Proofs.Tryd.call10 rfl (impl_ReadCourse.ok k), entry Go.Proofs.Tryd.call11 rfl (laws_eqCourse.ok k), trivial⟩
theorem laws_FnExactReadCourse.ok (k : Nat) : FnOk Go.Proofs.Tryd.prog 4 (laws_FnExactReadCourse.F k) :=
  fn_ok tab (laws_FnExactReadCourse.env k) Go.Proofs.Tryd.func4 rfl (n := 1) (Nat.le_of_ble_eq_true rfl) (by kernel_rfl) (outs := []) (by kernel_rfl) (by kernel_rfl) (d := fun (y : compT laws_FnExactReadCourse.pr) => (y.1.1 : laws_FnExactReadCourse.N)) (fun _ => rfl) (C := fun _ => []) (k := k) noCuts fun x => by kernel_rfl
end Go.Proofs.YtigkpbnhdkdliaaDoor.R
