-- written by wip/rev/gen2.py for this claim (out of the translation). Lean checks it.
import Derived.Test.YtgknckbplbldbaaDoorRvM2
import Derived.Test.YtgknckbplbldbaaDoorProg
import Derived.Test.YtgknckbplbldbaaDoorRvAmb
import Derived.Test.YtgknckbplbldbaaDoorRvStrC
import Derived.Test.YtgknckbplbldbaaDoorRvStrR
import Derived.Test.YtgknckbplbldbaaDoorRvStrS
namespace Go.Proofs.YtgknckbplbldbaaDoor.R
open Go.Rv
set_option linter.unusedVariables false
set_option maxRecDepth 100000
def X : Env := { n := 0, keep := [], tab := [(2, { ty := (.int .i64) }),
  (3, { ty := (.int .i64) }),
  (4, { ty := .bool }),
  (5, { ty := (.int .u8) }),
  (9, { ty := .str }),
  (30, { ty := (.pair (.int .i64) (.pair (.int .i64) (.pair (.int .i64) (.int .i64)))), agg := true, offs := [(0, 1, false), (1, 1, false), (2, 1, false), (3, 1, false)] }),
  (31, { ty := (.sl (.pair (.int .i64) (.pair (.int .i64) (.int .i64)))) }),
  (33, { ty := (.pair (.pair (.int .i64) (.pair (.int .i64) (.pair (.int .i64) (.int .i64)))) (.sl (.pair (.int .i64) (.pair (.int .i64) (.int .i64))))), agg := true, offs := [(0, 4, true), (4, 1, false)] }),
  (49, { ty := (.sl (.int .i64)) }),
  (52, { ty := (.pair (.int .i64) (.pair (.int .i64) (.int .i64))), agg := true, offs := [(0, 1, false), (1, 1, false), (2, 1, false)] }),
  (57, { ty := (.sl .str) }),
  (74, { ty := (.sl (.pair (.int .i64) (.pair (.int .i64) (.pair (.int .i64) (.int .i64))))) }),
  (82, { ty := (.sl (.int .u8)), b8 := true })] }
theorem tab : TabOk Go.Proofs.Tryd.prog X := ⟨by kernel_rfl, by kernel_rfl⟩
/-! spec.l02Numbers -/
@[reducible] def spec_l02Numbers.pc : CutP := [(0, some false, [.fl .str])]
@[reducible] def spec_l02Numbers.pr : CompPs := [(false, [.fl (.own (.int .i64))])]
abbrev spec_l02Numbers.N := List Int
noncomputable def spec_l02Numbers.E (k : Nat) : List (FuncId × Go.Rv.Fn) := []
abbrev spec_l02Numbers.Cs := (ByteArray → List Int → Int → Option spec_l02Numbers.N) × (ByteArray → List Int → Int → Int → Option spec_l02Numbers.N) × (ByteArray → List Int → Int → Int → Option spec_l02Numbers.N) × (ByteArray → List Int → Int → Int → Int → Int → Option spec_l02Numbers.N) × (ByteArray → List Int → Int → Int → Int → Int → Option spec_l02Numbers.N)
def spec_l02Numbers.zero : spec_l02Numbers.Cs := (fun _ _ _ => none, fun _ _ _ _ => none, fun _ _ _ _ => none, fun _ _ _ _ _ _ => none, fun _ _ _ _ _ _ => none)
noncomputable def spec_l02Numbers.step (k : Nat) (c : spec_l02Numbers.Cs) : spec_l02Numbers.Cs := (fun (x0 : ByteArray) (x1 : List Int) (x2 : Int) => (if (decide (x2 < (sLen x0))) = true then if 0 ≤ x2 then if x2 < sLen x0 then (if (decide ((sAt x0 x2) = 45)) = true then c.2.1 x0 x1 x2 (-1) else c.2.1 x0 x1 x2 1) else none else none else some x1),
  fun (x0 : ByteArray) (x1 : List Int) (x2 : Int) (x3 : Int) => if 0 ≤ x2 then if x2 < sLen x0 then (if (decide ((sAt x0 x2) < 48)) = true then (if (decide (0 < x3)) = true then c.1 x0 x1 (wrap64 (x2 + 1)) else (if (decide ((wrap64 (x2 + 1)) = (sLen x0))) = true then c.1 x0 x1 (wrap64 (x2 + 1)) else if 0 ≤ (wrap64 (x2 + 1)) then if (wrap64 (x2 + 1)) < sLen x0 then (if (decide ((sAt x0 (wrap64 (x2 + 1))) < 48)) = true then c.1 x0 x1 (wrap64 (x2 + 1)) else if 0 ≤ (wrap64 (x2 + 1)) then if (wrap64 (x2 + 1)) < sLen x0 then (if (decide (57 < (sAt x0 (wrap64 (x2 + 1))))) = true then c.1 x0 x1 (wrap64 (x2 + 1)) else c.2.2.1 x0 x1 (wrap64 (x2 + 1)) x3) else none else none) else none else none)) else if 0 ≤ x2 then if x2 < sLen x0 then (if (decide (57 < (sAt x0 x2))) = true then (if (decide (0 < x3)) = true then c.1 x0 x1 (wrap64 (x2 + 1)) else (if (decide ((wrap64 (x2 + 1)) = (sLen x0))) = true then c.1 x0 x1 (wrap64 (x2 + 1)) else if 0 ≤ (wrap64 (x2 + 1)) then if (wrap64 (x2 + 1)) < sLen x0 then (if (decide ((sAt x0 (wrap64 (x2 + 1))) < 48)) = true then c.1 x0 x1 (wrap64 (x2 + 1)) else if 0 ≤ (wrap64 (x2 + 1)) then if (wrap64 (x2 + 1)) < sLen x0 then (if (decide (57 < (sAt x0 (wrap64 (x2 + 1))))) = true then c.1 x0 x1 (wrap64 (x2 + 1)) else c.2.2.1 x0 x1 (wrap64 (x2 + 1)) x3) else none else none) else none else none)) else c.2.2.1 x0 x1 x2 x3) else none else none) else none else none,
  fun (x0 : ByteArray) (x1 : List Int) (x2 : Int) (x3 : Int) => c.2.2.2.1 x0 x1 x2 x3 0 0,
  fun (x0 : ByteArray) (x1 : List Int) (x2 : Int) (x3 : Int) (x4 : Int) (x5 : Int) => (if (decide (x5 < 8)) = true then (if (decide (x2 < (sLen x0))) = true then if 0 ≤ x2 then if x2 < sLen x0 then (if (decide (48 ≤ (sAt x0 x2))) = true then if 0 ≤ x2 then if x2 < sLen x0 then (if (decide ((sAt x0 x2) ≤ 57)) = true then c.2.2.2.2 x0 x1 x2 x3 x4 x5 else if x1.length + [(wrap64 (x3 * x4))].length < 1099511627776 then c.1 x0 (x1 ++ [(wrap64 (x3 * x4))]) x2 else none) else none else none else if x1.length + [(wrap64 (x3 * x4))].length < 1099511627776 then c.1 x0 (x1 ++ [(wrap64 (x3 * x4))]) x2 else none) else none else none else if x1.length + [(wrap64 (x3 * x4))].length < 1099511627776 then c.1 x0 (x1 ++ [(wrap64 (x3 * x4))]) x2 else none) else if x1.length + [(wrap64 (x3 * x4))].length < 1099511627776 then c.1 x0 (x1 ++ [(wrap64 (x3 * x4))]) x2 else none),
  fun (x0 : ByteArray) (x1 : List Int) (x2 : Int) (x3 : Int) (x4 : Int) (x5 : Int) => if 0 ≤ x2 then if x2 < sLen x0 then c.2.2.2.1 x0 x1 (wrap64 (x2 + 1)) x3 (wrap64 ((wrap64 (10 * x4)) + (wrap64 ((IntKind.u8.wrap ((sAt x0 x2) - 48)))))) (wrap64 (x5 + 1)) else none else none)
noncomputable def spec_l02Numbers.cs (k : Nat) : Nat → spec_l02Numbers.Cs
  | 0 => spec_l02Numbers.zero
  | n + 1 => spec_l02Numbers.step k (spec_l02Numbers.cs k n)
def spec_l02Numbers.CC (c : spec_l02Numbers.Cs) : Cuts spec_l02Numbers.N := [(8, ⟨[(0, some false, [.fl .str]), (3, some false, [.fl (.own (.int .i64))]), (4, some false, [.fl (.int .i64)])], fun x => c.1 x.1.1 x.2.1.1 x.2.2.1.1⟩),
  (18, ⟨[(0, some false, [.fl .str]), (3, some false, [.fl (.own (.int .i64))]), (4, some false, [.fl (.int .i64)]), (5, some false, [.fl (.int .i64)])], fun x => c.2.1 x.1.1 x.2.1.1 x.2.2.1.1 x.2.2.2.1.1⟩),
  (24, ⟨[(0, some false, [.fl .str]), (3, some false, [.fl (.own (.int .i64))]), (4, some false, [.fl (.int .i64)]), (5, some false, [.fl (.int .i64)])], fun x => c.2.2.1 x.1.1 x.2.1.1 x.2.2.1.1 x.2.2.2.1.1⟩),
  (42, ⟨[(0, some false, [.fl .str]), (3, some false, [.fl (.own (.int .i64))]), (4, some false, [.fl (.int .i64)]), (5, some false, [.fl (.int .i64)]), (6, some false, [.fl (.int .i64)]), (7, some false, [.fl (.int .i64)])], fun x => c.2.2.2.1 x.1.1 x.2.1.1 x.2.2.1.1 x.2.2.2.1.1 x.2.2.2.2.1.1 x.2.2.2.2.2.1.1⟩),
  (43, ⟨[(0, some false, [.fl .str]), (3, some false, [.fl (.own (.int .i64))]), (4, some false, [.fl (.int .i64)]), (5, some false, [.fl (.int .i64)]), (6, some false, [.fl (.int .i64)]), (7, some false, [.fl (.int .i64)])], fun x => c.2.2.2.2 x.1.1 x.2.1.1 x.2.2.1.1 x.2.2.2.1.1 x.2.2.2.2.1.1 x.2.2.2.2.2.1.1⟩)]
noncomputable def spec_l02Numbers.f (k : Nat) (a0 : ByteArray) : Option spec_l02Numbers.N := (spec_l02Numbers.cs k k).1 a0 ([] : List Int) 0
noncomputable def spec_l02Numbers.F (k : Nat) : Go.Rv.Fn := mkFn 1 spec_l02Numbers.pc spec_l02Numbers.pr (keepOf []) (fun (y : spec_l02Numbers.N) => (((y, ()), ()) : compT spec_l02Numbers.pr)) fun x => spec_l02Numbers.f k x.1.1
theorem spec_l02Numbers.env (k : Nat) : EnvOk Go.Proofs.Tryd.prog (fun f => (spec_l02Numbers.E k).lookup f) := envOk_of trivial
theorem spec_l02Numbers.cuts (k : Nat) : CutsOk Go.Proofs.Tryd.prog X (fun f => (spec_l02Numbers.E k).lookup f) Go.Proofs.Tryd.f25 [] (decN spec_l02Numbers.pr (fun (y : compT spec_l02Numbers.pr) => (y.1.1 : spec_l02Numbers.N))) fun n => spec_l02Numbers.CC (spec_l02Numbers.cs k n) :=
  cutsOk_of (step := spec_l02Numbers.step k) rfl (fun _ => rfl) ⟨fun _ => rfl, fun _ => rfl, fun _ => rfl, fun _ => rfl, fun _ => rfl, trivial⟩ (fun c => by kernel_rfl) fun c => ⟨fun x => by kernel_rfl, fun x => by kernel_rfl, fun x => by kernel_rfl, fun x => by kernel_rfl, fun x => by kernel_rfl, trivial⟩
theorem spec_l02Numbers.ok (k : Nat) : FnOk Go.Proofs.Tryd.prog 25 (spec_l02Numbers.F k) :=
  fn_ok tab (spec_l02Numbers.env k) Go.Proofs.Tryd.func25 rfl (n := 1) (Nat.le_of_ble_eq_true rfl) (by kernel_rfl) (outs := []) (by kernel_rfl) (by kernel_rfl) (d := fun (y : compT spec_l02Numbers.pr) => (y.1.1 : spec_l02Numbers.N)) (fun _ => rfl) (C := fun n => spec_l02Numbers.CC (spec_l02Numbers.cs k n)) (k := k) (spec_l02Numbers.cuts k) fun x => by kernel_rfl
/-! spec.l00In -/
@[reducible] def spec_l00In.pc : CutP := [(0, some false, [.fl (.int .i64)]), (1, some false, [.fl (.int .i64)]), (2, some false, [.fl (.int .i64)])]
@[reducible] def spec_l00In.pr : CompPs := [(false, [.fl .bool])]
abbrev spec_l00In.N := Bool
noncomputable def spec_l00In.E (k : Nat) : List (FuncId × Go.Rv.Fn) := []
noncomputable def spec_l00In.f (k : Nat) (a0 : Int) (a1 : Int) (a2 : Int) : Option spec_l00In.N := (if (decide (a1 ≤ a0)) = true then some (decide (a0 ≤ a2)) else some false)
noncomputable def spec_l00In.F (k : Nat) : Go.Rv.Fn := mkFn 3 spec_l00In.pc spec_l00In.pr (keepOf []) (fun (y : spec_l00In.N) => (((y, ()), ()) : compT spec_l00In.pr)) fun x => spec_l00In.f k x.1.1 x.2.1.1 x.2.2.1.1
theorem spec_l00In.env (k : Nat) : EnvOk Go.Proofs.Tryd.prog (fun f => (spec_l00In.E k).lookup f) := envOk_of trivial
theorem spec_l00In.ok (k : Nat) : FnOk Go.Proofs.Tryd.prog 34 (spec_l00In.F k) :=
  fn_ok tab (spec_l00In.env k) Go.Proofs.Tryd.func34 rfl (n := 3) (Nat.le_of_ble_eq_true rfl) (by kernel_rfl) (outs := []) (by kernel_rfl) (by kernel_rfl) (d := fun (y : compT spec_l00In.pr) => (y.1.1 : spec_l00In.N)) (fun _ => rfl) (C := fun _ => []) (k := k) noCuts fun x => by kernel_rfl
/-! spec.l02Pose -/
@[reducible] def spec_l02Pose.pc : CutP := [(0, some true, [.fl (.int .i64), .fl (.int .i64), .fl (.int .i64), .fl (.int .i64)])]
@[reducible] def spec_l02Pose.pr : CompPs := [(false, [.fl .bool])]
abbrev spec_l02Pose.N := Bool
noncomputable def spec_l02Pose.E (k : Nat) : List (FuncId × Go.Rv.Fn) := [(34, spec_l00In.F k)]
noncomputable def spec_l02Pose.f (k : Nat) (a0 : Int) (a1 : Int) (a2 : Int) (a3 : Int) : Option spec_l02Pose.N := (spec_l00In.f k a0 (-100000) 100000).bind fun t1 => (if t1 = true then (spec_l00In.f k a1 (-100000) 100000).bind fun t2 => (if t2 = true then (spec_l00In.f k a2 (-400) 400).bind fun t3 => (if t3 = true then (spec_l00In.f k a3 (-400) 400).bind fun t4 => some t4 else some false) else some false) else some false)
noncomputable def spec_l02Pose.F (k : Nat) : Go.Rv.Fn := mkFn 1 spec_l02Pose.pc spec_l02Pose.pr (keepOf []) (fun (y : spec_l02Pose.N) => (((y, ()), ()) : compT spec_l02Pose.pr)) fun x => spec_l02Pose.f k x.1.1 x.1.2.1 x.1.2.2.1 x.1.2.2.2.1
theorem spec_l02Pose.env (k : Nat) : EnvOk Go.Proofs.Tryd.prog (fun f => (spec_l02Pose.E k).lookup f) := envOk_of ⟨entry Go.Proofs.Tryd.call34 rfl (spec_l00In.ok k), trivial⟩
theorem spec_l02Pose.ok (k : Nat) : FnOk Go.Proofs.Tryd.prog 33 (spec_l02Pose.F k) :=
  fn_ok tab (spec_l02Pose.env k) Go.Proofs.Tryd.func33 rfl (n := 1) (Nat.le_of_ble_eq_true rfl) (by kernel_rfl) (outs := []) (by kernel_rfl) (by kernel_rfl) (d := fun (y : compT spec_l02Pose.pr) => (y.1.1 : spec_l02Pose.N)) (fun _ => rfl) (C := fun _ => []) (k := k) noCuts fun x => by kernel_rfl
/-! spec.l02Turn -/
@[reducible] def spec_l02Turn.pc : CutP := [(0, some false, [.fl (.int .i64)]), (1, some false, [.fl (.int .i64)])]
@[reducible] def spec_l02Turn.pr : CompPs := [(false, [.fl .bool])]
abbrev spec_l02Turn.N := Bool
noncomputable def spec_l02Turn.E (k : Nat) : List (FuncId × Go.Rv.Fn) := [(34, spec_l00In.F k)]
noncomputable def spec_l02Turn.f (k : Nat) (a0 : Int) (a1 : Int) : Option spec_l02Turn.N := (spec_l00In.f k a0 (-12) 12).bind fun t1 => (if t1 = true then (spec_l00In.f k a1 (-12) 12).bind fun t2 => some t2 else some false)
noncomputable def spec_l02Turn.F (k : Nat) : Go.Rv.Fn := mkFn 2 spec_l02Turn.pc spec_l02Turn.pr (keepOf []) (fun (y : spec_l02Turn.N) => (((y, ()), ()) : compT spec_l02Turn.pr)) fun x => spec_l02Turn.f k x.1.1 x.2.1.1
theorem spec_l02Turn.env (k : Nat) : EnvOk Go.Proofs.Tryd.prog (fun f => (spec_l02Turn.E k).lookup f) := envOk_of ⟨entry Go.Proofs.Tryd.call34 rfl (spec_l00In.ok k), trivial⟩
theorem spec_l02Turn.ok (k : Nat) : FnOk Go.Proofs.Tryd.prog 35 (spec_l02Turn.F k) :=
  fn_ok tab (spec_l02Turn.env k) Go.Proofs.Tryd.func35 rfl (n := 2) (Nat.le_of_ble_eq_true rfl) (by kernel_rfl) (outs := []) (by kernel_rfl) (by kernel_rfl) (d := fun (y : compT spec_l02Turn.pr) => (y.1.1 : spec_l02Turn.N)) (fun _ => rfl) (C := fun _ => []) (k := k) noCuts fun x => by kernel_rfl
/-! spec.l02Next -/
@[reducible] def spec_l02Next.pc : CutP := [(0, some true, [.fl (.int .i64), .fl (.int .i64), .fl (.int .i64), .fl (.int .i64)]), (1, some false, [.fl (.int .i64)]), (2, some false, [.fl (.int .i64)])]
@[reducible] def spec_l02Next.pr : CompPs := [(true, [.fl (.int .i64), .fl (.int .i64), .fl (.int .i64), .fl (.int .i64)])]
abbrev spec_l02Next.N := Int × Int × Int × Int
noncomputable def spec_l02Next.E (k : Nat) : List (FuncId × Go.Rv.Fn) := []
noncomputable def spec_l02Next.f (k : Nat) (a0 : Int) (a1 : Int) (a2 : Int) (a3 : Int) (a4 : Int) (a5 : Int) : Option spec_l02Next.N := some ((wrap64 (a0 + a2)), (wrap64 (a1 + a3)), (wrap64 (a2 + a4)), (wrap64 (a3 + a5)))
noncomputable def spec_l02Next.F (k : Nat) : Go.Rv.Fn := mkFn 3 spec_l02Next.pc spec_l02Next.pr (keepOf []) (fun (y : spec_l02Next.N) => (((y.1, y.2.1, y.2.2.1, y.2.2.2, ()), ()) : compT spec_l02Next.pr)) fun x => spec_l02Next.f k x.1.1 x.1.2.1 x.1.2.2.1 x.1.2.2.2.1 x.2.1.1 x.2.2.1.1
theorem spec_l02Next.env (k : Nat) : EnvOk Go.Proofs.Tryd.prog (fun f => (spec_l02Next.E k).lookup f) := envOk_of trivial
theorem spec_l02Next.ok (k : Nat) : FnOk Go.Proofs.Tryd.prog 36 (spec_l02Next.F k) :=
  fn_ok tab (spec_l02Next.env k) Go.Proofs.Tryd.func36 rfl (n := 3) (Nat.le_of_ble_eq_true rfl) (by kernel_rfl) (outs := []) (by kernel_rfl) (by kernel_rfl) (d := fun (y : compT spec_l02Next.pr) => ((y.1.1, y.1.2.1, y.1.2.2.1, y.1.2.2.2.1) : spec_l02Next.N)) (fun _ => rfl) (C := fun _ => []) (k := k) noCuts fun x => by kernel_rfl
/-! spec.l02Is -/
@[reducible] def spec_l02Is.pc : CutP := [(0, some false, [.rptr [(.int .i64), (.int .i64), (.int .i64), (.int .i64), (.lo (.pair (.int .i64) (.pair (.int .i64) (.int .i64))))]])]
@[reducible] def spec_l02Is.pr : CompPs := [(false, [.fl .bool])]
abbrev spec_l02Is.N := Bool
noncomputable def spec_l02Is.E (k : Nat) : List (FuncId × Go.Rv.Fn) := [(33, spec_l02Pose.F k), (34, spec_l00In.F k), (35, spec_l02Turn.F k), (36, spec_l02Next.F k)]
abbrev spec_l02Is.Cs := (Int → Int → Int → Int → List (Int × Int × Int) → Option spec_l02Is.N) × (Int → Int → Int → Int → List (Int × Int × Int) → Int → Int → Int → Int → Int → Int → Option spec_l02Is.N) × (Int → Int → Int → Int → List (Int × Int × Int) → Int → Int → Int → Int → Int → Int → Int → Int → Int → Option spec_l02Is.N) × (Int → Int → Int → Int → List (Int × Int × Int) → Int → Int → Int → Int → Int → Int → Int → Int → Int → Int → Option spec_l02Is.N)
def spec_l02Is.zero : spec_l02Is.Cs := (fun _ _ _ _ _ => none, fun _ _ _ _ _ _ _ _ _ _ _ => none, fun _ _ _ _ _ _ _ _ _ _ _ _ _ _ => none, fun _ _ _ _ _ _ _ _ _ _ _ _ _ _ _ => none)
noncomputable def spec_l02Is.step (k : Nat) (c : spec_l02Is.Cs) : spec_l02Is.Cs := (fun (x0 : Int) (x1 : Int) (x2 : Int) (x3 : Int) (x4 : List (Int × Int × Int)) => c.2.1 x0 x1 x2 x3 x4 0 x0 x1 x2 x3 0,
  fun (x0 : Int) (x1 : Int) (x2 : Int) (x3 : Int) (x4 : List (Int × Int × Int)) (x5 : Int) (x6 : Int) (x7 : Int) (x8 : Int) (x9 : Int) (x10 : Int) => (if (decide (x10 < (x4.length : Int))) = true then if 0 ≤ x10 then if x10 < (x4.length : Int) then (spec_l00In.f k ((rd (0, (0, 0)) x4 x10).1) 1 (wrap64 (60 - x5))).bind fun t3 => (if (!t3) = true then some false else (spec_l02Turn.f k (((rd (0, (0, 0)) x4 x10).2).1) (((rd (0, (0, 0)) x4 x10).2).2)).bind fun t4 => (if (!t4) = true then some false else c.2.2.1 x0 x1 x2 x3 x4 x5 x6 x7 x8 x9 x10 ((rd (0, (0, 0)) x4 x10).1) (((rd (0, (0, 0)) x4 x10).2).1) (((rd (0, (0, 0)) x4 x10).2).2))) else none else none else some true),
  fun (x0 : Int) (x1 : Int) (x2 : Int) (x3 : Int) (x4 : List (Int × Int × Int)) (x5 : Int) (x6 : Int) (x7 : Int) (x8 : Int) (x9 : Int) (x10 : Int) (x11 : Int) (x12 : Int) (x13 : Int) => c.2.2.2 x0 x1 x2 x3 x4 (wrap64 (x5 + x11)) x6 x7 x8 x9 x10 x11 x12 x13 0,
  fun (x0 : Int) (x1 : Int) (x2 : Int) (x3 : Int) (x4 : List (Int × Int × Int)) (x5 : Int) (x6 : Int) (x7 : Int) (x8 : Int) (x9 : Int) (x10 : Int) (x11 : Int) (x12 : Int) (x13 : Int) (x14 : Int) => (if (decide (x14 < x11)) = true then (spec_l02Next.f k x6 x7 x8 x9 x12 x13).bind fun t5 => (spec_l02Pose.f k t5.1 t5.2.1 t5.2.2.1 t5.2.2.2).bind fun t6 => (if (!t6) = true then some false else c.2.2.2 x0 x1 x2 x3 x4 x5 t5.1 t5.2.1 t5.2.2.1 t5.2.2.2 x10 x11 x12 x13 (wrap64 (x14 + 1))) else c.2.1 x0 x1 x2 x3 x4 x5 x6 x7 x8 x9 (wrap64 (x10 + 1))))
noncomputable def spec_l02Is.cs (k : Nat) : Nat → spec_l02Is.Cs
  | 0 => spec_l02Is.zero
  | n + 1 => spec_l02Is.step k (spec_l02Is.cs k n)
def spec_l02Is.CC (c : spec_l02Is.Cs) : Cuts spec_l02Is.N := [(2, ⟨[(0, some false, [.rptr [(.int .i64), (.int .i64), (.int .i64), (.int .i64), (.lo (.pair (.int .i64) (.pair (.int .i64) (.int .i64))))]])], fun x => c.1 x.1.1.1 x.1.1.2.1 x.1.1.2.2.1 x.1.1.2.2.2.1 x.1.1.2.2.2.2.1⟩),
  (18, ⟨[(0, some false, [.rptr [(.int .i64), (.int .i64), (.int .i64), (.int .i64), (.lo (.pair (.int .i64) (.pair (.int .i64) (.int .i64))))]]), (3, some false, [.fl (.int .i64)]), (4, none, [.fl (.int .i64), .fl (.int .i64), .fl (.int .i64), .fl (.int .i64)]), (5, some false, [.fl (.int .i64)])], fun x => c.2.1 x.1.1.1 x.1.1.2.1 x.1.1.2.2.1 x.1.1.2.2.2.1 x.1.1.2.2.2.2.1 x.2.1.1 x.2.2.1.1 x.2.2.1.2.1 x.2.2.1.2.2.1 x.2.2.1.2.2.2.1 x.2.2.2.1.1⟩),
  (29, ⟨[(0, some false, [.rptr [(.int .i64), (.int .i64), (.int .i64), (.int .i64), (.lo (.pair (.int .i64) (.pair (.int .i64) (.int .i64))))]]), (3, some false, [.fl (.int .i64)]), (4, none, [.fl (.int .i64), .fl (.int .i64), .fl (.int .i64), .fl (.int .i64)]), (5, some false, [.fl (.int .i64)]), (6, none, [.fl (.int .i64), .fl (.int .i64), .fl (.int .i64)])], fun x => c.2.2.1 x.1.1.1 x.1.1.2.1 x.1.1.2.2.1 x.1.1.2.2.2.1 x.1.1.2.2.2.2.1 x.2.1.1 x.2.2.1.1 x.2.2.1.2.1 x.2.2.1.2.2.1 x.2.2.1.2.2.2.1 x.2.2.2.1.1 x.2.2.2.2.1.1 x.2.2.2.2.1.2.1 x.2.2.2.2.1.2.2.1⟩),
  (42, ⟨[(0, some false, [.rptr [(.int .i64), (.int .i64), (.int .i64), (.int .i64), (.lo (.pair (.int .i64) (.pair (.int .i64) (.int .i64))))]]), (3, some false, [.fl (.int .i64)]), (4, none, [.fl (.int .i64), .fl (.int .i64), .fl (.int .i64), .fl (.int .i64)]), (5, some false, [.fl (.int .i64)]), (6, none, [.fl (.int .i64), .fl (.int .i64), .fl (.int .i64)]), (7, some false, [.fl (.int .i64)])], fun x => c.2.2.2 x.1.1.1 x.1.1.2.1 x.1.1.2.2.1 x.1.1.2.2.2.1 x.1.1.2.2.2.2.1 x.2.1.1 x.2.2.1.1 x.2.2.1.2.1 x.2.2.1.2.2.1 x.2.2.1.2.2.2.1 x.2.2.2.1.1 x.2.2.2.2.1.1 x.2.2.2.2.1.2.1 x.2.2.2.2.1.2.2.1 x.2.2.2.2.2.1.1⟩)]
noncomputable def spec_l02Is.f (k : Nat) (a0 : Int) (a1 : Int) (a2 : Int) (a3 : Int) (a4 : List (Int × Int × Int)) : Option spec_l02Is.N := (spec_l02Pose.f k a0 a1 a2 a3).bind fun t1 => (if (!t1) = true then some false else (spec_l00In.f k (a4.length : Int) 1 8).bind fun t2 => (if (!t2) = true then some false else (spec_l02Is.cs k k).1 a0 a1 a2 a3 a4))
noncomputable def spec_l02Is.F (k : Nat) : Go.Rv.Fn := mkFn 1 spec_l02Is.pc spec_l02Is.pr (keepOf []) (fun (y : spec_l02Is.N) => (((y, ()), ()) : compT spec_l02Is.pr)) fun x => spec_l02Is.f k x.1.1.1 x.1.1.2.1 x.1.1.2.2.1 x.1.1.2.2.2.1 x.1.1.2.2.2.2.1
theorem spec_l02Is.env (k : Nat) : EnvOk Go.Proofs.Tryd.prog (fun f => (spec_l02Is.E k).lookup f) := envOk_of ⟨entry Go.Proofs.Tryd.call33 rfl (spec_l02Pose.ok k), entry Go.Proofs.Tryd.call34 rfl (spec_l00In.ok k), entry Go.Proofs.Tryd.call35 rfl (spec_l02Turn.ok k), entry Go.Proofs.Tryd.call36 rfl (spec_l02Next.ok k), trivial⟩
theorem spec_l02Is.cuts (k : Nat) : CutsOk Go.Proofs.Tryd.prog X (fun f => (spec_l02Is.E k).lookup f) Go.Proofs.Tryd.f15 [] (decN spec_l02Is.pr (fun (y : compT spec_l02Is.pr) => (y.1.1 : spec_l02Is.N))) fun n => spec_l02Is.CC (spec_l02Is.cs k n) :=
  cutsOk_of (step := spec_l02Is.step k) rfl (fun _ => rfl) ⟨fun _ => rfl, fun _ => rfl, fun _ => rfl, fun _ => rfl, trivial⟩ (fun c => by kernel_rfl) fun c => ⟨fun x => by kernel_rfl, fun x => by kernel_rfl, fun x => by kernel_rfl, fun x => by kernel_rfl, trivial⟩
theorem spec_l02Is.ok (k : Nat) : FnOk Go.Proofs.Tryd.prog 15 (spec_l02Is.F k) :=
  fn_ok tab (spec_l02Is.env k) Go.Proofs.Tryd.func15 rfl (n := 1) (Nat.le_of_ble_eq_true rfl) (by kernel_rfl) (outs := []) (by kernel_rfl) (by kernel_rfl) (d := fun (y : compT spec_l02Is.pr) => (y.1.1 : spec_l02Is.N)) (fun _ => rfl) (C := fun n => spec_l02Is.CC (spec_l02Is.cs k n)) (k := k) (spec_l02Is.cuts k) fun x => by kernel_rfl
/-! spec.l01Dec -/
@[reducible] def spec_l01Dec.pc : CutP := [(0, some false, [.fl (.int .i64)])]
@[reducible] def spec_l01Dec.pr : CompPs := [(false, [.fl .str])]
abbrev spec_l01Dec.N := ByteArray
noncomputable def spec_l01Dec.E (k : Nat) : List (FuncId × Go.Rv.Fn) := []
abbrev spec_l01Dec.Cs := (ByteArray → Int → Option spec_l01Dec.N) × (ByteArray → Int → ByteArray → Option spec_l01Dec.N)
def spec_l01Dec.zero : spec_l01Dec.Cs := (fun _ _ => none, fun _ _ _ => none)
noncomputable def spec_l01Dec.step (k : Nat) (c : spec_l01Dec.Cs) : spec_l01Dec.Cs := (fun (x0 : ByteArray) (x1 : Int) => (if 10 = 0 then none else (if 10 = 0 then none else c.2 x0 (wrap64 (x1.tdiv 10)) (sOf [(IntKind.u8.wrap ((wrap64 (48 - (x1.tmod 10)))))]))),
  fun (x0 : ByteArray) (x1 : Int) (x2 : ByteArray) => (if (decide (x1 < 0)) = true then (if 10 = 0 then none else if sFit (sOf [(IntKind.u8.wrap ((wrap64 (48 - (x1.tmod 10)))))]) x2 = true then (if 10 = 0 then none else c.2 x0 (wrap64 (x1.tdiv 10)) (sCat (sOf [(IntKind.u8.wrap ((wrap64 (48 - (x1.tmod 10)))))]) x2)) else none) else if sFit x0 x2 = true then some (sCat x0 x2) else none))
noncomputable def spec_l01Dec.cs (k : Nat) : Nat → spec_l01Dec.Cs
  | 0 => spec_l01Dec.zero
  | n + 1 => spec_l01Dec.step k (spec_l01Dec.cs k n)
def spec_l01Dec.CC (c : spec_l01Dec.Cs) : Cuts spec_l01Dec.N := [(6, ⟨[(3, some false, [.fl .str]), (4, some false, [.fl (.int .i64)])], fun x => c.1 x.1.1 x.2.1.1⟩),
  (18, ⟨[(3, some false, [.fl .str]), (4, some false, [.fl (.int .i64)]), (5, some false, [.fl .str])], fun x => c.2 x.1.1 x.2.1.1 x.2.2.1.1⟩)]
noncomputable def spec_l01Dec.f (k : Nat) (a0 : Int) : Option spec_l01Dec.N := (if (decide (a0 < 0)) = true then (spec_l01Dec.cs k k).1 (ByteArray.mk #[45]) a0 else (spec_l01Dec.cs k k).1 ByteArray.empty (wrap64 (0 - a0)))
noncomputable def spec_l01Dec.F (k : Nat) : Go.Rv.Fn := mkFn 1 spec_l01Dec.pc spec_l01Dec.pr (keepOf []) (fun (y : spec_l01Dec.N) => (((y, ()), ()) : compT spec_l01Dec.pr)) fun x => spec_l01Dec.f k x.1.1
theorem spec_l01Dec.env (k : Nat) : EnvOk Go.Proofs.Tryd.prog (fun f => (spec_l01Dec.E k).lookup f) := envOk_of trivial
theorem spec_l01Dec.cuts (k : Nat) : CutsOk Go.Proofs.Tryd.prog X (fun f => (spec_l01Dec.E k).lookup f) Go.Proofs.Tryd.f37 [] (decN spec_l01Dec.pr (fun (y : compT spec_l01Dec.pr) => (y.1.1 : spec_l01Dec.N))) fun n => spec_l01Dec.CC (spec_l01Dec.cs k n) :=
  cutsOk_of (step := spec_l01Dec.step k) rfl (fun _ => rfl) ⟨fun _ => rfl, fun _ => rfl, trivial⟩ (fun c => by kernel_rfl) fun c => ⟨fun x => by kernel_rfl, fun x => by kernel_rfl, trivial⟩
theorem spec_l01Dec.ok (k : Nat) : FnOk Go.Proofs.Tryd.prog 37 (spec_l01Dec.F k) :=
  fn_ok tab (spec_l01Dec.env k) Go.Proofs.Tryd.func37 rfl (n := 1) (Nat.le_of_ble_eq_true rfl) (by kernel_rfl) (outs := []) (by kernel_rfl) (by kernel_rfl) (d := fun (y : compT spec_l01Dec.pr) => (y.1.1 : spec_l01Dec.N)) (fun _ => rfl) (C := fun n => spec_l01Dec.CC (spec_l01Dec.cs k n)) (k := k) (spec_l01Dec.cuts k) fun x => by kernel_rfl
/-! spec.l02Text -/
@[reducible] def spec_l02Text.pc : CutP := [(0, some false, [.rptr [(.int .i64), (.int .i64), (.int .i64), (.int .i64), (.lo (.pair (.int .i64) (.pair (.int .i64) (.int .i64))))]])]
@[reducible] def spec_l02Text.pr : CompPs := [(false, [.fl .str])]
abbrev spec_l02Text.N := ByteArray
noncomputable def spec_l02Text.E (k : Nat) : List (FuncId × Go.Rv.Fn) := [(37, spec_l01Dec.F k)]
abbrev spec_l02Text.Cs := (Int → Int → Int → Int → List (Int × Int × Int) → ByteArray → Int → Option spec_l02Text.N)
def spec_l02Text.zero : spec_l02Text.Cs := (fun _ _ _ _ _ _ _ => none)
noncomputable def spec_l02Text.step (k : Nat) (c : spec_l02Text.Cs) : spec_l02Text.Cs := (fun (x0 : Int) (x1 : Int) (x2 : Int) (x3 : Int) (x4 : List (Int × Int × Int)) (x5 : ByteArray) (x6 : Int) => (if (decide (x6 < (x4.length : Int))) = true then if 0 ≤ x6 then if x6 < (x4.length : Int) then (spec_l01Dec.f k ((rd (0, (0, 0)) x4 x6).1)).bind fun t5 => if sFit (ByteArray.mk #[59]) t5 = true then if sFit (sCat (ByteArray.mk #[59]) t5) (ByteArray.mk #[58]) = true then (spec_l01Dec.f k (((rd (0, (0, 0)) x4 x6).2).1)).bind fun t6 => if sFit (sCat (sCat (ByteArray.mk #[59]) t5) (ByteArray.mk #[58])) t6 = true then if sFit (sCat (sCat (sCat (ByteArray.mk #[59]) t5) (ByteArray.mk #[58])) t6) (ByteArray.mk #[44]) = true then (spec_l01Dec.f k (((rd (0, (0, 0)) x4 x6).2).2)).bind fun t7 => if sFit (sCat (sCat (sCat (sCat (ByteArray.mk #[59]) t5) (ByteArray.mk #[58])) t6) (ByteArray.mk #[44])) t7 = true then if sFit x5 (sCat (sCat (sCat (sCat (sCat (ByteArray.mk #[59]) t5) (ByteArray.mk #[58])) t6) (ByteArray.mk #[44])) t7) = true then c x0 x1 x2 x3 x4 (sCat x5 (sCat (sCat (sCat (sCat (sCat (ByteArray.mk #[59]) t5) (ByteArray.mk #[58])) t6) (ByteArray.mk #[44])) t7)) (wrap64 (x6 + 1)) else none else none else none else none else none else none else none else none else some x5))
noncomputable def spec_l02Text.cs (k : Nat) : Nat → spec_l02Text.Cs
  | 0 => spec_l02Text.zero
  | n + 1 => spec_l02Text.step k (spec_l02Text.cs k n)
def spec_l02Text.CC (c : spec_l02Text.Cs) : Cuts spec_l02Text.N := [(8, ⟨[(0, some false, [.rptr [(.int .i64), (.int .i64), (.int .i64), (.int .i64), (.lo (.pair (.int .i64) (.pair (.int .i64) (.int .i64))))]]), (3, some false, [.fl .str]), (4, some false, [.fl (.int .i64)])], fun x => c x.1.1.1 x.1.1.2.1 x.1.1.2.2.1 x.1.1.2.2.2.1 x.1.1.2.2.2.2.1 x.2.1.1 x.2.2.1.1⟩)]
noncomputable def spec_l02Text.f (k : Nat) (a0 : Int) (a1 : Int) (a2 : Int) (a3 : Int) (a4 : List (Int × Int × Int)) : Option spec_l02Text.N := (spec_l01Dec.f k a0).bind fun t1 => if sFit t1 (ByteArray.mk #[44]) = true then (spec_l01Dec.f k a1).bind fun t2 => if sFit (sCat t1 (ByteArray.mk #[44])) t2 = true then if sFit (sCat (sCat t1 (ByteArray.mk #[44])) t2) (ByteArray.mk #[44]) = true then (spec_l01Dec.f k a2).bind fun t3 => if sFit (sCat (sCat (sCat t1 (ByteArray.mk #[44])) t2) (ByteArray.mk #[44])) t3 = true then if sFit (sCat (sCat (sCat (sCat t1 (ByteArray.mk #[44])) t2) (ByteArray.mk #[44])) t3) (ByteArray.mk #[44]) = true then (spec_l01Dec.f k a3).bind fun t4 => if sFit (sCat (sCat (sCat (sCat (sCat t1 (ByteArray.mk #[44])) t2) (ByteArray.mk #[44])) t3) (ByteArray.mk #[44])) t4 = true then (spec_l02Text.cs k k) a0 a1 a2 a3 a4 (sCat (sCat (sCat (sCat (sCat (sCat t1 (ByteArray.mk #[44])) t2) (ByteArray.mk #[44])) t3) (ByteArray.mk #[44])) t4) 0 else none else none else none else none else none else none
noncomputable def spec_l02Text.F (k : Nat) : Go.Rv.Fn := mkFn 1 spec_l02Text.pc spec_l02Text.pr (keepOf []) (fun (y : spec_l02Text.N) => (((y, ()), ()) : compT spec_l02Text.pr)) fun x => spec_l02Text.f k x.1.1.1 x.1.1.2.1 x.1.1.2.2.1 x.1.1.2.2.2.1 x.1.1.2.2.2.2.1
theorem spec_l02Text.env (k : Nat) : EnvOk Go.Proofs.Tryd.prog (fun f => (spec_l02Text.E k).lookup f) := envOk_of ⟨entry Go.Proofs.Tryd.call37 rfl (spec_l01Dec.ok k), trivial⟩
theorem spec_l02Text.cuts (k : Nat) : CutsOk Go.Proofs.Tryd.prog X (fun f => (spec_l02Text.E k).lookup f) Go.Proofs.Tryd.f16 [] (decN spec_l02Text.pr (fun (y : compT spec_l02Text.pr) => (y.1.1 : spec_l02Text.N))) fun n => spec_l02Text.CC (spec_l02Text.cs k n) :=
  cutsOk_of (step := spec_l02Text.step k) rfl (fun _ => rfl) ⟨fun _ => rfl, trivial⟩ (fun c => by kernel_rfl) fun c => ⟨fun x => by kernel_rfl, trivial⟩
theorem spec_l02Text.ok (k : Nat) : FnOk Go.Proofs.Tryd.prog 16 (spec_l02Text.F k) :=
  fn_ok tab (spec_l02Text.env k) Go.Proofs.Tryd.func16 rfl (n := 1) (Nat.le_of_ble_eq_true rfl) (by kernel_rfl) (outs := []) (by kernel_rfl) (by kernel_rfl) (d := fun (y : compT spec_l02Text.pr) => (y.1.1 : spec_l02Text.N)) (fun _ => rfl) (C := fun n => spec_l02Text.CC (spec_l02Text.cs k n)) (k := k) (spec_l02Text.cuts k) fun x => by kernel_rfl
/-! spec.ReadAxis -/
@[reducible] def spec_ReadAxis.pc : CutP := [(0, some false, [.fl .str])]
@[reducible] def spec_ReadAxis.pr : CompPs := [(true, [.fl (.int .i64), .fl (.int .i64), .fl (.int .i64), .fl (.int .i64), .fl (.own (.pair (.int .i64) (.pair (.int .i64) (.int .i64))))]), (false, [.fl .bool])]
abbrev spec_ReadAxis.N := Int × Int × Int × Int × List (Int × Int × Int) × Bool
noncomputable def spec_ReadAxis.E (k : Nat) : List (FuncId × Go.Rv.Fn) := [(15, spec_l02Is.F k), (16, spec_l02Text.F k), (25, spec_l02Numbers.F k)]
abbrev spec_ReadAxis.Cs := (ByteArray → Int → Int → Int → Int → List Int → Option spec_ReadAxis.N) × (ByteArray → Int → Int → Int → Int → List Int → Int → Int → Int → Int → List (Int × Int × Int) → Int → Option spec_ReadAxis.N)
def spec_ReadAxis.zero : spec_ReadAxis.Cs := (fun _ _ _ _ _ _ => none, fun _ _ _ _ _ _ _ _ _ _ _ _ => none)
noncomputable def spec_ReadAxis.step (k : Nat) (c : spec_ReadAxis.Cs) : spec_ReadAxis.Cs := (fun (x0 : ByteArray) (x1 : Int) (x2 : Int) (x3 : Int) (x4 : Int) (x5 : List Int) => if 0 ≤ 0 then if 0 < (x5.length : Int) then if 0 ≤ 1 then if 1 < (x5.length : Int) then if 0 ≤ 2 then if 2 < (x5.length : Int) then if 0 ≤ 3 then if 3 < (x5.length : Int) then c.2 x0 x1 x2 x3 x4 x5 (rd 0 x5 0) (rd 0 x5 1) (rd 0 x5 2) (rd 0 x5 3) ([] : List (Int × Int × Int)) 4 else none else none else none else none else none else none else none else none,
  fun (x0 : ByteArray) (x1 : Int) (x2 : Int) (x3 : Int) (x4 : Int) (x5 : List Int) (x6 : Int) (x7 : Int) (x8 : Int) (x9 : Int) (x10 : List (Int × Int × Int)) (x11 : Int) => (if (decide ((wrap64 (x11 + 2)) < (x5.length : Int))) = true then if 0 ≤ x11 then if x11 < (x5.length : Int) then if 0 ≤ (wrap64 (x11 + 1)) then if (wrap64 (x11 + 1)) < (x5.length : Int) then if 0 ≤ (wrap64 (x11 + 2)) then if (wrap64 (x11 + 2)) < (x5.length : Int) then if x10.length + [((rd 0 x5 x11), ((rd 0 x5 (wrap64 (x11 + 1))), (rd 0 x5 (wrap64 (x11 + 2)))))].length < 366503875925 then c.2 x0 x1 x2 x3 x4 x5 x6 x7 x8 x9 (x10 ++ [((rd 0 x5 x11), ((rd 0 x5 (wrap64 (x11 + 1))), (rd 0 x5 (wrap64 (x11 + 2)))))]) (wrap64 (x11 + 3)) else none else none else none else none else none else none else none else (spec_l02Is.f k x6 x7 x8 x9 x10).bind fun t2 => (if (!t2) = true then some (0, 0, 0, 0, [], false) else (spec_l02Text.f k x6 x7 x8 x9 x10).bind fun t3 => (if (!sEq t3 x0) = true then some (0, 0, 0, 0, [], false) else some (x6, x7, x8, x9, x10, true)))))
noncomputable def spec_ReadAxis.cs (k : Nat) : Nat → spec_ReadAxis.Cs
  | 0 => spec_ReadAxis.zero
  | n + 1 => spec_ReadAxis.step k (spec_ReadAxis.cs k n)
def spec_ReadAxis.CC (c : spec_ReadAxis.Cs) : Cuts spec_ReadAxis.N := [(4, ⟨[(0, some false, [.fl .str]), (2, none, [.fl (.int .i64), .fl (.int .i64), .fl (.int .i64), .fl (.int .i64), .fl .nils]), (4, some false, [.fl (.own (.int .i64))])], fun x => c.1 x.1.1 x.2.1.1 x.2.1.2.1 x.2.1.2.2.1 x.2.1.2.2.2.1 x.2.2.1.1⟩),
  (18, ⟨[(0, some false, [.fl .str]), (2, none, [.fl (.int .i64), .fl (.int .i64), .fl (.int .i64), .fl (.int .i64), .fl .nils]), (4, some false, [.fl (.own (.int .i64))]), (5, none, [.fl (.int .i64), .fl (.int .i64), .fl (.int .i64), .fl (.int .i64), .fl (.own (.pair (.int .i64) (.pair (.int .i64) (.int .i64))))]), (6, some false, [.fl (.int .i64)])], fun x => c.2 x.1.1 x.2.1.1 x.2.1.2.1 x.2.1.2.2.1 x.2.1.2.2.2.1 x.2.2.1.1 x.2.2.2.1.1 x.2.2.2.1.2.1 x.2.2.2.1.2.2.1 x.2.2.2.1.2.2.2.1 x.2.2.2.1.2.2.2.2.1 x.2.2.2.2.1.1⟩)]
noncomputable def spec_ReadAxis.f (k : Nat) (a0 : ByteArray) : Option spec_ReadAxis.N := (spec_l02Numbers.f k a0).bind fun t1 => (if (decide ((t1.length : Int) < 7)) = true then some (0, 0, 0, 0, [], false) else (if (decide (28 < (t1.length : Int))) = true then some (0, 0, 0, 0, [], false) else (spec_ReadAxis.cs k k).1 a0 0 0 0 0 t1))
noncomputable def spec_ReadAxis.F (k : Nat) : Go.Rv.Fn := mkFn 1 spec_ReadAxis.pc spec_ReadAxis.pr (keepOf []) (fun (y : spec_ReadAxis.N) => (((y.1, y.2.1, y.2.2.1, y.2.2.2.1, y.2.2.2.2.1, ()), (y.2.2.2.2.2, ()), ()) : compT spec_ReadAxis.pr)) fun x => spec_ReadAxis.f k x.1.1
theorem spec_ReadAxis.env (k : Nat) : EnvOk Go.Proofs.Tryd.prog (fun f => (spec_ReadAxis.E k).lookup f) := envOk_of ⟨entry Go.Proofs.Tryd.call15 rfl (spec_l02Is.ok k), entry Go.Proofs.Tryd.call16 rfl (spec_l02Text.ok k), entry Go.Proofs.Tryd.call25 rfl (spec_l02Numbers.ok k), trivial⟩
theorem spec_ReadAxis.cuts (k : Nat) : CutsOk Go.Proofs.Tryd.prog X (fun f => (spec_ReadAxis.E k).lookup f) Go.Proofs.Tryd.f10 [] (decN spec_ReadAxis.pr (fun (y : compT spec_ReadAxis.pr) => ((y.1.1, y.1.2.1, y.1.2.2.1, y.1.2.2.2.1, y.1.2.2.2.2.1, y.2.1.1) : spec_ReadAxis.N))) fun n => spec_ReadAxis.CC (spec_ReadAxis.cs k n) :=
  cutsOk_of (step := spec_ReadAxis.step k) rfl (fun _ => rfl) ⟨fun _ => rfl, fun _ => rfl, trivial⟩ (fun c => by kernel_rfl) fun c => ⟨fun x => by kernel_rfl, fun x => by kernel_rfl, trivial⟩
theorem spec_ReadAxis.ok (k : Nat) : FnOk Go.Proofs.Tryd.prog 10 (spec_ReadAxis.F k) :=
  fn_ok tab (spec_ReadAxis.env k) Go.Proofs.Tryd.func10 rfl (n := 1) (Nat.le_of_ble_eq_true rfl) (by kernel_rfl) (outs := []) (by kernel_rfl) (by kernel_rfl) (d := fun (y : compT spec_ReadAxis.pr) => ((y.1.1, y.1.2.1, y.1.2.2.1, y.1.2.2.2.1, y.1.2.2.2.2.1, y.2.1.1) : spec_ReadAxis.N)) (fun _ => rfl) (C := fun n => spec_ReadAxis.CC (spec_ReadAxis.cs k n)) (k := k) (spec_ReadAxis.cuts k) fun x => by kernel_rfl
/-! strings.Split -/
@[reducible] def strings_Split.pc : CutP := [(0, some false, [.fl .str]), (1, some false, [.fl .str])]
@[reducible] def strings_Split.pr : CompPs := [(false, [.fl (.own .str)])]
abbrev strings_Split.N := List ByteArray
noncomputable def strings_Split.E (k : Nat) : List (FuncId × Go.Rv.Fn) := []
noncomputable def strings_Split.f (k : Nat) (a0 : ByteArray) (a1 : ByteArray) : Option strings_Split.N := T.splitF a0 a1
noncomputable def strings_Split.F (k : Nat) : Go.Rv.Fn := mkFn 2 strings_Split.pc strings_Split.pr (keepOf []) (fun (y : strings_Split.N) => (((y, ()), ()) : compT strings_Split.pr)) fun x => strings_Split.f k x.1.1 x.2.1.1
theorem strings_Split.ok (k : Nat) : FnOk Go.Proofs.Tryd.prog 26 (strings_Split.F k) := T.split_fn
/-! impl.readIn -/
@[reducible] def impl_readIn.pc : CutP := [(0, some false, [.fl .str]), (1, some false, [.fl (.int .i64)]), (2, some false, [.fl (.int .i64)])]
@[reducible] def impl_readIn.pr : CompPs := [(false, [.fl (.int .i64)]), (false, [.fl .bool])]
abbrev impl_readIn.N := Int × Bool
noncomputable def impl_readIn.E (k : Nat) : List (FuncId × Go.Rv.Fn) := []
noncomputable def impl_readIn.f (k : Nat) (a0 : ByteArray) (a1 : Int) (a2 : Int) : Option impl_readIn.N := T.readInF a0 a1 a2
noncomputable def impl_readIn.F (k : Nat) : Go.Rv.Fn := mkFn 3 impl_readIn.pc impl_readIn.pr (keepOf []) (fun (y : impl_readIn.N) => (((y.1, ()), (y.2, ()), ()) : compT impl_readIn.pr)) fun x => impl_readIn.f k x.1.1 x.2.1.1 x.2.2.1.1
theorem impl_readIn.ok (k : Nat) : FnOk Go.Proofs.Tryd.prog 45 (impl_readIn.F k) := T.readIn_fn
/-! impl.readAll -/
@[reducible] def impl_readAll.pc : CutP := [(0, some false, [.fl .str]), (1, some false, [.fl .str]), (2, some false, [.fl (.int .i64)]), (3, some false, [.fl (.int .i64)])]
@[reducible] def impl_readAll.pr : CompPs := [(false, [.fl (.own (.int .i64))]), (false, [.fl .bool])]
abbrev impl_readAll.N := List Int × Bool
noncomputable def impl_readAll.E (k : Nat) : List (FuncId × Go.Rv.Fn) := [(26, strings_Split.F k), (45, impl_readIn.F k)]
abbrev impl_readAll.Cs := (Int → Int → List Int → List ByteArray → Int → Int → Option impl_readAll.N)
def impl_readAll.zero : impl_readAll.Cs := (fun _ _ _ _ _ _ => none)
noncomputable def impl_readAll.step (k : Nat) (c : impl_readAll.Cs) : impl_readAll.Cs := (fun (x0 : Int) (x1 : Int) (x2 : List Int) (x3 : List ByteArray) (x4 : Int) (x5 : Int) => (if (decide (x5 < x4)) = true then if 0 ≤ x5 then if x5 < (x3.length : Int) then (impl_readIn.f k (rd ByteArray.empty x3 x5) x0 x1).bind fun t2 => (if (!t2.2) = true then some ([], false) else if x2.length + [t2.1].length < 1099511627776 then c x0 x1 (x2 ++ [t2.1]) x3 x4 (wrap64 (x5 + 1)) else none) else none else none else some (x2, true)))
noncomputable def impl_readAll.cs (k : Nat) : Nat → impl_readAll.Cs
  | 0 => impl_readAll.zero
  | n + 1 => impl_readAll.step k (impl_readAll.cs k n)
def impl_readAll.CC (c : impl_readAll.Cs) : Cuts impl_readAll.N := [(8, ⟨[(2, some false, [.fl (.int .i64)]), (3, some false, [.fl (.int .i64)]), (10, some false, [.fl (.own (.int .i64))]), (18, some false, [.fl (.own .str)]), (19, some false, [.fl (.int .i64)]), (20, some false, [.fl (.int .i64)])], fun x => c x.1.1 x.2.1.1 x.2.2.1.1 x.2.2.2.1.1 x.2.2.2.2.1.1 x.2.2.2.2.2.1.1⟩)]
noncomputable def impl_readAll.f (k : Nat) (a0 : ByteArray) (a1 : ByteArray) (a2 : Int) (a3 : Int) : Option impl_readAll.N := (strings_Split.f k a0 a1).bind fun t1 => (impl_readAll.cs k k) a2 a3 ([] : List Int) t1 (t1.length : Int) 0
noncomputable def impl_readAll.F (k : Nat) : Go.Rv.Fn := mkFn 4 impl_readAll.pc impl_readAll.pr (keepOf []) (fun (y : impl_readAll.N) => (((y.1, ()), (y.2, ()), ()) : compT impl_readAll.pr)) fun x => impl_readAll.f k x.1.1 x.2.1.1 x.2.2.1.1 x.2.2.2.1.1
theorem impl_readAll.env (k : Nat) : EnvOk Go.Proofs.Tryd.prog (fun f => (impl_readAll.E k).lookup f) := envOk_of ⟨entry Go.Proofs.Tryd.call26 rfl (strings_Split.ok k), entry Go.Proofs.Tryd.call45 rfl (impl_readIn.ok k), trivial⟩
theorem impl_readAll.cuts (k : Nat) : CutsOk Go.Proofs.Tryd.prog X (fun f => (impl_readAll.E k).lookup f) Go.Proofs.Tryd.f30 [] (decN impl_readAll.pr (fun (y : compT impl_readAll.pr) => ((y.1.1, y.2.1.1) : impl_readAll.N))) fun n => impl_readAll.CC (impl_readAll.cs k n) :=
  cutsOk_of (step := impl_readAll.step k) rfl (fun _ => rfl) ⟨fun _ => rfl, trivial⟩ (fun c => by kernel_rfl) fun c => ⟨fun x => by kernel_rfl, trivial⟩
theorem impl_readAll.ok (k : Nat) : FnOk Go.Proofs.Tryd.prog 30 (impl_readAll.F k) :=
  fn_ok tab (impl_readAll.env k) Go.Proofs.Tryd.func30 rfl (n := 4) (Nat.le_of_ble_eq_true rfl) (by kernel_rfl) (outs := []) (by kernel_rfl) (by kernel_rfl) (d := fun (y : compT impl_readAll.pr) => ((y.1.1, y.2.1.1) : impl_readAll.N)) (fun _ => rfl) (C := fun n => impl_readAll.CC (impl_readAll.cs k n)) (k := k) (impl_readAll.cuts k) fun x => by kernel_rfl
/-! impl.readPose -/
@[reducible] def impl_readPose.pc : CutP := [(0, some false, [.fl .str])]
@[reducible] def impl_readPose.pr : CompPs := [(true, [.fl (.int .i64), .fl (.int .i64), .fl (.int .i64), .fl (.int .i64)]), (false, [.fl .bool])]
abbrev impl_readPose.N := Int × Int × Int × Int × Bool
noncomputable def impl_readPose.E (k : Nat) : List (FuncId × Go.Rv.Fn) := [(30, impl_readAll.F k)]
abbrev impl_readPose.Cs := (Int → Int → Int → Int → List Int → Option impl_readPose.N)
def impl_readPose.zero : impl_readPose.Cs := (fun _ _ _ _ _ => none)
noncomputable def impl_readPose.step (k : Nat) (c : impl_readPose.Cs) : impl_readPose.Cs := (fun (x0 : Int) (x1 : Int) (x2 : Int) (x3 : Int) (x4 : List Int) => if 0 ≤ 0 then if 0 < (x4.length : Int) then if 0 ≤ 1 then if 1 < (x4.length : Int) then if 0 ≤ 2 then if 2 < (x4.length : Int) then if 0 ≤ 3 then if 3 < (x4.length : Int) then some ((rd 0 x4 0), (rd 0 x4 1), (rd 0 x4 2), (rd 0 x4 3), true) else none else none else none else none else none else none else none else none)
noncomputable def impl_readPose.cs (k : Nat) : Nat → impl_readPose.Cs
  | 0 => impl_readPose.zero
  | n + 1 => impl_readPose.step k (impl_readPose.cs k n)
def impl_readPose.CC (c : impl_readPose.Cs) : Cuts impl_readPose.N := [(4, ⟨[(2, none, [.fl (.int .i64), .fl (.int .i64), .fl (.int .i64), .fl (.int .i64)]), (4, some false, [.fl (.own (.int .i64))])], fun x => c x.1.1 x.1.2.1 x.1.2.2.1 x.1.2.2.2.1 x.2.1.1⟩)]
noncomputable def impl_readPose.f (k : Nat) (a0 : ByteArray) : Option impl_readPose.N := (impl_readAll.f k a0 (ByteArray.mk #[44]) (-1000000000) 1000000000).bind fun t1 => (if (!t1.2) = true then some (0, 0, 0, 0, false) else (if (!decide ((t1.1.length : Int) = 4)) = true then some (0, 0, 0, 0, false) else (impl_readPose.cs k k) 0 0 0 0 t1.1))
noncomputable def impl_readPose.F (k : Nat) : Go.Rv.Fn := mkFn 1 impl_readPose.pc impl_readPose.pr (keepOf []) (fun (y : impl_readPose.N) => (((y.1, y.2.1, y.2.2.1, y.2.2.2.1, ()), (y.2.2.2.2, ()), ()) : compT impl_readPose.pr)) fun x => impl_readPose.f k x.1.1
theorem impl_readPose.env (k : Nat) : EnvOk Go.Proofs.Tryd.prog (fun f => (impl_readPose.E k).lookup f) := envOk_of ⟨entry Go.Proofs.Tryd.call30 rfl (impl_readAll.ok k), trivial⟩
theorem impl_readPose.cuts (k : Nat) : CutsOk Go.Proofs.Tryd.prog X (fun f => (impl_readPose.E k).lookup f) Go.Proofs.Tryd.f27 [] (decN impl_readPose.pr (fun (y : compT impl_readPose.pr) => ((y.1.1, y.1.2.1, y.1.2.2.1, y.1.2.2.2.1, y.2.1.1) : impl_readPose.N))) fun n => impl_readPose.CC (impl_readPose.cs k n) :=
  cutsOk_of (step := impl_readPose.step k) rfl (fun _ => rfl) ⟨fun _ => rfl, trivial⟩ (fun c => by kernel_rfl) fun c => ⟨fun x => by kernel_rfl, trivial⟩
theorem impl_readPose.ok (k : Nat) : FnOk Go.Proofs.Tryd.prog 27 (impl_readPose.F k) :=
  fn_ok tab (impl_readPose.env k) Go.Proofs.Tryd.func27 rfl (n := 1) (Nat.le_of_ble_eq_true rfl) (by kernel_rfl) (outs := []) (by kernel_rfl) (by kernel_rfl) (d := fun (y : compT impl_readPose.pr) => ((y.1.1, y.1.2.1, y.1.2.2.1, y.1.2.2.2.1, y.2.1.1) : impl_readPose.N)) (fun _ => rfl) (C := fun n => impl_readPose.CC (impl_readPose.cs k n)) (k := k) (impl_readPose.cuts k) fun x => by kernel_rfl
/-! strings.Cut -/
@[reducible] def strings_Cut.pc : CutP := [(0, some false, [.fl .str]), (1, some false, [.fl .str])]
@[reducible] def strings_Cut.pr : CompPs := [(false, [.fl .str]), (false, [.fl .str]), (false, [.fl .bool])]
abbrev strings_Cut.N := ByteArray × ByteArray × Bool
noncomputable def strings_Cut.E (k : Nat) : List (FuncId × Go.Rv.Fn) := []
noncomputable def strings_Cut.f (k : Nat) (a0 : ByteArray) (a1 : ByteArray) : Option strings_Cut.N := T.cutF a0 a1
noncomputable def strings_Cut.F (k : Nat) : Go.Rv.Fn := mkFn 2 strings_Cut.pc strings_Cut.pr (keepOf []) (fun (y : strings_Cut.N) => (((y.1, ()), (y.2.1, ()), (y.2.2, ()), ()) : compT strings_Cut.pr)) fun x => strings_Cut.f k x.1.1 x.2.1.1
theorem strings_Cut.ok (k : Nat) : FnOk Go.Proofs.Tryd.prog 28 (strings_Cut.F k) := T.cut_fn
/-! impl.ReadDecimal -/
@[reducible] def impl_ReadDecimal.pc : CutP := [(0, some false, [.fl .str])]
@[reducible] def impl_ReadDecimal.pr : CompPs := [(false, [.fl (.int .i64)]), (false, [.fl .bool])]
abbrev impl_ReadDecimal.N := Int × Bool
noncomputable def impl_ReadDecimal.E (k : Nat) : List (FuncId × Go.Rv.Fn) := [(45, impl_readIn.F k)]
noncomputable def impl_ReadDecimal.f (k : Nat) (a0 : ByteArray) : Option impl_ReadDecimal.N := (impl_readIn.f k a0 (-1000000000) 1000000000).bind fun t1 => some (t1.1, t1.2)
noncomputable def impl_ReadDecimal.F (k : Nat) : Go.Rv.Fn := mkFn 1 impl_ReadDecimal.pc impl_ReadDecimal.pr (keepOf []) (fun (y : impl_ReadDecimal.N) => (((y.1, ()), (y.2, ()), ()) : compT impl_ReadDecimal.pr)) fun x => impl_ReadDecimal.f k x.1.1
theorem impl_ReadDecimal.env (k : Nat) : EnvOk Go.Proofs.Tryd.prog (fun f => (impl_ReadDecimal.E k).lookup f) := envOk_of ⟨entry Go.Proofs.Tryd.call45 rfl (impl_readIn.ok k), trivial⟩
theorem impl_ReadDecimal.ok (k : Nat) : FnOk Go.Proofs.Tryd.prog 29 (impl_ReadDecimal.F k) :=
  fn_ok tab (impl_ReadDecimal.env k) Go.Proofs.Tryd.func29 rfl (n := 1) (Nat.le_of_ble_eq_true rfl) (by kernel_rfl) (outs := []) (by kernel_rfl) (by kernel_rfl) (d := fun (y : compT impl_ReadDecimal.pr) => ((y.1.1, y.2.1.1) : impl_ReadDecimal.N)) (fun _ => rfl) (C := fun _ => []) (k := k) noCuts fun x => by kernel_rfl
/-! impl.within -/
@[reducible] def impl_within.pc : CutP := [(0, some false, [.fl (.int .i64)]), (1, some false, [.fl (.int .i64)]), (2, some false, [.fl (.int .i64)])]
@[reducible] def impl_within.pr : CompPs := [(false, [.fl .bool])]
abbrev impl_within.N := Bool
noncomputable def impl_within.E (k : Nat) : List (FuncId × Go.Rv.Fn) := []
noncomputable def impl_within.f (k : Nat) (a0 : Int) (a1 : Int) (a2 : Int) : Option impl_within.N := (if (decide (a1 ≤ a0)) = true then some (decide (a0 ≤ a2)) else some false)
noncomputable def impl_within.F (k : Nat) : Go.Rv.Fn := mkFn 3 impl_within.pc impl_within.pr (keepOf []) (fun (y : impl_within.N) => (((y, ()), ()) : compT impl_within.pr)) fun x => impl_within.f k x.1.1 x.2.1.1 x.2.2.1.1
theorem impl_within.env (k : Nat) : EnvOk Go.Proofs.Tryd.prog (fun f => (impl_within.E k).lookup f) := envOk_of trivial
theorem impl_within.ok (k : Nat) : FnOk Go.Proofs.Tryd.prog 47 (impl_within.F k) :=
  fn_ok tab (impl_within.env k) Go.Proofs.Tryd.func47 rfl (n := 3) (Nat.le_of_ble_eq_true rfl) (by kernel_rfl) (outs := []) (by kernel_rfl) (by kernel_rfl) (d := fun (y : compT impl_within.pr) => (y.1.1 : impl_within.N)) (fun _ => rfl) (C := fun _ => []) (k := k) noCuts fun x => by kernel_rfl
/-! impl.areWithin$1 -/
@[reducible] def impl_areWithin_1.pc : CutP := [(0, some false, [.fl (.int .i64)]), (1, some false, [.rptr [(.int .i64)]]), (2, some false, [.rptr [(.int .i64)]])]
@[reducible] def impl_areWithin_1.pr : CompPs := [(false, [.fl .bool])]
abbrev impl_areWithin_1.N := Bool
noncomputable def impl_areWithin_1.E (k : Nat) : List (FuncId × Go.Rv.Fn) := [(47, impl_within.F k)]
noncomputable def impl_areWithin_1.f (k : Nat) (a0 : Int) (a1 : Int) (a2 : Int) : Option impl_areWithin_1.N := (impl_within.f k a0 a1 a2).bind fun t1 => some (!t1)
noncomputable def impl_areWithin_1.F (k : Nat) : Go.Rv.Fn := mkFn 3 impl_areWithin_1.pc impl_areWithin_1.pr (keepOf []) (fun (y : impl_areWithin_1.N) => (((y, ()), ()) : compT impl_areWithin_1.pr)) fun x => impl_areWithin_1.f k x.1.1 x.2.1.1.1 x.2.2.1.1.1
theorem impl_areWithin_1.env (k : Nat) : EnvOk Go.Proofs.Tryd.prog (fun f => (impl_areWithin_1.E k).lookup f) := envOk_of ⟨entry Go.Proofs.Tryd.call47 rfl (impl_within.ok k), trivial⟩
theorem impl_areWithin_1.ok (k : Nat) : FnOk Go.Proofs.Tryd.prog 76 (impl_areWithin_1.F k) :=
  fn_ok tab (impl_areWithin_1.env k) Go.Proofs.Tryd.func76 rfl (n := 3) (Nat.le_of_ble_eq_true rfl) (by kernel_rfl) (outs := []) (by kernel_rfl) (by kernel_rfl) (d := fun (y : compT impl_areWithin_1.pr) => (y.1.1 : impl_areWithin_1.N)) (fun _ => rfl) (C := fun _ => []) (k := k) noCuts fun x => by kernel_rfl
/-! slices.IndexFunc[[]int64,int64] -/
@[reducible] def slices_IndexFunc_int64_areWithin_1.pc : CutP := [(0, some false, [.fl (.lo (.int .i64))]), (1, some false, [.fn 76 [[(.int .i64)], [(.int .i64)]]])]
@[reducible] def slices_IndexFunc_int64_areWithin_1.pr : CompPs := [(false, [.fl (.int .i64)])]
abbrev slices_IndexFunc_int64_areWithin_1.N := Int
noncomputable def slices_IndexFunc_int64_areWithin_1.E (k : Nat) : List (FuncId × Go.Rv.Fn) := [(76, impl_areWithin_1.F k)]
abbrev slices_IndexFunc_int64_areWithin_1.Cs := (List Int → Int → Int → Int → Int → Option slices_IndexFunc_int64_areWithin_1.N)
def slices_IndexFunc_int64_areWithin_1.zero : slices_IndexFunc_int64_areWithin_1.Cs := (fun _ _ _ _ _ => none)
noncomputable def slices_IndexFunc_int64_areWithin_1.step (k : Nat) (c : slices_IndexFunc_int64_areWithin_1.Cs) : slices_IndexFunc_int64_areWithin_1.Cs := (fun (x0 : List Int) (x1 : Int) (x2 : Int) (x3 : Int) (x4 : Int) => (if (decide (x4 < x3)) = true then if 0 ≤ x4 then if x4 < (x0.length : Int) then (impl_areWithin_1.f k (rd 0 x0 x4) x1 x2).bind fun t1 => (if t1 = true then some x4 else c x0 x1 x2 x3 (wrap64 (x4 + 1))) else none else none else some (-1)))
noncomputable def slices_IndexFunc_int64_areWithin_1.cs (k : Nat) : Nat → slices_IndexFunc_int64_areWithin_1.Cs
  | 0 => slices_IndexFunc_int64_areWithin_1.zero
  | n + 1 => slices_IndexFunc_int64_areWithin_1.step k (slices_IndexFunc_int64_areWithin_1.cs k n)
def slices_IndexFunc_int64_areWithin_1.CC (c : slices_IndexFunc_int64_areWithin_1.Cs) : Cuts slices_IndexFunc_int64_areWithin_1.N := [(6, ⟨[(0, some false, [.fl (.lo (.int .i64))]), (1, some false, [.fn 76 [[(.int .i64)], [(.int .i64)]]]), (7, some false, [.fl (.int .i64)]), (8, some false, [.fl (.int .i64)])], fun x => c x.1.1 x.2.1.1.1.1 x.2.1.1.2.1.1 x.2.2.1.1 x.2.2.2.1.1⟩)]
noncomputable def slices_IndexFunc_int64_areWithin_1.f (k : Nat) (a0 : List Int) (a1 : Int) (a2 : Int) : Option slices_IndexFunc_int64_areWithin_1.N := (slices_IndexFunc_int64_areWithin_1.cs k k) a0 a1 a2 (a0.length : Int) 0
noncomputable def slices_IndexFunc_int64_areWithin_1.F (k : Nat) : Go.Rv.Fn := mkFn 2 slices_IndexFunc_int64_areWithin_1.pc slices_IndexFunc_int64_areWithin_1.pr (keepOf []) (fun (y : slices_IndexFunc_int64_areWithin_1.N) => (((y, ()), ()) : compT slices_IndexFunc_int64_areWithin_1.pr)) fun x => slices_IndexFunc_int64_areWithin_1.f k x.1.1 x.2.1.1.1.1 x.2.1.1.2.1.1
theorem slices_IndexFunc_int64_areWithin_1.env (k : Nat) : EnvOk Go.Proofs.Tryd.prog (fun f => (slices_IndexFunc_int64_areWithin_1.E k).lookup f) := envOk_of ⟨entry Go.Proofs.Tryd.call76 rfl (impl_areWithin_1.ok k), trivial⟩
theorem slices_IndexFunc_int64_areWithin_1.cuts (k : Nat) : CutsOk Go.Proofs.Tryd.prog X (fun f => (slices_IndexFunc_int64_areWithin_1.E k).lookup f) Go.Proofs.Tryd.f92 [] (decN slices_IndexFunc_int64_areWithin_1.pr (fun (y : compT slices_IndexFunc_int64_areWithin_1.pr) => (y.1.1 : slices_IndexFunc_int64_areWithin_1.N))) fun n => slices_IndexFunc_int64_areWithin_1.CC (slices_IndexFunc_int64_areWithin_1.cs k n) :=
  cutsOk_of (step := slices_IndexFunc_int64_areWithin_1.step k) rfl (fun _ => rfl) ⟨fun _ => rfl, trivial⟩ (fun c => by kernel_rfl) fun c => ⟨fun x => by kernel_rfl, trivial⟩
theorem slices_IndexFunc_int64_areWithin_1.ok (k : Nat) : FnOk Go.Proofs.Tryd.prog 92 (slices_IndexFunc_int64_areWithin_1.F k) :=
  fn_ok tab (slices_IndexFunc_int64_areWithin_1.env k) Go.Proofs.Tryd.func92 rfl (n := 2) (Nat.le_of_ble_eq_true rfl) (by kernel_rfl) (outs := []) (by kernel_rfl) (by kernel_rfl) (d := fun (y : compT slices_IndexFunc_int64_areWithin_1.pr) => (y.1.1 : slices_IndexFunc_int64_areWithin_1.N)) (fun _ => rfl) (C := fun n => slices_IndexFunc_int64_areWithin_1.CC (slices_IndexFunc_int64_areWithin_1.cs k n)) (k := k) (slices_IndexFunc_int64_areWithin_1.cuts k) fun x => by kernel_rfl
/-! slices.ContainsFunc[[]int64,int64] -/
@[reducible] def slices_ContainsFunc_int64_areWithin_1.pc : CutP := [(0, some false, [.fl (.lo (.int .i64))]), (1, some false, [.fn 76 [[(.int .i64)], [(.int .i64)]]])]
@[reducible] def slices_ContainsFunc_int64_areWithin_1.pr : CompPs := [(false, [.fl .bool])]
abbrev slices_ContainsFunc_int64_areWithin_1.N := Bool
noncomputable def slices_ContainsFunc_int64_areWithin_1.E (k : Nat) : List (FuncId × Go.Rv.Fn) := [(92, slices_IndexFunc_int64_areWithin_1.F k)]
noncomputable def slices_ContainsFunc_int64_areWithin_1.f (k : Nat) (a0 : List Int) (a1 : Int) (a2 : Int) : Option slices_ContainsFunc_int64_areWithin_1.N := (slices_IndexFunc_int64_areWithin_1.f k a0 a1 a2).bind fun (t1 : Int) => some (decide (0 ≤ t1))
noncomputable def slices_ContainsFunc_int64_areWithin_1.F (k : Nat) : Go.Rv.Fn := mkFn 2 slices_ContainsFunc_int64_areWithin_1.pc slices_ContainsFunc_int64_areWithin_1.pr (keepOf []) (fun (y : slices_ContainsFunc_int64_areWithin_1.N) => (((y, ()), ()) : compT slices_ContainsFunc_int64_areWithin_1.pr)) fun x => slices_ContainsFunc_int64_areWithin_1.f k x.1.1 x.2.1.1.1.1 x.2.1.1.2.1.1
theorem slices_ContainsFunc_int64_areWithin_1.env (k : Nat) : EnvOk Go.Proofs.Tryd.prog (fun f => (slices_ContainsFunc_int64_areWithin_1.E k).lookup f) := envOk_of ⟨entry Go.Proofs.Tryd.call92 rfl (slices_IndexFunc_int64_areWithin_1.ok k), trivial⟩
theorem slices_ContainsFunc_int64_areWithin_1.ok (k : Nat) : FnOk Go.Proofs.Tryd.prog 75 (slices_ContainsFunc_int64_areWithin_1.F k) :=
  fn_ok tab (slices_ContainsFunc_int64_areWithin_1.env k) Go.Proofs.Tryd.func75 rfl (n := 2) (Nat.le_of_ble_eq_true rfl) (by kernel_rfl) (outs := []) (by kernel_rfl) (by kernel_rfl) (d := fun (y : compT slices_ContainsFunc_int64_areWithin_1.pr) => (y.1.1 : slices_ContainsFunc_int64_areWithin_1.N)) (fun _ => rfl) (C := fun _ => []) (k := k) noCuts fun x => by kernel_rfl
/-! impl.areWithin -/
@[reducible] def impl_areWithin.pc : CutP := [(0, some false, [.fl (.lo (.int .i64))]), (1, some false, [.fl (.int .i64)]), (2, some false, [.fl (.int .i64)])]
@[reducible] def impl_areWithin.pr : CompPs := [(false, [.fl .bool])]
abbrev impl_areWithin.N := Bool
noncomputable def impl_areWithin.E (k : Nat) : List (FuncId × Go.Rv.Fn) := [(75, slices_ContainsFunc_int64_areWithin_1.F k)]
noncomputable def impl_areWithin.f (k : Nat) (a0 : List Int) (a1 : Int) (a2 : Int) : Option impl_areWithin.N := (slices_ContainsFunc_int64_areWithin_1.f k a0 a1 a2).bind fun t1 => some (!t1)
noncomputable def impl_areWithin.F (k : Nat) : Go.Rv.Fn := mkFn 3 impl_areWithin.pc impl_areWithin.pr (keepOf []) (fun (y : impl_areWithin.N) => (((y, ()), ()) : compT impl_areWithin.pr)) fun x => impl_areWithin.f k x.1.1 x.2.1.1 x.2.2.1.1
theorem impl_areWithin.env (k : Nat) : EnvOk Go.Proofs.Tryd.prog (fun f => (impl_areWithin.E k).lookup f) := envOk_of ⟨entry Go.Proofs.Tryd.call75 rfl (slices_ContainsFunc_int64_areWithin_1.ok k), trivial⟩
theorem impl_areWithin.ok (k : Nat) : FnOk Go.Proofs.Tryd.prog 59 (impl_areWithin.F k) :=
  fn_ok tab (impl_areWithin.env k) Go.Proofs.Tryd.func59 rfl (n := 3) (Nat.le_of_ble_eq_true rfl) (by kernel_rfl) (outs := []) (by kernel_rfl) (by kernel_rfl) (d := fun (y : compT impl_areWithin.pr) => (y.1.1 : impl_areWithin.N)) (fun _ => rfl) (C := fun _ => []) (k := k) noCuts fun x => by kernel_rfl
/-! impl.ValidPose -/
@[reducible] def impl_ValidPose.pc : CutP := [(0, some true, [.fl (.int .i64), .fl (.int .i64), .fl (.int .i64), .fl (.int .i64)])]
@[reducible] def impl_ValidPose.pr : CompPs := [(false, [.fl .bool])]
abbrev impl_ValidPose.N := Bool
noncomputable def impl_ValidPose.E (k : Nat) : List (FuncId × Go.Rv.Fn) := [(59, impl_areWithin.F k)]
noncomputable def impl_ValidPose.f (k : Nat) (a0 : Int) (a1 : Int) (a2 : Int) (a3 : Int) : Option impl_ValidPose.N := (impl_areWithin.f k [a0, a1] (-100000) 100000).bind fun t1 => (if t1 = true then (impl_areWithin.f k [a2, a3] (-400) 400).bind fun t2 => some t2 else some false)
noncomputable def impl_ValidPose.F (k : Nat) : Go.Rv.Fn := mkFn 1 impl_ValidPose.pc impl_ValidPose.pr (keepOf []) (fun (y : impl_ValidPose.N) => (((y, ()), ()) : compT impl_ValidPose.pr)) fun x => impl_ValidPose.f k x.1.1 x.1.2.1 x.1.2.2.1 x.1.2.2.2.1
theorem impl_ValidPose.env (k : Nat) : EnvOk Go.Proofs.Tryd.prog (fun f => (impl_ValidPose.E k).lookup f) := envOk_of ⟨entry Go.Proofs.Tryd.call59 rfl (impl_areWithin.ok k), trivial⟩
theorem impl_ValidPose.ok (k : Nat) : FnOk Go.Proofs.Tryd.prog 46 (impl_ValidPose.F k) :=
  fn_ok tab (impl_ValidPose.env k) Go.Proofs.Tryd.func46 rfl (n := 1) (Nat.le_of_ble_eq_true rfl) (by kernel_rfl) (outs := []) (by kernel_rfl) (by kernel_rfl) (d := fun (y : compT impl_ValidPose.pr) => (y.1.1 : impl_ValidPose.N)) (fun _ => rfl) (C := fun _ => []) (k := k) noCuts fun x => by kernel_rfl
/-! impl.isTurn -/
@[reducible] def impl_isTurn.pc : CutP := [(0, some false, [.fl (.int .i64)]), (1, some false, [.fl (.int .i64)])]
@[reducible] def impl_isTurn.pr : CompPs := [(false, [.fl .bool])]
abbrev impl_isTurn.N := Bool
noncomputable def impl_isTurn.E (k : Nat) : List (FuncId × Go.Rv.Fn) := [(59, impl_areWithin.F k)]
noncomputable def impl_isTurn.f (k : Nat) (a0 : Int) (a1 : Int) : Option impl_isTurn.N := (impl_areWithin.f k [a0, a1] (-12) 12).bind fun t1 => some t1
noncomputable def impl_isTurn.F (k : Nat) : Go.Rv.Fn := mkFn 2 impl_isTurn.pc impl_isTurn.pr (keepOf []) (fun (y : impl_isTurn.N) => (((y, ()), ()) : compT impl_isTurn.pr)) fun x => impl_isTurn.f k x.1.1 x.2.1.1
theorem impl_isTurn.env (k : Nat) : EnvOk Go.Proofs.Tryd.prog (fun f => (impl_isTurn.E k).lookup f) := envOk_of ⟨entry Go.Proofs.Tryd.call59 rfl (impl_areWithin.ok k), trivial⟩
theorem impl_isTurn.ok (k : Nat) : FnOk Go.Proofs.Tryd.prog 48 (impl_isTurn.F k) :=
  fn_ok tab (impl_isTurn.env k) Go.Proofs.Tryd.func48 rfl (n := 2) (Nat.le_of_ble_eq_true rfl) (by kernel_rfl) (outs := []) (by kernel_rfl) (by kernel_rfl) (d := fun (y : compT impl_isTurn.pr) => (y.1.1 : impl_isTurn.N)) (fun _ => rfl) (C := fun _ => []) (k := k) noCuts fun x => by kernel_rfl
/-! (impl.Pose).next -/
@[reducible] def impl_Pose_next.pc : CutP := [(0, some true, [.fl (.int .i64), .fl (.int .i64), .fl (.int .i64), .fl (.int .i64)]), (1, some false, [.fl (.int .i64)]), (2, some false, [.fl (.int .i64)])]
@[reducible] def impl_Pose_next.pr : CompPs := [(true, [.fl (.int .i64), .fl (.int .i64), .fl (.int .i64), .fl (.int .i64)])]
abbrev impl_Pose_next.N := Int × Int × Int × Int
noncomputable def impl_Pose_next.E (k : Nat) : List (FuncId × Go.Rv.Fn) := []
noncomputable def impl_Pose_next.f (k : Nat) (a0 : Int) (a1 : Int) (a2 : Int) (a3 : Int) (a4 : Int) (a5 : Int) : Option impl_Pose_next.N := some ((wrap64 (a0 + a2)), (wrap64 (a1 + a3)), (wrap64 (a2 + a4)), (wrap64 (a3 + a5)))
noncomputable def impl_Pose_next.F (k : Nat) : Go.Rv.Fn := mkFn 3 impl_Pose_next.pc impl_Pose_next.pr (keepOf []) (fun (y : impl_Pose_next.N) => (((y.1, y.2.1, y.2.2.1, y.2.2.2, ()), ()) : compT impl_Pose_next.pr)) fun x => impl_Pose_next.f k x.1.1 x.1.2.1 x.1.2.2.1 x.1.2.2.2.1 x.2.1.1 x.2.2.1.1
theorem impl_Pose_next.env (k : Nat) : EnvOk Go.Proofs.Tryd.prog (fun f => (impl_Pose_next.E k).lookup f) := envOk_of trivial
theorem impl_Pose_next.ok (k : Nat) : FnOk Go.Proofs.Tryd.prog 49 (impl_Pose_next.F k) :=
  fn_ok tab (impl_Pose_next.env k) Go.Proofs.Tryd.func49 rfl (n := 3) (Nat.le_of_ble_eq_true rfl) (by kernel_rfl) (outs := []) (by kernel_rfl) (by kernel_rfl) (d := fun (y : compT impl_Pose_next.pr) => ((y.1.1, y.1.2.1, y.1.2.2.1, y.1.2.2.2.1) : impl_Pose_next.N)) (fun _ => rfl) (C := fun _ => []) (k := k) noCuts fun x => by kernel_rfl
/-! (impl.Axis).poses -/
@[reducible] def impl_Axis_poses.pc : CutP := [(0, some true, [.fl (.int .i64), .fl (.int .i64), .fl (.int .i64), .fl (.int .i64), .fl (.lo (.pair (.int .i64) (.pair (.int .i64) (.int .i64))))])]
@[reducible] def impl_Axis_poses.pr : CompPs := [(false, [.fl (.own (.pair (.int .i64) (.pair (.int .i64) (.pair (.int .i64) (.int .i64)))))]), (false, [.fl .bool])]
abbrev impl_Axis_poses.N := List (Int × Int × Int × Int) × Bool
noncomputable def impl_Axis_poses.E (k : Nat) : List (FuncId × Go.Rv.Fn) := [(46, impl_ValidPose.F k), (47, impl_within.F k), (48, impl_isTurn.F k), (49, impl_Pose_next.F k)]
abbrev impl_Axis_poses.Cs := (Int → Int → Int → Int → List (Int × Int × Int) → List (Int × Int × Int × Int) → Option impl_Axis_poses.N) × (List (Int × Int × Int × Int) → List (Int × Int × Int) → Int → Int → Option impl_Axis_poses.N) × (List (Int × Int × Int × Int) → Int → Int → Int → List (Int × Int × Int) → Int → Int → Option impl_Axis_poses.N) × (List (Int × Int × Int × Int) → Int → Int → Int → List (Int × Int × Int) → Int → Int → Int → Int → Option impl_Axis_poses.N)
def impl_Axis_poses.zero : impl_Axis_poses.Cs := (fun _ _ _ _ _ _ => none, fun _ _ _ _ => none, fun _ _ _ _ _ _ _ => none, fun _ _ _ _ _ _ _ _ _ => none)
noncomputable def impl_Axis_poses.step (k : Nat) (c : impl_Axis_poses.Cs) : impl_Axis_poses.Cs := (fun (x0 : Int) (x1 : Int) (x2 : Int) (x3 : Int) (x4 : List (Int × Int × Int)) (x5 : List (Int × Int × Int × Int)) => c.2.1 x5 x4 (x4.length : Int) 0,
  fun (x0 : List (Int × Int × Int × Int)) (x1 : List (Int × Int × Int)) (x2 : Int) (x3 : Int) => (if (decide (x3 < x2)) = true then if 0 ≤ x3 then if x3 < (x1.length : Int) then (impl_within.f k ((rd (0, (0, 0)) x1 x3).1) 1 60).bind fun t3 => (if (!t3) = true then some ([], false) else (impl_isTurn.f k (((rd (0, (0, 0)) x1 x3).2).1) (((rd (0, (0, 0)) x1 x3).2).2)).bind fun t4 => (if (!t4) = true then some ([], false) else (if (decide (61 < (wrap64 ((x0.length : Int) + (rd (0, (0, 0)) x1 x3).1)))) = true then some ([], false) else c.2.2.1 x0 ((rd (0, (0, 0)) x1 x3).1) (((rd (0, (0, 0)) x1 x3).2).1) (((rd (0, (0, 0)) x1 x3).2).2) x1 x2 x3))) else none else none else some (x0, true)),
  fun (x0 : List (Int × Int × Int × Int)) (x1 : Int) (x2 : Int) (x3 : Int) (x4 : List (Int × Int × Int)) (x5 : Int) (x6 : Int) => c.2.2.2 x0 x1 x2 x3 x4 x5 x6 x1 0,
  fun (x0 : List (Int × Int × Int × Int)) (x1 : Int) (x2 : Int) (x3 : Int) (x4 : List (Int × Int × Int)) (x5 : Int) (x6 : Int) (x7 : Int) (x8 : Int) => (if (decide (x8 < x7)) = true then if 0 ≤ (wrap64 ((x0.length : Int) - 1)) then if (wrap64 ((x0.length : Int) - 1)) < (x0.length : Int) then (impl_Pose_next.f k ((rd (0, (0, (0, 0))) x0 (wrap64 ((x0.length : Int) - 1))).1) (((rd (0, (0, (0, 0))) x0 (wrap64 ((x0.length : Int) - 1))).2).1) ((((rd (0, (0, (0, 0))) x0 (wrap64 ((x0.length : Int) - 1))).2).2).1) ((((rd (0, (0, (0, 0))) x0 (wrap64 ((x0.length : Int) - 1))).2).2).2) x2 x3).bind fun t5 => (impl_ValidPose.f k t5.1 t5.2.1 t5.2.2.1 t5.2.2.2).bind fun t6 => (if (!t6) = true then some ([], false) else if x0.length + [t5].length < 274877906944 then c.2.2.2 (x0 ++ [t5]) x1 x2 x3 x4 x5 x6 x7 (wrap64 (x8 + 1)) else none) else none else none else c.2.1 x0 x4 x5 (wrap64 (x6 + 1))))
noncomputable def impl_Axis_poses.cs (k : Nat) : Nat → impl_Axis_poses.Cs
  | 0 => impl_Axis_poses.zero
  | n + 1 => impl_Axis_poses.step k (impl_Axis_poses.cs k n)
def impl_Axis_poses.CC (c : impl_Axis_poses.Cs) : Cuts impl_Axis_poses.N := [(4, ⟨[(1, none, [.fl (.int .i64), .fl (.int .i64), .fl (.int .i64), .fl (.int .i64), .fl (.lo (.pair (.int .i64) (.pair (.int .i64) (.int .i64))))]), (4, some false, [.fl (.own (.pair (.int .i64) (.pair (.int .i64) (.pair (.int .i64) (.int .i64)))))])], fun x => c.1 x.1.1 x.1.2.1 x.1.2.2.1 x.1.2.2.2.1 x.1.2.2.2.2.1 x.2.1.1⟩),
  (16, ⟨[(4, some false, [.fl (.own (.pair (.int .i64) (.pair (.int .i64) (.pair (.int .i64) (.int .i64)))))]), (23, some false, [.fl (.lo (.pair (.int .i64) (.pair (.int .i64) (.int .i64))))]), (24, some false, [.fl (.int .i64)]), (25, some false, [.fl (.int .i64)])], fun x => c.2.1 x.1.1 x.2.1.1 x.2.2.1.1 x.2.2.2.1.1⟩),
  (27, ⟨[(4, some false, [.fl (.own (.pair (.int .i64) (.pair (.int .i64) (.pair (.int .i64) (.int .i64)))))]), (6, none, [.fl (.int .i64), .fl (.int .i64), .fl (.int .i64)]), (23, some false, [.fl (.lo (.pair (.int .i64) (.pair (.int .i64) (.int .i64))))]), (24, some false, [.fl (.int .i64)]), (25, some false, [.fl (.int .i64)])], fun x => c.2.2.1 x.1.1 x.2.1.1 x.2.1.2.1 x.2.1.2.2.1 x.2.2.1.1 x.2.2.2.1.1 x.2.2.2.2.1.1⟩),
  (38, ⟨[(4, some false, [.fl (.own (.pair (.int .i64) (.pair (.int .i64) (.pair (.int .i64) (.int .i64)))))]), (6, none, [.fl (.int .i64), .fl (.int .i64), .fl (.int .i64)]), (23, some false, [.fl (.lo (.pair (.int .i64) (.pair (.int .i64) (.int .i64))))]), (24, some false, [.fl (.int .i64)]), (25, some false, [.fl (.int .i64)]), (50, some false, [.fl (.int .i64)]), (51, some false, [.fl (.int .i64)])], fun x => c.2.2.2 x.1.1 x.2.1.1 x.2.1.2.1 x.2.1.2.2.1 x.2.2.1.1 x.2.2.2.1.1 x.2.2.2.2.1.1 x.2.2.2.2.2.1.1 x.2.2.2.2.2.2.1.1⟩)]
noncomputable def impl_Axis_poses.f (k : Nat) (a0 : Int) (a1 : Int) (a2 : Int) (a3 : Int) (a4 : List (Int × Int × Int)) : Option impl_Axis_poses.N := (impl_ValidPose.f k a0 a1 a2 a3).bind fun t1 => (if (!t1) = true then some ([], false) else (impl_within.f k (a4.length : Int) 1 8).bind fun t2 => (if (!t2) = true then some ([], false) else (impl_Axis_poses.cs k k).1 a0 a1 a2 a3 a4 [(a0, (a1, (a2, a3)))]))
noncomputable def impl_Axis_poses.F (k : Nat) : Go.Rv.Fn := mkFn 1 impl_Axis_poses.pc impl_Axis_poses.pr (keepOf []) (fun (y : impl_Axis_poses.N) => (((y.1, ()), (y.2, ()), ()) : compT impl_Axis_poses.pr)) fun x => impl_Axis_poses.f k x.1.1 x.1.2.1 x.1.2.2.1 x.1.2.2.2.1 x.1.2.2.2.2.1
theorem impl_Axis_poses.env (k : Nat) : EnvOk Go.Proofs.Tryd.prog (fun f => (impl_Axis_poses.E k).lookup f) := envOk_of ⟨entry Go.Proofs.Tryd.call46 rfl (impl_ValidPose.ok k), entry Go.Proofs.Tryd.call47 rfl (impl_within.ok k), entry Go.Proofs.Tryd.call48 rfl (impl_isTurn.ok k), entry Go.Proofs.Tryd.call49 rfl (impl_Pose_next.ok k), trivial⟩
theorem impl_Axis_poses.cuts (k : Nat) : CutsOk Go.Proofs.Tryd.prog X (fun f => (impl_Axis_poses.E k).lookup f) Go.Proofs.Tryd.f39 [] (decN impl_Axis_poses.pr (fun (y : compT impl_Axis_poses.pr) => ((y.1.1, y.2.1.1) : impl_Axis_poses.N))) fun n => impl_Axis_poses.CC (impl_Axis_poses.cs k n) :=
  cutsOk_of (step := impl_Axis_poses.step k) rfl (fun _ => rfl) ⟨fun _ => rfl, fun _ => rfl, fun _ => rfl, fun _ => rfl, trivial⟩ (fun c => by kernel_rfl) fun c => ⟨fun x => by kernel_rfl, fun x => by kernel_rfl, fun x => by kernel_rfl, fun x => by kernel_rfl, trivial⟩
theorem impl_Axis_poses.ok (k : Nat) : FnOk Go.Proofs.Tryd.prog 39 (impl_Axis_poses.F k) :=
  fn_ok tab (impl_Axis_poses.env k) Go.Proofs.Tryd.func39 rfl (n := 1) (Nat.le_of_ble_eq_true rfl) (by kernel_rfl) (outs := []) (by kernel_rfl) (by kernel_rfl) (d := fun (y : compT impl_Axis_poses.pr) => ((y.1.1, y.2.1.1) : impl_Axis_poses.N)) (fun _ => rfl) (C := fun n => impl_Axis_poses.CC (impl_Axis_poses.cs k n)) (k := k) (impl_Axis_poses.cuts k) fun x => by kernel_rfl
/-! impl.ValidAxis -/
@[reducible] def impl_ValidAxis.pc : CutP := [(0, some true, [.fl (.int .i64), .fl (.int .i64), .fl (.int .i64), .fl (.int .i64), .fl (.lo (.pair (.int .i64) (.pair (.int .i64) (.int .i64))))])]
@[reducible] def impl_ValidAxis.pr : CompPs := [(false, [.fl .bool])]
abbrev impl_ValidAxis.N := Bool
noncomputable def impl_ValidAxis.E (k : Nat) : List (FuncId × Go.Rv.Fn) := [(39, impl_Axis_poses.F k)]
noncomputable def impl_ValidAxis.f (k : Nat) (a0 : Int) (a1 : Int) (a2 : Int) (a3 : Int) (a4 : List (Int × Int × Int)) : Option impl_ValidAxis.N := (impl_Axis_poses.f k a0 a1 a2 a3 a4).bind fun t1 => some t1.2
noncomputable def impl_ValidAxis.F (k : Nat) : Go.Rv.Fn := mkFn 1 impl_ValidAxis.pc impl_ValidAxis.pr (keepOf []) (fun (y : impl_ValidAxis.N) => (((y, ()), ()) : compT impl_ValidAxis.pr)) fun x => impl_ValidAxis.f k x.1.1 x.1.2.1 x.1.2.2.1 x.1.2.2.2.1 x.1.2.2.2.2.1
theorem impl_ValidAxis.env (k : Nat) : EnvOk Go.Proofs.Tryd.prog (fun f => (impl_ValidAxis.E k).lookup f) := envOk_of ⟨entry Go.Proofs.Tryd.call39 rfl (impl_Axis_poses.ok k), trivial⟩
theorem impl_ValidAxis.ok (k : Nat) : FnOk Go.Proofs.Tryd.prog 19 (impl_ValidAxis.F k) :=
  fn_ok tab (impl_ValidAxis.env k) Go.Proofs.Tryd.func19 rfl (n := 1) (Nat.le_of_ble_eq_true rfl) (by kernel_rfl) (outs := []) (by kernel_rfl) (by kernel_rfl) (d := fun (y : compT impl_ValidAxis.pr) => (y.1.1 : impl_ValidAxis.N)) (fun _ => rfl) (C := fun _ => []) (k := k) noCuts fun x => by kernel_rfl
/-! impl.ReadAxis -/
@[reducible] def impl_ReadAxis.pc : CutP := [(0, some false, [.fl .str])]
@[reducible] def impl_ReadAxis.pr : CompPs := [(true, [.fl (.int .i64), .fl (.int .i64), .fl (.int .i64), .fl (.int .i64), .fl (.own (.pair (.int .i64) (.pair (.int .i64) (.int .i64))))]), (false, [.fl .bool])]
abbrev impl_ReadAxis.N := Int × Int × Int × Int × List (Int × Int × Int) × Bool
noncomputable def impl_ReadAxis.E (k : Nat) : List (FuncId × Go.Rv.Fn) := [(19, impl_ValidAxis.F k), (26, strings_Split.F k), (27, impl_readPose.F k), (28, strings_Cut.F k), (29, impl_ReadDecimal.F k), (30, impl_readAll.F k)]
abbrev impl_ReadAxis.Cs := (Int → Int → Int → Int → Bool → Int → Int → Int → Int → List (Int × Int × Int) → List ByteArray → Int → Int → Option impl_ReadAxis.N)
def impl_ReadAxis.zero : impl_ReadAxis.Cs := (fun _ _ _ _ _ _ _ _ _ _ _ _ _ => none)
noncomputable def impl_ReadAxis.step (k : Nat) (c : impl_ReadAxis.Cs) : impl_ReadAxis.Cs := (fun (x0 : Int) (x1 : Int) (x2 : Int) (x3 : Int) (x4 : Bool) (x5 : Int) (x6 : Int) (x7 : Int) (x8 : Int) (x9 : List (Int × Int × Int)) (x10 : List ByteArray) (x11 : Int) (x12 : Int) => (if (decide (x12 < x11)) = true then if 0 ≤ x12 then if x12 < (x10.length : Int) then (strings_Cut.f k (rd ByteArray.empty x10 x12) (ByteArray.mk #[58])).bind fun t3 => (impl_ReadDecimal.f k t3.1).bind fun t4 => (impl_readAll.f k t3.2.1 (ByteArray.mk #[44]) (-1000000000) 1000000000).bind fun t5 => (if (!t3.2.2) = true then some (0, 0, 0, 0, [], false) else (if (!t4.2) = true then some (0, 0, 0, 0, [], false) else (if (!t5.2) = true then some (0, 0, 0, 0, [], false) else (if (!decide ((t5.1.length : Int) = 2)) = true then some (0, 0, 0, 0, [], false) else if 0 ≤ 0 then if 0 < (t5.1.length : Int) then if 0 ≤ 1 then if 1 < (t5.1.length : Int) then if x9.length + [(t4.1, ((rd 0 t5.1 0), (rd 0 t5.1 1)))].length < 366503875925 then c x0 x1 x2 x3 x4 x5 x6 x7 x8 (x9 ++ [(t4.1, ((rd 0 t5.1 0), (rd 0 t5.1 1)))]) x10 x11 (wrap64 (x12 + 1)) else none else none else none else none else none)))) else none else none else (if (!x4) = true then some (0, 0, 0, 0, [], false) else (impl_ValidAxis.f k x5 x6 x7 x8 x9).bind fun t6 => (if (!t6) = true then some (0, 0, 0, 0, [], false) else some (x5, x6, x7, x8, x9, true)))))
noncomputable def impl_ReadAxis.cs (k : Nat) : Nat → impl_ReadAxis.Cs
  | 0 => impl_ReadAxis.zero
  | n + 1 => impl_ReadAxis.step k (impl_ReadAxis.cs k n)
def impl_ReadAxis.CC (c : impl_ReadAxis.Cs) : Cuts impl_ReadAxis.N := [(12, ⟨[(2, none, [.fl (.int .i64), .fl (.int .i64), .fl (.int .i64), .fl (.int .i64), .fl .nils]), (6, some false, [.fl .bool]), (7, none, [.fl (.int .i64), .fl (.int .i64), .fl (.int .i64), .fl (.int .i64), .fl (.own (.pair (.int .i64) (.pair (.int .i64) (.int .i64))))]), (29, some false, [.fl (.hi .str)]), (30, some false, [.fl (.int .i64)]), (31, some false, [.fl (.int .i64)])], fun x => c x.1.1 x.1.2.1 x.1.2.2.1 x.1.2.2.2.1 x.2.1.1 x.2.2.1.1 x.2.2.1.2.1 x.2.2.1.2.2.1 x.2.2.1.2.2.2.1 x.2.2.1.2.2.2.2.1 x.2.2.2.1.1 x.2.2.2.2.1.1 x.2.2.2.2.2.1.1⟩)]
noncomputable def impl_ReadAxis.f (k : Nat) (a0 : ByteArray) : Option impl_ReadAxis.N := (strings_Split.f k a0 (ByteArray.mk #[59])).bind fun t1 => if 0 ≤ 0 then if 0 < (t1.length : Int) then (impl_readPose.f k (rd ByteArray.empty t1 0)).bind fun t2 => if 0 ≤ 1 then if 1 ≤ (t1.length : Int) then (impl_ReadAxis.cs k k) 0 0 0 0 t2.2.2.2.2 t2.1 t2.2.1 t2.2.2.1 t2.2.2.2.1 [] (t1.drop (1 : Int).toNat) ((t1.drop (1 : Int).toNat).length : Int) 0 else none else none else none else none
noncomputable def impl_ReadAxis.F (k : Nat) : Go.Rv.Fn := mkFn 1 impl_ReadAxis.pc impl_ReadAxis.pr (keepOf []) (fun (y : impl_ReadAxis.N) => (((y.1, y.2.1, y.2.2.1, y.2.2.2.1, y.2.2.2.2.1, ()), (y.2.2.2.2.2, ()), ()) : compT impl_ReadAxis.pr)) fun x => impl_ReadAxis.f k x.1.1
theorem impl_ReadAxis.env (k : Nat) : EnvOk Go.Proofs.Tryd.prog (fun f => (impl_ReadAxis.E k).lookup f) := envOk_of ⟨entry Go.Proofs.Tryd.call19 rfl (impl_ValidAxis.ok k), entry Go.Proofs.Tryd.call26 rfl (strings_Split.ok k), entry Go.Proofs.Tryd.call27 rfl (impl_readPose.ok k), entry Go.Proofs.Tryd.call28 rfl (strings_Cut.ok k), entry Go.Proofs.Tryd.call29 rfl (impl_ReadDecimal.ok k), entry Go.Proofs.Tryd.call30 rfl (impl_readAll.ok k), trivial⟩
theorem impl_ReadAxis.cuts (k : Nat) : CutsOk Go.Proofs.Tryd.prog X (fun f => (impl_ReadAxis.E k).lookup f) Go.Proofs.Tryd.f11 [] (decN impl_ReadAxis.pr (fun (y : compT impl_ReadAxis.pr) => ((y.1.1, y.1.2.1, y.1.2.2.1, y.1.2.2.2.1, y.1.2.2.2.2.1, y.2.1.1) : impl_ReadAxis.N))) fun n => impl_ReadAxis.CC (impl_ReadAxis.cs k n) :=
  cutsOk_of (step := impl_ReadAxis.step k) rfl (fun _ => rfl) ⟨fun _ => rfl, trivial⟩ (fun c => by kernel_rfl) fun c => ⟨fun x => by kernel_rfl, trivial⟩
theorem impl_ReadAxis.ok (k : Nat) : FnOk Go.Proofs.Tryd.prog 11 (impl_ReadAxis.F k) :=
  fn_ok tab (impl_ReadAxis.env k) Go.Proofs.Tryd.func11 rfl (n := 1) (Nat.le_of_ble_eq_true rfl) (by kernel_rfl) (outs := []) (by kernel_rfl) (by kernel_rfl) (d := fun (y : compT impl_ReadAxis.pr) => ((y.1.1, y.1.2.1, y.1.2.2.1, y.1.2.2.2.1, y.1.2.2.2.2.1, y.2.1.1) : impl_ReadAxis.N)) (fun _ => rfl) (C := fun n => impl_ReadAxis.CC (impl_ReadAxis.cs k n)) (k := k) (impl_ReadAxis.cuts k) fun x => by kernel_rfl
/-! laws.eqPose -/
@[reducible] def laws_eqPose.pc : CutP := [(0, some true, [.fl (.int .i64), .fl (.int .i64), .fl (.int .i64), .fl (.int .i64)]), (1, some true, [.fl (.int .i64), .fl (.int .i64), .fl (.int .i64), .fl (.int .i64)])]
@[reducible] def laws_eqPose.pr : CompPs := [(false, [.fl .bool])]
abbrev laws_eqPose.N := Bool
noncomputable def laws_eqPose.E (k : Nat) : List (FuncId × Go.Rv.Fn) := []
noncomputable def laws_eqPose.f (k : Nat) (a0 : Int) (a1 : Int) (a2 : Int) (a3 : Int) (a4 : Int) (a5 : Int) (a6 : Int) (a7 : Int) : Option laws_eqPose.N := (if (!decide (a0 = a4)) = true then some false else (if (!decide (a1 = a5)) = true then some false else (if (!decide (a2 = a6)) = true then some false else (if (!decide (a3 = a7)) = true then some false else some true))))
noncomputable def laws_eqPose.F (k : Nat) : Go.Rv.Fn := mkFn 2 laws_eqPose.pc laws_eqPose.pr (keepOf []) (fun (y : laws_eqPose.N) => (((y, ()), ()) : compT laws_eqPose.pr)) fun x => laws_eqPose.f k x.1.1 x.1.2.1 x.1.2.2.1 x.1.2.2.2.1 x.2.1.1 x.2.1.2.1 x.2.1.2.2.1 x.2.1.2.2.2.1
theorem laws_eqPose.env (k : Nat) : EnvOk Go.Proofs.Tryd.prog (fun f => (laws_eqPose.E k).lookup f) := envOk_of trivial
theorem laws_eqPose.ok (k : Nat) : FnOk Go.Proofs.Tryd.prog 23 (laws_eqPose.F k) :=
  fn_ok tab (laws_eqPose.env k) Go.Proofs.Tryd.func23 rfl (n := 2) (Nat.le_of_ble_eq_true rfl) (by kernel_rfl) (outs := []) (by kernel_rfl) (by kernel_rfl) (d := fun (y : compT laws_eqPose.pr) => (y.1.1 : laws_eqPose.N)) (fun _ => rfl) (C := fun _ => []) (k := k) noCuts fun x => by kernel_rfl
/-! laws.eqCurve -/
@[reducible] def laws_eqCurve.pc : CutP := [(0, some true, [.fl (.int .i64), .fl (.int .i64), .fl (.int .i64)]), (1, some true, [.fl (.int .i64), .fl (.int .i64), .fl (.int .i64)])]
@[reducible] def laws_eqCurve.pr : CompPs := [(false, [.fl .bool])]
abbrev laws_eqCurve.N := Bool
noncomputable def laws_eqCurve.E (k : Nat) : List (FuncId × Go.Rv.Fn) := []
noncomputable def laws_eqCurve.f (k : Nat) (a0 : Int) (a1 : Int) (a2 : Int) (a3 : Int) (a4 : Int) (a5 : Int) : Option laws_eqCurve.N := (if (!decide (a0 = a3)) = true then some false else (if (!decide (a1 = a4)) = true then some false else (if (!decide (a2 = a5)) = true then some false else some true)))
noncomputable def laws_eqCurve.F (k : Nat) : Go.Rv.Fn := mkFn 2 laws_eqCurve.pc laws_eqCurve.pr (keepOf []) (fun (y : laws_eqCurve.N) => (((y, ()), ()) : compT laws_eqCurve.pr)) fun x => laws_eqCurve.f k x.1.1 x.1.2.1 x.1.2.2.1 x.2.1.1 x.2.1.2.1 x.2.1.2.2.1
theorem laws_eqCurve.env (k : Nat) : EnvOk Go.Proofs.Tryd.prog (fun f => (laws_eqCurve.E k).lookup f) := envOk_of trivial
theorem laws_eqCurve.ok (k : Nat) : FnOk Go.Proofs.Tryd.prog 42 (laws_eqCurve.F k) :=
  fn_ok tab (laws_eqCurve.env k) Go.Proofs.Tryd.func42 rfl (n := 2) (Nat.le_of_ble_eq_true rfl) (by kernel_rfl) (outs := []) (by kernel_rfl) (by kernel_rfl) (d := fun (y : compT laws_eqCurve.pr) => (y.1.1 : laws_eqCurve.N)) (fun _ => rfl) (C := fun _ => []) (k := k) noCuts fun x => by kernel_rfl
/-! laws.eqCurveS -/
@[reducible] def laws_eqCurveS.pc : CutP := [(0, some false, [.fl (.lo (.pair (.int .i64) (.pair (.int .i64) (.int .i64))))]), (1, some false, [.fl (.lo (.pair (.int .i64) (.pair (.int .i64) (.int .i64))))])]
@[reducible] def laws_eqCurveS.pr : CompPs := [(false, [.fl .bool])]
abbrev laws_eqCurveS.N := Bool
noncomputable def laws_eqCurveS.E (k : Nat) : List (FuncId × Go.Rv.Fn) := [(42, laws_eqCurve.F k)]
abbrev laws_eqCurveS.Cs := (List (Int × Int × Int) → List (Int × Int × Int) → Int → Option laws_eqCurveS.N)
def laws_eqCurveS.zero : laws_eqCurveS.Cs := (fun _ _ _ => none)
noncomputable def laws_eqCurveS.step (k : Nat) (c : laws_eqCurveS.Cs) : laws_eqCurveS.Cs := (fun (x0 : List (Int × Int × Int)) (x1 : List (Int × Int × Int)) (x2 : Int) => (if (decide (x2 < (x0.length : Int))) = true then if 0 ≤ x2 then if x2 < (x0.length : Int) then if 0 ≤ x2 then if x2 < (x1.length : Int) then (laws_eqCurve.f k ((rd (0, (0, 0)) x0 x2).1) (((rd (0, (0, 0)) x0 x2).2).1) (((rd (0, (0, 0)) x0 x2).2).2) ((rd (0, (0, 0)) x1 x2).1) (((rd (0, (0, 0)) x1 x2).2).1) (((rd (0, (0, 0)) x1 x2).2).2)).bind fun t1 => (if (!t1) = true then some false else c x0 x1 (wrap64 (x2 + 1))) else none else none else none else none else some true))
noncomputable def laws_eqCurveS.cs (k : Nat) : Nat → laws_eqCurveS.Cs
  | 0 => laws_eqCurveS.zero
  | n + 1 => laws_eqCurveS.step k (laws_eqCurveS.cs k n)
def laws_eqCurveS.CC (c : laws_eqCurveS.Cs) : Cuts laws_eqCurveS.N := [(14, ⟨[(0, some false, [.fl (.lo (.pair (.int .i64) (.pair (.int .i64) (.int .i64))))]), (1, some false, [.fl (.lo (.pair (.int .i64) (.pair (.int .i64) (.int .i64))))]), (5, some false, [.fl (.int .i64)])], fun x => c x.1.1 x.2.1.1 x.2.2.1.1⟩)]
noncomputable def laws_eqCurveS.f (k : Nat) (a0 : List (Int × Int × Int)) (a1 : List (Int × Int × Int)) : Option laws_eqCurveS.N := (if (!decide ((a0.length : Int) = (a1.length : Int))) = true then some false else (laws_eqCurveS.cs k k) a0 a1 0)
noncomputable def laws_eqCurveS.F (k : Nat) : Go.Rv.Fn := mkFn 2 laws_eqCurveS.pc laws_eqCurveS.pr (keepOf []) (fun (y : laws_eqCurveS.N) => (((y, ()), ()) : compT laws_eqCurveS.pr)) fun x => laws_eqCurveS.f k x.1.1 x.2.1.1
theorem laws_eqCurveS.env (k : Nat) : EnvOk Go.Proofs.Tryd.prog (fun f => (laws_eqCurveS.E k).lookup f) := envOk_of ⟨entry Go.Proofs.Tryd.call42 rfl (laws_eqCurve.ok k), trivial⟩
theorem laws_eqCurveS.cuts (k : Nat) : CutsOk Go.Proofs.Tryd.prog X (fun f => (laws_eqCurveS.E k).lookup f) Go.Proofs.Tryd.f24 [] (decN laws_eqCurveS.pr (fun (y : compT laws_eqCurveS.pr) => (y.1.1 : laws_eqCurveS.N))) fun n => laws_eqCurveS.CC (laws_eqCurveS.cs k n) :=
  cutsOk_of (step := laws_eqCurveS.step k) rfl (fun _ => rfl) ⟨fun _ => rfl, trivial⟩ (fun c => by kernel_rfl) fun c => ⟨fun x => by kernel_rfl, trivial⟩
theorem laws_eqCurveS.ok (k : Nat) : FnOk Go.Proofs.Tryd.prog 24 (laws_eqCurveS.F k) :=
  fn_ok tab (laws_eqCurveS.env k) Go.Proofs.Tryd.func24 rfl (n := 2) (Nat.le_of_ble_eq_true rfl) (by kernel_rfl) (outs := []) (by kernel_rfl) (by kernel_rfl) (d := fun (y : compT laws_eqCurveS.pr) => (y.1.1 : laws_eqCurveS.N)) (fun _ => rfl) (C := fun n => laws_eqCurveS.CC (laws_eqCurveS.cs k n)) (k := k) (laws_eqCurveS.cuts k) fun x => by kernel_rfl
/-! laws.eqAxis -/
@[reducible] def laws_eqAxis.pc : CutP := [(0, some true, [.fl (.int .i64), .fl (.int .i64), .fl (.int .i64), .fl (.int .i64), .fl (.lo (.pair (.int .i64) (.pair (.int .i64) (.int .i64))))]), (1, some true, [.fl (.int .i64), .fl (.int .i64), .fl (.int .i64), .fl (.int .i64), .fl (.lo (.pair (.int .i64) (.pair (.int .i64) (.int .i64))))])]
@[reducible] def laws_eqAxis.pr : CompPs := [(false, [.fl .bool])]
abbrev laws_eqAxis.N := Bool
noncomputable def laws_eqAxis.E (k : Nat) : List (FuncId × Go.Rv.Fn) := [(23, laws_eqPose.F k), (24, laws_eqCurveS.F k)]
noncomputable def laws_eqAxis.f (k : Nat) (a0 : Int) (a1 : Int) (a2 : Int) (a3 : Int) (a4 : List (Int × Int × Int)) (a5 : Int) (a6 : Int) (a7 : Int) (a8 : Int) (a9 : List (Int × Int × Int)) : Option laws_eqAxis.N := (laws_eqPose.f k a0 a1 a2 a3 a5 a6 a7 a8).bind fun t1 => (if (!t1) = true then some false else (laws_eqCurveS.f k a4 a9).bind fun t2 => (if (!t2) = true then some false else some true))
noncomputable def laws_eqAxis.F (k : Nat) : Go.Rv.Fn := mkFn 2 laws_eqAxis.pc laws_eqAxis.pr (keepOf []) (fun (y : laws_eqAxis.N) => (((y, ()), ()) : compT laws_eqAxis.pr)) fun x => laws_eqAxis.f k x.1.1 x.1.2.1 x.1.2.2.1 x.1.2.2.2.1 x.1.2.2.2.2.1 x.2.1.1 x.2.1.2.1 x.2.1.2.2.1 x.2.1.2.2.2.1 x.2.1.2.2.2.2.1
theorem laws_eqAxis.env (k : Nat) : EnvOk Go.Proofs.Tryd.prog (fun f => (laws_eqAxis.E k).lookup f) := envOk_of ⟨entry Go.Proofs.Tryd.call23 rfl (laws_eqPose.ok k), entry Go.Proofs.Tryd.call24 rfl (laws_eqCurveS.ok k), trivial⟩
theorem laws_eqAxis.ok (k : Nat) : FnOk Go.Proofs.Tryd.prog 9 (laws_eqAxis.F k) :=
  fn_ok tab (laws_eqAxis.env k) Go.Proofs.Tryd.func9 rfl (n := 2) (Nat.le_of_ble_eq_true rfl) (by kernel_rfl) (outs := []) (by kernel_rfl) (by kernel_rfl) (d := fun (y : compT laws_eqAxis.pr) => (y.1.1 : laws_eqAxis.N)) (fun _ => rfl) (C := fun _ => []) (k := k) noCuts fun x => by kernel_rfl
/-! laws.markCurveS -/
@[reducible] def laws_markCurveS.pc : CutP := [(0, some false, [.fl (.own (.pair (.int .i64) (.pair (.int .i64) (.int .i64))))]), (1, some false, [.fl (.int .i64)])]
@[reducible] def laws_markCurveS.pr : CompPs := [(false, [.fl (.int .i64)]), (false, [.fl (.own (.pair (.int .i64) (.pair (.int .i64) (.int .i64))))])]
abbrev laws_markCurveS.N := Int × List (Int × Int × Int)
noncomputable def laws_markCurveS.E (k : Nat) : List (FuncId × Go.Rv.Fn) := []
abbrev laws_markCurveS.Cs := (List (Int × Int × Int) → Int → Int → Option laws_markCurveS.N)
def laws_markCurveS.zero : laws_markCurveS.Cs := (fun _ _ _ => none)
noncomputable def laws_markCurveS.step (k : Nat) (c : laws_markCurveS.Cs) : laws_markCurveS.Cs := (fun (x0 : List (Int × Int × Int)) (x1 : Int) (x2 : Int) => (if (decide (x2 < (x0.length : Int))) = true then if 0 ≤ x2 then if x2 < (x0.length : Int) then if 0 ≤ x2 then if x2 < ((x0.set x2.toNat (x1, (((rd (0, (0, 0)) x0 x2).2).1, ((rd (0, (0, 0)) x0 x2).2).2))).length : Int) then if 0 ≤ x2 then if x2 < (((x0.set x2.toNat (x1, (((rd (0, (0, 0)) x0 x2).2).1, ((rd (0, (0, 0)) x0 x2).2).2))).set x2.toNat ((rd (0, (0, 0)) (x0.set x2.toNat (x1, (((rd (0, (0, 0)) x0 x2).2).1, ((rd (0, (0, 0)) x0 x2).2).2))) x2).1, ((wrap64 (x1 + 1)), ((rd (0, (0, 0)) (x0.set x2.toNat (x1, (((rd (0, (0, 0)) x0 x2).2).1, ((rd (0, (0, 0)) x0 x2).2).2))) x2).2).2))).length : Int) then c (((x0.set x2.toNat (x1, (((rd (0, (0, 0)) x0 x2).2).1, ((rd (0, (0, 0)) x0 x2).2).2))).set x2.toNat ((rd (0, (0, 0)) (x0.set x2.toNat (x1, (((rd (0, (0, 0)) x0 x2).2).1, ((rd (0, (0, 0)) x0 x2).2).2))) x2).1, ((wrap64 (x1 + 1)), ((rd (0, (0, 0)) (x0.set x2.toNat (x1, (((rd (0, (0, 0)) x0 x2).2).1, ((rd (0, (0, 0)) x0 x2).2).2))) x2).2).2))).set x2.toNat ((rd (0, (0, 0)) ((x0.set x2.toNat (x1, (((rd (0, (0, 0)) x0 x2).2).1, ((rd (0, (0, 0)) x0 x2).2).2))).set x2.toNat ((rd (0, (0, 0)) (x0.set x2.toNat (x1, (((rd (0, (0, 0)) x0 x2).2).1, ((rd (0, (0, 0)) x0 x2).2).2))) x2).1, ((wrap64 (x1 + 1)), ((rd (0, (0, 0)) (x0.set x2.toNat (x1, (((rd (0, (0, 0)) x0 x2).2).1, ((rd (0, (0, 0)) x0 x2).2).2))) x2).2).2))) x2).1, (((rd (0, (0, 0)) ((x0.set x2.toNat (x1, (((rd (0, (0, 0)) x0 x2).2).1, ((rd (0, (0, 0)) x0 x2).2).2))).set x2.toNat ((rd (0, (0, 0)) (x0.set x2.toNat (x1, (((rd (0, (0, 0)) x0 x2).2).1, ((rd (0, (0, 0)) x0 x2).2).2))) x2).1, ((wrap64 (x1 + 1)), ((rd (0, (0, 0)) (x0.set x2.toNat (x1, (((rd (0, (0, 0)) x0 x2).2).1, ((rd (0, (0, 0)) x0 x2).2).2))) x2).2).2))) x2).2).1, (wrap64 ((wrap64 (x1 + 1)) + 1))))) (wrap64 ((wrap64 ((wrap64 (x1 + 1)) + 1)) + 1)) (wrap64 (x2 + 1)) else none else none else none else none else none else none else some (x1, x0)))
noncomputable def laws_markCurveS.cs (k : Nat) : Nat → laws_markCurveS.Cs
  | 0 => laws_markCurveS.zero
  | n + 1 => laws_markCurveS.step k (laws_markCurveS.cs k n)
def laws_markCurveS.CC (c : laws_markCurveS.Cs) : Cuts laws_markCurveS.N := [(6, ⟨[(0, some false, [.fl (.own (.pair (.int .i64) (.pair (.int .i64) (.int .i64))))]), (1, some false, [.fl (.int .i64)]), (5, some false, [.fl (.int .i64)])], fun x => c x.1.1 x.2.1.1 x.2.2.1.1⟩)]
noncomputable def laws_markCurveS.f (k : Nat) (a0 : List (Int × Int × Int)) (a1 : Int) : Option laws_markCurveS.N := (laws_markCurveS.cs k k) a0 a1 0
noncomputable def laws_markCurveS.F (k : Nat) : Go.Rv.Fn := mkFn 2 laws_markCurveS.pc laws_markCurveS.pr (keepOf [(0, 1)]) (fun (y : laws_markCurveS.N) => (((y.1, ()), (y.2, ()), ()) : compT laws_markCurveS.pr)) fun x => laws_markCurveS.f k x.1.1 x.2.1.1
theorem laws_markCurveS.env (k : Nat) : EnvOk Go.Proofs.Tryd.prog (fun f => (laws_markCurveS.E k).lookup f) := envOk_of trivial
theorem laws_markCurveS.cuts (k : Nat) : CutsOk Go.Proofs.Tryd.prog X (fun f => (laws_markCurveS.E k).lookup f) Go.Proofs.Tryd.f31 [(0, 1)] (decN laws_markCurveS.pr (fun (y : compT laws_markCurveS.pr) => ((y.1.1, y.2.1.1) : laws_markCurveS.N))) fun n => laws_markCurveS.CC (laws_markCurveS.cs k n) :=
  cutsOk_of (step := laws_markCurveS.step k) rfl (fun _ => rfl) ⟨fun _ => rfl, trivial⟩ (fun c => by kernel_rfl) fun c => ⟨fun x => by kernel_rfl, trivial⟩
theorem laws_markCurveS.ok (k : Nat) : FnOk Go.Proofs.Tryd.prog 31 (laws_markCurveS.F k) :=
  fn_ok tab (laws_markCurveS.env k) Go.Proofs.Tryd.func31 rfl (n := 2) (Nat.le_of_ble_eq_true rfl) (by kernel_rfl) (outs := [(0, 1)]) (by kernel_rfl) (by kernel_rfl) (d := fun (y : compT laws_markCurveS.pr) => ((y.1.1, y.2.1.1) : laws_markCurveS.N)) (fun _ => rfl) (C := fun n => laws_markCurveS.CC (laws_markCurveS.cs k n)) (k := k) (laws_markCurveS.cuts k) fun x => by kernel_rfl
/-! laws.markAxis -/
@[reducible] def laws_markAxis.pc : CutP := [(0, some true, [.fl (.int .i64), .fl (.int .i64), .fl (.int .i64), .fl (.int .i64), .fl (.own (.pair (.int .i64) (.pair (.int .i64) (.int .i64))))]), (1, some false, [.fl (.int .i64)])]
@[reducible] def laws_markAxis.pr : CompPs := [(false, [.fl (.int .i64)]), (false, [.fl .dead, .fl .dead, .fl .dead, .fl .dead, .fl (.own (.pair (.int .i64) (.pair (.int .i64) (.int .i64))))])]
abbrev laws_markAxis.N := Int × List (Int × Int × Int)
noncomputable def laws_markAxis.E (k : Nat) : List (FuncId × Go.Rv.Fn) := [(31, laws_markCurveS.F k)]
noncomputable def laws_markAxis.f (k : Nat) (a0 : Int) (a1 : Int) (a2 : Int) (a3 : Int) (a4 : List (Int × Int × Int)) (a5 : Int) : Option laws_markAxis.N := (laws_markCurveS.f k a4 a5).bind fun t1 => some (t1.1, t1.2)
noncomputable def laws_markAxis.F (k : Nat) : Go.Rv.Fn := mkFn 2 laws_markAxis.pc laws_markAxis.pr (keepOf [(0, 5)]) (fun (y : laws_markAxis.N) => (((y.1, ()), ((), (), (), (), y.2, ()), ()) : compT laws_markAxis.pr)) fun x => laws_markAxis.f k x.1.1 x.1.2.1 x.1.2.2.1 x.1.2.2.2.1 x.1.2.2.2.2.1 x.2.1.1
theorem laws_markAxis.env (k : Nat) : EnvOk Go.Proofs.Tryd.prog (fun f => (laws_markAxis.E k).lookup f) := envOk_of ⟨entry Go.Proofs.Tryd.call31 rfl (laws_markCurveS.ok k), trivial⟩
theorem laws_markAxis.ok (k : Nat) : FnOk Go.Proofs.Tryd.prog 12 (laws_markAxis.F k) :=
  fn_ok tab (laws_markAxis.env k) Go.Proofs.Tryd.func12 rfl (n := 2) (Nat.le_of_ble_eq_true rfl) (by kernel_rfl) (outs := [(0, 5)]) (by kernel_rfl) (by kernel_rfl) (d := fun (y : compT laws_markAxis.pr) => ((y.1.1, y.2.1.2.2.2.2.1) : laws_markAxis.N)) (fun _ => rfl) (C := fun _ => []) (k := k) noCuts fun x => by kernel_rfl
/-! laws.heldCurveS -/
@[reducible] def laws_heldCurveS.pc : CutP := [(0, some false, [.fl (.lo (.pair (.int .i64) (.pair (.int .i64) (.int .i64))))]), (1, some false, [.fl (.int .i64)])]
@[reducible] def laws_heldCurveS.pr : CompPs := [(false, [.fl (.int .i64)])]
abbrev laws_heldCurveS.N := Int
noncomputable def laws_heldCurveS.E (k : Nat) : List (FuncId × Go.Rv.Fn) := []
abbrev laws_heldCurveS.Cs := (List (Int × Int × Int) → Int → Int → Option laws_heldCurveS.N)
def laws_heldCurveS.zero : laws_heldCurveS.Cs := (fun _ _ _ => none)
noncomputable def laws_heldCurveS.step (k : Nat) (c : laws_heldCurveS.Cs) : laws_heldCurveS.Cs := (fun (x0 : List (Int × Int × Int)) (x1 : Int) (x2 : Int) => (if (decide (x2 < (x0.length : Int))) = true then if 0 ≤ x2 then if x2 < (x0.length : Int) then (if (!decide ((rd (0, (0, 0)) x0 x2).1 = x1)) = true then some (-1) else if 0 ≤ x2 then if x2 < (x0.length : Int) then (if (!decide (((rd (0, (0, 0)) x0 x2).2).1 = (wrap64 (x1 + 1)))) = true then some (-1) else if 0 ≤ x2 then if x2 < (x0.length : Int) then (if (!decide (((rd (0, (0, 0)) x0 x2).2).2 = (wrap64 ((wrap64 (x1 + 1)) + 1)))) = true then some (-1) else c x0 (wrap64 ((wrap64 ((wrap64 (x1 + 1)) + 1)) + 1)) (wrap64 (x2 + 1))) else none else none) else none else none) else none else none else some x1))
noncomputable def laws_heldCurveS.cs (k : Nat) : Nat → laws_heldCurveS.Cs
  | 0 => laws_heldCurveS.zero
  | n + 1 => laws_heldCurveS.step k (laws_heldCurveS.cs k n)
def laws_heldCurveS.CC (c : laws_heldCurveS.Cs) : Cuts laws_heldCurveS.N := [(6, ⟨[(0, some false, [.fl (.lo (.pair (.int .i64) (.pair (.int .i64) (.int .i64))))]), (1, some false, [.fl (.int .i64)]), (5, some false, [.fl (.int .i64)])], fun x => c x.1.1 x.2.1.1 x.2.2.1.1⟩)]
noncomputable def laws_heldCurveS.f (k : Nat) (a0 : List (Int × Int × Int)) (a1 : Int) : Option laws_heldCurveS.N := (laws_heldCurveS.cs k k) a0 a1 0
noncomputable def laws_heldCurveS.F (k : Nat) : Go.Rv.Fn := mkFn 2 laws_heldCurveS.pc laws_heldCurveS.pr (keepOf []) (fun (y : laws_heldCurveS.N) => (((y, ()), ()) : compT laws_heldCurveS.pr)) fun x => laws_heldCurveS.f k x.1.1 x.2.1.1
theorem laws_heldCurveS.env (k : Nat) : EnvOk Go.Proofs.Tryd.prog (fun f => (laws_heldCurveS.E k).lookup f) := envOk_of trivial
theorem laws_heldCurveS.cuts (k : Nat) : CutsOk Go.Proofs.Tryd.prog X (fun f => (laws_heldCurveS.E k).lookup f) Go.Proofs.Tryd.f32 [] (decN laws_heldCurveS.pr (fun (y : compT laws_heldCurveS.pr) => (y.1.1 : laws_heldCurveS.N))) fun n => laws_heldCurveS.CC (laws_heldCurveS.cs k n) :=
  cutsOk_of (step := laws_heldCurveS.step k) rfl (fun _ => rfl) ⟨fun _ => rfl, trivial⟩ (fun c => by kernel_rfl) fun c => ⟨fun x => by kernel_rfl, trivial⟩
theorem laws_heldCurveS.ok (k : Nat) : FnOk Go.Proofs.Tryd.prog 32 (laws_heldCurveS.F k) :=
  fn_ok tab (laws_heldCurveS.env k) Go.Proofs.Tryd.func32 rfl (n := 2) (Nat.le_of_ble_eq_true rfl) (by kernel_rfl) (outs := []) (by kernel_rfl) (by kernel_rfl) (d := fun (y : compT laws_heldCurveS.pr) => (y.1.1 : laws_heldCurveS.N)) (fun _ => rfl) (C := fun n => laws_heldCurveS.CC (laws_heldCurveS.cs k n)) (k := k) (laws_heldCurveS.cuts k) fun x => by kernel_rfl
/-! laws.heldAxis -/
@[reducible] def laws_heldAxis.pc : CutP := [(0, some true, [.fl (.int .i64), .fl (.int .i64), .fl (.int .i64), .fl (.int .i64), .fl (.lo (.pair (.int .i64) (.pair (.int .i64) (.int .i64))))]), (1, some false, [.fl (.int .i64)])]
@[reducible] def laws_heldAxis.pr : CompPs := [(false, [.fl (.int .i64)])]
abbrev laws_heldAxis.N := Int
noncomputable def laws_heldAxis.E (k : Nat) : List (FuncId × Go.Rv.Fn) := [(32, laws_heldCurveS.F k)]
noncomputable def laws_heldAxis.f (k : Nat) (a0 : Int) (a1 : Int) (a2 : Int) (a3 : Int) (a4 : List (Int × Int × Int)) (a5 : Int) : Option laws_heldAxis.N := (laws_heldCurveS.f k a4 a5).bind fun (t1 : Int) => (if (decide (t1 < 0)) = true then some (-1) else some t1)
noncomputable def laws_heldAxis.F (k : Nat) : Go.Rv.Fn := mkFn 2 laws_heldAxis.pc laws_heldAxis.pr (keepOf []) (fun (y : laws_heldAxis.N) => (((y, ()), ()) : compT laws_heldAxis.pr)) fun x => laws_heldAxis.f k x.1.1 x.1.2.1 x.1.2.2.1 x.1.2.2.2.1 x.1.2.2.2.2.1 x.2.1.1
theorem laws_heldAxis.env (k : Nat) : EnvOk Go.Proofs.Tryd.prog (fun f => (laws_heldAxis.E k).lookup f) := envOk_of ⟨entry Go.Proofs.Tryd.call32 rfl (laws_heldCurveS.ok k), trivial⟩
theorem laws_heldAxis.ok (k : Nat) : FnOk Go.Proofs.Tryd.prog 13 (laws_heldAxis.F k) :=
  fn_ok tab (laws_heldAxis.env k) Go.Proofs.Tryd.func13 rfl (n := 2) (Nat.le_of_ble_eq_true rfl) (by kernel_rfl) (outs := []) (by kernel_rfl) (by kernel_rfl) (d := fun (y : compT laws_heldAxis.pr) => (y.1.1 : laws_heldAxis.N)) (fun _ => rfl) (C := fun _ => []) (k := k) noCuts fun x => by kernel_rfl
/-! laws.FnExactReadAxis -/
@[reducible] def laws_FnExactReadAxis.pc : CutP := [(0, some false, [.fl .str])]
@[reducible] def laws_FnExactReadAxis.pr : CompPs := [(false, [.fl .bool])]
abbrev laws_FnExactReadAxis.N := Bool
noncomputable def laws_FnExactReadAxis.E (k : Nat) : List (FuncId × Go.Rv.Fn) := [(9, laws_eqAxis.F k), (10, spec_ReadAxis.F k), (11, impl_ReadAxis.F k), (12, laws_markAxis.F k), (13, laws_heldAxis.F k)]
abbrev laws_FnExactReadAxis.Cs := (ByteArray → Int → Int → Int → Int → List (Int × Int × Int) → Bool → Int → Int → Int → Int → List (Int × Int × Int) → Option laws_FnExactReadAxis.N)
def laws_FnExactReadAxis.zero : laws_FnExactReadAxis.Cs := (fun _ _ _ _ _ _ _ _ _ _ _ _ => none)
noncomputable def laws_FnExactReadAxis.step (k : Nat) (c : laws_FnExactReadAxis.Cs) : laws_FnExactReadAxis.Cs := (fun (x0 : ByteArray) (x1 : Int) (x2 : Int) (x3 : Int) (x4 : Int) (x5 : List (Int × Int × Int)) (x6 : Bool) (x7 : Int) (x8 : Int) (x9 : Int) (x10 : Int) (x11 : List (Int × Int × Int)) => (laws_markAxis.f k x7 x8 x9 x10 x11 1).bind fun t4 => (laws_heldAxis.f k x7 x8 x9 x10 t4.2 1).bind fun (t5 : Int) => (if (decide (t5 < 0)) = true then some false else (if (!decide (t5 = t4.1)) = true then some false else (impl_ReadAxis.f k x0).bind fun t6 => (laws_eqAxis.f k t6.1 t6.2.1 t6.2.2.1 t6.2.2.2.1 t6.2.2.2.2.1 x1 x2 x3 x4 x5).bind fun t7 => (if (!t7) = true then some false else (if (!(t6.2.2.2.2.2 == x6)) = true then some false else (laws_heldAxis.f k x7 x8 x9 x10 t4.2 1).bind fun (t8 : Int) => (if (decide (t8 < 0)) = true then some false else (if (!decide (t8 = t4.1)) = true then some false else some true)))))))
noncomputable def laws_FnExactReadAxis.cs (k : Nat) : Nat → laws_FnExactReadAxis.Cs
  | 0 => laws_FnExactReadAxis.zero
  | n + 1 => laws_FnExactReadAxis.step k (laws_FnExactReadAxis.cs k n)
def laws_FnExactReadAxis.CC (c : laws_FnExactReadAxis.Cs) : Cuts laws_FnExactReadAxis.N := [(14, ⟨[(0, some false, [.fl .str]), (3, none, [.fl (.int .i64), .fl (.int .i64), .fl (.int .i64), .fl (.int .i64), .fl (.own (.pair (.int .i64) (.pair (.int .i64) (.int .i64))))]), (4, some false, [.fl .bool]), (5, none, [.fl (.int .i64), .fl (.int .i64), .fl (.int .i64), .fl (.int .i64), .fl (.own (.pair (.int .i64) (.pair (.int .i64) (.int .i64))))])], fun x => c x.1.1 x.2.1.1 x.2.1.2.1 x.2.1.2.2.1 x.2.1.2.2.2.1 x.2.1.2.2.2.2.1 x.2.2.1.1 x.2.2.2.1.1 x.2.2.2.1.2.1 x.2.2.2.1.2.2.1 x.2.2.2.1.2.2.2.1 x.2.2.2.1.2.2.2.2.1⟩)]
noncomputable def laws_FnExactReadAxis.f (k : Nat) (a0 : ByteArray) : Option laws_FnExactReadAxis.N := (if (decide (1048576 < (sLen a0))) = true then some true else (spec_ReadAxis.f k a0).bind fun t1 => (impl_ReadAxis.f k a0).bind fun t2 => (laws_eqAxis.f k t2.1 t2.2.1 t2.2.2.1 t2.2.2.2.1 t2.2.2.2.2.1 t1.1 t1.2.1 t1.2.2.1 t1.2.2.2.1 t1.2.2.2.2.1).bind fun t3 => (if (!t3) = true then some false else (if (!(t2.2.2.2.2.2 == t1.2.2.2.2.2)) = true then some false else (laws_FnExactReadAxis.cs k k) a0 t1.1 t1.2.1 t1.2.2.1 t1.2.2.2.1 t1.2.2.2.2.1 t1.2.2.2.2.2 t2.1 t2.2.1 t2.2.2.1 t2.2.2.2.1 t2.2.2.2.2.1)))
noncomputable def laws_FnExactReadAxis.F (k : Nat) : Go.Rv.Fn := mkFn 1 laws_FnExactReadAxis.pc laws_FnExactReadAxis.pr (keepOf []) (fun (y : laws_FnExactReadAxis.N) => (((y, ()), ()) : compT laws_FnExactReadAxis.pr)) fun x => laws_FnExactReadAxis.f k x.1.1
theorem laws_FnExactReadAxis.env (k : Nat) : EnvOk Go.Proofs.Tryd.prog (fun f => (laws_FnExactReadAxis.E k).lookup f) := envOk_of ⟨entry Go.Proofs.Tryd.call9 rfl (laws_eqAxis.ok k), entry Go.Proofs.Tryd.call10 rfl (spec_ReadAxis.ok k), entry Go.Proofs.Tryd.call11 rfl (impl_ReadAxis.ok k), entry Go.Proofs.Tryd.call12 rfl (laws_markAxis.ok k), entry Go.Proofs.Tryd.call13 rfl (laws_heldAxis.ok k), trivial⟩
theorem laws_FnExactReadAxis.cuts (k : Nat) : CutsOk Go.Proofs.Tryd.prog X (fun f => (laws_FnExactReadAxis.E k).lookup f) Go.Proofs.Tryd.f4 [] (decN laws_FnExactReadAxis.pr (fun (y : compT laws_FnExactReadAxis.pr) => (y.1.1 : laws_FnExactReadAxis.N))) fun n => laws_FnExactReadAxis.CC (laws_FnExactReadAxis.cs k n) :=
  cutsOk_of (step := laws_FnExactReadAxis.step k) rfl (fun _ => rfl) ⟨fun _ => rfl, trivial⟩ (fun c => by kernel_rfl) fun c => ⟨fun x => by kernel_rfl, trivial⟩
theorem laws_FnExactReadAxis.ok (k : Nat) : FnOk Go.Proofs.Tryd.prog 4 (laws_FnExactReadAxis.F k) :=
  fn_ok tab (laws_FnExactReadAxis.env k) Go.Proofs.Tryd.func4 rfl (n := 1) (Nat.le_of_ble_eq_true rfl) (by kernel_rfl) (outs := []) (by kernel_rfl) (by kernel_rfl) (d := fun (y : compT laws_FnExactReadAxis.pr) => (y.1.1 : laws_FnExactReadAxis.N)) (fun _ => rfl) (C := fun n => laws_FnExactReadAxis.CC (laws_FnExactReadAxis.cs k n)) (k := k) (laws_FnExactReadAxis.cuts k) fun x => by kernel_rfl
end Go.Proofs.YtgknckbplbldbaaDoor.R
