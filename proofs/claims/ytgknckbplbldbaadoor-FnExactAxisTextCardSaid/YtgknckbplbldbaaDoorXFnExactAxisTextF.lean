-- written by wip/rev/gen2.py for this claim (out of the translation). Lean checks it.
import Derived.Test.YtgknckbplbldbaaDoorRvM2
import Derived.Test.YtgknckbplbldbaaDoorProg
import Derived.Test.YtgknckbplbldbaaDoorRvAmb
import Derived.Test.YtgknckbplbldbaaDoorRvStrF
import Derived.Test.YtgknckbplbldbaaDoorRvStrJ
namespace Go.Proofs.YtgknckbplbldbaaDoor.R
open Go.Rv
set_option linter.unusedVariables false
set_option maxRecDepth 100000
def X : Env := { n := 0, keep := [], tab := [(2, { ty := (.int .i64) }),
  (3, { ty := (.int .i64) }),
  (4, { ty := .bool }),
  (5, { ty := (.int .u8) }),
  (9, { ty := .str }),
  (23, { ty := (.pair (.int .i64) (.pair (.int .i64) (.pair (.int .i64) (.int .i64)))), agg := true, offs := [(0, 1, false), (1, 1, false), (2, 1, false), (3, 1, false)] }),
  (24, { ty := (.sl (.pair (.int .i64) (.pair (.int .i64) (.int .i64)))) }),
  (26, { ty := (.pair (.pair (.int .i64) (.pair (.int .i64) (.pair (.int .i64) (.int .i64)))) (.sl (.pair (.int .i64) (.pair (.int .i64) (.int .i64))))), agg := true, offs := [(0, 4, true), (4, 1, false)] }),
  (30, { ty := (.pair (.int .i64) (.pair (.int .i64) (.pair (.int .i64) (.int .i64)))), agg := true, offs := [(0, 1, false), (1, 1, false), (2, 1, false), (3, 1, false)] }),
  (31, { ty := (.sl (.pair (.int .i64) (.pair (.int .i64) (.int .i64)))) }),
  (33, { ty := (.pair (.pair (.int .i64) (.pair (.int .i64) (.pair (.int .i64) (.int .i64)))) (.sl (.pair (.int .i64) (.pair (.int .i64) (.int .i64))))), agg := true, offs := [(0, 4, true), (4, 1, false)] }),
  (49, { ty := (.sl (.int .i64)) }),
  (52, { ty := (.pair (.int .i64) (.pair (.int .i64) (.int .i64))), agg := true, offs := [(0, 1, false), (1, 1, false), (2, 1, false)] }),
  (57, { ty := (.sl .str) }),
  (73, { ty := (.pair (.int .i64) (.pair (.int .i64) (.int .i64))), agg := true, offs := [(0, 1, false), (1, 1, false), (2, 1, false)] }),
  (74, { ty := (.sl (.pair (.int .i64) (.pair (.int .i64) (.pair (.int .i64) (.int .i64))))) }),
  (82, { ty := (.sl (.int .u8)), b8 := true })] }
theorem tab : TabOk Go.Proofs.Tryd.prog X := ⟨by kernel_rfl, by kernel_rfl⟩
/-! laws.szCurveS -/
@[reducible] def laws_szCurveS.pc : CutP := [(0, some false, [.fl (.lo (.pair (.int .i64) (.pair (.int .i64) (.int .i64))))]), (1, some false, [.fl (.int .i64)])]
@[reducible] def laws_szCurveS.pr : CompPs := [(false, [.fl (.int .i64)])]
abbrev laws_szCurveS.N := Int
noncomputable def laws_szCurveS.E (k : Nat) : List (FuncId × Go.Rv.Fn) := []
noncomputable def laws_szCurveS.f (k : Nat) (a0 : List (Int × Int × Int)) (a1 : Int) : Option laws_szCurveS.N := (if (decide ((wrap64 (a1 - (a0.length : Int))) < 0)) = true then some (-1) else some (wrap64 (a1 - (a0.length : Int))))
noncomputable def laws_szCurveS.F (k : Nat) : Go.Rv.Fn := mkFn 2 laws_szCurveS.pc laws_szCurveS.pr (keepOf []) (fun (y : laws_szCurveS.N) => (((y, ()), ()) : compT laws_szCurveS.pr)) fun x => laws_szCurveS.f k x.1.1 x.2.1.1
theorem laws_szCurveS.env (k : Nat) : EnvOk Go.Proofs.Tryd.prog (fun f => (laws_szCurveS.E k).lookup f) := envOk_of trivial
theorem laws_szCurveS.ok (k : Nat) : FnOk Go.Proofs.Tryd.prog 14 (laws_szCurveS.F k) :=
  fn_ok tab (laws_szCurveS.env k) Go.Proofs.Tryd.func14 rfl (n := 2) (Nat.le_of_ble_eq_true rfl) (by kernel_rfl) (outs := []) (by kernel_rfl) (by kernel_rfl) (d := fun (y : compT laws_szCurveS.pr) => (y.1.1 : laws_szCurveS.N)) (fun _ => rfl) (C := fun _ => []) (k := k) noCuts fun x => by kernel_rfl
/-! laws.szAxis -/
@[reducible] def laws_szAxis.pc : CutP := [(0, some true, [.fl (.int .i64), .fl (.int .i64), .fl (.int .i64), .fl (.int .i64), .fl (.lo (.pair (.int .i64) (.pair (.int .i64) (.int .i64))))]), (1, some false, [.fl (.int .i64)])]
@[reducible] def laws_szAxis.pr : CompPs := [(false, [.fl (.int .i64)])]
abbrev laws_szAxis.N := Int
noncomputable def laws_szAxis.E (k : Nat) : List (FuncId × Go.Rv.Fn) := [(14, laws_szCurveS.F k)]
noncomputable def laws_szAxis.f (k : Nat) (a0 : Int) (a1 : Int) (a2 : Int) (a3 : Int) (a4 : List (Int × Int × Int)) (a5 : Int) : Option laws_szAxis.N := (laws_szCurveS.f k a4 a5).bind fun (t1 : Int) => (if (decide (t1 < 0)) = true then some (-1) else some t1)
noncomputable def laws_szAxis.F (k : Nat) : Go.Rv.Fn := mkFn 2 laws_szAxis.pc laws_szAxis.pr (keepOf []) (fun (y : laws_szAxis.N) => (((y, ()), ()) : compT laws_szAxis.pr)) fun x => laws_szAxis.f k x.1.1 x.1.2.1 x.1.2.2.1 x.1.2.2.2.1 x.1.2.2.2.2.1 x.2.1.1
theorem laws_szAxis.env (k : Nat) : EnvOk Go.Proofs.Tryd.prog (fun f => (laws_szAxis.E k).lookup f) := envOk_of ⟨entry Go.Proofs.Tryd.call14 rfl (laws_szCurveS.ok k), trivial⟩
theorem laws_szAxis.ok (k : Nat) : FnOk Go.Proofs.Tryd.prog 5 (laws_szAxis.F k) :=
  fn_ok tab (laws_szAxis.env k) Go.Proofs.Tryd.func5 rfl (n := 2) (Nat.le_of_ble_eq_true rfl) (by kernel_rfl) (outs := []) (by kernel_rfl) (by kernel_rfl) (d := fun (y : compT laws_szAxis.pr) => (y.1.1 : laws_szAxis.N)) (fun _ => rfl) (C := fun _ => []) (k := k) noCuts fun x => by kernel_rfl
/-! laws.toPose -/
@[reducible] def laws_toPose.pc : CutP := [(0, some true, [.fl (.int .i64), .fl (.int .i64), .fl (.int .i64), .fl (.int .i64)])]
@[reducible] def laws_toPose.pr : CompPs := [(true, [.fl (.int .i64), .fl (.int .i64), .fl (.int .i64), .fl (.int .i64)])]
abbrev laws_toPose.N := Int × Int × Int × Int
noncomputable def laws_toPose.E (k : Nat) : List (FuncId × Go.Rv.Fn) := []
noncomputable def laws_toPose.f (k : Nat) (a0 : Int) (a1 : Int) (a2 : Int) (a3 : Int) : Option laws_toPose.N := some (a0, a1, a2, a3)
noncomputable def laws_toPose.F (k : Nat) : Go.Rv.Fn := mkFn 1 laws_toPose.pc laws_toPose.pr (keepOf []) (fun (y : laws_toPose.N) => (((y.1, y.2.1, y.2.2.1, y.2.2.2, ()), ()) : compT laws_toPose.pr)) fun x => laws_toPose.f k x.1.1 x.1.2.1 x.1.2.2.1 x.1.2.2.2.1
theorem laws_toPose.env (k : Nat) : EnvOk Go.Proofs.Tryd.prog (fun f => (laws_toPose.E k).lookup f) := envOk_of trivial
theorem laws_toPose.ok (k : Nat) : FnOk Go.Proofs.Tryd.prog 17 (laws_toPose.F k) :=
  fn_ok tab (laws_toPose.env k) Go.Proofs.Tryd.func17 rfl (n := 1) (Nat.le_of_ble_eq_true rfl) (by kernel_rfl) (outs := []) (by kernel_rfl) (by kernel_rfl) (d := fun (y : compT laws_toPose.pr) => ((y.1.1, y.1.2.1, y.1.2.2.1, y.1.2.2.2.1) : laws_toPose.N)) (fun _ => rfl) (C := fun _ => []) (k := k) noCuts fun x => by kernel_rfl
/-! laws.toCurve -/
@[reducible] def laws_toCurve.pc : CutP := [(0, some true, [.fl (.int .i64), .fl (.int .i64), .fl (.int .i64)])]
@[reducible] def laws_toCurve.pr : CompPs := [(true, [.fl (.int .i64), .fl (.int .i64), .fl (.int .i64)])]
abbrev laws_toCurve.N := Int × Int × Int
noncomputable def laws_toCurve.E (k : Nat) : List (FuncId × Go.Rv.Fn) := []
noncomputable def laws_toCurve.f (k : Nat) (a0 : Int) (a1 : Int) (a2 : Int) : Option laws_toCurve.N := some (a0, a1, a2)
noncomputable def laws_toCurve.F (k : Nat) : Go.Rv.Fn := mkFn 1 laws_toCurve.pc laws_toCurve.pr (keepOf []) (fun (y : laws_toCurve.N) => (((y.1, y.2.1, y.2.2, ()), ()) : compT laws_toCurve.pr)) fun x => laws_toCurve.f k x.1.1 x.1.2.1 x.1.2.2.1
theorem laws_toCurve.env (k : Nat) : EnvOk Go.Proofs.Tryd.prog (fun f => (laws_toCurve.E k).lookup f) := envOk_of trivial
theorem laws_toCurve.ok (k : Nat) : FnOk Go.Proofs.Tryd.prog 38 (laws_toCurve.F k) :=
  fn_ok tab (laws_toCurve.env k) Go.Proofs.Tryd.func38 rfl (n := 1) (Nat.le_of_ble_eq_true rfl) (by kernel_rfl) (outs := []) (by kernel_rfl) (by kernel_rfl) (d := fun (y : compT laws_toCurve.pr) => ((y.1.1, y.1.2.1, y.1.2.2.1) : laws_toCurve.N)) (fun _ => rfl) (C := fun _ => []) (k := k) noCuts fun x => by kernel_rfl
/-! laws.toCurveS -/
@[reducible] def laws_toCurveS.pc : CutP := [(0, some false, [.fl (.lo (.pair (.int .i64) (.pair (.int .i64) (.int .i64))))])]
@[reducible] def laws_toCurveS.pr : CompPs := [(false, [.fl (.own (.pair (.int .i64) (.pair (.int .i64) (.int .i64))))])]
abbrev laws_toCurveS.N := List (Int × Int × Int)
noncomputable def laws_toCurveS.E (k : Nat) : List (FuncId × Go.Rv.Fn) := [(38, laws_toCurve.F k)]
abbrev laws_toCurveS.Cs := (List (Int × Int × Int) → List (Int × Int × Int) → Int → Option laws_toCurveS.N)
def laws_toCurveS.zero : laws_toCurveS.Cs := (fun _ _ _ => none)
noncomputable def laws_toCurveS.step (k : Nat) (c : laws_toCurveS.Cs) : laws_toCurveS.Cs := (fun (x0 : List (Int × Int × Int)) (x1 : List (Int × Int × Int)) (x2 : Int) => (if (decide (x2 < (x0.length : Int))) = true then if 0 ≤ x2 then if x2 < (x0.length : Int) then (laws_toCurve.f k ((rd (0, (0, 0)) x0 x2).1) (((rd (0, (0, 0)) x0 x2).2).1) (((rd (0, (0, 0)) x0 x2).2).2)).bind fun t1 => if 0 ≤ x2 then if x2 < (x1.length : Int) then c x0 (x1.set x2.toNat t1) (wrap64 (x2 + 1)) else none else none else none else none else some x1))
noncomputable def laws_toCurveS.cs (k : Nat) : Nat → laws_toCurveS.Cs
  | 0 => laws_toCurveS.zero
  | n + 1 => laws_toCurveS.step k (laws_toCurveS.cs k n)
def laws_toCurveS.CC (c : laws_toCurveS.Cs) : Cuts laws_toCurveS.N := [(8, ⟨[(0, some false, [.fl (.lo (.pair (.int .i64) (.pair (.int .i64) (.int .i64))))]), (3, some false, [.fl (.own (.pair (.int .i64) (.pair (.int .i64) (.int .i64))))]), (4, some false, [.fl (.int .i64)])], fun x => c x.1.1 x.2.1.1 x.2.2.1.1⟩)]
noncomputable def laws_toCurveS.f (k : Nat) (a0 : List (Int × Int × Int)) : Option laws_toCurveS.N := if 0 ≤ (a0.length : Int) then if (a0.length : Int) ≤ (a0.length : Int) then if (a0.length : Int) < 366503875925 then (laws_toCurveS.cs k k) a0 (List.replicate (a0.length : Int).toNat (0, (0, 0))) 0 else none else none else none
noncomputable def laws_toCurveS.F (k : Nat) : Go.Rv.Fn := mkFn 1 laws_toCurveS.pc laws_toCurveS.pr (keepOf []) (fun (y : laws_toCurveS.N) => (((y, ()), ()) : compT laws_toCurveS.pr)) fun x => laws_toCurveS.f k x.1.1
theorem laws_toCurveS.env (k : Nat) : EnvOk Go.Proofs.Tryd.prog (fun f => (laws_toCurveS.E k).lookup f) := envOk_of ⟨entry Go.Proofs.Tryd.call38 rfl (laws_toCurve.ok k), trivial⟩
theorem laws_toCurveS.cuts (k : Nat) : CutsOk Go.Proofs.Tryd.prog X (fun f => (laws_toCurveS.E k).lookup f) Go.Proofs.Tryd.f18 [] (decN laws_toCurveS.pr (fun (y : compT laws_toCurveS.pr) => (y.1.1 : laws_toCurveS.N))) fun n => laws_toCurveS.CC (laws_toCurveS.cs k n) :=
  cutsOk_of (step := laws_toCurveS.step k) rfl (fun _ => rfl) ⟨fun _ => rfl, trivial⟩ (fun c => by kernel_rfl) fun c => ⟨fun x => by kernel_rfl, trivial⟩
theorem laws_toCurveS.ok (k : Nat) : FnOk Go.Proofs.Tryd.prog 18 (laws_toCurveS.F k) :=
  fn_ok tab (laws_toCurveS.env k) Go.Proofs.Tryd.func18 rfl (n := 1) (Nat.le_of_ble_eq_true rfl) (by kernel_rfl) (outs := []) (by kernel_rfl) (by kernel_rfl) (d := fun (y : compT laws_toCurveS.pr) => (y.1.1 : laws_toCurveS.N)) (fun _ => rfl) (C := fun n => laws_toCurveS.CC (laws_toCurveS.cs k n)) (k := k) (laws_toCurveS.cuts k) fun x => by kernel_rfl
/-! laws.toAxis -/
@[reducible] def laws_toAxis.pc : CutP := [(0, some true, [.fl (.int .i64), .fl (.int .i64), .fl (.int .i64), .fl (.int .i64), .fl (.lo (.pair (.int .i64) (.pair (.int .i64) (.int .i64))))])]
@[reducible] def laws_toAxis.pr : CompPs := [(true, [.fl (.int .i64), .fl (.int .i64), .fl (.int .i64), .fl (.int .i64), .fl (.own (.pair (.int .i64) (.pair (.int .i64) (.int .i64))))])]
abbrev laws_toAxis.N := Int × Int × Int × Int × List (Int × Int × Int)
noncomputable def laws_toAxis.E (k : Nat) : List (FuncId × Go.Rv.Fn) := [(17, laws_toPose.F k), (18, laws_toCurveS.F k)]
noncomputable def laws_toAxis.f (k : Nat) (a0 : Int) (a1 : Int) (a2 : Int) (a3 : Int) (a4 : List (Int × Int × Int)) : Option laws_toAxis.N := (laws_toPose.f k a0 a1 a2 a3).bind fun t1 => (laws_toCurveS.f k a4).bind fun t2 => some (t1.1, t1.2.1, t1.2.2.1, t1.2.2.2, t2)
noncomputable def laws_toAxis.F (k : Nat) : Go.Rv.Fn := mkFn 1 laws_toAxis.pc laws_toAxis.pr (keepOf []) (fun (y : laws_toAxis.N) => (((y.1, y.2.1, y.2.2.1, y.2.2.2.1, y.2.2.2.2, ()), ()) : compT laws_toAxis.pr)) fun x => laws_toAxis.f k x.1.1 x.1.2.1 x.1.2.2.1 x.1.2.2.2.1 x.1.2.2.2.2.1
theorem laws_toAxis.env (k : Nat) : EnvOk Go.Proofs.Tryd.prog (fun f => (laws_toAxis.E k).lookup f) := envOk_of ⟨entry Go.Proofs.Tryd.call17 rfl (laws_toPose.ok k), entry Go.Proofs.Tryd.call18 rfl (laws_toCurveS.ok k), trivial⟩
theorem laws_toAxis.ok (k : Nat) : FnOk Go.Proofs.Tryd.prog 7 (laws_toAxis.F k) :=
  fn_ok tab (laws_toAxis.env k) Go.Proofs.Tryd.func7 rfl (n := 1) (Nat.le_of_ble_eq_true rfl) (by kernel_rfl) (outs := []) (by kernel_rfl) (by kernel_rfl) (d := fun (y : compT laws_toAxis.pr) => ((y.1.1, y.1.2.1, y.1.2.2.1, y.1.2.2.2.1, y.1.2.2.2.2.1) : laws_toAxis.N)) (fun _ => rfl) (C := fun _ => []) (k := k) noCuts fun x => by kernel_rfl
/-! spec.l00In -/
@[reducible] def spec_l00In.pc : CutP := [(0, some false, [.fl (.int .i64)]), (1, some false, [.fl (.int .i64)]), (2, some false, [.fl (.int .i64)])]
@[reducible] def spec_l00In.pr : CompPs := [(false, [.fl .bool])]
abbrev spec_l00In.N := Bool
noncomputable def spec_l00In.E (k : Nat) : List (FuncId × Go.Rv.Fn) := []
noncomputable def spec_l00In.f (k : Nat) (a0 : Int) (a1 : Int) (a2 : Int) : Option spec_l00In.N := (if (decide (a1 ≤ a0)) = true then some (decide (a0 ≤ a2)) else some false)
noncomputable def spec_l00In.F (k : Nat) : Go.Rv.Fn := mkFn 3 spec_l00In.pc spec_l00In.pr (keepOf []) (fun (y : spec_l00In.N) => (((y, ()), ()) : compT spec_l00In.pr)) fun x => spec_l00In.f k x.1.1 x.2.1.1 x.2.2.1.1
theorem spec_l00In.env (k : Nat) : EnvOk Go.Proofs.Tryd.prog (fun f => (spec_l00In.E k).lookup f) := envOk_of trivial
theorem spec_l00In.ok (k : Nat) : FnOk Go.Proofs.Tryd.prog 34 (spec_l00In.F k) :=
  fn_ok tab (spec_l00In.env k) Go.Proofs.Tryd.func34 rfl (n := 3) (Nat.le_of_ble_eq_true rfl) (by kernel_rfl) (outs := []) (by kernel_rfl) (by kernel_rfl) (d := fun (y : compT spec_l00In.pr) => (y.1.1 : spec_l00In.N)) (fun _ => rfl) (C := fun _ => []) (k := k) noCuts fun x => by kernel_rfl
/-! spec.l02Pose -/
@[reducible] def spec_l02Pose.pc : CutP := [(0, some true, [.fl (.int .i64), .fl (.int .i64), .fl (.int .i64), .fl (.int .i64)])]
@[reducible] def spec_l02Pose.pr : CompPs := [(false, [.fl .bool])]
abbrev spec_l02Pose.N := Bool
noncomputable def spec_l02Pose.E (k : Nat) : List (FuncId × Go.Rv.Fn) := [(34, spec_l00In.F k)]
noncomputable def spec_l02Pose.f (k : Nat) (a0 : Int) (a1 : Int) (a2 : Int) (a3 : Int) : Option spec_l02Pose.N := (spec_l00In.f k a0 (-100000) 100000).bind fun t1 => (if t1 = true then (spec_l00In.f k a1 (-100000) 100000).bind fun t2 => (if t2 = true then (spec_l00In.f k a2 (-400) 400).bind fun t3 => (if t3 = true then (spec_l00In.f k a3 (-400) 400).bind fun t4 => some t4 else some false) else some false) else some false)
noncomputable def spec_l02Pose.F (k : Nat) : Go.Rv.Fn := mkFn 1 spec_l02Pose.pc spec_l02Pose.pr (keepOf []) (fun (y : spec_l02Pose.N) => (((y, ()), ()) : compT spec_l02Pose.pr)) fun x => spec_l02Pose.f k x.1.1 x.1.2.1 x.1.2.2.1 x.1.2.2.2.1
theorem spec_l02Pose.env (k : Nat) : EnvOk Go.Proofs.Tryd.prog (fun f => (spec_l02Pose.E k).lookup f) := envOk_of ⟨entry Go.Proofs.Tryd.call34 rfl (spec_l00In.ok k), trivial⟩
theorem spec_l02Pose.ok (k : Nat) : FnOk Go.Proofs.Tryd.prog 33 (spec_l02Pose.F k) :=
  fn_ok tab (spec_l02Pose.env k) Go.Proofs.Tryd.func33 rfl (n := 1) (Nat.le_of_ble_eq_true rfl) (by kernel_rfl) (outs := []) (by kernel_rfl) (by kernel_rfl) (d := fun (y : compT spec_l02Pose.pr) => (y.1.1 : spec_l02Pose.N)) (fun _ => rfl) (C := fun _ => []) (k := k) noCuts fun x => by kernel_rfl
/-! spec.l02Turn -/
@[reducible] def spec_l02Turn.pc : CutP := [(0, some false, [.fl (.int .i64)]), (1, some false, [.fl (.int .i64)])]
@[reducible] def spec_l02Turn.pr : CompPs := [(false, [.fl .bool])]
abbrev spec_l02Turn.N := Bool
noncomputable def spec_l02Turn.E (k : Nat) : List (FuncId × Go.Rv.Fn) := [(34, spec_l00In.F k)]
noncomputable def spec_l02Turn.f (k : Nat) (a0 : Int) (a1 : Int) : Option spec_l02Turn.N := (spec_l00In.f k a0 (-12) 12).bind fun t1 => (if t1 = true then (spec_l00In.f k a1 (-12) 12).bind fun t2 => some t2 else some false)
noncomputable def spec_l02Turn.F (k : Nat) : Go.Rv.Fn := mkFn 2 spec_l02Turn.pc spec_l02Turn.pr (keepOf []) (fun (y : spec_l02Turn.N) => (((y, ()), ()) : compT spec_l02Turn.pr)) fun x => spec_l02Turn.f k x.1.1 x.2.1.1
theorem spec_l02Turn.env (k : Nat) : EnvOk Go.Proofs.Tryd.prog (fun f => (spec_l02Turn.E k).lookup f) := envOk_of ⟨entry Go.Proofs.Tryd.call34 rfl (spec_l00In.ok k), trivial⟩
theorem spec_l02Turn.ok (k : Nat) : FnOk Go.Proofs.Tryd.prog 35 (spec_l02Turn.F k) :=
  fn_ok tab (spec_l02Turn.env k) Go.Proofs.Tryd.func35 rfl (n := 2) (Nat.le_of_ble_eq_true rfl) (by kernel_rfl) (outs := []) (by kernel_rfl) (by kernel_rfl) (d := fun (y : compT spec_l02Turn.pr) => (y.1.1 : spec_l02Turn.N)) (fun _ => rfl) (C := fun _ => []) (k := k) noCuts fun x => by kernel_rfl
/-! spec.l02Next -/
@[reducible] def spec_l02Next.pc : CutP := [(0, some true, [.fl (.int .i64), .fl (.int .i64), .fl (.int .i64), .fl (.int .i64)]), (1, some false, [.fl (.int .i64)]), (2, some false, [.fl (.int .i64)])]
@[reducible] def spec_l02Next.pr : CompPs := [(true, [.fl (.int .i64), .fl (.int .i64), .fl (.int .i64), .fl (.int .i64)])]
abbrev spec_l02Next.N := Int × Int × Int × Int
noncomputable def spec_l02Next.E (k : Nat) : List (FuncId × Go.Rv.Fn) := []
noncomputable def spec_l02Next.f (k : Nat) (a0 : Int) (a1 : Int) (a2 : Int) (a3 : Int) (a4 : Int) (a5 : Int) : Option spec_l02Next.N := some ((wrap64 (a0 + a2)), (wrap64 (a1 + a3)), (wrap64 (a2 + a4)), (wrap64 (a3 + a5)))
noncomputable def spec_l02Next.F (k : Nat) : Go.Rv.Fn := mkFn 3 spec_l02Next.pc spec_l02Next.pr (keepOf []) (fun (y : spec_l02Next.N) => (((y.1, y.2.1, y.2.2.1, y.2.2.2, ()), ()) : compT spec_l02Next.pr)) fun x => spec_l02Next.f k x.1.1 x.1.2.1 x.1.2.2.1 x.1.2.2.2.1 x.2.1.1 x.2.2.1.1
theorem spec_l02Next.env (k : Nat) : EnvOk Go.Proofs.Tryd.prog (fun f => (spec_l02Next.E k).lookup f) := envOk_of trivial
theorem spec_l02Next.ok (k : Nat) : FnOk Go.Proofs.Tryd.prog 36 (spec_l02Next.F k) :=
  fn_ok tab (spec_l02Next.env k) Go.Proofs.Tryd.func36 rfl (n := 3) (Nat.le_of_ble_eq_true rfl) (by kernel_rfl) (outs := []) (by kernel_rfl) (by kernel_rfl) (d := fun (y : compT spec_l02Next.pr) => ((y.1.1, y.1.2.1, y.1.2.2.1, y.1.2.2.2.1) : spec_l02Next.N)) (fun _ => rfl) (C := fun _ => []) (k := k) noCuts fun x => by kernel_rfl
/-! spec.l02Is -/
@[reducible] def spec_l02Is.pc : CutP := [(0, some false, [.rptr [(.int .i64), (.int .i64), (.int .i64), (.int .i64), (.lo (.pair (.int .i64) (.pair (.int .i64) (.int .i64))))]])]
@[reducible] def spec_l02Is.pr : CompPs := [(false, [.fl .bool])]
abbrev spec_l02Is.N := Bool
noncomputable def spec_l02Is.E (k : Nat) : List (FuncId × Go.Rv.Fn) := [(33, spec_l02Pose.F k), (34, spec_l00In.F k), (35, spec_l02Turn.F k), (36, spec_l02Next.F k)]
abbrev spec_l02Is.Cs := (Int → Int → Int → Int → List (Int × Int × Int) → Option spec_l02Is.N) × (Int → Int → Int → Int → List (Int × Int × Int) → Int → Int → Int → Int → Int → Int → Option spec_l02Is.N) × (Int → Int → Int → Int → List (Int × Int × Int) → Int → Int → Int → Int → Int → Int → Int → Int → Int → Option spec_l02Is.N) × (Int → Int → Int → Int → List (Int × Int × Int) → Int → Int → Int → Int → Int → Int → Int → Int → Int → Int → Option spec_l02Is.N)
def spec_l02Is.zero : spec_l02Is.Cs := (fun _ _ _ _ _ => none, fun _ _ _ _ _ _ _ _ _ _ _ => none, fun _ _ _ _ _ _ _ _ _ _ _ _ _ _ => none, fun _ _ _ _ _ _ _ _ _ _ _ _ _ _ _ => none)
noncomputable def spec_l02Is.step (k : Nat) (c : spec_l02Is.Cs) : spec_l02Is.Cs := (fun (x0 : Int) (x1 : Int) (x2 : Int) (x3 : Int) (x4 : List (Int × Int × Int)) => c.2.1 x0 x1 x2 x3 x4 0 x0 x1 x2 x3 0,
  fun (x0 : Int) (x1 : Int) (x2 : Int) (x3 : Int) (x4 : List (Int × Int × Int)) (x5 : Int) (x6 : Int) (x7 : Int) (x8 : Int) (x9 : Int) (x10 : Int) => (if (decide (x10 < (x4.length : Int))) = true then if 0 ≤ x10 then if x10 < (x4.length : Int) then (spec_l00In.f k ((rd (0, (0, 0)) x4 x10).1) 1 (wrap64 (60 - x5))).bind fun t3 => (if (!t3) = true then some false else (spec_l02Turn.f k (((rd (0, (0, 0)) x4 x10).2).1) (((rd (0, (0, 0)) x4 x10).2).2)).bind fun t4 => (if (!t4) = true then some false else c.2.2.1 x0 x1 x2 x3 x4 x5 x6 x7 x8 x9 x10 ((rd (0, (0, 0)) x4 x10).1) (((rd (0, (0, 0)) x4 x10).2).1) (((rd (0, (0, 0)) x4 x10).2).2))) else none else none else some true),
  fun (x0 : Int) (x1 : Int) (x2 : Int) (x3 : Int) (x4 : List (Int × Int × Int)) (x5 : Int) (x6 : Int) (x7 : Int) (x8 : Int) (x9 : Int) (x10 : Int) (x11 : Int) (x12 : Int) (x13 : Int) => c.2.2.2 x0 x1 x2 x3 x4 (wrap64 (x5 + x11)) x6 x7 x8 x9 x10 x11 x12 x13 0,
  fun (x0 : Int) (x1 : Int) (x2 : Int) (x3 : Int) (x4 : List (Int × Int × Int)) (x5 : Int) (x6 : Int) (x7 : Int) (x8 : Int) (x9 : Int) (x10 : Int) (x11 : Int) (x12 : Int) (x13 : Int) (x14 : Int) => (if (decide (x14 < x11)) = true then (spec_l02Next.f k x6 x7 x8 x9 x12 x13).bind fun t5 => (spec_l02Pose.f k t5.1 t5.2.1 t5.2.2.1 t5.2.2.2).bind fun t6 => (if (!t6) = true then some false else c.2.2.2 x0 x1 x2 x3 x4 x5 t5.1 t5.2.1 t5.2.2.1 t5.2.2.2 x10 x11 x12 x13 (wrap64 (x14 + 1))) else c.2.1 x0 x1 x2 x3 x4 x5 x6 x7 x8 x9 (wrap64 (x10 + 1))))
noncomputable def spec_l02Is.cs (k : Nat) : Nat → spec_l02Is.Cs
  | 0 => spec_l02Is.zero
  | n + 1 => spec_l02Is.step k (spec_l02Is.cs k n)
def spec_l02Is.CC (c : spec_l02Is.Cs) : Cuts spec_l02Is.N := [(2, ⟨[(0, some false, [.rptr [(.int .i64), (.int .i64), (.int .i64), (.int .i64), (.lo (.pair (.int .i64) (.pair (.int .i64) (.int .i64))))]])], fun x => c.1 x.1.1.1 x.1.1.2.1 x.1.1.2.2.1 x.1.1.2.2.2.1 x.1.1.2.2.2.2.1⟩),
  (18, ⟨[(0, some false, [.rptr [(.int .i64), (.int .i64), (.int .i64), (.int .i64), (.lo (.pair (.int .i64) (.pair (.int .i64) (.int .i64))))]]), (3, some false, [.fl (.int .i64)]), (4, none, [.fl (.int .i64), .fl (.int .i64), .fl (.int .i64), .fl (.int .i64)]), (5, some false, [.fl (.int .i64)])], fun x => c.2.1 x.1.1.1 x.1.1.2.1 x.1.1.2.2.1 x.1.1.2.2.2.1 x.1.1.2.2.2.2.1 x.2.1.1 x.2.2.1.1 x.2.2.1.2.1 x.2.2.1.2.2.1 x.2.2.1.2.2.2.1 x.2.2.2.1.1⟩),
  (29, ⟨[(0, some false, [.rptr [(.int .i64), (.int .i64), (.int .i64), (.int .i64), (.lo (.pair (.int .i64) (.pair (.int .i64) (.int .i64))))]]), (3, some false, [.fl (.int .i64)]), (4, none, [.fl (.int .i64), .fl (.int .i64), .fl (.int .i64), .fl (.int .i64)]), (5, some false, [.fl (.int .i64)]), (6, none, [.fl (.int .i64), .fl (.int .i64), .fl (.int .i64)])], fun x => c.2.2.1 x.1.1.1 x.1.1.2.1 x.1.1.2.2.1 x.1.1.2.2.2.1 x.1.1.2.2.2.2.1 x.2.1.1 x.2.2.1.1 x.2.2.1.2.1 x.2.2.1.2.2.1 x.2.2.1.2.2.2.1 x.2.2.2.1.1 x.2.2.2.2.1.1 x.2.2.2.2.1.2.1 x.2.2.2.2.1.2.2.1⟩),
  (42, ⟨[(0, some false, [.rptr [(.int .i64), (.int .i64), (.int .i64), (.int .i64), (.lo (.pair (.int .i64) (.pair (.int .i64) (.int .i64))))]]), (3, some false, [.fl (.int .i64)]), (4, none, [.fl (.int .i64), .fl (.int .i64), .fl (.int .i64), .fl (.int .i64)]), (5, some false, [.fl (.int .i64)]), (6, none, [.fl (.int .i64), .fl (.int .i64), .fl (.int .i64)]), (7, some false, [.fl (.int .i64)])], fun x => c.2.2.2 x.1.1.1 x.1.1.2.1 x.1.1.2.2.1 x.1.1.2.2.2.1 x.1.1.2.2.2.2.1 x.2.1.1 x.2.2.1.1 x.2.2.1.2.1 x.2.2.1.2.2.1 x.2.2.1.2.2.2.1 x.2.2.2.1.1 x.2.2.2.2.1.1 x.2.2.2.2.1.2.1 x.2.2.2.2.1.2.2.1 x.2.2.2.2.2.1.1⟩)]
noncomputable def spec_l02Is.f (k : Nat) (a0 : Int) (a1 : Int) (a2 : Int) (a3 : Int) (a4 : List (Int × Int × Int)) : Option spec_l02Is.N := (spec_l02Pose.f k a0 a1 a2 a3).bind fun t1 => (if (!t1) = true then some false else (spec_l00In.f k (a4.length : Int) 1 8).bind fun t2 => (if (!t2) = true then some false else (spec_l02Is.cs k k).1 a0 a1 a2 a3 a4))
noncomputable def spec_l02Is.F (k : Nat) : Go.Rv.Fn := mkFn 1 spec_l02Is.pc spec_l02Is.pr (keepOf []) (fun (y : spec_l02Is.N) => (((y, ()), ()) : compT spec_l02Is.pr)) fun x => spec_l02Is.f k x.1.1.1 x.1.1.2.1 x.1.1.2.2.1 x.1.1.2.2.2.1 x.1.1.2.2.2.2.1
theorem spec_l02Is.env (k : Nat) : EnvOk Go.Proofs.Tryd.prog (fun f => (spec_l02Is.E k).lookup f) := envOk_of ⟨entry Go.Proofs.Tryd.call33 rfl (spec_l02Pose.ok k), entry Go.Proofs.Tryd.call34 rfl (spec_l00In.ok k), entry Go.Proofs.Tryd.call35 rfl (spec_l02Turn.ok k), entry Go.Proofs.Tryd.call36 rfl (spec_l02Next.ok k), trivial⟩
theorem spec_l02Is.cuts (k : Nat) : CutsOk Go.Proofs.Tryd.prog X (fun f => (spec_l02Is.E k).lookup f) Go.Proofs.Tryd.f15 [] (decN spec_l02Is.pr (fun (y : compT spec_l02Is.pr) => (y.1.1 : spec_l02Is.N))) fun n => spec_l02Is.CC (spec_l02Is.cs k n) :=
  cutsOk_of (step := spec_l02Is.step k) rfl (fun _ => rfl) ⟨fun _ => rfl, fun _ => rfl, fun _ => rfl, fun _ => rfl, trivial⟩ (fun c => by kernel_rfl) fun c => ⟨fun x => by kernel_rfl, fun x => by kernel_rfl, fun x => by kernel_rfl, fun x => by kernel_rfl, trivial⟩
theorem spec_l02Is.ok (k : Nat) : FnOk Go.Proofs.Tryd.prog 15 (spec_l02Is.F k) :=
  fn_ok tab (spec_l02Is.env k) Go.Proofs.Tryd.func15 rfl (n := 1) (Nat.le_of_ble_eq_true rfl) (by kernel_rfl) (outs := []) (by kernel_rfl) (by kernel_rfl) (d := fun (y : compT spec_l02Is.pr) => (y.1.1 : spec_l02Is.N)) (fun _ => rfl) (C := fun n => spec_l02Is.CC (spec_l02Is.cs k n)) (k := k) (spec_l02Is.cuts k) fun x => by kernel_rfl
/-! spec.l01Dec -/
@[reducible] def spec_l01Dec.pc : CutP := [(0, some false, [.fl (.int .i64)])]
@[reducible] def spec_l01Dec.pr : CompPs := [(false, [.fl .str])]
abbrev spec_l01Dec.N := ByteArray
noncomputable def spec_l01Dec.E (k : Nat) : List (FuncId × Go.Rv.Fn) := []
abbrev spec_l01Dec.Cs := (ByteArray → Int → Option spec_l01Dec.N) × (ByteArray → Int → ByteArray → Option spec_l01Dec.N)
def spec_l01Dec.zero : spec_l01Dec.Cs := (fun _ _ => none, fun _ _ _ => none)
noncomputable def spec_l01Dec.step (k : Nat) (c : spec_l01Dec.Cs) : spec_l01Dec.Cs := (fun (x0 : ByteArray) (x1 : Int) => (if 10 = 0 then none else (if 10 = 0 then none else c.2 x0 (wrap64 (x1.tdiv 10)) (sOf [(IntKind.u8.wrap ((wrap64 (48 - (x1.tmod 10)))))]))),
  fun (x0 : ByteArray) (x1 : Int) (x2 : ByteArray) => (if (decide (x1 < 0)) = true then (if 10 = 0 then none else if sFit (sOf [(IntKind.u8.wrap ((wrap64 (48 - (x1.tmod 10)))))]) x2 = true then (if 10 = 0 then none else c.2 x0 (wrap64 (x1.tdiv 10)) (sCat (sOf [(IntKind.u8.wrap ((wrap64 (48 - (x1.tmod 10)))))]) x2)) else none) else if sFit x0 x2 = true then some (sCat x0 x2) else none))
noncomputable def spec_l01Dec.cs (k : Nat) : Nat → spec_l01Dec.Cs
  | 0 => spec_l01Dec.zero
  | n + 1 => spec_l01Dec.step k (spec_l01Dec.cs k n)
def spec_l01Dec.CC (c : spec_l01Dec.Cs) : Cuts spec_l01Dec.N := [(6, ⟨[(3, some false, [.fl .str]), (4, some false, [.fl (.int .i64)])], fun x => c.1 x.1.1 x.2.1.1⟩),
  (18, ⟨[(3, some false, [.fl .str]), (4, some false, [.fl (.int .i64)]), (5, some false, [.fl .str])], fun x => c.2 x.1.1 x.2.1.1 x.2.2.1.1⟩)]
noncomputable def spec_l01Dec.f (k : Nat) (a0 : Int) : Option spec_l01Dec.N := (if (decide (a0 < 0)) = true then (spec_l01Dec.cs k k).1 (ByteArray.mk #[45]) a0 else (spec_l01Dec.cs k k).1 ByteArray.empty (wrap64 (0 - a0)))
noncomputable def spec_l01Dec.F (k : Nat) : Go.Rv.Fn := mkFn 1 spec_l01Dec.pc spec_l01Dec.pr (keepOf []) (fun (y : spec_l01Dec.N) => (((y, ()), ()) : compT spec_l01Dec.pr)) fun x => spec_l01Dec.f k x.1.1
theorem spec_l01Dec.env (k : Nat) : EnvOk Go.Proofs.Tryd.prog (fun f => (spec_l01Dec.E k).lookup f) := envOk_of trivial
theorem spec_l01Dec.cuts (k : Nat) : CutsOk Go.Proofs.Tryd.prog X (fun f => (spec_l01Dec.E k).lookup f) Go.Proofs.Tryd.f37 [] (decN spec_l01Dec.pr (fun (y : compT spec_l01Dec.pr) => (y.1.1 : spec_l01Dec.N))) fun n => spec_l01Dec.CC (spec_l01Dec.cs k n) :=
  cutsOk_of (step := spec_l01Dec.step k) rfl (fun _ => rfl) ⟨fun _ => rfl, fun _ => rfl, trivial⟩ (fun c => by kernel_rfl) fun c => ⟨fun x => by kernel_rfl, fun x => by kernel_rfl, trivial⟩
theorem spec_l01Dec.ok (k : Nat) : FnOk Go.Proofs.Tryd.prog 37 (spec_l01Dec.F k) :=
  fn_ok tab (spec_l01Dec.env k) Go.Proofs.Tryd.func37 rfl (n := 1) (Nat.le_of_ble_eq_true rfl) (by kernel_rfl) (outs := []) (by kernel_rfl) (by kernel_rfl) (d := fun (y : compT spec_l01Dec.pr) => (y.1.1 : spec_l01Dec.N)) (fun _ => rfl) (C := fun n => spec_l01Dec.CC (spec_l01Dec.cs k n)) (k := k) (spec_l01Dec.cuts k) fun x => by kernel_rfl
/-! spec.l02Text -/
@[reducible] def spec_l02Text.pc : CutP := [(0, some false, [.rptr [(.int .i64), (.int .i64), (.int .i64), (.int .i64), (.lo (.pair (.int .i64) (.pair (.int .i64) (.int .i64))))]])]
@[reducible] def spec_l02Text.pr : CompPs := [(false, [.fl .str])]
abbrev spec_l02Text.N := ByteArray
noncomputable def spec_l02Text.E (k : Nat) : List (FuncId × Go.Rv.Fn) := [(37, spec_l01Dec.F k)]
abbrev spec_l02Text.Cs := (Int → Int → Int → Int → List (Int × Int × Int) → ByteArray → Int → Option spec_l02Text.N)
def spec_l02Text.zero : spec_l02Text.Cs := (fun _ _ _ _ _ _ _ => none)
noncomputable def spec_l02Text.step (k : Nat) (c : spec_l02Text.Cs) : spec_l02Text.Cs := (fun (x0 : Int) (x1 : Int) (x2 : Int) (x3 : Int) (x4 : List (Int × Int × Int)) (x5 : ByteArray) (x6 : Int) => (if (decide (x6 < (x4.length : Int))) = true then if 0 ≤ x6 then if x6 < (x4.length : Int) then (spec_l01Dec.f k ((rd (0, (0, 0)) x4 x6).1)).bind fun t5 => if sFit (ByteArray.mk #[59]) t5 = true then if sFit (sCat (ByteArray.mk #[59]) t5) (ByteArray.mk #[58]) = true then (spec_l01Dec.f k (((rd (0, (0, 0)) x4 x6).2).1)).bind fun t6 => if sFit (sCat (sCat (ByteArray.mk #[59]) t5) (ByteArray.mk #[58])) t6 = true then if sFit (sCat (sCat (sCat (ByteArray.mk #[59]) t5) (ByteArray.mk #[58])) t6) (ByteArray.mk #[44]) = true then (spec_l01Dec.f k (((rd (0, (0, 0)) x4 x6).2).2)).bind fun t7 => if sFit (sCat (sCat (sCat (sCat (ByteArray.mk #[59]) t5) (ByteArray.mk #[58])) t6) (ByteArray.mk #[44])) t7 = true then if sFit x5 (sCat (sCat (sCat (sCat (sCat (ByteArray.mk #[59]) t5) (ByteArray.mk #[58])) t6) (ByteArray.mk #[44])) t7) = true then c x0 x1 x2 x3 x4 (sCat x5 (sCat (sCat (sCat (sCat (sCat (ByteArray.mk #[59]) t5) (ByteArray.mk #[58])) t6) (ByteArray.mk #[44])) t7)) (wrap64 (x6 + 1)) else none else none else none else none else none else none else none else none else some x5))
noncomputable def spec_l02Text.cs (k : Nat) : Nat → spec_l02Text.Cs
  | 0 => spec_l02Text.zero
  | n + 1 => spec_l02Text.step k (spec_l02Text.cs k n)
def spec_l02Text.CC (c : spec_l02Text.Cs) : Cuts spec_l02Text.N := [(8, ⟨[(0, some false, [.rptr [(.int .i64), (.int .i64), (.int .i64), (.int .i64), (.lo (.pair (.int .i64) (.pair (.int .i64) (.int .i64))))]]), (3, some false, [.fl .str]), (4, some false, [.fl (.int .i64)])], fun x => c x.1.1.1 x.1.1.2.1 x.1.1.2.2.1 x.1.1.2.2.2.1 x.1.1.2.2.2.2.1 x.2.1.1 x.2.2.1.1⟩)]
noncomputable def spec_l02Text.f (k : Nat) (a0 : Int) (a1 : Int) (a2 : Int) (a3 : Int) (a4 : List (Int × Int × Int)) : Option spec_l02Text.N := (spec_l01Dec.f k a0).bind fun t1 => if sFit t1 (ByteArray.mk #[44]) = true then (spec_l01Dec.f k a1).bind fun t2 => if sFit (sCat t1 (ByteArray.mk #[44])) t2 = true then if sFit (sCat (sCat t1 (ByteArray.mk #[44])) t2) (ByteArray.mk #[44]) = true then (spec_l01Dec.f k a2).bind fun t3 => if sFit (sCat (sCat (sCat t1 (ByteArray.mk #[44])) t2) (ByteArray.mk #[44])) t3 = true then if sFit (sCat (sCat (sCat (sCat t1 (ByteArray.mk #[44])) t2) (ByteArray.mk #[44])) t3) (ByteArray.mk #[44]) = true then (spec_l01Dec.f k a3).bind fun t4 => if sFit (sCat (sCat (sCat (sCat (sCat t1 (ByteArray.mk #[44])) t2) (ByteArray.mk #[44])) t3) (ByteArray.mk #[44])) t4 = true then (spec_l02Text.cs k k) a0 a1 a2 a3 a4 (sCat (sCat (sCat (sCat (sCat (sCat t1 (ByteArray.mk #[44])) t2) (ByteArray.mk #[44])) t3) (ByteArray.mk #[44])) t4) 0 else none else none else none else none else none else none
noncomputable def spec_l02Text.F (k : Nat) : Go.Rv.Fn := mkFn 1 spec_l02Text.pc spec_l02Text.pr (keepOf []) (fun (y : spec_l02Text.N) => (((y, ()), ()) : compT spec_l02Text.pr)) fun x => spec_l02Text.f k x.1.1.1 x.1.1.2.1 x.1.1.2.2.1 x.1.1.2.2.2.1 x.1.1.2.2.2.2.1
theorem spec_l02Text.env (k : Nat) : EnvOk Go.Proofs.Tryd.prog (fun f => (spec_l02Text.E k).lookup f) := envOk_of ⟨entry Go.Proofs.Tryd.call37 rfl (spec_l01Dec.ok k), trivial⟩
theorem spec_l02Text.cuts (k : Nat) : CutsOk Go.Proofs.Tryd.prog X (fun f => (spec_l02Text.E k).lookup f) Go.Proofs.Tryd.f16 [] (decN spec_l02Text.pr (fun (y : compT spec_l02Text.pr) => (y.1.1 : spec_l02Text.N))) fun n => spec_l02Text.CC (spec_l02Text.cs k n) :=
  cutsOk_of (step := spec_l02Text.step k) rfl (fun _ => rfl) ⟨fun _ => rfl, trivial⟩ (fun c => by kernel_rfl) fun c => ⟨fun x => by kernel_rfl, trivial⟩
theorem spec_l02Text.ok (k : Nat) : FnOk Go.Proofs.Tryd.prog 16 (spec_l02Text.F k) :=
  fn_ok tab (spec_l02Text.env k) Go.Proofs.Tryd.func16 rfl (n := 1) (Nat.le_of_ble_eq_true rfl) (by kernel_rfl) (outs := []) (by kernel_rfl) (by kernel_rfl) (d := fun (y : compT spec_l02Text.pr) => (y.1.1 : spec_l02Text.N)) (fun _ => rfl) (C := fun n => spec_l02Text.CC (spec_l02Text.cs k n)) (k := k) (spec_l02Text.cuts k) fun x => by kernel_rfl
/-! spec.AxisText -/
@[reducible] def spec_AxisText.pc : CutP := [(0, some true, [.fl (.int .i64), .fl (.int .i64), .fl (.int .i64), .fl (.int .i64), .fl (.lo (.pair (.int .i64) (.pair (.int .i64) (.int .i64))))])]
@[reducible] def spec_AxisText.pr : CompPs := [(false, [.fl .str]), (false, [.fl .bool])]
abbrev spec_AxisText.N := ByteArray × Bool
noncomputable def spec_AxisText.E (k : Nat) : List (FuncId × Go.Rv.Fn) := [(15, spec_l02Is.F k), (16, spec_l02Text.F k)]
noncomputable def spec_AxisText.f (k : Nat) (a0 : Int) (a1 : Int) (a2 : Int) (a3 : Int) (a4 : List (Int × Int × Int)) : Option spec_AxisText.N := (spec_l02Is.f k a0 a1 a2 a3 a4).bind fun t1 => (if (!t1) = true then some (ByteArray.empty, false) else (spec_l02Text.f k a0 a1 a2 a3 a4).bind fun t2 => some (t2, true))
noncomputable def spec_AxisText.F (k : Nat) : Go.Rv.Fn := mkFn 1 spec_AxisText.pc spec_AxisText.pr (keepOf []) (fun (y : spec_AxisText.N) => (((y.1, ()), (y.2, ()), ()) : compT spec_AxisText.pr)) fun x => spec_AxisText.f k x.1.1 x.1.2.1 x.1.2.2.1 x.1.2.2.2.1 x.1.2.2.2.2.1
theorem spec_AxisText.env (k : Nat) : EnvOk Go.Proofs.Tryd.prog (fun f => (spec_AxisText.E k).lookup f) := envOk_of ⟨entry Go.Proofs.Tryd.call15 rfl (spec_l02Is.ok k), entry Go.Proofs.Tryd.call16 rfl (spec_l02Text.ok k), trivial⟩
theorem spec_AxisText.ok (k : Nat) : FnOk Go.Proofs.Tryd.prog 6 (spec_AxisText.F k) :=
  fn_ok tab (spec_AxisText.env k) Go.Proofs.Tryd.func6 rfl (n := 1) (Nat.le_of_ble_eq_true rfl) (by kernel_rfl) (outs := []) (by kernel_rfl) (by kernel_rfl) (d := fun (y : compT spec_AxisText.pr) => ((y.1.1, y.2.1.1) : spec_AxisText.N)) (fun _ => rfl) (C := fun _ => []) (k := k) noCuts fun x => by kernel_rfl
/-! impl.within -/
@[reducible] def impl_within.pc : CutP := [(0, some false, [.fl (.int .i64)]), (1, some false, [.fl (.int .i64)]), (2, some false, [.fl (.int .i64)])]
@[reducible] def impl_within.pr : CompPs := [(false, [.fl .bool])]
abbrev impl_within.N := Bool
noncomputable def impl_within.E (k : Nat) : List (FuncId × Go.Rv.Fn) := []
noncomputable def impl_within.f (k : Nat) (a0 : Int) (a1 : Int) (a2 : Int) : Option impl_within.N := (if (decide (a1 ≤ a0)) = true then some (decide (a0 ≤ a2)) else some false)
noncomputable def impl_within.F (k : Nat) : Go.Rv.Fn := mkFn 3 impl_within.pc impl_within.pr (keepOf []) (fun (y : impl_within.N) => (((y, ()), ()) : compT impl_within.pr)) fun x => impl_within.f k x.1.1 x.2.1.1 x.2.2.1.1
theorem impl_within.env (k : Nat) : EnvOk Go.Proofs.Tryd.prog (fun f => (impl_within.E k).lookup f) := envOk_of trivial
theorem impl_within.ok (k : Nat) : FnOk Go.Proofs.Tryd.prog 47 (impl_within.F k) :=
  fn_ok tab (impl_within.env k) Go.Proofs.Tryd.func47 rfl (n := 3) (Nat.le_of_ble_eq_true rfl) (by kernel_rfl) (outs := []) (by kernel_rfl) (by kernel_rfl) (d := fun (y : compT impl_within.pr) => (y.1.1 : impl_within.N)) (fun _ => rfl) (C := fun _ => []) (k := k) noCuts fun x => by kernel_rfl
/-! impl.areWithin$1 -/
@[reducible] def impl_areWithin_1.pc : CutP := [(0, some false, [.fl (.int .i64)]), (1, some false, [.rptr [(.int .i64)]]), (2, some false, [.rptr [(.int .i64)]])]
@[reducible] def impl_areWithin_1.pr : CompPs := [(false, [.fl .bool])]
abbrev impl_areWithin_1.N := Bool
noncomputable def impl_areWithin_1.E (k : Nat) : List (FuncId × Go.Rv.Fn) := [(47, impl_within.F k)]
noncomputable def impl_areWithin_1.f (k : Nat) (a0 : Int) (a1 : Int) (a2 : Int) : Option impl_areWithin_1.N := (impl_within.f k a0 a1 a2).bind fun t1 => some (!t1)
noncomputable def impl_areWithin_1.F (k : Nat) : Go.Rv.Fn := mkFn 3 impl_areWithin_1.pc impl_areWithin_1.pr (keepOf []) (fun (y : impl_areWithin_1.N) => (((y, ()), ()) : compT impl_areWithin_1.pr)) fun x => impl_areWithin_1.f k x.1.1 x.2.1.1.1 x.2.2.1.1.1
theorem impl_areWithin_1.env (k : Nat) : EnvOk Go.Proofs.Tryd.prog (fun f => (impl_areWithin_1.E k).lookup f) := envOk_of ⟨entry Go.Proofs.Tryd.call47 rfl (impl_within.ok k), trivial⟩
theorem impl_areWithin_1.ok (k : Nat) : FnOk Go.Proofs.Tryd.prog 76 (impl_areWithin_1.F k) :=
  fn_ok tab (impl_areWithin_1.env k) Go.Proofs.Tryd.func76 rfl (n := 3) (Nat.le_of_ble_eq_true rfl) (by kernel_rfl) (outs := []) (by kernel_rfl) (by kernel_rfl) (d := fun (y : compT impl_areWithin_1.pr) => (y.1.1 : impl_areWithin_1.N)) (fun _ => rfl) (C := fun _ => []) (k := k) noCuts fun x => by kernel_rfl
/-! slices.IndexFunc[[]int64,int64] -/
@[reducible] def slices_IndexFunc_int64_areWithin_1.pc : CutP := [(0, some false, [.fl (.lo (.int .i64))]), (1, some false, [.fn 76 [[(.int .i64)], [(.int .i64)]]])]
@[reducible] def slices_IndexFunc_int64_areWithin_1.pr : CompPs := [(false, [.fl (.int .i64)])]
abbrev slices_IndexFunc_int64_areWithin_1.N := Int
noncomputable def slices_IndexFunc_int64_areWithin_1.E (k : Nat) : List (FuncId × Go.Rv.Fn) := [(76, impl_areWithin_1.F k)]
abbrev slices_IndexFunc_int64_areWithin_1.Cs := (List Int → Int → Int → Int → Int → Option slices_IndexFunc_int64_areWithin_1.N)
def slices_IndexFunc_int64_areWithin_1.zero : slices_IndexFunc_int64_areWithin_1.Cs := (fun _ _ _ _ _ => none)
noncomputable def slices_IndexFunc_int64_areWithin_1.step (k : Nat) (c : slices_IndexFunc_int64_areWithin_1.Cs) : slices_IndexFunc_int64_areWithin_1.Cs := (fun (x0 : List Int) (x1 : Int) (x2 : Int) (x3 : Int) (x4 : Int) => (if (decide (x4 < x3)) = true then if 0 ≤ x4 then if x4 < (x0.length : Int) then (impl_areWithin_1.f k (rd 0 x0 x4) x1 x2).bind fun t1 => (if t1 = true then some x4 else c x0 x1 x2 x3 (wrap64 (x4 + 1))) else none else none else some (-1)))
noncomputable def slices_IndexFunc_int64_areWithin_1.cs (k : Nat) : Nat → slices_IndexFunc_int64_areWithin_1.Cs
  | 0 => slices_IndexFunc_int64_areWithin_1.zero
  | n + 1 => slices_IndexFunc_int64_areWithin_1.step k (slices_IndexFunc_int64_areWithin_1.cs k n)
def slices_IndexFunc_int64_areWithin_1.CC (c : slices_IndexFunc_int64_areWithin_1.Cs) : Cuts slices_IndexFunc_int64_areWithin_1.N := [(6, ⟨[(0, some false, [.fl (.lo (.int .i64))]), (1, some false, [.fn 76 [[(.int .i64)], [(.int .i64)]]]), (7, some false, [.fl (.int .i64)]), (8, some false, [.fl (.int .i64)])], fun x => c x.1.1 x.2.1.1.1.1 x.2.1.1.2.1.1 x.2.2.1.1 x.2.2.2.1.1⟩)]
noncomputable def slices_IndexFunc_int64_areWithin_1.f (k : Nat) (a0 : List Int) (a1 : Int) (a2 : Int) : Option slices_IndexFunc_int64_areWithin_1.N := (slices_IndexFunc_int64_areWithin_1.cs k k) a0 a1 a2 (a0.length : Int) 0
noncomputable def slices_IndexFunc_int64_areWithin_1.F (k : Nat) : Go.Rv.Fn := mkFn 2 slices_IndexFunc_int64_areWithin_1.pc slices_IndexFunc_int64_areWithin_1.pr (keepOf []) (fun (y : slices_IndexFunc_int64_areWithin_1.N) => (((y, ()), ()) : compT slices_IndexFunc_int64_areWithin_1.pr)) fun x => slices_IndexFunc_int64_areWithin_1.f k x.1.1 x.2.1.1.1.1 x.2.1.1.2.1.1
theorem slices_IndexFunc_int64_areWithin_1.env (k : Nat) : EnvOk Go.Proofs.Tryd.prog (fun f => (slices_IndexFunc_int64_areWithin_1.E k).lookup f) := envOk_of ⟨entry Go.Proofs.Tryd.call76 rfl (impl_areWithin_1.ok k), trivial⟩
theorem slices_IndexFunc_int64_areWithin_1.cuts (k : Nat) : CutsOk Go.Proofs.Tryd.prog X (fun f => (slices_IndexFunc_int64_areWithin_1.E k).lookup f) Go.Proofs.Tryd.f92 [] (decN slices_IndexFunc_int64_areWithin_1.pr (fun (y : compT slices_IndexFunc_int64_areWithin_1.pr) => (y.1.1 : slices_IndexFunc_int64_areWithin_1.N))) fun n => slices_IndexFunc_int64_areWithin_1.CC (slices_IndexFunc_int64_areWithin_1.cs k n) :=
  cutsOk_of (step := slices_IndexFunc_int64_areWithin_1.step k) rfl (fun _ => rfl) ⟨fun _ => rfl, trivial⟩ (fun c => by kernel_rfl) fun c => ⟨fun x => by kernel_rfl, trivial⟩
theorem slices_IndexFunc_int64_areWithin_1.ok (k : Nat) : FnOk Go.Proofs.Tryd.prog 92 (slices_IndexFunc_int64_areWithin_1.F k) :=
  fn_ok tab (slices_IndexFunc_int64_areWithin_1.env k) Go.Proofs.Tryd.func92 rfl (n := 2) (Nat.le_of_ble_eq_true rfl) (by kernel_rfl) (outs := []) (by kernel_rfl) (by kernel_rfl) (d := fun (y : compT slices_IndexFunc_int64_areWithin_1.pr) => (y.1.1 : slices_IndexFunc_int64_areWithin_1.N)) (fun _ => rfl) (C := fun n => slices_IndexFunc_int64_areWithin_1.CC (slices_IndexFunc_int64_areWithin_1.cs k n)) (k := k) (slices_IndexFunc_int64_areWithin_1.cuts k) fun x => by kernel_rfl
/-! slices.ContainsFunc[[]int64,int64] -/
@[reducible] def slices_ContainsFunc_int64_areWithin_1.pc : CutP := [(0, some false, [.fl (.lo (.int .i64))]), (1, some false, [.fn 76 [[(.int .i64)], [(.int .i64)]]])]
@[reducible] def slices_ContainsFunc_int64_areWithin_1.pr : CompPs := [(false, [.fl .bool])]
abbrev slices_ContainsFunc_int64_areWithin_1.N := Bool
noncomputable def slices_ContainsFunc_int64_areWithin_1.E (k : Nat) : List (FuncId × Go.Rv.Fn) := [(92, slices_IndexFunc_int64_areWithin_1.F k)]
noncomputable def slices_ContainsFunc_int64_areWithin_1.f (k : Nat) (a0 : List Int) (a1 : Int) (a2 : Int) : Option slices_ContainsFunc_int64_areWithin_1.N := (slices_IndexFunc_int64_areWithin_1.f k a0 a1 a2).bind fun (t1 : Int) => some (decide (0 ≤ t1))
noncomputable def slices_ContainsFunc_int64_areWithin_1.F (k : Nat) : Go.Rv.Fn := mkFn 2 slices_ContainsFunc_int64_areWithin_1.pc slices_ContainsFunc_int64_areWithin_1.pr (keepOf []) (fun (y : slices_ContainsFunc_int64_areWithin_1.N) => (((y, ()), ()) : compT slices_ContainsFunc_int64_areWithin_1.pr)) fun x => slices_ContainsFunc_int64_areWithin_1.f k x.1.1 x.2.1.1.1.1 x.2.1.1.2.1.1
theorem slices_ContainsFunc_int64_areWithin_1.env (k : Nat) : EnvOk Go.Proofs.Tryd.prog (fun f => (slices_ContainsFunc_int64_areWithin_1.E k).lookup f) := envOk_of ⟨entry Go.Proofs.Tryd.call92 rfl (slices_IndexFunc_int64_areWithin_1.ok k), trivial⟩
theorem slices_ContainsFunc_int64_areWithin_1.ok (k : Nat) : FnOk Go.Proofs.Tryd.prog 75 (slices_ContainsFunc_int64_areWithin_1.F k) :=
  fn_ok tab (slices_ContainsFunc_int64_areWithin_1.env k) Go.Proofs.Tryd.func75 rfl (n := 2) (Nat.le_of_ble_eq_true rfl) (by kernel_rfl) (outs := []) (by kernel_rfl) (by kernel_rfl) (d := fun (y : compT slices_ContainsFunc_int64_areWithin_1.pr) => (y.1.1 : slices_ContainsFunc_int64_areWithin_1.N)) (fun _ => rfl) (C := fun _ => []) (k := k) noCuts fun x => by kernel_rfl
/-! impl.areWithin -/
@[reducible] def impl_areWithin.pc : CutP := [(0, some false, [.fl (.lo (.int .i64))]), (1, some false, [.fl (.int .i64)]), (2, some false, [.fl (.int .i64)])]
@[reducible] def impl_areWithin.pr : CompPs := [(false, [.fl .bool])]
abbrev impl_areWithin.N := Bool
noncomputable def impl_areWithin.E (k : Nat) : List (FuncId × Go.Rv.Fn) := [(75, slices_ContainsFunc_int64_areWithin_1.F k)]
noncomputable def impl_areWithin.f (k : Nat) (a0 : List Int) (a1 : Int) (a2 : Int) : Option impl_areWithin.N := (slices_ContainsFunc_int64_areWithin_1.f k a0 a1 a2).bind fun t1 => some (!t1)
noncomputable def impl_areWithin.F (k : Nat) : Go.Rv.Fn := mkFn 3 impl_areWithin.pc impl_areWithin.pr (keepOf []) (fun (y : impl_areWithin.N) => (((y, ()), ()) : compT impl_areWithin.pr)) fun x => impl_areWithin.f k x.1.1 x.2.1.1 x.2.2.1.1
theorem impl_areWithin.env (k : Nat) : EnvOk Go.Proofs.Tryd.prog (fun f => (impl_areWithin.E k).lookup f) := envOk_of ⟨entry Go.Proofs.Tryd.call75 rfl (slices_ContainsFunc_int64_areWithin_1.ok k), trivial⟩
theorem impl_areWithin.ok (k : Nat) : FnOk Go.Proofs.Tryd.prog 59 (impl_areWithin.F k) :=
  fn_ok tab (impl_areWithin.env k) Go.Proofs.Tryd.func59 rfl (n := 3) (Nat.le_of_ble_eq_true rfl) (by kernel_rfl) (outs := []) (by kernel_rfl) (by kernel_rfl) (d := fun (y : compT impl_areWithin.pr) => (y.1.1 : impl_areWithin.N)) (fun _ => rfl) (C := fun _ => []) (k := k) noCuts fun x => by kernel_rfl
/-! impl.ValidPose -/
@[reducible] def impl_ValidPose.pc : CutP := [(0, some true, [.fl (.int .i64), .fl (.int .i64), .fl (.int .i64), .fl (.int .i64)])]
@[reducible] def impl_ValidPose.pr : CompPs := [(false, [.fl .bool])]
abbrev impl_ValidPose.N := Bool
noncomputable def impl_ValidPose.E (k : Nat) : List (FuncId × Go.Rv.Fn) := [(59, impl_areWithin.F k)]
noncomputable def impl_ValidPose.f (k : Nat) (a0 : Int) (a1 : Int) (a2 : Int) (a3 : Int) : Option impl_ValidPose.N := (impl_areWithin.f k [a0, a1] (-100000) 100000).bind fun t1 => (if t1 = true then (impl_areWithin.f k [a2, a3] (-400) 400).bind fun t2 => some t2 else some false)
noncomputable def impl_ValidPose.F (k : Nat) : Go.Rv.Fn := mkFn 1 impl_ValidPose.pc impl_ValidPose.pr (keepOf []) (fun (y : impl_ValidPose.N) => (((y, ()), ()) : compT impl_ValidPose.pr)) fun x => impl_ValidPose.f k x.1.1 x.1.2.1 x.1.2.2.1 x.1.2.2.2.1
theorem impl_ValidPose.env (k : Nat) : EnvOk Go.Proofs.Tryd.prog (fun f => (impl_ValidPose.E k).lookup f) := envOk_of ⟨entry Go.Proofs.Tryd.call59 rfl (impl_areWithin.ok k), trivial⟩
theorem impl_ValidPose.ok (k : Nat) : FnOk Go.Proofs.Tryd.prog 46 (impl_ValidPose.F k) :=
  fn_ok tab (impl_ValidPose.env k) Go.Proofs.Tryd.func46 rfl (n := 1) (Nat.le_of_ble_eq_true rfl) (by kernel_rfl) (outs := []) (by kernel_rfl) (by kernel_rfl) (d := fun (y : compT impl_ValidPose.pr) => (y.1.1 : impl_ValidPose.N)) (fun _ => rfl) (C := fun _ => []) (k := k) noCuts fun x => by kernel_rfl
/-! impl.isTurn -/
@[reducible] def impl_isTurn.pc : CutP := [(0, some false, [.fl (.int .i64)]), (1, some false, [.fl (.int .i64)])]
@[reducible] def impl_isTurn.pr : CompPs := [(false, [.fl .bool])]
abbrev impl_isTurn.N := Bool
noncomputable def impl_isTurn.E (k : Nat) : List (FuncId × Go.Rv.Fn) := [(59, impl_areWithin.F k)]
noncomputable def impl_isTurn.f (k : Nat) (a0 : Int) (a1 : Int) : Option impl_isTurn.N := (impl_areWithin.f k [a0, a1] (-12) 12).bind fun t1 => some t1
noncomputable def impl_isTurn.F (k : Nat) : Go.Rv.Fn := mkFn 2 impl_isTurn.pc impl_isTurn.pr (keepOf []) (fun (y : impl_isTurn.N) => (((y, ()), ()) : compT impl_isTurn.pr)) fun x => impl_isTurn.f k x.1.1 x.2.1.1
theorem impl_isTurn.env (k : Nat) : EnvOk Go.Proofs.Tryd.prog (fun f => (impl_isTurn.E k).lookup f) := envOk_of ⟨entry Go.Proofs.Tryd.call59 rfl (impl_areWithin.ok k), trivial⟩
theorem impl_isTurn.ok (k : Nat) : FnOk Go.Proofs.Tryd.prog 48 (impl_isTurn.F k) :=
  fn_ok tab (impl_isTurn.env k) Go.Proofs.Tryd.func48 rfl (n := 2) (Nat.le_of_ble_eq_true rfl) (by kernel_rfl) (outs := []) (by kernel_rfl) (by kernel_rfl) (d := fun (y : compT impl_isTurn.pr) => (y.1.1 : impl_isTurn.N)) (fun _ => rfl) (C := fun _ => []) (k := k) noCuts fun x => by kernel_rfl
/-! (impl.Pose).next -/
@[reducible] def impl_Pose_next.pc : CutP := [(0, some true, [.fl (.int .i64), .fl (.int .i64), .fl (.int .i64), .fl (.int .i64)]), (1, some false, [.fl (.int .i64)]), (2, some false, [.fl (.int .i64)])]
@[reducible] def impl_Pose_next.pr : CompPs := [(true, [.fl (.int .i64), .fl (.int .i64), .fl (.int .i64), .fl (.int .i64)])]
abbrev impl_Pose_next.N := Int × Int × Int × Int
noncomputable def impl_Pose_next.E (k : Nat) : List (FuncId × Go.Rv.Fn) := []
noncomputable def impl_Pose_next.f (k : Nat) (a0 : Int) (a1 : Int) (a2 : Int) (a3 : Int) (a4 : Int) (a5 : Int) : Option impl_Pose_next.N := some ((wrap64 (a0 + a2)), (wrap64 (a1 + a3)), (wrap64 (a2 + a4)), (wrap64 (a3 + a5)))
noncomputable def impl_Pose_next.F (k : Nat) : Go.Rv.Fn := mkFn 3 impl_Pose_next.pc impl_Pose_next.pr (keepOf []) (fun (y : impl_Pose_next.N) => (((y.1, y.2.1, y.2.2.1, y.2.2.2, ()), ()) : compT impl_Pose_next.pr)) fun x => impl_Pose_next.f k x.1.1 x.1.2.1 x.1.2.2.1 x.1.2.2.2.1 x.2.1.1 x.2.2.1.1
theorem impl_Pose_next.env (k : Nat) : EnvOk Go.Proofs.Tryd.prog (fun f => (impl_Pose_next.E k).lookup f) := envOk_of trivial
theorem impl_Pose_next.ok (k : Nat) : FnOk Go.Proofs.Tryd.prog 49 (impl_Pose_next.F k) :=
  fn_ok tab (impl_Pose_next.env k) Go.Proofs.Tryd.func49 rfl (n := 3) (Nat.le_of_ble_eq_true rfl) (by kernel_rfl) (outs := []) (by kernel_rfl) (by kernel_rfl) (d := fun (y : compT impl_Pose_next.pr) => ((y.1.1, y.1.2.1, y.1.2.2.1, y.1.2.2.2.1) : impl_Pose_next.N)) (fun _ => rfl) (C := fun _ => []) (k := k) noCuts fun x => by kernel_rfl
/-! (impl.Axis).poses -/
@[reducible] def impl_Axis_poses.pc : CutP := [(0, some true, [.fl (.int .i64), .fl (.int .i64), .fl (.int .i64), .fl (.int .i64), .fl (.lo (.pair (.int .i64) (.pair (.int .i64) (.int .i64))))])]
@[reducible] def impl_Axis_poses.pr : CompPs := [(false, [.fl (.own (.pair (.int .i64) (.pair (.int .i64) (.pair (.int .i64) (.int .i64)))))]), (false, [.fl .bool])]
abbrev impl_Axis_poses.N := List (Int × Int × Int × Int) × Bool
noncomputable def impl_Axis_poses.E (k : Nat) : List (FuncId × Go.Rv.Fn) := [(46, impl_ValidPose.F k), (47, impl_within.F k), (48, impl_isTurn.F k), (49, impl_Pose_next.F k)]
abbrev impl_Axis_poses.Cs := (Int → Int → Int → Int → List (Int × Int × Int) → List (Int × Int × Int × Int) → Option impl_Axis_poses.N) × (List (Int × Int × Int × Int) → List (Int × Int × Int) → Int → Int → Option impl_Axis_poses.N) × (List (Int × Int × Int × Int) → Int → Int → Int → List (Int × Int × Int) → Int → Int → Option impl_Axis_poses.N) × (List (Int × Int × Int × Int) → Int → Int → Int → List (Int × Int × Int) → Int → Int → Int → Int → Option impl_Axis_poses.N)
def impl_Axis_poses.zero : impl_Axis_poses.Cs := (fun _ _ _ _ _ _ => none, fun _ _ _ _ => none, fun _ _ _ _ _ _ _ => none, fun _ _ _ _ _ _ _ _ _ => none)
noncomputable def impl_Axis_poses.step (k : Nat) (c : impl_Axis_poses.Cs) : impl_Axis_poses.Cs := (fun (x0 : Int) (x1 : Int) (x2 : Int) (x3 : Int) (x4 : List (Int × Int × Int)) (x5 : List (Int × Int × Int × Int)) => c.2.1 x5 x4 (x4.length : Int) 0,
  fun (x0 : List (Int × Int × Int × Int)) (x1 : List (Int × Int × Int)) (x2 : Int) (x3 : Int) => (if (decide (x3 < x2)) = true then if 0 ≤ x3 then if x3 < (x1.length : Int) then (impl_within.f k ((rd (0, (0, 0)) x1 x3).1) 1 60).bind fun t3 => (if (!t3) = true then some ([], false) else (impl_isTurn.f k (((rd (0, (0, 0)) x1 x3).2).1) (((rd (0, (0, 0)) x1 x3).2).2)).bind fun t4 => (if (!t4) = true then some ([], false) else (if (decide (61 < (wrap64 ((x0.length : Int) + (rd (0, (0, 0)) x1 x3).1)))) = true then some ([], false) else c.2.2.1 x0 ((rd (0, (0, 0)) x1 x3).1) (((rd (0, (0, 0)) x1 x3).2).1) (((rd (0, (0, 0)) x1 x3).2).2) x1 x2 x3))) else none else none else some (x0, true)),
  fun (x0 : List (Int × Int × Int × Int)) (x1 : Int) (x2 : Int) (x3 : Int) (x4 : List (Int × Int × Int)) (x5 : Int) (x6 : Int) => c.2.2.2 x0 x1 x2 x3 x4 x5 x6 x1 0,
  fun (x0 : List (Int × Int × Int × Int)) (x1 : Int) (x2 : Int) (x3 : Int) (x4 : List (Int × Int × Int)) (x5 : Int) (x6 : Int) (x7 : Int) (x8 : Int) => (if (decide (x8 < x7)) = true then if 0 ≤ (wrap64 ((x0.length : Int) - 1)) then if (wrap64 ((x0.length : Int) - 1)) < (x0.length : Int) then (impl_Pose_next.f k ((rd (0, (0, (0, 0))) x0 (wrap64 ((x0.length : Int) - 1))).1) (((rd (0, (0, (0, 0))) x0 (wrap64 ((x0.length : Int) - 1))).2).1) ((((rd (0, (0, (0, 0))) x0 (wrap64 ((x0.length : Int) - 1))).2).2).1) ((((rd (0, (0, (0, 0))) x0 (wrap64 ((x0.length : Int) - 1))).2).2).2) x2 x3).bind fun t5 => (impl_ValidPose.f k t5.1 t5.2.1 t5.2.2.1 t5.2.2.2).bind fun t6 => (if (!t6) = true then some ([], false) else if x0.length + [t5].length < 274877906944 then c.2.2.2 (x0 ++ [t5]) x1 x2 x3 x4 x5 x6 x7 (wrap64 (x8 + 1)) else none) else none else none else c.2.1 x0 x4 x5 (wrap64 (x6 + 1))))
noncomputable def impl_Axis_poses.cs (k : Nat) : Nat → impl_Axis_poses.Cs
  | 0 => impl_Axis_poses.zero
  | n + 1 => impl_Axis_poses.step k (impl_Axis_poses.cs k n)
def impl_Axis_poses.CC (c : impl_Axis_poses.Cs) : Cuts impl_Axis_poses.N := [(4, ⟨[(1, none, [.fl (.int .i64), .fl (.int .i64), .fl (.int .i64), .fl (.int .i64), .fl (.lo (.pair (.int .i64) (.pair (.int .i64) (.int .i64))))]), (4, some false, [.fl (.own (.pair (.int .i64) (.pair (.int .i64) (.pair (.int .i64) (.int .i64)))))])], fun x => c.1 x.1.1 x.1.2.1 x.1.2.2.1 x.1.2.2.2.1 x.1.2.2.2.2.1 x.2.1.1⟩),
  (16, ⟨[(4, some false, [.fl (.own (.pair (.int .i64) (.pair (.int .i64) (.pair (.int .i64) (.int .i64)))))]), (23, some false, [.fl (.lo (.pair (.int .i64) (.pair (.int .i64) (.int .i64))))]), (24, some false, [.fl (.int .i64)]), (25, some false, [.fl (.int .i64)])], fun x => c.2.1 x.1.1 x.2.1.1 x.2.2.1.1 x.2.2.2.1.1⟩),
  (27, ⟨[(4, some false, [.fl (.own (.pair (.int .i64) (.pair (.int .i64) (.pair (.int .i64) (.int .i64)))))]), (6, none, [.fl (.int .i64), .fl (.int .i64), .fl (.int .i64)]), (23, some false, [.fl (.lo (.pair (.int .i64) (.pair (.int .i64) (.int .i64))))]), (24, some false, [.fl (.int .i64)]), (25, some false, [.fl (.int .i64)])], fun x => c.2.2.1 x.1.1 x.2.1.1 x.2.1.2.1 x.2.1.2.2.1 x.2.2.1.1 x.2.2.2.1.1 x.2.2.2.2.1.1⟩),
  (38, ⟨[(4, some false, [.fl (.own (.pair (.int .i64) (.pair (.int .i64) (.pair (.int .i64) (.int .i64)))))]), (6, none, [.fl (.int .i64), .fl (.int .i64), .fl (.int .i64)]), (23, some false, [.fl (.lo (.pair (.int .i64) (.pair (.int .i64) (.int .i64))))]), (24, some false, [.fl (.int .i64)]), (25, some false, [.fl (.int .i64)]), (50, some false, [.fl (.int .i64)]), (51, some false, [.fl (.int .i64)])], fun x => c.2.2.2 x.1.1 x.2.1.1 x.2.1.2.1 x.2.1.2.2.1 x.2.2.1.1 x.2.2.2.1.1 x.2.2.2.2.1.1 x.2.2.2.2.2.1.1 x.2.2.2.2.2.2.1.1⟩)]
noncomputable def impl_Axis_poses.f (k : Nat) (a0 : Int) (a1 : Int) (a2 : Int) (a3 : Int) (a4 : List (Int × Int × Int)) : Option impl_Axis_poses.N := (impl_ValidPose.f k a0 a1 a2 a3).bind fun t1 => (if (!t1) = true then some ([], false) else (impl_within.f k (a4.length : Int) 1 8).bind fun t2 => (if (!t2) = true then some ([], false) else (impl_Axis_poses.cs k k).1 a0 a1 a2 a3 a4 [(a0, (a1, (a2, a3)))]))
noncomputable def impl_Axis_poses.F (k : Nat) : Go.Rv.Fn := mkFn 1 impl_Axis_poses.pc impl_Axis_poses.pr (keepOf []) (fun (y : impl_Axis_poses.N) => (((y.1, ()), (y.2, ()), ()) : compT impl_Axis_poses.pr)) fun x => impl_Axis_poses.f k x.1.1 x.1.2.1 x.1.2.2.1 x.1.2.2.2.1 x.1.2.2.2.2.1
theorem impl_Axis_poses.env (k : Nat) : EnvOk Go.Proofs.Tryd.prog (fun f => (impl_Axis_poses.E k).lookup f) := envOk_of ⟨entry Go.Proofs.Tryd.call46 rfl (impl_ValidPose.ok k), entry Go.Proofs.Tryd.call47 rfl (impl_within.ok k), entry Go.Proofs.Tryd.call48 rfl (impl_isTurn.ok k), entry Go.Proofs.Tryd.call49 rfl (impl_Pose_next.ok k), trivial⟩
theorem impl_Axis_poses.cuts (k : Nat) : CutsOk Go.Proofs.Tryd.prog X (fun f => (impl_Axis_poses.E k).lookup f) Go.Proofs.Tryd.f39 [] (decN impl_Axis_poses.pr (fun (y : compT impl_Axis_poses.pr) => ((y.1.1, y.2.1.1) : impl_Axis_poses.N))) fun n => impl_Axis_poses.CC (impl_Axis_poses.cs k n) :=
  cutsOk_of (step := impl_Axis_poses.step k) rfl (fun _ => rfl) ⟨fun _ => rfl, fun _ => rfl, fun _ => rfl, fun _ => rfl, trivial⟩ (fun c => by kernel_rfl) fun c => ⟨fun x => by kernel_rfl, fun x => by kernel_rfl, fun x => by kernel_rfl, fun x => by kernel_rfl, trivial⟩
theorem impl_Axis_poses.ok (k : Nat) : FnOk Go.Proofs.Tryd.prog 39 (impl_Axis_poses.F k) :=
  fn_ok tab (impl_Axis_poses.env k) Go.Proofs.Tryd.func39 rfl (n := 1) (Nat.le_of_ble_eq_true rfl) (by kernel_rfl) (outs := []) (by kernel_rfl) (by kernel_rfl) (d := fun (y : compT impl_Axis_poses.pr) => ((y.1.1, y.2.1.1) : impl_Axis_poses.N)) (fun _ => rfl) (C := fun n => impl_Axis_poses.CC (impl_Axis_poses.cs k n)) (k := k) (impl_Axis_poses.cuts k) fun x => by kernel_rfl
/-! impl.ValidAxis -/
@[reducible] def impl_ValidAxis.pc : CutP := [(0, some true, [.fl (.int .i64), .fl (.int .i64), .fl (.int .i64), .fl (.int .i64), .fl (.lo (.pair (.int .i64) (.pair (.int .i64) (.int .i64))))])]
@[reducible] def impl_ValidAxis.pr : CompPs := [(false, [.fl .bool])]
abbrev impl_ValidAxis.N := Bool
noncomputable def impl_ValidAxis.E (k : Nat) : List (FuncId × Go.Rv.Fn) := [(39, impl_Axis_poses.F k)]
noncomputable def impl_ValidAxis.f (k : Nat) (a0 : Int) (a1 : Int) (a2 : Int) (a3 : Int) (a4 : List (Int × Int × Int)) : Option impl_ValidAxis.N := (impl_Axis_poses.f k a0 a1 a2 a3 a4).bind fun t1 => some t1.2
noncomputable def impl_ValidAxis.F (k : Nat) : Go.Rv.Fn := mkFn 1 impl_ValidAxis.pc impl_ValidAxis.pr (keepOf []) (fun (y : impl_ValidAxis.N) => (((y, ()), ()) : compT impl_ValidAxis.pr)) fun x => impl_ValidAxis.f k x.1.1 x.1.2.1 x.1.2.2.1 x.1.2.2.2.1 x.1.2.2.2.2.1
theorem impl_ValidAxis.env (k : Nat) : EnvOk Go.Proofs.Tryd.prog (fun f => (impl_ValidAxis.E k).lookup f) := envOk_of ⟨entry Go.Proofs.Tryd.call39 rfl (impl_Axis_poses.ok k), trivial⟩
theorem impl_ValidAxis.ok (k : Nat) : FnOk Go.Proofs.Tryd.prog 19 (impl_ValidAxis.F k) :=
  fn_ok tab (impl_ValidAxis.env k) Go.Proofs.Tryd.func19 rfl (n := 1) (Nat.le_of_ble_eq_true rfl) (by kernel_rfl) (outs := []) (by kernel_rfl) (by kernel_rfl) (d := fun (y : compT impl_ValidAxis.pr) => (y.1.1 : impl_ValidAxis.N)) (fun _ => rfl) (C := fun _ => []) (k := k) noCuts fun x => by kernel_rfl
/-! (impl.Pose).numbers -/
@[reducible] def impl_Pose_numbers.pc : CutP := [(0, some true, [.fl (.int .i64), .fl (.int .i64), .fl (.int .i64), .fl (.int .i64)])]
@[reducible] def impl_Pose_numbers.pr : CompPs := [(false, [.fl (.own (.int .i64))])]
abbrev impl_Pose_numbers.N := List Int
noncomputable def impl_Pose_numbers.E (k : Nat) : List (FuncId × Go.Rv.Fn) := []
noncomputable def impl_Pose_numbers.f (k : Nat) (a0 : Int) (a1 : Int) (a2 : Int) (a3 : Int) : Option impl_Pose_numbers.N := some [a0, a1, a2, a3]
noncomputable def impl_Pose_numbers.F (k : Nat) : Go.Rv.Fn := mkFn 1 impl_Pose_numbers.pc impl_Pose_numbers.pr (keepOf []) (fun (y : impl_Pose_numbers.N) => (((y, ()), ()) : compT impl_Pose_numbers.pr)) fun x => impl_Pose_numbers.f k x.1.1 x.1.2.1 x.1.2.2.1 x.1.2.2.2.1
theorem impl_Pose_numbers.env (k : Nat) : EnvOk Go.Proofs.Tryd.prog (fun f => (impl_Pose_numbers.E k).lookup f) := envOk_of trivial
theorem impl_Pose_numbers.ok (k : Nat) : FnOk Go.Proofs.Tryd.prog 21 (impl_Pose_numbers.F k) :=
  fn_ok tab (impl_Pose_numbers.env k) Go.Proofs.Tryd.func21 rfl (n := 1) (Nat.le_of_ble_eq_true rfl) (by kernel_rfl) (outs := []) (by kernel_rfl) (by kernel_rfl) (d := fun (y : compT impl_Pose_numbers.pr) => (y.1.1 : impl_Pose_numbers.N)) (fun _ => rfl) (C := fun _ => []) (k := k) noCuts fun x => by kernel_rfl
/-! strconv.FormatInt -/
@[reducible] def strconv_FormatInt.pc : CutP := [(0, some false, [.fl (.int .i64)]), (1, some false, [.fl (.int .i64)])]
@[reducible] def strconv_FormatInt.pr : CompPs := [(false, [.fl .str])]
abbrev strconv_FormatInt.N := ByteArray
noncomputable def strconv_FormatInt.E (k : Nat) : List (FuncId × Go.Rv.Fn) := []
noncomputable def strconv_FormatInt.f (k : Nat) (a0 : Int) (a1 : Int) : Option strconv_FormatInt.N := T.fmtF a0 a1
noncomputable def strconv_FormatInt.F (k : Nat) : Go.Rv.Fn := mkFn 2 strconv_FormatInt.pc strconv_FormatInt.pr (keepOf []) (fun (y : strconv_FormatInt.N) => (((y, ()), ()) : compT strconv_FormatInt.pr)) fun x => strconv_FormatInt.f k x.1.1 x.2.1.1
theorem strconv_FormatInt.ok (k : Nat) : FnOk Go.Proofs.Tryd.prog 41 (strconv_FormatInt.F k) := T.fmt_fn
/-! impl.Decimal -/
@[reducible] def impl_Decimal.pc : CutP := [(0, some false, [.fl (.int .i64)])]
@[reducible] def impl_Decimal.pr : CompPs := [(false, [.fl .str])]
abbrev impl_Decimal.N := ByteArray
noncomputable def impl_Decimal.E (k : Nat) : List (FuncId × Go.Rv.Fn) := [(41, strconv_FormatInt.F k)]
noncomputable def impl_Decimal.f (k : Nat) (a0 : Int) : Option impl_Decimal.N := (strconv_FormatInt.f k a0 10).bind fun t1 => some t1
noncomputable def impl_Decimal.F (k : Nat) : Go.Rv.Fn := mkFn 1 impl_Decimal.pc impl_Decimal.pr (keepOf []) (fun (y : impl_Decimal.N) => (((y, ()), ()) : compT impl_Decimal.pr)) fun x => impl_Decimal.f k x.1.1
theorem impl_Decimal.env (k : Nat) : EnvOk Go.Proofs.Tryd.prog (fun f => (impl_Decimal.E k).lookup f) := envOk_of ⟨entry Go.Proofs.Tryd.call41 rfl (strconv_FormatInt.ok k), trivial⟩
theorem impl_Decimal.ok (k : Nat) : FnOk Go.Proofs.Tryd.prog 22 (impl_Decimal.F k) :=
  fn_ok tab (impl_Decimal.env k) Go.Proofs.Tryd.func22 rfl (n := 1) (Nat.le_of_ble_eq_true rfl) (by kernel_rfl) (outs := []) (by kernel_rfl) (by kernel_rfl) (d := fun (y : compT impl_Decimal.pr) => (y.1.1 : impl_Decimal.N)) (fun _ => rfl) (C := fun _ => []) (k := k) noCuts fun x => by kernel_rfl
/-! strings.Join -/
@[reducible] def strings_Join.pc : CutP := [(0, some false, [.fl (.lo .str)]), (1, some false, [.fl .str])]
@[reducible] def strings_Join.pr : CompPs := [(false, [.fl .str])]
abbrev strings_Join.N := ByteArray
noncomputable def strings_Join.E (k : Nat) : List (FuncId × Go.Rv.Fn) := []
noncomputable def strings_Join.f (k : Nat) (a0 : List ByteArray) (a1 : ByteArray) : Option strings_Join.N := T.joinF a0 a1
noncomputable def strings_Join.F (k : Nat) : Go.Rv.Fn := mkFn 2 strings_Join.pc strings_Join.pr (keepOf []) (fun (y : strings_Join.N) => (((y, ()), ()) : compT strings_Join.pr)) fun x => strings_Join.f k x.1.1 x.2.1.1
theorem strings_Join.ok (k : Nat) : FnOk Go.Proofs.Tryd.prog 40 (strings_Join.F k) := T.join_fn
/-! impl.decimals -/
@[reducible] def impl_decimals.pc : CutP := [(0, some false, [.fl (.lo (.int .i64))]), (1, some false, [.fl .str])]
@[reducible] def impl_decimals.pr : CompPs := [(false, [.fl .str])]
abbrev impl_decimals.N := ByteArray
noncomputable def impl_decimals.E (k : Nat) : List (FuncId × Go.Rv.Fn) := [(22, impl_Decimal.F k), (40, strings_Join.F k)]
abbrev impl_decimals.Cs := (ByteArray → List ByteArray → List Int → Int → Int → Option impl_decimals.N)
def impl_decimals.zero : impl_decimals.Cs := (fun _ _ _ _ _ => none)
noncomputable def impl_decimals.step (k : Nat) (c : impl_decimals.Cs) : impl_decimals.Cs := (fun (x0 : ByteArray) (x1 : List ByteArray) (x2 : List Int) (x3 : Int) (x4 : Int) => (if (decide (x4 < x3)) = true then if 0 ≤ x4 then if x4 < (x2.length : Int) then (impl_Decimal.f k (rd 0 x2 x4)).bind fun t1 => if x1.length + [t1].length < 1099511627776 then c x0 (x1 ++ [t1]) x2 x3 (wrap64 (x4 + 1)) else none else none else none else (strings_Join.f k x1 x0).bind fun t2 => some t2))
noncomputable def impl_decimals.cs (k : Nat) : Nat → impl_decimals.Cs
  | 0 => impl_decimals.zero
  | n + 1 => impl_decimals.step k (impl_decimals.cs k n)
def impl_decimals.CC (c : impl_decimals.Cs) : Cuts impl_decimals.N := [(8, ⟨[(1, some false, [.fl .str]), (5, some false, [.fl (.own .str)]), (9, some false, [.fl (.lo (.int .i64))]), (10, some false, [.fl (.int .i64)]), (11, some false, [.fl (.int .i64)])], fun x => c x.1.1 x.2.1.1 x.2.2.1.1 x.2.2.2.1.1 x.2.2.2.2.1.1⟩)]
noncomputable def impl_decimals.f (k : Nat) (a0 : List Int) (a1 : ByteArray) : Option impl_decimals.N := (impl_decimals.cs k k) a1 ([] : List ByteArray) a0 (a0.length : Int) 0
noncomputable def impl_decimals.F (k : Nat) : Go.Rv.Fn := mkFn 2 impl_decimals.pc impl_decimals.pr (keepOf []) (fun (y : impl_decimals.N) => (((y, ()), ()) : compT impl_decimals.pr)) fun x => impl_decimals.f k x.1.1 x.2.1.1
theorem impl_decimals.env (k : Nat) : EnvOk Go.Proofs.Tryd.prog (fun f => (impl_decimals.E k).lookup f) := envOk_of ⟨entry Go.Proofs.Tryd.call22 rfl (impl_Decimal.ok k), entry Go.Proofs.Tryd.call40 rfl (strings_Join.ok k), trivial⟩
theorem impl_decimals.cuts (k : Nat) : CutsOk Go.Proofs.Tryd.prog X (fun f => (impl_decimals.E k).lookup f) Go.Proofs.Tryd.f20 [] (decN impl_decimals.pr (fun (y : compT impl_decimals.pr) => (y.1.1 : impl_decimals.N))) fun n => impl_decimals.CC (impl_decimals.cs k n) :=
  cutsOk_of (step := impl_decimals.step k) rfl (fun _ => rfl) ⟨fun _ => rfl, trivial⟩ (fun c => by kernel_rfl) fun c => ⟨fun x => by kernel_rfl, trivial⟩
theorem impl_decimals.ok (k : Nat) : FnOk Go.Proofs.Tryd.prog 20 (impl_decimals.F k) :=
  fn_ok tab (impl_decimals.env k) Go.Proofs.Tryd.func20 rfl (n := 2) (Nat.le_of_ble_eq_true rfl) (by kernel_rfl) (outs := []) (by kernel_rfl) (by kernel_rfl) (d := fun (y : compT impl_decimals.pr) => (y.1.1 : impl_decimals.N)) (fun _ => rfl) (C := fun n => impl_decimals.CC (impl_decimals.cs k n)) (k := k) (impl_decimals.cuts k) fun x => by kernel_rfl
/-! impl.AxisText -/
@[reducible] def impl_AxisText.pc : CutP := [(0, some true, [.fl (.int .i64), .fl (.int .i64), .fl (.int .i64), .fl (.int .i64), .fl (.lo (.pair (.int .i64) (.pair (.int .i64) (.int .i64))))])]
@[reducible] def impl_AxisText.pr : CompPs := [(false, [.fl .str]), (false, [.fl .bool])]
abbrev impl_AxisText.N := ByteArray × Bool
noncomputable def impl_AxisText.E (k : Nat) : List (FuncId × Go.Rv.Fn) := [(19, impl_ValidAxis.F k), (20, impl_decimals.F k), (21, impl_Pose_numbers.F k), (22, impl_Decimal.F k)]
abbrev impl_AxisText.Cs := (ByteArray → List (Int × Int × Int) → Int → Int → Option impl_AxisText.N)
def impl_AxisText.zero : impl_AxisText.Cs := (fun _ _ _ _ => none)
noncomputable def impl_AxisText.step (k : Nat) (c : impl_AxisText.Cs) : impl_AxisText.Cs := (fun (x0 : ByteArray) (x1 : List (Int × Int × Int)) (x2 : Int) (x3 : Int) => (if (decide (x3 < x2)) = true then if 0 ≤ x3 then if x3 < (x1.length : Int) then (impl_Decimal.f k ((rd (0, (0, 0)) x1 x3).1)).bind fun t4 => if sFit (ByteArray.mk #[59]) t4 = true then if sFit (sCat (ByteArray.mk #[59]) t4) (ByteArray.mk #[58]) = true then (impl_decimals.f k [((rd (0, (0, 0)) x1 x3).2).1, ((rd (0, (0, 0)) x1 x3).2).2] (ByteArray.mk #[44])).bind fun t5 => if sFit (sCat (sCat (ByteArray.mk #[59]) t4) (ByteArray.mk #[58])) t5 = true then if sFit x0 (sCat (sCat (sCat (ByteArray.mk #[59]) t4) (ByteArray.mk #[58])) t5) = true then c (sCat x0 (sCat (sCat (sCat (ByteArray.mk #[59]) t4) (ByteArray.mk #[58])) t5)) x1 x2 (wrap64 (x3 + 1)) else none else none else none else none else none else none else some (x0, true)))
noncomputable def impl_AxisText.cs (k : Nat) : Nat → impl_AxisText.Cs
  | 0 => impl_AxisText.zero
  | n + 1 => impl_AxisText.step k (impl_AxisText.cs k n)
def impl_AxisText.CC (c : impl_AxisText.Cs) : Cuts impl_AxisText.N := [(16, ⟨[(4, some false, [.fl .str]), (15, some false, [.fl (.lo (.pair (.int .i64) (.pair (.int .i64) (.int .i64))))]), (16, some false, [.fl (.int .i64)]), (17, some false, [.fl (.int .i64)])], fun x => c x.1.1 x.2.1.1 x.2.2.1.1 x.2.2.2.1.1⟩)]
noncomputable def impl_AxisText.f (k : Nat) (a0 : Int) (a1 : Int) (a2 : Int) (a3 : Int) (a4 : List (Int × Int × Int)) : Option impl_AxisText.N := (impl_ValidAxis.f k a0 a1 a2 a3 a4).bind fun t1 => (if (!t1) = true then some (ByteArray.empty, false) else (impl_Pose_numbers.f k a0 a1 a2 a3).bind fun t2 => (impl_decimals.f k t2 (ByteArray.mk #[44])).bind fun t3 => (impl_AxisText.cs k k) t3 a4 (a4.length : Int) 0)
noncomputable def impl_AxisText.F (k : Nat) : Go.Rv.Fn := mkFn 1 impl_AxisText.pc impl_AxisText.pr (keepOf []) (fun (y : impl_AxisText.N) => (((y.1, ()), (y.2, ()), ()) : compT impl_AxisText.pr)) fun x => impl_AxisText.f k x.1.1 x.1.2.1 x.1.2.2.1 x.1.2.2.2.1 x.1.2.2.2.2.1
theorem impl_AxisText.env (k : Nat) : EnvOk Go.Proofs.Tryd.prog (fun f => (impl_AxisText.E k).lookup f) := envOk_of ⟨entry Go.Proofs.Tryd.call19 rfl (impl_ValidAxis.ok k), entry Go.Proofs.Tryd.call20 rfl (impl_decimals.ok k), entry Go.Proofs.Tryd.call21 rfl (impl_Pose_numbers.ok k), entry Go.Proofs.Tryd.call22 rfl (impl_Decimal.ok k), trivial⟩
theorem impl_AxisText.cuts (k : Nat) : CutsOk Go.Proofs.Tryd.prog X (fun f => (impl_AxisText.E k).lookup f) Go.Proofs.Tryd.f8 [] (decN impl_AxisText.pr (fun (y : compT impl_AxisText.pr) => ((y.1.1, y.2.1.1) : impl_AxisText.N))) fun n => impl_AxisText.CC (impl_AxisText.cs k n) :=
  cutsOk_of (step := impl_AxisText.step k) rfl (fun _ => rfl) ⟨fun _ => rfl, trivial⟩ (fun c => by kernel_rfl) fun c => ⟨fun x => by kernel_rfl, trivial⟩
theorem impl_AxisText.ok (k : Nat) : FnOk Go.Proofs.Tryd.prog 8 (impl_AxisText.F k) :=
  fn_ok tab (impl_AxisText.env k) Go.Proofs.Tryd.func8 rfl (n := 1) (Nat.le_of_ble_eq_true rfl) (by kernel_rfl) (outs := []) (by kernel_rfl) (by kernel_rfl) (d := fun (y : compT impl_AxisText.pr) => ((y.1.1, y.2.1.1) : impl_AxisText.N)) (fun _ => rfl) (C := fun n => impl_AxisText.CC (impl_AxisText.cs k n)) (k := k) (impl_AxisText.cuts k) fun x => by kernel_rfl
/-! laws.eqPose -/
@[reducible] def laws_eqPose.pc : CutP := [(0, some true, [.fl (.int .i64), .fl (.int .i64), .fl (.int .i64), .fl (.int .i64)]), (1, some true, [.fl (.int .i64), .fl (.int .i64), .fl (.int .i64), .fl (.int .i64)])]
@[reducible] def laws_eqPose.pr : CompPs := [(false, [.fl .bool])]
abbrev laws_eqPose.N := Bool
noncomputable def laws_eqPose.E (k : Nat) : List (FuncId × Go.Rv.Fn) := []
noncomputable def laws_eqPose.f (k : Nat) (a0 : Int) (a1 : Int) (a2 : Int) (a3 : Int) (a4 : Int) (a5 : Int) (a6 : Int) (a7 : Int) : Option laws_eqPose.N := (if (!decide (a0 = a4)) = true then some false else (if (!decide (a1 = a5)) = true then some false else (if (!decide (a2 = a6)) = true then some false else (if (!decide (a3 = a7)) = true then some false else some true))))
noncomputable def laws_eqPose.F (k : Nat) : Go.Rv.Fn := mkFn 2 laws_eqPose.pc laws_eqPose.pr (keepOf []) (fun (y : laws_eqPose.N) => (((y, ()), ()) : compT laws_eqPose.pr)) fun x => laws_eqPose.f k x.1.1 x.1.2.1 x.1.2.2.1 x.1.2.2.2.1 x.2.1.1 x.2.1.2.1 x.2.1.2.2.1 x.2.1.2.2.2.1
theorem laws_eqPose.env (k : Nat) : EnvOk Go.Proofs.Tryd.prog (fun f => (laws_eqPose.E k).lookup f) := envOk_of trivial
theorem laws_eqPose.ok (k : Nat) : FnOk Go.Proofs.Tryd.prog 23 (laws_eqPose.F k) :=
  fn_ok tab (laws_eqPose.env k) Go.Proofs.Tryd.func23 rfl (n := 2) (Nat.le_of_ble_eq_true rfl) (by kernel_rfl) (outs := []) (by kernel_rfl) (by kernel_rfl) (d := fun (y : compT laws_eqPose.pr) => (y.1.1 : laws_eqPose.N)) (fun _ => rfl) (C := fun _ => []) (k := k) noCuts fun x => by kernel_rfl
/-! laws.eqCurve -/
@[reducible] def laws_eqCurve.pc : CutP := [(0, some true, [.fl (.int .i64), .fl (.int .i64), .fl (.int .i64)]), (1, some true, [.fl (.int .i64), .fl (.int .i64), .fl (.int .i64)])]
@[reducible] def laws_eqCurve.pr : CompPs := [(false, [.fl .bool])]
abbrev laws_eqCurve.N := Bool
noncomputable def laws_eqCurve.E (k : Nat) : List (FuncId × Go.Rv.Fn) := []
noncomputable def laws_eqCurve.f (k : Nat) (a0 : Int) (a1 : Int) (a2 : Int) (a3 : Int) (a4 : Int) (a5 : Int) : Option laws_eqCurve.N := (if (!decide (a0 = a3)) = true then some false else (if (!decide (a1 = a4)) = true then some false else (if (!decide (a2 = a5)) = true then some false else some true)))
noncomputable def laws_eqCurve.F (k : Nat) : Go.Rv.Fn := mkFn 2 laws_eqCurve.pc laws_eqCurve.pr (keepOf []) (fun (y : laws_eqCurve.N) => (((y, ()), ()) : compT laws_eqCurve.pr)) fun x => laws_eqCurve.f k x.1.1 x.1.2.1 x.1.2.2.1 x.2.1.1 x.2.1.2.1 x.2.1.2.2.1
theorem laws_eqCurve.env (k : Nat) : EnvOk Go.Proofs.Tryd.prog (fun f => (laws_eqCurve.E k).lookup f) := envOk_of trivial
theorem laws_eqCurve.ok (k : Nat) : FnOk Go.Proofs.Tryd.prog 42 (laws_eqCurve.F k) :=
  fn_ok tab (laws_eqCurve.env k) Go.Proofs.Tryd.func42 rfl (n := 2) (Nat.le_of_ble_eq_true rfl) (by kernel_rfl) (outs := []) (by kernel_rfl) (by kernel_rfl) (d := fun (y : compT laws_eqCurve.pr) => (y.1.1 : laws_eqCurve.N)) (fun _ => rfl) (C := fun _ => []) (k := k) noCuts fun x => by kernel_rfl
/-! laws.eqCurveS -/
@[reducible] def laws_eqCurveS.pc : CutP := [(0, some false, [.fl (.lo (.pair (.int .i64) (.pair (.int .i64) (.int .i64))))]), (1, some false, [.fl (.lo (.pair (.int .i64) (.pair (.int .i64) (.int .i64))))])]
@[reducible] def laws_eqCurveS.pr : CompPs := [(false, [.fl .bool])]
abbrev laws_eqCurveS.N := Bool
noncomputable def laws_eqCurveS.E (k : Nat) : List (FuncId × Go.Rv.Fn) := [(42, laws_eqCurve.F k)]
abbrev laws_eqCurveS.Cs := (List (Int × Int × Int) → List (Int × Int × Int) → Int → Option laws_eqCurveS.N)
def laws_eqCurveS.zero : laws_eqCurveS.Cs := (fun _ _ _ => none)
noncomputable def laws_eqCurveS.step (k : Nat) (c : laws_eqCurveS.Cs) : laws_eqCurveS.Cs := (fun (x0 : List (Int × Int × Int)) (x1 : List (Int × Int × Int)) (x2 : Int) => (if (decide (x2 < (x0.length : Int))) = true then if 0 ≤ x2 then if x2 < (x0.length : Int) then if 0 ≤ x2 then if x2 < (x1.length : Int) then (laws_eqCurve.f k ((rd (0, (0, 0)) x0 x2).1) (((rd (0, (0, 0)) x0 x2).2).1) (((rd (0, (0, 0)) x0 x2).2).2) ((rd (0, (0, 0)) x1 x2).1) (((rd (0, (0, 0)) x1 x2).2).1) (((rd (0, (0, 0)) x1 x2).2).2)).bind fun t1 => (if (!t1) = true then some false else c x0 x1 (wrap64 (x2 + 1))) else none else none else none else none else some true))
noncomputable def laws_eqCurveS.cs (k : Nat) : Nat → laws_eqCurveS.Cs
  | 0 => laws_eqCurveS.zero
  | n + 1 => laws_eqCurveS.step k (laws_eqCurveS.cs k n)
def laws_eqCurveS.CC (c : laws_eqCurveS.Cs) : Cuts laws_eqCurveS.N := [(14, ⟨[(0, some false, [.fl (.lo (.pair (.int .i64) (.pair (.int .i64) (.int .i64))))]), (1, some false, [.fl (.lo (.pair (.int .i64) (.pair (.int .i64) (.int .i64))))]), (5, some false, [.fl (.int .i64)])], fun x => c x.1.1 x.2.1.1 x.2.2.1.1⟩)]
noncomputable def laws_eqCurveS.f (k : Nat) (a0 : List (Int × Int × Int)) (a1 : List (Int × Int × Int)) : Option laws_eqCurveS.N := (if (!decide ((a0.length : Int) = (a1.length : Int))) = true then some false else (laws_eqCurveS.cs k k) a0 a1 0)
noncomputable def laws_eqCurveS.F (k : Nat) : Go.Rv.Fn := mkFn 2 laws_eqCurveS.pc laws_eqCurveS.pr (keepOf []) (fun (y : laws_eqCurveS.N) => (((y, ()), ()) : compT laws_eqCurveS.pr)) fun x => laws_eqCurveS.f k x.1.1 x.2.1.1
theorem laws_eqCurveS.env (k : Nat) : EnvOk Go.Proofs.Tryd.prog (fun f => (laws_eqCurveS.E k).lookup f) := envOk_of ⟨entry Go.Proofs.Tryd.call42 rfl (laws_eqCurve.ok k), trivial⟩
theorem laws_eqCurveS.cuts (k : Nat) : CutsOk Go.Proofs.Tryd.prog X (fun f => (laws_eqCurveS.E k).lookup f) Go.Proofs.Tryd.f24 [] (decN laws_eqCurveS.pr (fun (y : compT laws_eqCurveS.pr) => (y.1.1 : laws_eqCurveS.N))) fun n => laws_eqCurveS.CC (laws_eqCurveS.cs k n) :=
  cutsOk_of (step := laws_eqCurveS.step k) rfl (fun _ => rfl) ⟨fun _ => rfl, trivial⟩ (fun c => by kernel_rfl) fun c => ⟨fun x => by kernel_rfl, trivial⟩
theorem laws_eqCurveS.ok (k : Nat) : FnOk Go.Proofs.Tryd.prog 24 (laws_eqCurveS.F k) :=
  fn_ok tab (laws_eqCurveS.env k) Go.Proofs.Tryd.func24 rfl (n := 2) (Nat.le_of_ble_eq_true rfl) (by kernel_rfl) (outs := []) (by kernel_rfl) (by kernel_rfl) (d := fun (y : compT laws_eqCurveS.pr) => (y.1.1 : laws_eqCurveS.N)) (fun _ => rfl) (C := fun n => laws_eqCurveS.CC (laws_eqCurveS.cs k n)) (k := k) (laws_eqCurveS.cuts k) fun x => by kernel_rfl
/-! laws.eqAxis -/
@[reducible] def laws_eqAxis.pc : CutP := [(0, some true, [.fl (.int .i64), .fl (.int .i64), .fl (.int .i64), .fl (.int .i64), .fl (.lo (.pair (.int .i64) (.pair (.int .i64) (.int .i64))))]), (1, some true, [.fl (.int .i64), .fl (.int .i64), .fl (.int .i64), .fl (.int .i64), .fl (.lo (.pair (.int .i64) (.pair (.int .i64) (.int .i64))))])]
@[reducible] def laws_eqAxis.pr : CompPs := [(false, [.fl .bool])]
abbrev laws_eqAxis.N := Bool
noncomputable def laws_eqAxis.E (k : Nat) : List (FuncId × Go.Rv.Fn) := [(23, laws_eqPose.F k), (24, laws_eqCurveS.F k)]
noncomputable def laws_eqAxis.f (k : Nat) (a0 : Int) (a1 : Int) (a2 : Int) (a3 : Int) (a4 : List (Int × Int × Int)) (a5 : Int) (a6 : Int) (a7 : Int) (a8 : Int) (a9 : List (Int × Int × Int)) : Option laws_eqAxis.N := (laws_eqPose.f k a0 a1 a2 a3 a5 a6 a7 a8).bind fun t1 => (if (!t1) = true then some false else (laws_eqCurveS.f k a4 a9).bind fun t2 => (if (!t2) = true then some false else some true))
noncomputable def laws_eqAxis.F (k : Nat) : Go.Rv.Fn := mkFn 2 laws_eqAxis.pc laws_eqAxis.pr (keepOf []) (fun (y : laws_eqAxis.N) => (((y, ()), ()) : compT laws_eqAxis.pr)) fun x => laws_eqAxis.f k x.1.1 x.1.2.1 x.1.2.2.1 x.1.2.2.2.1 x.1.2.2.2.2.1 x.2.1.1 x.2.1.2.1 x.2.1.2.2.1 x.2.1.2.2.2.1 x.2.1.2.2.2.2.1
theorem laws_eqAxis.env (k : Nat) : EnvOk Go.Proofs.Tryd.prog (fun f => (laws_eqAxis.E k).lookup f) := envOk_of ⟨entry Go.Proofs.Tryd.call23 rfl (laws_eqPose.ok k), entry Go.Proofs.Tryd.call24 rfl (laws_eqCurveS.ok k), trivial⟩
theorem laws_eqAxis.ok (k : Nat) : FnOk Go.Proofs.Tryd.prog 9 (laws_eqAxis.F k) :=
  fn_ok tab (laws_eqAxis.env k) Go.Proofs.Tryd.func9 rfl (n := 2) (Nat.le_of_ble_eq_true rfl) (by kernel_rfl) (outs := []) (by kernel_rfl) (by kernel_rfl) (d := fun (y : compT laws_eqAxis.pr) => (y.1.1 : laws_eqAxis.N)) (fun _ => rfl) (C := fun _ => []) (k := k) noCuts fun x => by kernel_rfl
/-! laws.FnExactAxisText -/
@[reducible] def laws_FnExactAxisText.pc : CutP := [(0, some true, [.fl (.int .i64), .fl (.int .i64), .fl (.int .i64), .fl (.int .i64), .fl (.lo (.pair (.int .i64) (.pair (.int .i64) (.int .i64))))])]
@[reducible] def laws_FnExactAxisText.pr : CompPs := [(false, [.fl .bool])]
abbrev laws_FnExactAxisText.N := Bool
noncomputable def laws_FnExactAxisText.E (k : Nat) : List (FuncId × Go.Rv.Fn) := [(5, laws_szAxis.F k), (6, spec_AxisText.F k), (7, laws_toAxis.F k), (8, impl_AxisText.F k), (9, laws_eqAxis.F k)]
noncomputable def laws_FnExactAxisText.f (k : Nat) (a0 : Int) (a1 : Int) (a2 : Int) (a3 : Int) (a4 : List (Int × Int × Int)) : Option laws_FnExactAxisText.N := (laws_szAxis.f k a0 a1 a2 a3 a4 1048576).bind fun (t1 : Int) => (if (decide (t1 < 0)) = true then some true else (laws_toAxis.f k a0 a1 a2 a3 a4).bind fun t2 => (spec_AxisText.f k t2.1 t2.2.1 t2.2.2.1 t2.2.2.2.1 t2.2.2.2.2).bind fun t3 => (laws_toAxis.f k a0 a1 a2 a3 a4).bind fun t4 => (impl_AxisText.f k t4.1 t4.2.1 t4.2.2.1 t4.2.2.2.1 t4.2.2.2.2).bind fun t5 => (if (!sEq t5.1 t3.1) = true then some false else (if (!(t5.2 == t3.2)) = true then some false else (laws_toAxis.f k a0 a1 a2 a3 a4).bind fun t6 => (laws_eqAxis.f k t4.1 t4.2.1 t4.2.2.1 t4.2.2.2.1 t4.2.2.2.2 t6.1 t6.2.1 t6.2.2.1 t6.2.2.2.1 t6.2.2.2.2).bind fun t7 => (if (!t7) = true then some false else some true))))
noncomputable def laws_FnExactAxisText.F (k : Nat) : Go.Rv.Fn := mkFn 1 laws_FnExactAxisText.pc laws_FnExactAxisText.pr (keepOf []) (fun (y : laws_FnExactAxisText.N) => (((y, ()), ()) : compT laws_FnExactAxisText.pr)) fun x => laws_FnExactAxisText.f k x.1.1 x.1.2.1 x.1.2.2.1 x.1.2.2.2.1 x.1.2.2.2.2.1
theorem laws_FnExactAxisText.env (k : Nat) : EnvOk Go.Proofs.Tryd.prog (fun f => (laws_FnExactAxisText.E k).lookup f) := envOk_of ⟨entry Go.Proofs.Tryd.call5 rfl (laws_szAxis.ok k), entry Go.Proofs.Tryd.call6 rfl (spec_AxisText.ok k), entry Go.Proofs.Tryd.call7 rfl (laws_toAxis.ok k), entry Go.Proofs.Tryd.call8 rfl (impl_AxisText.ok k), entry Go.Proofs.Tryd.call9 rfl (laws_eqAxis.ok k), trivial⟩
theorem laws_FnExactAxisText.ok (k : Nat) : FnOk Go.Proofs.Tryd.prog 3 (laws_FnExactAxisText.F k) :=
  fn_ok tab (laws_FnExactAxisText.env k) Go.Proofs.Tryd.func3 rfl (n := 1) (Nat.le_of_ble_eq_true rfl) (by kernel_rfl) (outs := []) (by kernel_rfl) (by kernel_rfl) (d := fun (y : compT laws_FnExactAxisText.pr) => (y.1.1 : laws_FnExactAxisText.N)) (fun _ => rfl) (C := fun _ => []) (k := k) noCuts fun x => by kernel_rfl
end Go.Proofs.YtgknckbplbldbaaDoor.R
