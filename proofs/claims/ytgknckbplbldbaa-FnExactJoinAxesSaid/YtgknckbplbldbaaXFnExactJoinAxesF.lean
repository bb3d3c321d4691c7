-- written by wip/rev/gen2.py for this claim (out of the translation). Lean checks it.
import Derived.Test.YtgknckbplbldbaaRvM2
import Derived.Test.YtgknckbplbldbaaProg
import Derived.Test.YtgknckbplbldbaaRvGrowH
namespace Go.Proofs.Ytgknckbplbldbaa.R
open Go.Rv
set_option linter.unusedVariables false
set_option maxRecDepth 100000
def X : Env := { n := 0, keep := [], tab := [(2, { ty := (.int .i64) }),
  (3, { ty := (.int .i64) }),
  (4, { ty := .bool }),
  (23, { ty := (.pair (.int .i64) (.pair (.int .i64) (.pair (.int .i64) (.int .i64)))), agg := true, offs := [(0, 1, false), (1, 1, false), (2, 1, false), (3, 1, false)] }),
  (24, { ty := (.sl (.pair (.int .i64) (.pair (.int .i64) (.int .i64)))) }),
  (26, { ty := (.pair (.pair (.int .i64) (.pair (.int .i64) (.pair (.int .i64) (.int .i64)))) (.sl (.pair (.int .i64) (.pair (.int .i64) (.int .i64))))), agg := true, offs := [(0, 4, true), (4, 1, false)] }),
  (28, { ty := (.pair (.int .i64) (.pair (.int .i64) (.pair (.int .i64) (.int .i64)))), agg := true, offs := [(0, 1, false), (1, 1, false), (2, 1, false), (3, 1, false)], eq := true }),
  (29, { ty := (.sl (.pair (.int .i64) (.pair (.int .i64) (.int .i64)))) }),
  (31, { ty := (.pair (.pair (.int .i64) (.pair (.int .i64) (.pair (.int .i64) (.int .i64)))) (.sl (.pair (.int .i64) (.pair (.int .i64) (.int .i64))))), agg := true, offs := [(0, 4, true), (4, 1, false)] }),
  (41, { ty := (.sl (.pair (.int .i64) (.pair (.int .i64) (.pair (.int .i64) (.int .i64))))) }),
  (46, { ty := (.sl (.int .i64)) }),
  (65, { ty := (.pair (.int .i64) (.pair (.int .i64) (.int .i64))), agg := true, offs := [(0, 1, false), (1, 1, false), (2, 1, false)] }),
  (79, { ty := (.pair (.int .i64) (.pair (.int .i64) (.int .i64))), agg := true, offs := [(0, 1, false), (1, 1, false), (2, 1, false)] }),
  (81, { ty := (.sl (.sl (.pair (.int .i64) (.pair (.int .i64) (.int .i64))))) })] }
theorem tab : TabOk Go.Proofs.Try.prog X := ⟨by kernel_rfl, by kernel_rfl⟩
/-! laws.szCurveS -/
@[reducible] def laws_szCurveS.pc : CutP := [(0, some false, [.fl (.lo (.pair (.int .i64) (.pair (.int .i64) (.int .i64))))]), (1, some false, [.fl (.int .i64)])]
@[reducible] def laws_szCurveS.pr : CompPs := [(false, [.fl (.int .i64)])]
abbrev laws_szCurveS.N := Int
noncomputable def laws_szCurveS.E (k : Nat) : List (FuncId × Go.Rv.Fn) := []
noncomputable def laws_szCurveS.f (k : Nat) (a0 : List (Int × Int × Int)) (a1 : Int) : Option laws_szCurveS.N := (if (decide ((wrap64 (a1 - (a0.length : Int))) < 0)) = true then some (-1) else some (wrap64 (a1 - (a0.length : Int))))
noncomputable def laws_szCurveS.F (k : Nat) : Go.Rv.Fn := mkFn 2 laws_szCurveS.pc laws_szCurveS.pr (keepOf []) (fun (y : laws_szCurveS.N) => (((y, ()), ()) : compT laws_szCurveS.pr)) fun x => laws_szCurveS.f k x.1.1 x.2.1.1
theorem laws_szCurveS.env (k : Nat) : EnvOk Go.Proofs.Try.prog (fun f => (laws_szCurveS.E k).lookup f) := envOk_of trivial
theorem laws_szCurveS.ok (k : Nat) : FnOk Go.Proofs.Try.prog 27 (laws_szCurveS.F k) :=
  fn_ok tab (laws_szCurveS.env k) Go.Proofs.Try.func27 rfl (n := 2) (Nat.le_of_ble_eq_true rfl) (by kernel_rfl) (outs := []) (by kernel_rfl) (by kernel_rfl) (d := fun (y : compT laws_szCurveS.pr) => (y.1.1 : laws_szCurveS.N)) (fun _ => rfl) (C := fun _ => []) (k := k) noCuts fun x => by kernel_rfl
/-! laws.szAxis -/
@[reducible] def laws_szAxis.pc : CutP := [(0, some true, [.fl (.int .i64), .fl (.int .i64), .fl (.int .i64), .fl (.int .i64), .fl (.lo (.pair (.int .i64) (.pair (.int .i64) (.int .i64))))]), (1, some false, [.fl (.int .i64)])]
@[reducible] def laws_szAxis.pr : CompPs := [(false, [.fl (.int .i64)])]
abbrev laws_szAxis.N := Int
noncomputable def laws_szAxis.E (k : Nat) : List (FuncId × Go.Rv.Fn) := [(27, laws_szCurveS.F k)]
noncomputable def laws_szAxis.f (k : Nat) (a0 : Int) (a1 : Int) (a2 : Int) (a3 : Int) (a4 : List (Int × Int × Int)) (a5 : Int) : Option laws_szAxis.N := (laws_szCurveS.f k a4 a5).bind fun (t1 : Int) => (if (decide (t1 < 0)) = true then some (-1) else some t1)
noncomputable def laws_szAxis.F (k : Nat) : Go.Rv.Fn := mkFn 2 laws_szAxis.pc laws_szAxis.pr (keepOf []) (fun (y : laws_szAxis.N) => (((y, ()), ()) : compT laws_szAxis.pr)) fun x => laws_szAxis.f k x.1.1 x.1.2.1 x.1.2.2.1 x.1.2.2.2.1 x.1.2.2.2.2.1 x.2.1.1
theorem laws_szAxis.env (k : Nat) : EnvOk Go.Proofs.Try.prog (fun f => (laws_szAxis.E k).lookup f) := envOk_of ⟨entry Go.Proofs.Try.call27 rfl (laws_szCurveS.ok k), trivial⟩
theorem laws_szAxis.ok (k : Nat) : FnOk Go.Proofs.Try.prog 7 (laws_szAxis.F k) :=
  fn_ok tab (laws_szAxis.env k) Go.Proofs.Try.func7 rfl (n := 2) (Nat.le_of_ble_eq_true rfl) (by kernel_rfl) (outs := []) (by kernel_rfl) (by kernel_rfl) (d := fun (y : compT laws_szAxis.pr) => (y.1.1 : laws_szAxis.N)) (fun _ => rfl) (C := fun _ => []) (k := k) noCuts fun x => by kernel_rfl
/-! laws.toPose -/
@[reducible] def laws_toPose.pc : CutP := [(0, some true, [.fl (.int .i64), .fl (.int .i64), .fl (.int .i64), .fl (.int .i64)])]
@[reducible] def laws_toPose.pr : CompPs := [(true, [.fl (.int .i64), .fl (.int .i64), .fl (.int .i64), .fl (.int .i64)])]
abbrev laws_toPose.N := Int × Int × Int × Int
noncomputable def laws_toPose.E (k : Nat) : List (FuncId × Go.Rv.Fn) := []
noncomputable def laws_toPose.f (k : Nat) (a0 : Int) (a1 : Int) (a2 : Int) (a3 : Int) : Option laws_toPose.N := some (a0, a1, a2, a3)
noncomputable def laws_toPose.F (k : Nat) : Go.Rv.Fn := mkFn 1 laws_toPose.pc laws_toPose.pr (keepOf []) (fun (y : laws_toPose.N) => (((y.1, y.2.1, y.2.2.1, y.2.2.2, ()), ()) : compT laws_toPose.pr)) fun x => laws_toPose.f k x.1.1 x.1.2.1 x.1.2.2.1 x.1.2.2.2.1
theorem laws_toPose.env (k : Nat) : EnvOk Go.Proofs.Try.prog (fun f => (laws_toPose.E k).lookup f) := envOk_of trivial
theorem laws_toPose.ok (k : Nat) : FnOk Go.Proofs.Try.prog 31 (laws_toPose.F k) :=
  fn_ok tab (laws_toPose.env k) Go.Proofs.Try.func31 rfl (n := 1) (Nat.le_of_ble_eq_true rfl) (by kernel_rfl) (outs := []) (by kernel_rfl) (by kernel_rfl) (d := fun (y : compT laws_toPose.pr) => ((y.1.1, y.1.2.1, y.1.2.2.1, y.1.2.2.2.1) : laws_toPose.N)) (fun _ => rfl) (C := fun _ => []) (k := k) noCuts fun x => by kernel_rfl
/-! laws.toCurve -/
@[reducible] def laws_toCurve.pc : CutP := [(0, some true, [.fl (.int .i64), .fl (.int .i64), .fl (.int .i64)])]
@[reducible] def laws_toCurve.pr : CompPs := [(true, [.fl (.int .i64), .fl (.int .i64), .fl (.int .i64)])]
abbrev laws_toCurve.N := Int × Int × Int
noncomputable def laws_toCurve.E (k : Nat) : List (FuncId × Go.Rv.Fn) := []
noncomputable def laws_toCurve.f (k : Nat) (a0 : Int) (a1 : Int) (a2 : Int) : Option laws_toCurve.N := some (a0, a1, a2)
noncomputable def laws_toCurve.F (k : Nat) : Go.Rv.Fn := mkFn 1 laws_toCurve.pc laws_toCurve.pr (keepOf []) (fun (y : laws_toCurve.N) => (((y.1, y.2.1, y.2.2, ()), ()) : compT laws_toCurve.pr)) fun x => laws_toCurve.f k x.1.1 x.1.2.1 x.1.2.2.1
theorem laws_toCurve.env (k : Nat) : EnvOk Go.Proofs.Try.prog (fun f => (laws_toCurve.E k).lookup f) := envOk_of trivial
theorem laws_toCurve.ok (k : Nat) : FnOk Go.Proofs.Try.prog 53 (laws_toCurve.F k) :=
  fn_ok tab (laws_toCurve.env k) Go.Proofs.Try.func53 rfl (n := 1) (Nat.le_of_ble_eq_true rfl) (by kernel_rfl) (outs := []) (by kernel_rfl) (by kernel_rfl) (d := fun (y : compT laws_toCurve.pr) => ((y.1.1, y.1.2.1, y.1.2.2.1) : laws_toCurve.N)) (fun _ => rfl) (C := fun _ => []) (k := k) noCuts fun x => by kernel_rfl
/-! laws.toCurveS -/
@[reducible] def laws_toCurveS.pc : CutP := [(0, some false, [.fl (.lo (.pair (.int .i64) (.pair (.int .i64) (.int .i64))))])]
@[reducible] def laws_toCurveS.pr : CompPs := [(false, [.fl (.own (.pair (.int .i64) (.pair (.int .i64) (.int .i64))))])]
abbrev laws_toCurveS.N := List (Int × Int × Int)
noncomputable def laws_toCurveS.E (k : Nat) : List (FuncId × Go.Rv.Fn) := [(53, laws_toCurve.F k)]
abbrev laws_toCurveS.Cs := (List (Int × Int × Int) → List (Int × Int × Int) → Int → Option laws_toCurveS.N)
def laws_toCurveS.zero : laws_toCurveS.Cs := (fun _ _ _ => none)
noncomputable def laws_toCurveS.step (k : Nat) (c : laws_toCurveS.Cs) : laws_toCurveS.Cs := (fun (x0 : List (Int × Int × Int)) (x1 : List (Int × Int × Int)) (x2 : Int) => (if (decide (x2 < (x0.length : Int))) = true then if 0 ≤ x2 then if x2 < (x0.length : Int) then (laws_toCurve.f k ((rd (0, (0, 0)) x0 x2).1) (((rd (0, (0, 0)) x0 x2).2).1) (((rd (0, (0, 0)) x0 x2).2).2)).bind fun t1 => if 0 ≤ x2 then if x2 < (x1.length : Int) then c x0 (x1.set x2.toNat t1) (wrap64 (x2 + 1)) else none else none else none else none else some x1))
noncomputable def laws_toCurveS.cs (k : Nat) : Nat → laws_toCurveS.Cs
  | 0 => laws_toCurveS.zero
  | n + 1 => laws_toCurveS.step k (laws_toCurveS.cs k n)
def laws_toCurveS.CC (c : laws_toCurveS.Cs) : Cuts laws_toCurveS.N := [(8, ⟨[(0, some false, [.fl (.lo (.pair (.int .i64) (.pair (.int .i64) (.int .i64))))]), (3, some false, [.fl (.own (.pair (.int .i64) (.pair (.int .i64) (.int .i64))))]), (4, some false, [.fl (.int .i64)])], fun x => c x.1.1 x.2.1.1 x.2.2.1.1⟩)]
noncomputable def laws_toCurveS.f (k : Nat) (a0 : List (Int × Int × Int)) : Option laws_toCurveS.N := if 0 ≤ (a0.length : Int) then if (a0.length : Int) ≤ (a0.length : Int) then if (a0.length : Int) < 366503875925 then (laws_toCurveS.cs k k) a0 (List.replicate (a0.length : Int).toNat (0, (0, 0))) 0 else none else none else none
noncomputable def laws_toCurveS.F (k : Nat) : Go.Rv.Fn := mkFn 1 laws_toCurveS.pc laws_toCurveS.pr (keepOf []) (fun (y : laws_toCurveS.N) => (((y, ()), ()) : compT laws_toCurveS.pr)) fun x => laws_toCurveS.f k x.1.1
theorem laws_toCurveS.env (k : Nat) : EnvOk Go.Proofs.Try.prog (fun f => (laws_toCurveS.E k).lookup f) := envOk_of ⟨entry Go.Proofs.Try.call53 rfl (laws_toCurve.ok k), trivial⟩
theorem laws_toCurveS.cuts (k : Nat) : CutsOk Go.Proofs.Try.prog X (fun f => (laws_toCurveS.E k).lookup f) Go.Proofs.Try.f32 [] (decN laws_toCurveS.pr (fun (y : compT laws_toCurveS.pr) => (y.1.1 : laws_toCurveS.N))) fun n => laws_toCurveS.CC (laws_toCurveS.cs k n) :=
  cutsOk_of (step := laws_toCurveS.step k) rfl (fun _ => rfl) ⟨fun _ => rfl, trivial⟩ (fun c => by kernel_rfl) fun c => ⟨fun x => by kernel_rfl, trivial⟩
theorem laws_toCurveS.ok (k : Nat) : FnOk Go.Proofs.Try.prog 32 (laws_toCurveS.F k) :=
  fn_ok tab (laws_toCurveS.env k) Go.Proofs.Try.func32 rfl (n := 1) (Nat.le_of_ble_eq_true rfl) (by kernel_rfl) (outs := []) (by kernel_rfl) (by kernel_rfl) (d := fun (y : compT laws_toCurveS.pr) => (y.1.1 : laws_toCurveS.N)) (fun _ => rfl) (C := fun n => laws_toCurveS.CC (laws_toCurveS.cs k n)) (k := k) (laws_toCurveS.cuts k) fun x => by kernel_rfl
/-! laws.toAxis -/
@[reducible] def laws_toAxis.pc : CutP := [(0, some true, [.fl (.int .i64), .fl (.int .i64), .fl (.int .i64), .fl (.int .i64), .fl (.lo (.pair (.int .i64) (.pair (.int .i64) (.int .i64))))])]
@[reducible] def laws_toAxis.pr : CompPs := [(true, [.fl (.int .i64), .fl (.int .i64), .fl (.int .i64), .fl (.int .i64), .fl (.own (.pair (.int .i64) (.pair (.int .i64) (.int .i64))))])]
abbrev laws_toAxis.N := Int × Int × Int × Int × List (Int × Int × Int)
noncomputable def laws_toAxis.E (k : Nat) : List (FuncId × Go.Rv.Fn) := [(31, laws_toPose.F k), (32, laws_toCurveS.F k)]
noncomputable def laws_toAxis.f (k : Nat) (a0 : Int) (a1 : Int) (a2 : Int) (a3 : Int) (a4 : List (Int × Int × Int)) : Option laws_toAxis.N := (laws_toPose.f k a0 a1 a2 a3).bind fun t1 => (laws_toCurveS.f k a4).bind fun t2 => some (t1.1, t1.2.1, t1.2.2.1, t1.2.2.2, t2)
noncomputable def laws_toAxis.F (k : Nat) : Go.Rv.Fn := mkFn 1 laws_toAxis.pc laws_toAxis.pr (keepOf []) (fun (y : laws_toAxis.N) => (((y.1, y.2.1, y.2.2.1, y.2.2.2.1, y.2.2.2.2, ()), ()) : compT laws_toAxis.pr)) fun x => laws_toAxis.f k x.1.1 x.1.2.1 x.1.2.2.1 x.1.2.2.2.1 x.1.2.2.2.2.1
theorem laws_toAxis.env (k : Nat) : EnvOk Go.Proofs.Try.prog (fun f => (laws_toAxis.E k).lookup f) := envOk_of ⟨entry Go.Proofs.Try.call31 rfl (laws_toPose.ok k), entry Go.Proofs.Try.call32 rfl (laws_toCurveS.ok k), trivial⟩
theorem laws_toAxis.ok (k : Nat) : FnOk Go.Proofs.Try.prog 9 (laws_toAxis.F k) :=
  fn_ok tab (laws_toAxis.env k) Go.Proofs.Try.func9 rfl (n := 1) (Nat.le_of_ble_eq_true rfl) (by kernel_rfl) (outs := []) (by kernel_rfl) (by kernel_rfl) (d := fun (y : compT laws_toAxis.pr) => ((y.1.1, y.1.2.1, y.1.2.2.1, y.1.2.2.2.1, y.1.2.2.2.2.1) : laws_toAxis.N)) (fun _ => rfl) (C := fun _ => []) (k := k) noCuts fun x => by kernel_rfl
/-! spec.l00In -/
@[reducible] def spec_l00In.pc : CutP := [(0, some false, [.fl (.int .i64)]), (1, some false, [.fl (.int .i64)]), (2, some false, [.fl (.int .i64)])]
@[reducible] def spec_l00In.pr : CompPs := [(false, [.fl .bool])]
abbrev spec_l00In.N := Bool
noncomputable def spec_l00In.E (k : Nat) : List (FuncId × Go.Rv.Fn) := []
noncomputable def spec_l00In.f (k : Nat) (a0 : Int) (a1 : Int) (a2 : Int) : Option spec_l00In.N := (if (decide (a1 ≤ a0)) = true then some (decide (a0 ≤ a2)) else some false)
noncomputable def spec_l00In.F (k : Nat) : Go.Rv.Fn := mkFn 3 spec_l00In.pc spec_l00In.pr (keepOf []) (fun (y : spec_l00In.N) => (((y, ()), ()) : compT spec_l00In.pr)) fun x => spec_l00In.f k x.1.1 x.2.1.1 x.2.2.1.1
theorem spec_l00In.env (k : Nat) : EnvOk Go.Proofs.Try.prog (fun f => (spec_l00In.E k).lookup f) := envOk_of trivial
theorem spec_l00In.ok (k : Nat) : FnOk Go.Proofs.Try.prog 40 (spec_l00In.F k) :=
  fn_ok tab (spec_l00In.env k) Go.Proofs.Try.func40 rfl (n := 3) (Nat.le_of_ble_eq_true rfl) (by kernel_rfl) (outs := []) (by kernel_rfl) (by kernel_rfl) (d := fun (y : compT spec_l00In.pr) => (y.1.1 : spec_l00In.N)) (fun _ => rfl) (C := fun _ => []) (k := k) noCuts fun x => by kernel_rfl
/-! spec.l02Pose -/
@[reducible] def spec_l02Pose.pc : CutP := [(0, some true, [.fl (.int .i64), .fl (.int .i64), .fl (.int .i64), .fl (.int .i64)])]
@[reducible] def spec_l02Pose.pr : CompPs := [(false, [.fl .bool])]
abbrev spec_l02Pose.N := Bool
noncomputable def spec_l02Pose.E (k : Nat) : List (FuncId × Go.Rv.Fn) := [(40, spec_l00In.F k)]
noncomputable def spec_l02Pose.f (k : Nat) (a0 : Int) (a1 : Int) (a2 : Int) (a3 : Int) : Option spec_l02Pose.N := (spec_l00In.f k a0 (-100000) 100000).bind fun t1 => (if t1 = true then (spec_l00In.f k a1 (-100000) 100000).bind fun t2 => (if t2 = true then (spec_l00In.f k a2 (-400) 400).bind fun t3 => (if t3 = true then (spec_l00In.f k a3 (-400) 400).bind fun t4 => some t4 else some false) else some false) else some false)
noncomputable def spec_l02Pose.F (k : Nat) : Go.Rv.Fn := mkFn 1 spec_l02Pose.pc spec_l02Pose.pr (keepOf []) (fun (y : spec_l02Pose.N) => (((y, ()), ()) : compT spec_l02Pose.pr)) fun x => spec_l02Pose.f k x.1.1 x.1.2.1 x.1.2.2.1 x.1.2.2.2.1
theorem spec_l02Pose.env (k : Nat) : EnvOk Go.Proofs.Try.prog (fun f => (spec_l02Pose.E k).lookup f) := envOk_of ⟨entry Go.Proofs.Try.call40 rfl (spec_l00In.ok k), trivial⟩
theorem spec_l02Pose.ok (k : Nat) : FnOk Go.Proofs.Try.prog 41 (spec_l02Pose.F k) :=
  fn_ok tab (spec_l02Pose.env k) Go.Proofs.Try.func41 rfl (n := 1) (Nat.le_of_ble_eq_true rfl) (by kernel_rfl) (outs := []) (by kernel_rfl) (by kernel_rfl) (d := fun (y : compT spec_l02Pose.pr) => (y.1.1 : spec_l02Pose.N)) (fun _ => rfl) (C := fun _ => []) (k := k) noCuts fun x => by kernel_rfl
/-! spec.l02Turn -/
@[reducible] def spec_l02Turn.pc : CutP := [(0, some false, [.fl (.int .i64)]), (1, some false, [.fl (.int .i64)])]
@[reducible] def spec_l02Turn.pr : CompPs := [(false, [.fl .bool])]
abbrev spec_l02Turn.N := Bool
noncomputable def spec_l02Turn.E (k : Nat) : List (FuncId × Go.Rv.Fn) := [(40, spec_l00In.F k)]
noncomputable def spec_l02Turn.f (k : Nat) (a0 : Int) (a1 : Int) : Option spec_l02Turn.N := (spec_l00In.f k a0 (-12) 12).bind fun t1 => (if t1 = true then (spec_l00In.f k a1 (-12) 12).bind fun t2 => some t2 else some false)
noncomputable def spec_l02Turn.F (k : Nat) : Go.Rv.Fn := mkFn 2 spec_l02Turn.pc spec_l02Turn.pr (keepOf []) (fun (y : spec_l02Turn.N) => (((y, ()), ()) : compT spec_l02Turn.pr)) fun x => spec_l02Turn.f k x.1.1 x.2.1.1
theorem spec_l02Turn.env (k : Nat) : EnvOk Go.Proofs.Try.prog (fun f => (spec_l02Turn.E k).lookup f) := envOk_of ⟨entry Go.Proofs.Try.call40 rfl (spec_l00In.ok k), trivial⟩
theorem spec_l02Turn.ok (k : Nat) : FnOk Go.Proofs.Try.prog 42 (spec_l02Turn.F k) :=
  fn_ok tab (spec_l02Turn.env k) Go.Proofs.Try.func42 rfl (n := 2) (Nat.le_of_ble_eq_true rfl) (by kernel_rfl) (outs := []) (by kernel_rfl) (by kernel_rfl) (d := fun (y : compT spec_l02Turn.pr) => (y.1.1 : spec_l02Turn.N)) (fun _ => rfl) (C := fun _ => []) (k := k) noCuts fun x => by kernel_rfl
/-! spec.l02Next -/
@[reducible] def spec_l02Next.pc : CutP := [(0, some true, [.fl (.int .i64), .fl (.int .i64), .fl (.int .i64), .fl (.int .i64)]), (1, some false, [.fl (.int .i64)]), (2, some false, [.fl (.int .i64)])]
@[reducible] def spec_l02Next.pr : CompPs := [(true, [.fl (.int .i64), .fl (.int .i64), .fl (.int .i64), .fl (.int .i64)])]
abbrev spec_l02Next.N := Int × Int × Int × Int
noncomputable def spec_l02Next.E (k : Nat) : List (FuncId × Go.Rv.Fn) := []
noncomputable def spec_l02Next.f (k : Nat) (a0 : Int) (a1 : Int) (a2 : Int) (a3 : Int) (a4 : Int) (a5 : Int) : Option spec_l02Next.N := some ((wrap64 (a0 + a2)), (wrap64 (a1 + a3)), (wrap64 (a2 + a4)), (wrap64 (a3 + a5)))
noncomputable def spec_l02Next.F (k : Nat) : Go.Rv.Fn := mkFn 3 spec_l02Next.pc spec_l02Next.pr (keepOf []) (fun (y : spec_l02Next.N) => (((y.1, y.2.1, y.2.2.1, y.2.2.2, ()), ()) : compT spec_l02Next.pr)) fun x => spec_l02Next.f k x.1.1 x.1.2.1 x.1.2.2.1 x.1.2.2.2.1 x.2.1.1 x.2.2.1.1
theorem spec_l02Next.env (k : Nat) : EnvOk Go.Proofs.Try.prog (fun f => (spec_l02Next.E k).lookup f) := envOk_of trivial
theorem spec_l02Next.ok (k : Nat) : FnOk Go.Proofs.Try.prog 43 (spec_l02Next.F k) :=
  fn_ok tab (spec_l02Next.env k) Go.Proofs.Try.func43 rfl (n := 3) (Nat.le_of_ble_eq_true rfl) (by kernel_rfl) (outs := []) (by kernel_rfl) (by kernel_rfl) (d := fun (y : compT spec_l02Next.pr) => ((y.1.1, y.1.2.1, y.1.2.2.1, y.1.2.2.2.1) : spec_l02Next.N)) (fun _ => rfl) (C := fun _ => []) (k := k) noCuts fun x => by kernel_rfl
/-! spec.l02Is -/
@[reducible] def spec_l02Is.pc : CutP := [(0, some false, [.rptr [(.int .i64), (.int .i64), (.int .i64), (.int .i64), (.lo (.pair (.int .i64) (.pair (.int .i64) (.int .i64))))]])]
@[reducible] def spec_l02Is.pr : CompPs := [(false, [.fl .bool])]
abbrev spec_l02Is.N := Bool
noncomputable def spec_l02Is.E (k : Nat) : List (FuncId × Go.Rv.Fn) := [(40, spec_l00In.F k), (41, spec_l02Pose.F k), (42, spec_l02Turn.F k), (43, spec_l02Next.F k)]
abbrev spec_l02Is.Cs := (Int → Int → Int → Int → List (Int × Int × Int) → Option spec_l02Is.N) × (Int → Int → Int → Int → List (Int × Int × Int) → Int → Int → Int → Int → Int → Int → Option spec_l02Is.N) × (Int → Int → Int → Int → List (Int × Int × Int) → Int → Int → Int → Int → Int → Int → Int → Int → Int → Option spec_l02Is.N) × (Int → Int → Int → Int → List (Int × Int × Int) → Int → Int → Int → Int → Int → Int → Int → Int → Int → Int → Option spec_l02Is.N)
def spec_l02Is.zero : spec_l02Is.Cs := (fun _ _ _ _ _ => none, fun _ _ _ _ _ _ _ _ _ _ _ => none, fun _ _ _ _ _ _ _ _ _ _ _ _ _ _ => none, fun _ _ _ _ _ _ _ _ _ _ _ _ _ _ _ => none)
noncomputable def spec_l02Is.step (k : Nat) (c : spec_l02Is.Cs) : spec_l02Is.Cs := (fun (x0 : Int) (x1 : Int) (x2 : Int) (x3 : Int) (x4 : List (Int × Int × Int)) => c.2.1 x0 x1 x2 x3 x4 0 x0 x1 x2 x3 0,
  fun (x0 : Int) (x1 : Int) (x2 : Int) (x3 : Int) (x4 : List (Int × Int × Int)) (x5 : Int) (x6 : Int) (x7 : Int) (x8 : Int) (x9 : Int) (x10 : Int) => (if (decide (x10 < (x4.length : Int))) = true then if 0 ≤ x10 then if x10 < (x4.length : Int) then (spec_l00In.f k ((rd (0, (0, 0)) x4 x10).1) 1 (wrap64 (60 - x5))).bind fun t3 => (if (!t3) = true then some false else (spec_l02Turn.f k (((rd (0, (0, 0)) x4 x10).2).1) (((rd (0, (0, 0)) x4 x10).2).2)).bind fun t4 => (if (!t4) = true then some false else c.2.2.1 x0 x1 x2 x3 x4 x5 x6 x7 x8 x9 x10 ((rd (0, (0, 0)) x4 x10).1) (((rd (0, (0, 0)) x4 x10).2).1) (((rd (0, (0, 0)) x4 x10).2).2))) else none else none else some true),
  fun (x0 : Int) (x1 : Int) (x2 : Int) (x3 : Int) (x4 : List (Int × Int × Int)) (x5 : Int) (x6 : Int) (x7 : Int) (x8 : Int) (x9 : Int) (x10 : Int) (x11 : Int) (x12 : Int) (x13 : Int) => c.2.2.2 x0 x1 x2 x3 x4 (wrap64 (x5 + x11)) x6 x7 x8 x9 x10 x11 x12 x13 0,
  fun (x0 : Int) (x1 : Int) (x2 : Int) (x3 : Int) (x4 : List (Int × Int × Int)) (x5 : Int) (x6 : Int) (x7 : Int) (x8 : Int) (x9 : Int) (x10 : Int) (x11 : Int) (x12 : Int) (x13 : Int) (x14 : Int) => (if (decide (x14 < x11)) = true then (spec_l02Next.f k x6 x7 x8 x9 x12 x13).bind fun t5 => (spec_l02Pose.f k t5.1 t5.2.1 t5.2.2.1 t5.2.2.2).bind fun t6 => (if (!t6) = true then some false else c.2.2.2 x0 x1 x2 x3 x4 x5 t5.1 t5.2.1 t5.2.2.1 t5.2.2.2 x10 x11 x12 x13 (wrap64 (x14 + 1))) else c.2.1 x0 x1 x2 x3 x4 x5 x6 x7 x8 x9 (wrap64 (x10 + 1))))
noncomputable def spec_l02Is.cs (k : Nat) : Nat → spec_l02Is.Cs
  | 0 => spec_l02Is.zero
  | n + 1 => spec_l02Is.step k (spec_l02Is.cs k n)
def spec_l02Is.CC (c : spec_l02Is.Cs) : Cuts spec_l02Is.N := [(2, ⟨[(0, some false, [.rptr [(.int .i64), (.int .i64), (.int .i64), (.int .i64), (.lo (.pair (.int .i64) (.pair (.int .i64) (.int .i64))))]])], fun x => c.1 x.1.1.1 x.1.1.2.1 x.1.1.2.2.1 x.1.1.2.2.2.1 x.1.1.2.2.2.2.1⟩),
  (18, ⟨[(0, some false, [.rptr [(.int .i64), (.int .i64), (.int .i64), (.int .i64), (.lo (.pair (.int .i64) (.pair (.int .i64) (.int .i64))))]]), (3, some false, [.fl (.int .i64)]), (4, none, [.fl (.int .i64), .fl (.int .i64), .fl (.int .i64), .fl (.int .i64)]), (5, some false, [.fl (.int .i64)])], fun x => c.2.1 x.1.1.1 x.1.1.2.1 x.1.1.2.2.1 x.1.1.2.2.2.1 x.1.1.2.2.2.2.1 x.2.1.1 x.2.2.1.1 x.2.2.1.2.1 x.2.2.1.2.2.1 x.2.2.1.2.2.2.1 x.2.2.2.1.1⟩),
  (29, ⟨[(0, some false, [.rptr [(.int .i64), (.int .i64), (.int .i64), (.int .i64), (.lo (.pair (.int .i64) (.pair (.int .i64) (.int .i64))))]]), (3, some false, [.fl (.int .i64)]), (4, none, [.fl (.int .i64), .fl (.int .i64), .fl (.int .i64), .fl (.int .i64)]), (5, some false, [.fl (.int .i64)]), (6, none, [.fl (.int .i64), .fl (.int .i64), .fl (.int .i64)])], fun x => c.2.2.1 x.1.1.1 x.1.1.2.1 x.1.1.2.2.1 x.1.1.2.2.2.1 x.1.1.2.2.2.2.1 x.2.1.1 x.2.2.1.1 x.2.2.1.2.1 x.2.2.1.2.2.1 x.2.2.1.2.2.2.1 x.2.2.2.1.1 x.2.2.2.2.1.1 x.2.2.2.2.1.2.1 x.2.2.2.2.1.2.2.1⟩),
  (42, ⟨[(0, some false, [.rptr [(.int .i64), (.int .i64), (.int .i64), (.int .i64), (.lo (.pair (.int .i64) (.pair (.int .i64) (.int .i64))))]]), (3, some false, [.fl (.int .i64)]), (4, none, [.fl (.int .i64), .fl (.int .i64), .fl (.int .i64), .fl (.int .i64)]), (5, some false, [.fl (.int .i64)]), (6, none, [.fl (.int .i64), .fl (.int .i64), .fl (.int .i64)]), (7, some false, [.fl (.int .i64)])], fun x => c.2.2.2 x.1.1.1 x.1.1.2.1 x.1.1.2.2.1 x.1.1.2.2.2.1 x.1.1.2.2.2.2.1 x.2.1.1 x.2.2.1.1 x.2.2.1.2.1 x.2.2.1.2.2.1 x.2.2.1.2.2.2.1 x.2.2.2.1.1 x.2.2.2.2.1.1 x.2.2.2.2.1.2.1 x.2.2.2.2.1.2.2.1 x.2.2.2.2.2.1.1⟩)]
noncomputable def spec_l02Is.f (k : Nat) (a0 : Int) (a1 : Int) (a2 : Int) (a3 : Int) (a4 : List (Int × Int × Int)) : Option spec_l02Is.N := (spec_l02Pose.f k a0 a1 a2 a3).bind fun t1 => (if (!t1) = true then some false else (spec_l00In.f k (a4.length : Int) 1 8).bind fun t2 => (if (!t2) = true then some false else (spec_l02Is.cs k k).1 a0 a1 a2 a3 a4))
noncomputable def spec_l02Is.F (k : Nat) : Go.Rv.Fn := mkFn 1 spec_l02Is.pc spec_l02Is.pr (keepOf []) (fun (y : spec_l02Is.N) => (((y, ()), ()) : compT spec_l02Is.pr)) fun x => spec_l02Is.f k x.1.1.1 x.1.1.2.1 x.1.1.2.2.1 x.1.1.2.2.2.1 x.1.1.2.2.2.2.1
theorem spec_l02Is.env (k : Nat) : EnvOk Go.Proofs.Try.prog (fun f => (spec_l02Is.E k).lookup f) := envOk_of ⟨entry Go.Proofs.Try.call40 rfl (spec_l00In.ok k), entry Go.Proofs.Try.call41 rfl (spec_l02Pose.ok k), entry Go.Proofs.Try.call42 rfl (spec_l02Turn.ok k), entry Go.Proofs.Try.call43 rfl (spec_l02Next.ok k), trivial⟩
theorem spec_l02Is.cuts (k : Nat) : CutsOk Go.Proofs.Try.prog X (fun f => (spec_l02Is.E k).lookup f) Go.Proofs.Try.f28 [] (decN spec_l02Is.pr (fun (y : compT spec_l02Is.pr) => (y.1.1 : spec_l02Is.N))) fun n => spec_l02Is.CC (spec_l02Is.cs k n) :=
  cutsOk_of (step := spec_l02Is.step k) rfl (fun _ => rfl) ⟨fun _ => rfl, fun _ => rfl, fun _ => rfl, fun _ => rfl, trivial⟩ (fun c => by kernel_rfl) fun c => ⟨fun x => by kernel_rfl, fun x => by kernel_rfl, fun x => by kernel_rfl, fun x => by kernel_rfl, trivial⟩
theorem spec_l02Is.ok (k : Nat) : FnOk Go.Proofs.Try.prog 28 (spec_l02Is.F k) :=
  fn_ok tab (spec_l02Is.env k) Go.Proofs.Try.func28 rfl (n := 1) (Nat.le_of_ble_eq_true rfl) (by kernel_rfl) (outs := []) (by kernel_rfl) (by kernel_rfl) (d := fun (y : compT spec_l02Is.pr) => (y.1.1 : spec_l02Is.N)) (fun _ => rfl) (C := fun n => spec_l02Is.CC (spec_l02Is.cs k n)) (k := k) (spec_l02Is.cuts k) fun x => by kernel_rfl
/-! spec.l02Turns -/
@[reducible] def spec_l02Turns.pc : CutP := [(0, some false, [.rptr [(.int .i64), (.int .i64), (.int .i64), (.int .i64), (.lo (.pair (.int .i64) (.pair (.int .i64) (.int .i64))))]])]
@[reducible] def spec_l02Turns.pr : CompPs := [(false, [.fl (.own (.pair (.int .i64) (.pair (.int .i64) (.int .i64))))])]
abbrev spec_l02Turns.N := List (Int × Int × Int)
noncomputable def spec_l02Turns.E (k : Nat) : List (FuncId × Go.Rv.Fn) := []
abbrev spec_l02Turns.Cs := (Int → Int → Int → Int → List (Int × Int × Int) → List (Int × Int × Int) → Int → Option spec_l02Turns.N) × (Int → Int → Int → Int → List (Int × Int × Int) → List (Int × Int × Int) → Int → Int → Option spec_l02Turns.N)
def spec_l02Turns.zero : spec_l02Turns.Cs := (fun _ _ _ _ _ _ _ => none, fun _ _ _ _ _ _ _ _ => none)
noncomputable def spec_l02Turns.step (k : Nat) (c : spec_l02Turns.Cs) : spec_l02Turns.Cs := (fun (x0 : Int) (x1 : Int) (x2 : Int) (x3 : Int) (x4 : List (Int × Int × Int)) (x5 : List (Int × Int × Int)) (x6 : Int) => (if (decide (x6 < (x4.length : Int))) = true then c.2 x0 x1 x2 x3 x4 x5 x6 0 else some x5),
  fun (x0 : Int) (x1 : Int) (x2 : Int) (x3 : Int) (x4 : List (Int × Int × Int)) (x5 : List (Int × Int × Int)) (x6 : Int) (x7 : Int) => if 0 ≤ x6 then if x6 < (x4.length : Int) then (if (decide (x7 < (rd (0, (0, 0)) x4 x6).1)) = true then if 0 ≤ x6 then if x6 < (x4.length : Int) then if 0 ≤ x6 then if x6 < (x4.length : Int) then if x5.length + [(1, (((rd (0, (0, 0)) x4 x6).2).1, ((rd (0, (0, 0)) x4 x6).2).2))].length < 366503875925 then c.2 x0 x1 x2 x3 x4 (x5 ++ [(1, (((rd (0, (0, 0)) x4 x6).2).1, ((rd (0, (0, 0)) x4 x6).2).2))]) x6 (wrap64 (x7 + 1)) else none else none else none else none else none else c.1 x0 x1 x2 x3 x4 x5 (wrap64 (x6 + 1))) else none else none)
noncomputable def spec_l02Turns.cs (k : Nat) : Nat → spec_l02Turns.Cs
  | 0 => spec_l02Turns.zero
  | n + 1 => spec_l02Turns.step k (spec_l02Turns.cs k n)
def spec_l02Turns.CC (c : spec_l02Turns.Cs) : Cuts spec_l02Turns.N := [(8, ⟨[(0, some false, [.rptr [(.int .i64), (.int .i64), (.int .i64), (.int .i64), (.lo (.pair (.int .i64) (.pair (.int .i64) (.int .i64))))]]), (3, some false, [.fl (.own (.pair (.int .i64) (.pair (.int .i64) (.int .i64))))]), (4, some false, [.fl (.int .i64)])], fun x => c.1 x.1.1.1 x.1.1.2.1 x.1.1.2.2.1 x.1.1.2.2.2.1 x.1.1.2.2.2.2.1 x.2.1.1 x.2.2.1.1⟩),
  (20, ⟨[(0, some false, [.rptr [(.int .i64), (.int .i64), (.int .i64), (.int .i64), (.lo (.pair (.int .i64) (.pair (.int .i64) (.int .i64))))]]), (3, some false, [.fl (.own (.pair (.int .i64) (.pair (.int .i64) (.int .i64))))]), (4, some false, [.fl (.int .i64)]), (5, some false, [.fl (.int .i64)])], fun x => c.2 x.1.1.1 x.1.1.2.1 x.1.1.2.2.1 x.1.1.2.2.2.1 x.1.1.2.2.2.2.1 x.2.1.1 x.2.2.1.1 x.2.2.2.1.1⟩)]
noncomputable def spec_l02Turns.f (k : Nat) (a0 : Int) (a1 : Int) (a2 : Int) (a3 : Int) (a4 : List (Int × Int × Int)) : Option spec_l02Turns.N := (spec_l02Turns.cs k k).1 a0 a1 a2 a3 a4 ([] : List (Int × Int × Int)) 0
noncomputable def spec_l02Turns.F (k : Nat) : Go.Rv.Fn := mkFn 1 spec_l02Turns.pc spec_l02Turns.pr (keepOf []) (fun (y : spec_l02Turns.N) => (((y, ()), ()) : compT spec_l02Turns.pr)) fun x => spec_l02Turns.f k x.1.1.1 x.1.1.2.1 x.1.1.2.2.1 x.1.1.2.2.2.1 x.1.1.2.2.2.2.1
theorem spec_l02Turns.env (k : Nat) : EnvOk Go.Proofs.Try.prog (fun f => (spec_l02Turns.E k).lookup f) := envOk_of trivial
theorem spec_l02Turns.cuts (k : Nat) : CutsOk Go.Proofs.Try.prog X (fun f => (spec_l02Turns.E k).lookup f) Go.Proofs.Try.f52 [] (decN spec_l02Turns.pr (fun (y : compT spec_l02Turns.pr) => (y.1.1 : spec_l02Turns.N))) fun n => spec_l02Turns.CC (spec_l02Turns.cs k n) :=
  cutsOk_of (step := spec_l02Turns.step k) rfl (fun _ => rfl) ⟨fun _ => rfl, fun _ => rfl, trivial⟩ (fun c => by kernel_rfl) fun c => ⟨fun x => by kernel_rfl, fun x => by kernel_rfl, trivial⟩
theorem spec_l02Turns.ok (k : Nat) : FnOk Go.Proofs.Try.prog 52 (spec_l02Turns.F k) :=
  fn_ok tab (spec_l02Turns.env k) Go.Proofs.Try.func52 rfl (n := 1) (Nat.le_of_ble_eq_true rfl) (by kernel_rfl) (outs := []) (by kernel_rfl) (by kernel_rfl) (d := fun (y : compT spec_l02Turns.pr) => (y.1.1 : spec_l02Turns.N)) (fun _ => rfl) (C := fun n => spec_l02Turns.CC (spec_l02Turns.cs k n)) (k := k) (spec_l02Turns.cuts k) fun x => by kernel_rfl
/-! spec.l02Poses -/
@[reducible] def spec_l02Poses.pc : CutP := [(0, some false, [.rptr [(.int .i64), (.int .i64), (.int .i64), (.int .i64), (.lo (.pair (.int .i64) (.pair (.int .i64) (.int .i64))))]])]
@[reducible] def spec_l02Poses.pr : CompPs := [(false, [.fl (.own (.pair (.int .i64) (.pair (.int .i64) (.pair (.int .i64) (.int .i64)))))])]
abbrev spec_l02Poses.N := List (Int × Int × Int × Int)
noncomputable def spec_l02Poses.E (k : Nat) : List (FuncId × Go.Rv.Fn) := [(43, spec_l02Next.F k), (52, spec_l02Turns.F k)]
abbrev spec_l02Poses.Cs := (List (Int × Int × Int × Int) → List (Int × Int × Int) → Int → Option spec_l02Poses.N)
def spec_l02Poses.zero : spec_l02Poses.Cs := (fun _ _ _ => none)
noncomputable def spec_l02Poses.step (k : Nat) (c : spec_l02Poses.Cs) : spec_l02Poses.Cs := (fun (x0 : List (Int × Int × Int × Int)) (x1 : List (Int × Int × Int)) (x2 : Int) => (if (decide (x2 < (x1.length : Int))) = true then if 0 ≤ x2 then if x2 < (x0.length : Int) then if 0 ≤ x2 then if x2 < (x1.length : Int) then if 0 ≤ x2 then if x2 < (x1.length : Int) then (spec_l02Next.f k ((rd (0, (0, (0, 0))) x0 x2).1) (((rd (0, (0, (0, 0))) x0 x2).2).1) ((((rd (0, (0, (0, 0))) x0 x2).2).2).1) ((((rd (0, (0, (0, 0))) x0 x2).2).2).2) (((rd (0, (0, 0)) x1 x2).2).1) (((rd (0, (0, 0)) x1 x2).2).2)).bind fun t2 => if x0.length + [t2].length < 274877906944 then c (x0 ++ [t2]) x1 (wrap64 (x2 + 1)) else none else none else none else none else none else none else none else some x0))
noncomputable def spec_l02Poses.cs (k : Nat) : Nat → spec_l02Poses.Cs
  | 0 => spec_l02Poses.zero
  | n + 1 => spec_l02Poses.step k (spec_l02Poses.cs k n)
def spec_l02Poses.CC (c : spec_l02Poses.Cs) : Cuts spec_l02Poses.N := [(10, ⟨[(3, some false, [.fl (.own (.pair (.int .i64) (.pair (.int .i64) (.pair (.int .i64) (.int .i64)))))]), (4, some false, [.fl (.own (.pair (.int .i64) (.pair (.int .i64) (.int .i64))))]), (5, some false, [.fl (.int .i64)])], fun x => c x.1.1 x.2.1.1 x.2.2.1.1⟩)]
noncomputable def spec_l02Poses.f (k : Nat) (a0 : Int) (a1 : Int) (a2 : Int) (a3 : Int) (a4 : List (Int × Int × Int)) : Option spec_l02Poses.N := (spec_l02Turns.f k a0 a1 a2 a3 a4).bind fun t1 => (spec_l02Poses.cs k k) [(a0, (a1, (a2, a3)))] t1 0
noncomputable def spec_l02Poses.F (k : Nat) : Go.Rv.Fn := mkFn 1 spec_l02Poses.pc spec_l02Poses.pr (keepOf []) (fun (y : spec_l02Poses.N) => (((y, ()), ()) : compT spec_l02Poses.pr)) fun x => spec_l02Poses.f k x.1.1.1 x.1.1.2.1 x.1.1.2.2.1 x.1.1.2.2.2.1 x.1.1.2.2.2.2.1
theorem spec_l02Poses.env (k : Nat) : EnvOk Go.Proofs.Try.prog (fun f => (spec_l02Poses.E k).lookup f) := envOk_of ⟨entry Go.Proofs.Try.call43 rfl (spec_l02Next.ok k), entry Go.Proofs.Try.call52 rfl (spec_l02Turns.ok k), trivial⟩
theorem spec_l02Poses.cuts (k : Nat) : CutsOk Go.Proofs.Try.prog X (fun f => (spec_l02Poses.E k).lookup f) Go.Proofs.Try.f29 [] (decN spec_l02Poses.pr (fun (y : compT spec_l02Poses.pr) => (y.1.1 : spec_l02Poses.N))) fun n => spec_l02Poses.CC (spec_l02Poses.cs k n) :=
  cutsOk_of (step := spec_l02Poses.step k) rfl (fun _ => rfl) ⟨fun _ => rfl, trivial⟩ (fun c => by kernel_rfl) fun c => ⟨fun x => by kernel_rfl, trivial⟩
theorem spec_l02Poses.ok (k : Nat) : FnOk Go.Proofs.Try.prog 29 (spec_l02Poses.F k) :=
  fn_ok tab (spec_l02Poses.env k) Go.Proofs.Try.func29 rfl (n := 1) (Nat.le_of_ble_eq_true rfl) (by kernel_rfl) (outs := []) (by kernel_rfl) (by kernel_rfl) (d := fun (y : compT spec_l02Poses.pr) => (y.1.1 : spec_l02Poses.N)) (fun _ => rfl) (C := fun n => spec_l02Poses.CC (spec_l02Poses.cs k n)) (k := k) (spec_l02Poses.cuts k) fun x => by kernel_rfl
/-! spec.l02Rings -/
@[reducible] def spec_l02Rings.pc : CutP := [(0, some false, [.rptr [(.int .i64), (.int .i64), (.int .i64), (.int .i64), (.lo (.pair (.int .i64) (.pair (.int .i64) (.int .i64))))]])]
@[reducible] def spec_l02Rings.pr : CompPs := [(false, [.fl (.int .i64)])]
abbrev spec_l02Rings.N := Int
noncomputable def spec_l02Rings.E (k : Nat) : List (FuncId × Go.Rv.Fn) := [(52, spec_l02Turns.F k)]
noncomputable def spec_l02Rings.f (k : Nat) (a0 : Int) (a1 : Int) (a2 : Int) (a3 : Int) (a4 : List (Int × Int × Int)) : Option spec_l02Rings.N := (spec_l02Turns.f k a0 a1 a2 a3 a4).bind fun t1 => some (t1.length : Int)
noncomputable def spec_l02Rings.F (k : Nat) : Go.Rv.Fn := mkFn 1 spec_l02Rings.pc spec_l02Rings.pr (keepOf []) (fun (y : spec_l02Rings.N) => (((y, ()), ()) : compT spec_l02Rings.pr)) fun x => spec_l02Rings.f k x.1.1.1 x.1.1.2.1 x.1.1.2.2.1 x.1.1.2.2.2.1 x.1.1.2.2.2.2.1
theorem spec_l02Rings.env (k : Nat) : EnvOk Go.Proofs.Try.prog (fun f => (spec_l02Rings.E k).lookup f) := envOk_of ⟨entry Go.Proofs.Try.call52 rfl (spec_l02Turns.ok k), trivial⟩
theorem spec_l02Rings.ok (k : Nat) : FnOk Go.Proofs.Try.prog 30 (spec_l02Rings.F k) :=
  fn_ok tab (spec_l02Rings.env k) Go.Proofs.Try.func30 rfl (n := 1) (Nat.le_of_ble_eq_true rfl) (by kernel_rfl) (outs := []) (by kernel_rfl) (by kernel_rfl) (d := fun (y : compT spec_l02Rings.pr) => (y.1.1 : spec_l02Rings.N)) (fun _ => rfl) (C := fun _ => []) (k := k) noCuts fun x => by kernel_rfl
/-! spec.JoinAxes -/
@[reducible] def spec_JoinAxes.pc : CutP := [(0, some true, [.fl (.int .i64), .fl (.int .i64), .fl (.int .i64), .fl (.int .i64), .fl (.lo (.pair (.int .i64) (.pair (.int .i64) (.int .i64))))]), (1, some true, [.fl (.int .i64), .fl (.int .i64), .fl (.int .i64), .fl (.int .i64), .fl (.lo (.pair (.int .i64) (.pair (.int .i64) (.int .i64))))])]
@[reducible] def spec_JoinAxes.pr : CompPs := [(true, [.fl (.int .i64), .fl (.int .i64), .fl (.int .i64), .fl (.int .i64), .fl (.own (.pair (.int .i64) (.pair (.int .i64) (.int .i64))))]), (false, [.fl .bool])]
abbrev spec_JoinAxes.N := Int × Int × Int × Int × List (Int × Int × Int) × Bool
noncomputable def spec_JoinAxes.E (k : Nat) : List (FuncId × Go.Rv.Fn) := [(28, spec_l02Is.F k), (29, spec_l02Poses.F k), (30, spec_l02Rings.F k)]
abbrev spec_JoinAxes.Cs := (Int → Int → Int → Int → List (Int × Int × Int) → Int → Int → Int → Int → List (Int × Int × Int) → Int → Int → Int → Int → Option spec_JoinAxes.N)
def spec_JoinAxes.zero : spec_JoinAxes.Cs := (fun _ _ _ _ _ _ _ _ _ _ _ _ _ _ => none)
noncomputable def spec_JoinAxes.step (k : Nat) (c : spec_JoinAxes.Cs) : spec_JoinAxes.Cs := (fun (x0 : Int) (x1 : Int) (x2 : Int) (x3 : Int) (x4 : List (Int × Int × Int)) (x5 : Int) (x6 : Int) (x7 : Int) (x8 : Int) (x9 : List (Int × Int × Int)) (x10 : Int) (x11 : Int) (x12 : Int) (x13 : Int) => if ([] : List (Int × Int × Int)).length + x4.length < 366503875925 then if (([] : List (Int × Int × Int)) ++ x4).length + x9.length < 366503875925 then (spec_l02Is.f k x0 x1 x2 x3 ((([] : List (Int × Int × Int)) ++ x4) ++ x9)).bind fun t5 => (if (!t5) = true then some (0, 0, 0, 0, [], false) else some (x0, x1, x2, x3, ((([] : List (Int × Int × Int)) ++ x4) ++ x9), true)) else none else none)
noncomputable def spec_JoinAxes.cs (k : Nat) : Nat → spec_JoinAxes.Cs
  | 0 => spec_JoinAxes.zero
  | n + 1 => spec_JoinAxes.step k (spec_JoinAxes.cs k n)
def spec_JoinAxes.CC (c : spec_JoinAxes.Cs) : Cuts spec_JoinAxes.N := [(2, ⟨[(2, none, [.fl (.int .i64), .fl (.int .i64), .fl (.int .i64), .fl (.int .i64), .fl (.lo (.pair (.int .i64) (.pair (.int .i64) (.int .i64))))]), (3, none, [.fl (.int .i64), .fl (.int .i64), .fl (.int .i64), .fl (.int .i64), .fl (.lo (.pair (.int .i64) (.pair (.int .i64) (.int .i64))))]), (4, none, [.fl (.int .i64), .fl (.int .i64), .fl (.int .i64), .fl (.int .i64), .fl .nils])], fun x => c x.1.1 x.1.2.1 x.1.2.2.1 x.1.2.2.2.1 x.1.2.2.2.2.1 x.2.1.1 x.2.1.2.1 x.2.1.2.2.1 x.2.1.2.2.2.1 x.2.1.2.2.2.2.1 x.2.2.1.1 x.2.2.1.2.1 x.2.2.1.2.2.1 x.2.2.1.2.2.2.1⟩)]
noncomputable def spec_JoinAxes.f (k : Nat) (a0 : Int) (a1 : Int) (a2 : Int) (a3 : Int) (a4 : List (Int × Int × Int)) (a5 : Int) (a6 : Int) (a7 : Int) (a8 : Int) (a9 : List (Int × Int × Int)) : Option spec_JoinAxes.N := (spec_l02Is.f k a0 a1 a2 a3 a4).bind fun t1 => (if (!t1) = true then some (0, 0, 0, 0, [], false) else (spec_l02Is.f k a5 a6 a7 a8 a9).bind fun t2 => (if (!t2) = true then some (0, 0, 0, 0, [], false) else (spec_l02Poses.f k a0 a1 a2 a3 a4).bind fun t3 => (spec_l02Rings.f k a0 a1 a2 a3 a4).bind fun (t4 : Int) => if 0 ≤ t4 then if t4 < (t3.length : Int) then (if (!(decide ((rd (0, (0, (0, 0))) t3 t4).1 = a5) && (decide (((rd (0, (0, (0, 0))) t3 t4).2).1 = a6) && (decide ((((rd (0, (0, (0, 0))) t3 t4).2).2).1 = a7) && (decide ((((rd (0, (0, (0, 0))) t3 t4).2).2).2 = a8) && true))))) = true then some (0, 0, 0, 0, [], false) else (spec_JoinAxes.cs k k) a0 a1 a2 a3 a4 a5 a6 a7 a8 a9 0 0 0 0) else none else none))
noncomputable def spec_JoinAxes.F (k : Nat) : Go.Rv.Fn := mkFn 2 spec_JoinAxes.pc spec_JoinAxes.pr (keepOf []) (fun (y : spec_JoinAxes.N) => (((y.1, y.2.1, y.2.2.1, y.2.2.2.1, y.2.2.2.2.1, ()), (y.2.2.2.2.2, ()), ()) : compT spec_JoinAxes.pr)) fun x => spec_JoinAxes.f k x.1.1 x.1.2.1 x.1.2.2.1 x.1.2.2.2.1 x.1.2.2.2.2.1 x.2.1.1 x.2.1.2.1 x.2.1.2.2.1 x.2.1.2.2.2.1 x.2.1.2.2.2.2.1
theorem spec_JoinAxes.env (k : Nat) : EnvOk Go.Proofs.Try.prog (fun f => (spec_JoinAxes.E k).lookup f) := envOk_of ⟨entry Go.Proofs.Try.call28 rfl (spec_l02Is.ok k), entry Go.Proofs.Try.call29 rfl (spec_l02Poses.ok k), entry Go.Proofs.Try.call30 rfl (spec_l02Rings.ok k), trivial⟩
theorem spec_JoinAxes.cuts (k : Nat) : CutsOk Go.Proofs.Try.prog X (fun f => (spec_JoinAxes.E k).lookup f) Go.Proofs.Try.f8 [] (decN spec_JoinAxes.pr (fun (y : compT spec_JoinAxes.pr) => ((y.1.1, y.1.2.1, y.1.2.2.1, y.1.2.2.2.1, y.1.2.2.2.2.1, y.2.1.1) : spec_JoinAxes.N))) fun n => spec_JoinAxes.CC (spec_JoinAxes.cs k n) :=
  cutsOk_of (step := spec_JoinAxes.step k) rfl (fun _ => rfl) ⟨fun _ => rfl, trivial⟩ (fun c => by kernel_rfl) fun c => ⟨fun x => by kernel_rfl, trivial⟩
theorem spec_JoinAxes.ok (k : Nat) : FnOk Go.Proofs.Try.prog 8 (spec_JoinAxes.F k) :=
  fn_ok tab (spec_JoinAxes.env k) Go.Proofs.Try.func8 rfl (n := 2) (Nat.le_of_ble_eq_true rfl) (by kernel_rfl) (outs := []) (by kernel_rfl) (by kernel_rfl) (d := fun (y : compT spec_JoinAxes.pr) => ((y.1.1, y.1.2.1, y.1.2.2.1, y.1.2.2.2.1, y.1.2.2.2.2.1, y.2.1.1) : spec_JoinAxes.N)) (fun _ => rfl) (C := fun n => spec_JoinAxes.CC (spec_JoinAxes.cs k n)) (k := k) (spec_JoinAxes.cuts k) fun x => by kernel_rfl
/-! impl.within -/
@[reducible] def impl_within.pc : CutP := [(0, some false, [.fl (.int .i64)]), (1, some false, [.fl (.int .i64)]), (2, some false, [.fl (.int .i64)])]
@[reducible] def impl_within.pr : CompPs := [(false, [.fl .bool])]
abbrev impl_within.N := Bool
noncomputable def impl_within.E (k : Nat) : List (FuncId × Go.Rv.Fn) := []
noncomputable def impl_within.f (k : Nat) (a0 : Int) (a1 : Int) (a2 : Int) : Option impl_within.N := (if (decide (a1 ≤ a0)) = true then some (decide (a0 ≤ a2)) else some false)
noncomputable def impl_within.F (k : Nat) : Go.Rv.Fn := mkFn 3 impl_within.pc impl_within.pr (keepOf []) (fun (y : impl_within.N) => (((y, ()), ()) : compT impl_within.pr)) fun x => impl_within.f k x.1.1 x.2.1.1 x.2.2.1.1
theorem impl_within.env (k : Nat) : EnvOk Go.Proofs.Try.prog (fun f => (impl_within.E k).lookup f) := envOk_of trivial
theorem impl_within.ok (k : Nat) : FnOk Go.Proofs.Try.prog 54 (impl_within.F k) :=
  fn_ok tab (impl_within.env k) Go.Proofs.Try.func54 rfl (n := 3) (Nat.le_of_ble_eq_true rfl) (by kernel_rfl) (outs := []) (by kernel_rfl) (by kernel_rfl) (d := fun (y : compT impl_within.pr) => (y.1.1 : impl_within.N)) (fun _ => rfl) (C := fun _ => []) (k := k) noCuts fun x => by kernel_rfl
/-! impl.areWithin$1 -/
@[reducible] def impl_areWithin_1.pc : CutP := [(0, some false, [.fl (.int .i64)]), (1, some false, [.rptr [(.int .i64)]]), (2, some false, [.rptr [(.int .i64)]])]
@[reducible] def impl_areWithin_1.pr : CompPs := [(false, [.fl .bool])]
abbrev impl_areWithin_1.N := Bool
noncomputable def impl_areWithin_1.E (k : Nat) : List (FuncId × Go.Rv.Fn) := [(54, impl_within.F k)]
noncomputable def impl_areWithin_1.f (k : Nat) (a0 : Int) (a1 : Int) (a2 : Int) : Option impl_areWithin_1.N := (impl_within.f k a0 a1 a2).bind fun t1 => some (!t1)
noncomputable def impl_areWithin_1.F (k : Nat) : Go.Rv.Fn := mkFn 3 impl_areWithin_1.pc impl_areWithin_1.pr (keepOf []) (fun (y : impl_areWithin_1.N) => (((y, ()), ()) : compT impl_areWithin_1.pr)) fun x => impl_areWithin_1.f k x.1.1 x.2.1.1.1 x.2.2.1.1.1
theorem impl_areWithin_1.env (k : Nat) : EnvOk Go.Proofs.Try.prog (fun f => (impl_areWithin_1.E k).lookup f) := envOk_of ⟨entry Go.Proofs.Try.call54 rfl (impl_within.ok k), trivial⟩
theorem impl_areWithin_1.ok (k : Nat) : FnOk Go.Proofs.Try.prog 65 (impl_areWithin_1.F k) :=
  fn_ok tab (impl_areWithin_1.env k) Go.Proofs.Try.func65 rfl (n := 3) (Nat.le_of_ble_eq_true rfl) (by kernel_rfl) (outs := []) (by kernel_rfl) (by kernel_rfl) (d := fun (y : compT impl_areWithin_1.pr) => (y.1.1 : impl_areWithin_1.N)) (fun _ => rfl) (C := fun _ => []) (k := k) noCuts fun x => by kernel_rfl
/-! slices.IndexFunc[[]int64,int64] -/
@[reducible] def slices_IndexFunc_int64_areWithin_1.pc : CutP := [(0, some false, [.fl (.lo (.int .i64))]), (1, some false, [.fn 65 [[(.int .i64)], [(.int .i64)]]])]
@[reducible] def slices_IndexFunc_int64_areWithin_1.pr : CompPs := [(false, [.fl (.int .i64)])]
abbrev slices_IndexFunc_int64_areWithin_1.N := Int
noncomputable def slices_IndexFunc_int64_areWithin_1.E (k : Nat) : List (FuncId × Go.Rv.Fn) := [(65, impl_areWithin_1.F k)]
abbrev slices_IndexFunc_int64_areWithin_1.Cs := (List Int → Int → Int → Int → Int → Option slices_IndexFunc_int64_areWithin_1.N)
def slices_IndexFunc_int64_areWithin_1.zero : slices_IndexFunc_int64_areWithin_1.Cs := (fun _ _ _ _ _ => none)
noncomputable def slices_IndexFunc_int64_areWithin_1.step (k : Nat) (c : slices_IndexFunc_int64_areWithin_1.Cs) : slices_IndexFunc_int64_areWithin_1.Cs := (fun (x0 : List Int) (x1 : Int) (x2 : Int) (x3 : Int) (x4 : Int) => (if (decide (x4 < x3)) = true then if 0 ≤ x4 then if x4 < (x0.length : Int) then (impl_areWithin_1.f k (rd 0 x0 x4) x1 x2).bind fun t1 => (if t1 = true then some x4 else c x0 x1 x2 x3 (wrap64 (x4 + 1))) else none else none else some (-1)))
noncomputable def slices_IndexFunc_int64_areWithin_1.cs (k : Nat) : Nat → slices_IndexFunc_int64_areWithin_1.Cs
  | 0 => slices_IndexFunc_int64_areWithin_1.zero
  | n + 1 => slices_IndexFunc_int64_areWithin_1.step k (slices_IndexFunc_int64_areWithin_1.cs k n)
def slices_IndexFunc_int64_areWithin_1.CC (c : slices_IndexFunc_int64_areWithin_1.Cs) : Cuts slices_IndexFunc_int64_areWithin_1.N := [(6, ⟨[(0, some false, [.fl (.lo (.int .i64))]), (1, some false, [.fn 65 [[(.int .i64)], [(.int .i64)]]]), (7, some false, [.fl (.int .i64)]), (8, some false, [.fl (.int .i64)])], fun x => c x.1.1 x.2.1.1.1.1 x.2.1.1.2.1.1 x.2.2.1.1 x.2.2.2.1.1⟩)]
noncomputable def slices_IndexFunc_int64_areWithin_1.f (k : Nat) (a0 : List Int) (a1 : Int) (a2 : Int) : Option slices_IndexFunc_int64_areWithin_1.N := (slices_IndexFunc_int64_areWithin_1.cs k k) a0 a1 a2 (a0.length : Int) 0
noncomputable def slices_IndexFunc_int64_areWithin_1.F (k : Nat) : Go.Rv.Fn := mkFn 2 slices_IndexFunc_int64_areWithin_1.pc slices_IndexFunc_int64_areWithin_1.pr (keepOf []) (fun (y : slices_IndexFunc_int64_areWithin_1.N) => (((y, ()), ()) : compT slices_IndexFunc_int64_areWithin_1.pr)) fun x => slices_IndexFunc_int64_areWithin_1.f k x.1.1 x.2.1.1.1.1 x.2.1.1.2.1.1
theorem slices_IndexFunc_int64_areWithin_1.env (k : Nat) : EnvOk Go.Proofs.Try.prog (fun f => (slices_IndexFunc_int64_areWithin_1.E k).lookup f) := envOk_of ⟨entry Go.Proofs.Try.call65 rfl (impl_areWithin_1.ok k), trivial⟩
theorem slices_IndexFunc_int64_areWithin_1.cuts (k : Nat) : CutsOk Go.Proofs.Try.prog X (fun f => (slices_IndexFunc_int64_areWithin_1.E k).lookup f) Go.Proofs.Try.f66 [] (decN slices_IndexFunc_int64_areWithin_1.pr (fun (y : compT slices_IndexFunc_int64_areWithin_1.pr) => (y.1.1 : slices_IndexFunc_int64_areWithin_1.N))) fun n => slices_IndexFunc_int64_areWithin_1.CC (slices_IndexFunc_int64_areWithin_1.cs k n) :=
  cutsOk_of (step := slices_IndexFunc_int64_areWithin_1.step k) rfl (fun _ => rfl) ⟨fun _ => rfl, trivial⟩ (fun c => by kernel_rfl) fun c => ⟨fun x => by kernel_rfl, trivial⟩
theorem slices_IndexFunc_int64_areWithin_1.ok (k : Nat) : FnOk Go.Proofs.Try.prog 66 (slices_IndexFunc_int64_areWithin_1.F k) :=
  fn_ok tab (slices_IndexFunc_int64_areWithin_1.env k) Go.Proofs.Try.func66 rfl (n := 2) (Nat.le_of_ble_eq_true rfl) (by kernel_rfl) (outs := []) (by kernel_rfl) (by kernel_rfl) (d := fun (y : compT slices_IndexFunc_int64_areWithin_1.pr) => (y.1.1 : slices_IndexFunc_int64_areWithin_1.N)) (fun _ => rfl) (C := fun n => slices_IndexFunc_int64_areWithin_1.CC (slices_IndexFunc_int64_areWithin_1.cs k n)) (k := k) (slices_IndexFunc_int64_areWithin_1.cuts k) fun x => by kernel_rfl
/-! slices.ContainsFunc[[]int64,int64] -/
@[reducible] def slices_ContainsFunc_int64_areWithin_1.pc : CutP := [(0, some false, [.fl (.lo (.int .i64))]), (1, some false, [.fn 65 [[(.int .i64)], [(.int .i64)]]])]
@[reducible] def slices_ContainsFunc_int64_areWithin_1.pr : CompPs := [(false, [.fl .bool])]
abbrev slices_ContainsFunc_int64_areWithin_1.N := Bool
noncomputable def slices_ContainsFunc_int64_areWithin_1.E (k : Nat) : List (FuncId × Go.Rv.Fn) := [(66, slices_IndexFunc_int64_areWithin_1.F k)]
noncomputable def slices_ContainsFunc_int64_areWithin_1.f (k : Nat) (a0 : List Int) (a1 : Int) (a2 : Int) : Option slices_ContainsFunc_int64_areWithin_1.N := (slices_IndexFunc_int64_areWithin_1.f k a0 a1 a2).bind fun (t1 : Int) => some (decide (0 ≤ t1))
noncomputable def slices_ContainsFunc_int64_areWithin_1.F (k : Nat) : Go.Rv.Fn := mkFn 2 slices_ContainsFunc_int64_areWithin_1.pc slices_ContainsFunc_int64_areWithin_1.pr (keepOf []) (fun (y : slices_ContainsFunc_int64_areWithin_1.N) => (((y, ()), ()) : compT slices_ContainsFunc_int64_areWithin_1.pr)) fun x => slices_ContainsFunc_int64_areWithin_1.f k x.1.1 x.2.1.1.1.1 x.2.1.1.2.1.1
theorem slices_ContainsFunc_int64_areWithin_1.env (k : Nat) : EnvOk Go.Proofs.Try.prog (fun f => (slices_ContainsFunc_int64_areWithin_1.E k).lookup f) := envOk_of ⟨entry Go.Proofs.Try.call66 rfl (slices_IndexFunc_int64_areWithin_1.ok k), trivial⟩
theorem slices_ContainsFunc_int64_areWithin_1.ok (k : Nat) : FnOk Go.Proofs.Try.prog 64 (slices_ContainsFunc_int64_areWithin_1.F k) :=
  fn_ok tab (slices_ContainsFunc_int64_areWithin_1.env k) Go.Proofs.Try.func64 rfl (n := 2) (Nat.le_of_ble_eq_true rfl) (by kernel_rfl) (outs := []) (by kernel_rfl) (by kernel_rfl) (d := fun (y : compT slices_ContainsFunc_int64_areWithin_1.pr) => (y.1.1 : slices_ContainsFunc_int64_areWithin_1.N)) (fun _ => rfl) (C := fun _ => []) (k := k) noCuts fun x => by kernel_rfl
/-! impl.areWithin -/
@[reducible] def impl_areWithin.pc : CutP := [(0, some false, [.fl (.lo (.int .i64))]), (1, some false, [.fl (.int .i64)]), (2, some false, [.fl (.int .i64)])]
@[reducible] def impl_areWithin.pr : CompPs := [(false, [.fl .bool])]
abbrev impl_areWithin.N := Bool
noncomputable def impl_areWithin.E (k : Nat) : List (FuncId × Go.Rv.Fn) := [(64, slices_ContainsFunc_int64_areWithin_1.F k)]
noncomputable def impl_areWithin.f (k : Nat) (a0 : List Int) (a1 : Int) (a2 : Int) : Option impl_areWithin.N := (slices_ContainsFunc_int64_areWithin_1.f k a0 a1 a2).bind fun t1 => some (!t1)
noncomputable def impl_areWithin.F (k : Nat) : Go.Rv.Fn := mkFn 3 impl_areWithin.pc impl_areWithin.pr (keepOf []) (fun (y : impl_areWithin.N) => (((y, ()), ()) : compT impl_areWithin.pr)) fun x => impl_areWithin.f k x.1.1 x.2.1.1 x.2.2.1.1
theorem impl_areWithin.env (k : Nat) : EnvOk Go.Proofs.Try.prog (fun f => (impl_areWithin.E k).lookup f) := envOk_of ⟨entry Go.Proofs.Try.call64 rfl (slices_ContainsFunc_int64_areWithin_1.ok k), trivial⟩
theorem impl_areWithin.ok (k : Nat) : FnOk Go.Proofs.Try.prog 60 (impl_areWithin.F k) :=
  fn_ok tab (impl_areWithin.env k) Go.Proofs.Try.func60 rfl (n := 3) (Nat.le_of_ble_eq_true rfl) (by kernel_rfl) (outs := []) (by kernel_rfl) (by kernel_rfl) (d := fun (y : compT impl_areWithin.pr) => (y.1.1 : impl_areWithin.N)) (fun _ => rfl) (C := fun _ => []) (k := k) noCuts fun x => by kernel_rfl
/-! impl.ValidPose -/
@[reducible] def impl_ValidPose.pc : CutP := [(0, some true, [.fl (.int .i64), .fl (.int .i64), .fl (.int .i64), .fl (.int .i64)])]
@[reducible] def impl_ValidPose.pr : CompPs := [(false, [.fl .bool])]
abbrev impl_ValidPose.N := Bool
noncomputable def impl_ValidPose.E (k : Nat) : List (FuncId × Go.Rv.Fn) := [(60, impl_areWithin.F k)]
noncomputable def impl_ValidPose.f (k : Nat) (a0 : Int) (a1 : Int) (a2 : Int) (a3 : Int) : Option impl_ValidPose.N := (impl_areWithin.f k [a0, a1] (-100000) 100000).bind fun t1 => (if t1 = true then (impl_areWithin.f k [a2, a3] (-400) 400).bind fun t2 => some t2 else some false)
noncomputable def impl_ValidPose.F (k : Nat) : Go.Rv.Fn := mkFn 1 impl_ValidPose.pc impl_ValidPose.pr (keepOf []) (fun (y : impl_ValidPose.N) => (((y, ()), ()) : compT impl_ValidPose.pr)) fun x => impl_ValidPose.f k x.1.1 x.1.2.1 x.1.2.2.1 x.1.2.2.2.1
theorem impl_ValidPose.env (k : Nat) : EnvOk Go.Proofs.Try.prog (fun f => (impl_ValidPose.E k).lookup f) := envOk_of ⟨entry Go.Proofs.Try.call60 rfl (impl_areWithin.ok k), trivial⟩
theorem impl_ValidPose.ok (k : Nat) : FnOk Go.Proofs.Try.prog 47 (impl_ValidPose.F k) :=
  fn_ok tab (impl_ValidPose.env k) Go.Proofs.Try.func47 rfl (n := 1) (Nat.le_of_ble_eq_true rfl) (by kernel_rfl) (outs := []) (by kernel_rfl) (by kernel_rfl) (d := fun (y : compT impl_ValidPose.pr) => (y.1.1 : impl_ValidPose.N)) (fun _ => rfl) (C := fun _ => []) (k := k) noCuts fun x => by kernel_rfl
/-! impl.isTurn -/
@[reducible] def impl_isTurn.pc : CutP := [(0, some false, [.fl (.int .i64)]), (1, some false, [.fl (.int .i64)])]
@[reducible] def impl_isTurn.pr : CompPs := [(false, [.fl .bool])]
abbrev impl_isTurn.N := Bool
noncomputable def impl_isTurn.E (k : Nat) : List (FuncId × Go.Rv.Fn) := [(60, impl_areWithin.F k)]
noncomputable def impl_isTurn.f (k : Nat) (a0 : Int) (a1 : Int) : Option impl_isTurn.N := (impl_areWithin.f k [a0, a1] (-12) 12).bind fun t1 => some t1
noncomputable def impl_isTurn.F (k : Nat) : Go.Rv.Fn := mkFn 2 impl_isTurn.pc impl_isTurn.pr (keepOf []) (fun (y : impl_isTurn.N) => (((y, ()), ()) : compT impl_isTurn.pr)) fun x => impl_isTurn.f k x.1.1 x.2.1.1
theorem impl_isTurn.env (k : Nat) : EnvOk Go.Proofs.Try.prog (fun f => (impl_isTurn.E k).lookup f) := envOk_of ⟨entry Go.Proofs.Try.call60 rfl (impl_areWithin.ok k), trivial⟩
theorem impl_isTurn.ok (k : Nat) : FnOk Go.Proofs.Try.prog 55 (impl_isTurn.F k) :=
  fn_ok tab (impl_isTurn.env k) Go.Proofs.Try.func55 rfl (n := 2) (Nat.le_of_ble_eq_true rfl) (by kernel_rfl) (outs := []) (by kernel_rfl) (by kernel_rfl) (d := fun (y : compT impl_isTurn.pr) => (y.1.1 : impl_isTurn.N)) (fun _ => rfl) (C := fun _ => []) (k := k) noCuts fun x => by kernel_rfl
/-! (impl.Pose).next -/
@[reducible] def impl_Pose_next.pc : CutP := [(0, some true, [.fl (.int .i64), .fl (.int .i64), .fl (.int .i64), .fl (.int .i64)]), (1, some false, [.fl (.int .i64)]), (2, some false, [.fl (.int .i64)])]
@[reducible] def impl_Pose_next.pr : CompPs := [(true, [.fl (.int .i64), .fl (.int .i64), .fl (.int .i64), .fl (.int .i64)])]
abbrev impl_Pose_next.N := Int × Int × Int × Int
noncomputable def impl_Pose_next.E (k : Nat) : List (FuncId × Go.Rv.Fn) := []
noncomputable def impl_Pose_next.f (k : Nat) (a0 : Int) (a1 : Int) (a2 : Int) (a3 : Int) (a4 : Int) (a5 : Int) : Option impl_Pose_next.N := some ((wrap64 (a0 + a2)), (wrap64 (a1 + a3)), (wrap64 (a2 + a4)), (wrap64 (a3 + a5)))
noncomputable def impl_Pose_next.F (k : Nat) : Go.Rv.Fn := mkFn 3 impl_Pose_next.pc impl_Pose_next.pr (keepOf []) (fun (y : impl_Pose_next.N) => (((y.1, y.2.1, y.2.2.1, y.2.2.2, ()), ()) : compT impl_Pose_next.pr)) fun x => impl_Pose_next.f k x.1.1 x.1.2.1 x.1.2.2.1 x.1.2.2.2.1 x.2.1.1 x.2.2.1.1
theorem impl_Pose_next.env (k : Nat) : EnvOk Go.Proofs.Try.prog (fun f => (impl_Pose_next.E k).lookup f) := envOk_of trivial
theorem impl_Pose_next.ok (k : Nat) : FnOk Go.Proofs.Try.prog 56 (impl_Pose_next.F k) :=
  fn_ok tab (impl_Pose_next.env k) Go.Proofs.Try.func56 rfl (n := 3) (Nat.le_of_ble_eq_true rfl) (by kernel_rfl) (outs := []) (by kernel_rfl) (by kernel_rfl) (d := fun (y : compT impl_Pose_next.pr) => ((y.1.1, y.1.2.1, y.1.2.2.1, y.1.2.2.2.1) : impl_Pose_next.N)) (fun _ => rfl) (C := fun _ => []) (k := k) noCuts fun x => by kernel_rfl
/-! (impl.Axis).poses -/
@[reducible] def impl_Axis_poses.pc : CutP := [(0, some true, [.fl (.int .i64), .fl (.int .i64), .fl (.int .i64), .fl (.int .i64), .fl (.lo (.pair (.int .i64) (.pair (.int .i64) (.int .i64))))])]
@[reducible] def impl_Axis_poses.pr : CompPs := [(false, [.fl (.own (.pair (.int .i64) (.pair (.int .i64) (.pair (.int .i64) (.int .i64)))))]), (false, [.fl .bool])]
abbrev impl_Axis_poses.N := List (Int × Int × Int × Int) × Bool
noncomputable def impl_Axis_poses.E (k : Nat) : List (FuncId × Go.Rv.Fn) := [(47, impl_ValidPose.F k), (54, impl_within.F k), (55, impl_isTurn.F k), (56, impl_Pose_next.F k)]
abbrev impl_Axis_poses.Cs := (Int → Int → Int → Int → List (Int × Int × Int) → List (Int × Int × Int × Int) → Option impl_Axis_poses.N) × (List (Int × Int × Int × Int) → List (Int × Int × Int) → Int → Int → Option impl_Axis_poses.N) × (List (Int × Int × Int × Int) → Int → Int → Int → List (Int × Int × Int) → Int → Int → Option impl_Axis_poses.N) × (List (Int × Int × Int × Int) → Int → Int → Int → List (Int × Int × Int) → Int → Int → Int → Int → Option impl_Axis_poses.N)
def impl_Axis_poses.zero : impl_Axis_poses.Cs := (fun _ _ _ _ _ _ => none, fun _ _ _ _ => none, fun _ _ _ _ _ _ _ => none, fun _ _ _ _ _ _ _ _ _ => none)
noncomputable def impl_Axis_poses.step (k : Nat) (c : impl_Axis_poses.Cs) : impl_Axis_poses.Cs := (fun (x0 : Int) (x1 : Int) (x2 : Int) (x3 : Int) (x4 : List (Int × Int × Int)) (x5 : List (Int × Int × Int × Int)) => c.2.1 x5 x4 (x4.length : Int) 0,
  fun (x0 : List (Int × Int × Int × Int)) (x1 : List (Int × Int × Int)) (x2 : Int) (x3 : Int) => (if (decide (x3 < x2)) = true then if 0 ≤ x3 then if x3 < (x1.length : Int) then (impl_within.f k ((rd (0, (0, 0)) x1 x3).1) 1 60).bind fun t3 => (if (!t3) = true then some ([], false) else (impl_isTurn.f k (((rd (0, (0, 0)) x1 x3).2).1) (((rd (0, (0, 0)) x1 x3).2).2)).bind fun t4 => (if (!t4) = true then some ([], false) else (if (decide (61 < (wrap64 ((x0.length : Int) + (rd (0, (0, 0)) x1 x3).1)))) = true then some ([], false) else c.2.2.1 x0 ((rd (0, (0, 0)) x1 x3).1) (((rd (0, (0, 0)) x1 x3).2).1) (((rd (0, (0, 0)) x1 x3).2).2) x1 x2 x3))) else none else none else some (x0, true)),
  fun (x0 : List (Int × Int × Int × Int)) (x1 : Int) (x2 : Int) (x3 : Int) (x4 : List (Int × Int × Int)) (x5 : Int) (x6 : Int) => c.2.2.2 x0 x1 x2 x3 x4 x5 x6 x1 0,
  fun (x0 : List (Int × Int × Int × Int)) (x1 : Int) (x2 : Int) (x3 : Int) (x4 : List (Int × Int × Int)) (x5 : Int) (x6 : Int) (x7 : Int) (x8 : Int) => (if (decide (x8 < x7)) = true then if 0 ≤ (wrap64 ((x0.length : Int) - 1)) then if (wrap64 ((x0.length : Int) - 1)) < (x0.length : Int) then (impl_Pose_next.f k ((rd (0, (0, (0, 0))) x0 (wrap64 ((x0.length : Int) - 1))).1) (((rd (0, (0, (0, 0))) x0 (wrap64 ((x0.length : Int) - 1))).2).1) ((((rd (0, (0, (0, 0))) x0 (wrap64 ((x0.length : Int) - 1))).2).2).1) ((((rd (0, (0, (0, 0))) x0 (wrap64 ((x0.length : Int) - 1))).2).2).2) x2 x3).bind fun t5 => (impl_ValidPose.f k t5.1 t5.2.1 t5.2.2.1 t5.2.2.2).bind fun t6 => (if (!t6) = true then some ([], false) else if x0.length + [t5].length < 274877906944 then c.2.2.2 (x0 ++ [t5]) x1 x2 x3 x4 x5 x6 x7 (wrap64 (x8 + 1)) else none) else none else none else c.2.1 x0 x4 x5 (wrap64 (x6 + 1))))
noncomputable def impl_Axis_poses.cs (k : Nat) : Nat → impl_Axis_poses.Cs
  | 0 => impl_Axis_poses.zero
  | n + 1 => impl_Axis_poses.step k (impl_Axis_poses.cs k n)
def impl_Axis_poses.CC (c : impl_Axis_poses.Cs) : Cuts impl_Axis_poses.N := [(4, ⟨[(1, none, [.fl (.int .i64), .fl (.int .i64), .fl (.int .i64), .fl (.int .i64), .fl (.lo (.pair (.int .i64) (.pair (.int .i64) (.int .i64))))]), (4, some false, [.fl (.own (.pair (.int .i64) (.pair (.int .i64) (.pair (.int .i64) (.int .i64)))))])], fun x => c.1 x.1.1 x.1.2.1 x.1.2.2.1 x.1.2.2.2.1 x.1.2.2.2.2.1 x.2.1.1⟩),
  (16, ⟨[(4, some false, [.fl (.own (.pair (.int .i64) (.pair (.int .i64) (.pair (.int .i64) (.int .i64)))))]), (23, some false, [.fl (.lo (.pair (.int .i64) (.pair (.int .i64) (.int .i64))))]), (24, some false, [.fl (.int .i64)]), (25, some false, [.fl (.int .i64)])], fun x => c.2.1 x.1.1 x.2.1.1 x.2.2.1.1 x.2.2.2.1.1⟩),
  (27, ⟨[(4, some false, [.fl (.own (.pair (.int .i64) (.pair (.int .i64) (.pair (.int .i64) (.int .i64)))))]), (6, none, [.fl (.int .i64), .fl (.int .i64), .fl (.int .i64)]), (23, some false, [.fl (.lo (.pair (.int .i64) (.pair (.int .i64) (.int .i64))))]), (24, some false, [.fl (.int .i64)]), (25, some false, [.fl (.int .i64)])], fun x => c.2.2.1 x.1.1 x.2.1.1 x.2.1.2.1 x.2.1.2.2.1 x.2.2.1.1 x.2.2.2.1.1 x.2.2.2.2.1.1⟩),
  (38, ⟨[(4, some false, [.fl (.own (.pair (.int .i64) (.pair (.int .i64) (.pair (.int .i64) (.int .i64)))))]), (6, none, [.fl (.int .i64), .fl (.int .i64), .fl (.int .i64)]), (23, some false, [.fl (.lo (.pair (.int .i64) (.pair (.int .i64) (.int .i64))))]), (24, some false, [.fl (.int .i64)]), (25, some false, [.fl (.int .i64)]), (50, some false, [.fl (.int .i64)]), (51, some false, [.fl (.int .i64)])], fun x => c.2.2.2 x.1.1 x.2.1.1 x.2.1.2.1 x.2.1.2.2.1 x.2.2.1.1 x.2.2.2.1.1 x.2.2.2.2.1.1 x.2.2.2.2.2.1.1 x.2.2.2.2.2.2.1.1⟩)]
noncomputable def impl_Axis_poses.f (k : Nat) (a0 : Int) (a1 : Int) (a2 : Int) (a3 : Int) (a4 : List (Int × Int × Int)) : Option impl_Axis_poses.N := (impl_ValidPose.f k a0 a1 a2 a3).bind fun t1 => (if (!t1) = true then some ([], false) else (impl_within.f k (a4.length : Int) 1 8).bind fun t2 => (if (!t2) = true then some ([], false) else (impl_Axis_poses.cs k k).1 a0 a1 a2 a3 a4 [(a0, (a1, (a2, a3)))]))
noncomputable def impl_Axis_poses.F (k : Nat) : Go.Rv.Fn := mkFn 1 impl_Axis_poses.pc impl_Axis_poses.pr (keepOf []) (fun (y : impl_Axis_poses.N) => (((y.1, ()), (y.2, ()), ()) : compT impl_Axis_poses.pr)) fun x => impl_Axis_poses.f k x.1.1 x.1.2.1 x.1.2.2.1 x.1.2.2.2.1 x.1.2.2.2.2.1
theorem impl_Axis_poses.env (k : Nat) : EnvOk Go.Proofs.Try.prog (fun f => (impl_Axis_poses.E k).lookup f) := envOk_of ⟨entry Go.Proofs.Try.call47 rfl (impl_ValidPose.ok k), entry Go.Proofs.Try.call54 rfl (impl_within.ok k), entry Go.Proofs.Try.call55 rfl (impl_isTurn.ok k), entry Go.Proofs.Try.call56 rfl (impl_Pose_next.ok k), trivial⟩
theorem impl_Axis_poses.cuts (k : Nat) : CutsOk Go.Proofs.Try.prog X (fun f => (impl_Axis_poses.E k).lookup f) Go.Proofs.Try.f33 [] (decN impl_Axis_poses.pr (fun (y : compT impl_Axis_poses.pr) => ((y.1.1, y.2.1.1) : impl_Axis_poses.N))) fun n => impl_Axis_poses.CC (impl_Axis_poses.cs k n) :=
  cutsOk_of (step := impl_Axis_poses.step k) rfl (fun _ => rfl) ⟨fun _ => rfl, fun _ => rfl, fun _ => rfl, fun _ => rfl, trivial⟩ (fun c => by kernel_rfl) fun c => ⟨fun x => by kernel_rfl, fun x => by kernel_rfl, fun x => by kernel_rfl, fun x => by kernel_rfl, trivial⟩
theorem impl_Axis_poses.ok (k : Nat) : FnOk Go.Proofs.Try.prog 33 (impl_Axis_poses.F k) :=
  fn_ok tab (impl_Axis_poses.env k) Go.Proofs.Try.func33 rfl (n := 1) (Nat.le_of_ble_eq_true rfl) (by kernel_rfl) (outs := []) (by kernel_rfl) (by kernel_rfl) (d := fun (y : compT impl_Axis_poses.pr) => ((y.1.1, y.2.1.1) : impl_Axis_poses.N)) (fun _ => rfl) (C := fun n => impl_Axis_poses.CC (impl_Axis_poses.cs k n)) (k := k) (impl_Axis_poses.cuts k) fun x => by kernel_rfl
/-! slices.Grow[[]impl.Curve,impl.Curve] -/
@[reducible] def slices_Grow_Curve.pc : CutP := [(0, some false, [.fl .nils]), (1, some false, [.fl (.int .i64)])]
@[reducible] def slices_Grow_Curve.pr : CompPs := [(false, [.fl (.own (.pair (.int .i64) (.pair (.int .i64) (.int .i64))))])]
abbrev slices_Grow_Curve.N := List (Int × Int × Int)
noncomputable def slices_Grow_Curve.E (k : Nat) : List (FuncId × Go.Rv.Fn) := []
noncomputable def slices_Grow_Curve.f (k : Nat) (a0 : Int) : Option slices_Grow_Curve.N := T.growF a0
noncomputable def slices_Grow_Curve.F (k : Nat) : Go.Rv.Fn := mkFn 2 slices_Grow_Curve.pc slices_Grow_Curve.pr (keepOf []) (fun (y : slices_Grow_Curve.N) => (((y, ()), ()) : compT slices_Grow_Curve.pr)) fun x => slices_Grow_Curve.f k x.2.1.1
theorem slices_Grow_Curve.ok (k : Nat) : FnOk Go.Proofs.Try.prog 57 (slices_Grow_Curve.F k) := T.grow_fn
/-! slices.Concat[[]impl.Curve,impl.Curve] -/
@[reducible] def slices_Concat_Curve.pc : CutP := [(0, some false, [.fl (.lo (.sl (.pair (.int .i64) (.pair (.int .i64) (.int .i64)))))])]
@[reducible] def slices_Concat_Curve.pr : CompPs := [(false, [.fl (.own (.pair (.int .i64) (.pair (.int .i64) (.int .i64))))])]
abbrev slices_Concat_Curve.N := List (Int × Int × Int)
noncomputable def slices_Concat_Curve.E (k : Nat) : List (FuncId × Go.Rv.Fn) := [(57, slices_Grow_Curve.F k)]
abbrev slices_Concat_Curve.Cs := (List (List (Int × Int × Int)) → Int → List (List (Int × Int × Int)) → Int → Int → Option slices_Concat_Curve.N) × (List (Int × Int × Int) → List (List (Int × Int × Int)) → Int → Int → Option slices_Concat_Curve.N)
def slices_Concat_Curve.zero : slices_Concat_Curve.Cs := (fun _ _ _ _ _ => none, fun _ _ _ _ => none)
noncomputable def slices_Concat_Curve.step (k : Nat) (c : slices_Concat_Curve.Cs) : slices_Concat_Curve.Cs := (fun (x0 : List (List (Int × Int × Int))) (x1 : Int) (x2 : List (List (Int × Int × Int))) (x3 : Int) (x4 : Int) => (if (decide (x4 < x3)) = true then if 0 ≤ x4 then if x4 < (x2.length : Int) then (if (decide ((wrap64 (x1 + ((rd [] x2 x4).length : Int))) < 0)) = true then none else c.1 x0 (wrap64 (x1 + ((rd [] x2 x4).length : Int))) x2 x3 (wrap64 (x4 + 1))) else none else none else (slices_Grow_Curve.f k x1).bind fun t1 => c.2 t1 x0 (x0.length : Int) 0),
  fun (x0 : List (Int × Int × Int)) (x1 : List (List (Int × Int × Int))) (x2 : Int) (x3 : Int) => (if (decide (x3 < x2)) = true then if 0 ≤ x3 then if x3 < (x1.length : Int) then if x0.length + (rd [] x1 x3).length < 366503875925 then c.2 (x0 ++ (rd [] x1 x3)) x1 x2 (wrap64 (x3 + 1)) else none else none else none else some x0))
noncomputable def slices_Concat_Curve.cs (k : Nat) : Nat → slices_Concat_Curve.Cs
  | 0 => slices_Concat_Curve.zero
  | n + 1 => slices_Concat_Curve.step k (slices_Concat_Curve.cs k n)
def slices_Concat_Curve.CC (c : slices_Concat_Curve.Cs) : Cuts slices_Concat_Curve.N := [(8, ⟨[(0, some false, [.fl (.lo (.sl (.pair (.int .i64) (.pair (.int .i64) (.int .i64)))))]), (3, some false, [.fl (.int .i64)]), (9, some false, [.fl (.lo (.sl (.pair (.int .i64) (.pair (.int .i64) (.int .i64)))))]), (10, some false, [.fl (.int .i64)]), (11, some false, [.fl (.int .i64)])], fun x => c.1 x.1.1 x.2.1.1 x.2.2.1.1 x.2.2.2.1.1 x.2.2.2.2.1.1⟩),
  (33, ⟨[(6, some false, [.fl (.own (.pair (.int .i64) (.pair (.int .i64) (.int .i64))))]), (25, some false, [.fl (.lo (.sl (.pair (.int .i64) (.pair (.int .i64) (.int .i64)))))]), (26, some false, [.fl (.int .i64)]), (27, some false, [.fl (.int .i64)])], fun x => c.2 x.1.1 x.2.1.1 x.2.2.1.1 x.2.2.2.1.1⟩)]
noncomputable def slices_Concat_Curve.f (k : Nat) (a0 : List (List (Int × Int × Int))) : Option slices_Concat_Curve.N := (slices_Concat_Curve.cs k k).1 a0 0 a0 (a0.length : Int) 0
noncomputable def slices_Concat_Curve.F (k : Nat) : Go.Rv.Fn := mkFn 1 slices_Concat_Curve.pc slices_Concat_Curve.pr (keepOf []) (fun (y : slices_Concat_Curve.N) => (((y, ()), ()) : compT slices_Concat_Curve.pr)) fun x => slices_Concat_Curve.f k x.1.1
theorem slices_Concat_Curve.env (k : Nat) : EnvOk Go.Proofs.Try.prog (fun f => (slices_Concat_Curve.E k).lookup f) := envOk_of ⟨entry Go.Proofs.Try.call57 rfl (slices_Grow_Curve.ok k), trivial⟩
theorem slices_Concat_Curve.cuts (k : Nat) : CutsOk Go.Proofs.Try.prog X (fun f => (slices_Concat_Curve.E k).lookup f) Go.Proofs.Try.f34 [] (decN slices_Concat_Curve.pr (fun (y : compT slices_Concat_Curve.pr) => (y.1.1 : slices_Concat_Curve.N))) fun n => slices_Concat_Curve.CC (slices_Concat_Curve.cs k n) :=
  cutsOk_of (step := slices_Concat_Curve.step k) rfl (fun _ => rfl) ⟨fun _ => rfl, fun _ => rfl, trivial⟩ (fun c => by kernel_rfl) fun c => ⟨fun x => by kernel_rfl, fun x => by kernel_rfl, trivial⟩
theorem slices_Concat_Curve.ok (k : Nat) : FnOk Go.Proofs.Try.prog 34 (slices_Concat_Curve.F k) :=
  fn_ok tab (slices_Concat_Curve.env k) Go.Proofs.Try.func34 rfl (n := 1) (Nat.le_of_ble_eq_true rfl) (by kernel_rfl) (outs := []) (by kernel_rfl) (by kernel_rfl) (d := fun (y : compT slices_Concat_Curve.pr) => (y.1.1 : slices_Concat_Curve.N)) (fun _ => rfl) (C := fun n => slices_Concat_Curve.CC (slices_Concat_Curve.cs k n)) (k := k) (slices_Concat_Curve.cuts k) fun x => by kernel_rfl
/-! impl.ValidAxis -/
@[reducible] def impl_ValidAxis.pc : CutP := [(0, some true, [.fl (.int .i64), .fl (.int .i64), .fl (.int .i64), .fl (.int .i64), .fl (.lo (.pair (.int .i64) (.pair (.int .i64) (.int .i64))))])]
@[reducible] def impl_ValidAxis.pr : CompPs := [(false, [.fl .bool])]
abbrev impl_ValidAxis.N := Bool
noncomputable def impl_ValidAxis.E (k : Nat) : List (FuncId × Go.Rv.Fn) := [(33, impl_Axis_poses.F k)]
noncomputable def impl_ValidAxis.f (k : Nat) (a0 : Int) (a1 : Int) (a2 : Int) (a3 : Int) (a4 : List (Int × Int × Int)) : Option impl_ValidAxis.N := (impl_Axis_poses.f k a0 a1 a2 a3 a4).bind fun t1 => some t1.2
noncomputable def impl_ValidAxis.F (k : Nat) : Go.Rv.Fn := mkFn 1 impl_ValidAxis.pc impl_ValidAxis.pr (keepOf []) (fun (y : impl_ValidAxis.N) => (((y, ()), ()) : compT impl_ValidAxis.pr)) fun x => impl_ValidAxis.f k x.1.1 x.1.2.1 x.1.2.2.1 x.1.2.2.2.1 x.1.2.2.2.2.1
theorem impl_ValidAxis.env (k : Nat) : EnvOk Go.Proofs.Try.prog (fun f => (impl_ValidAxis.E k).lookup f) := envOk_of ⟨entry Go.Proofs.Try.call33 rfl (impl_Axis_poses.ok k), trivial⟩
theorem impl_ValidAxis.ok (k : Nat) : FnOk Go.Proofs.Try.prog 35 (impl_ValidAxis.F k) :=
  fn_ok tab (impl_ValidAxis.env k) Go.Proofs.Try.func35 rfl (n := 1) (Nat.le_of_ble_eq_true rfl) (by kernel_rfl) (outs := []) (by kernel_rfl) (by kernel_rfl) (d := fun (y : compT impl_ValidAxis.pr) => (y.1.1 : impl_ValidAxis.N)) (fun _ => rfl) (C := fun _ => []) (k := k) noCuts fun x => by kernel_rfl
/-! impl.JoinAxes -/
@[reducible] def impl_JoinAxes.pc : CutP := [(0, some true, [.fl (.int .i64), .fl (.int .i64), .fl (.int .i64), .fl (.int .i64), .fl (.lo (.pair (.int .i64) (.pair (.int .i64) (.int .i64))))]), (1, some true, [.fl (.int .i64), .fl (.int .i64), .fl (.int .i64), .fl (.int .i64), .fl (.lo (.pair (.int .i64) (.pair (.int .i64) (.int .i64))))])]
@[reducible] def impl_JoinAxes.pr : CompPs := [(true, [.fl (.int .i64), .fl (.int .i64), .fl (.int .i64), .fl (.int .i64), .fl (.own (.pair (.int .i64) (.pair (.int .i64) (.int .i64))))]), (false, [.fl .bool])]
abbrev impl_JoinAxes.N := Int × Int × Int × Int × List (Int × Int × Int) × Bool
noncomputable def impl_JoinAxes.E (k : Nat) : List (FuncId × Go.Rv.Fn) := [(33, impl_Axis_poses.F k), (34, slices_Concat_Curve.F k), (35, impl_ValidAxis.F k)]
noncomputable def impl_JoinAxes.f (k : Nat) (a0 : Int) (a1 : Int) (a2 : Int) (a3 : Int) (a4 : List (Int × Int × Int)) (a5 : Int) (a6 : Int) (a7 : Int) (a8 : Int) (a9 : List (Int × Int × Int)) : Option impl_JoinAxes.N := (impl_Axis_poses.f k a0 a1 a2 a3 a4).bind fun t1 => (slices_Concat_Curve.f k [a4, a9]).bind fun t2 => (if (!t1.2) = true then some (0, 0, 0, 0, [], false) else (impl_ValidAxis.f k a5 a6 a7 a8 a9).bind fun t3 => (if (!t3) = true then some (0, 0, 0, 0, [], false) else if 0 ≤ (wrap64 ((t1.1.length : Int) - 1)) then if (wrap64 ((t1.1.length : Int) - 1)) < (t1.1.length : Int) then (if (!(decide (a5 = (rd (0, (0, (0, 0))) t1.1 (wrap64 ((t1.1.length : Int) - 1))).1) && (decide (a6 = ((rd (0, (0, (0, 0))) t1.1 (wrap64 ((t1.1.length : Int) - 1))).2).1) && (decide (a7 = (((rd (0, (0, (0, 0))) t1.1 (wrap64 ((t1.1.length : Int) - 1))).2).2).1) && (decide (a8 = (((rd (0, (0, (0, 0))) t1.1 (wrap64 ((t1.1.length : Int) - 1))).2).2).2) && true))))) = true then some (0, 0, 0, 0, [], false) else (impl_ValidAxis.f k a0 a1 a2 a3 t2).bind fun t4 => (if (!t4) = true then some (0, 0, 0, 0, [], false) else some (a0, a1, a2, a3, t2, true))) else none else none))
noncomputable def impl_JoinAxes.F (k : Nat) : Go.Rv.Fn := mkFn 2 impl_JoinAxes.pc impl_JoinAxes.pr (keepOf []) (fun (y : impl_JoinAxes.N) => (((y.1, y.2.1, y.2.2.1, y.2.2.2.1, y.2.2.2.2.1, ()), (y.2.2.2.2.2, ()), ()) : compT impl_JoinAxes.pr)) fun x => impl_JoinAxes.f k x.1.1 x.1.2.1 x.1.2.2.1 x.1.2.2.2.1 x.1.2.2.2.2.1 x.2.1.1 x.2.1.2.1 x.2.1.2.2.1 x.2.1.2.2.2.1 x.2.1.2.2.2.2.1
theorem impl_JoinAxes.env (k : Nat) : EnvOk Go.Proofs.Try.prog (fun f => (impl_JoinAxes.E k).lookup f) := envOk_of ⟨entry Go.Proofs.Try.call33 rfl (impl_Axis_poses.ok k), entry Go.Proofs.Try.call34 rfl (slices_Concat_Curve.ok k), entry Go.Proofs.Try.call35 rfl (impl_ValidAxis.ok k), trivial⟩
theorem impl_JoinAxes.ok (k : Nat) : FnOk Go.Proofs.Try.prog 10 (impl_JoinAxes.F k) :=
  fn_ok tab (impl_JoinAxes.env k) Go.Proofs.Try.func10 rfl (n := 2) (Nat.le_of_ble_eq_true rfl) (by kernel_rfl) (outs := []) (by kernel_rfl) (by kernel_rfl) (d := fun (y : compT impl_JoinAxes.pr) => ((y.1.1, y.1.2.1, y.1.2.2.1, y.1.2.2.2.1, y.1.2.2.2.2.1, y.2.1.1) : impl_JoinAxes.N)) (fun _ => rfl) (C := fun _ => []) (k := k) noCuts fun x => by kernel_rfl
/-! laws.eqPose -/
@[reducible] def laws_eqPose.pc : CutP := [(0, some true, [.fl (.int .i64), .fl (.int .i64), .fl (.int .i64), .fl (.int .i64)]), (1, some true, [.fl (.int .i64), .fl (.int .i64), .fl (.int .i64), .fl (.int .i64)])]
@[reducible] def laws_eqPose.pr : CompPs := [(false, [.fl .bool])]
abbrev laws_eqPose.N := Bool
noncomputable def laws_eqPose.E (k : Nat) : List (FuncId × Go.Rv.Fn) := []
noncomputable def laws_eqPose.f (k : Nat) (a0 : Int) (a1 : Int) (a2 : Int) (a3 : Int) (a4 : Int) (a5 : Int) (a6 : Int) (a7 : Int) : Option laws_eqPose.N := (if (!decide (a0 = a4)) = true then some false else (if (!decide (a1 = a5)) = true then some false else (if (!decide (a2 = a6)) = true then some false else (if (!decide (a3 = a7)) = true then some false else some true))))
noncomputable def laws_eqPose.F (k : Nat) : Go.Rv.Fn := mkFn 2 laws_eqPose.pc laws_eqPose.pr (keepOf []) (fun (y : laws_eqPose.N) => (((y, ()), ()) : compT laws_eqPose.pr)) fun x => laws_eqPose.f k x.1.1 x.1.2.1 x.1.2.2.1 x.1.2.2.2.1 x.2.1.1 x.2.1.2.1 x.2.1.2.2.1 x.2.1.2.2.2.1
theorem laws_eqPose.env (k : Nat) : EnvOk Go.Proofs.Try.prog (fun f => (laws_eqPose.E k).lookup f) := envOk_of trivial
theorem laws_eqPose.ok (k : Nat) : FnOk Go.Proofs.Try.prog 36 (laws_eqPose.F k) :=
  fn_ok tab (laws_eqPose.env k) Go.Proofs.Try.func36 rfl (n := 2) (Nat.le_of_ble_eq_true rfl) (by kernel_rfl) (outs := []) (by kernel_rfl) (by kernel_rfl) (d := fun (y : compT laws_eqPose.pr) => (y.1.1 : laws_eqPose.N)) (fun _ => rfl) (C := fun _ => []) (k := k) noCuts fun x => by kernel_rfl
/-! laws.eqCurve -/
@[reducible] def laws_eqCurve.pc : CutP := [(0, some true, [.fl (.int .i64), .fl (.int .i64), .fl (.int .i64)]), (1, some true, [.fl (.int .i64), .fl (.int .i64), .fl (.int .i64)])]
@[reducible] def laws_eqCurve.pr : CompPs := [(false, [.fl .bool])]
abbrev laws_eqCurve.N := Bool
noncomputable def laws_eqCurve.E (k : Nat) : List (FuncId × Go.Rv.Fn) := []
noncomputable def laws_eqCurve.f (k : Nat) (a0 : Int) (a1 : Int) (a2 : Int) (a3 : Int) (a4 : Int) (a5 : Int) : Option laws_eqCurve.N := (if (!decide (a0 = a3)) = true then some false else (if (!decide (a1 = a4)) = true then some false else (if (!decide (a2 = a5)) = true then some false else some true)))
noncomputable def laws_eqCurve.F (k : Nat) : Go.Rv.Fn := mkFn 2 laws_eqCurve.pc laws_eqCurve.pr (keepOf []) (fun (y : laws_eqCurve.N) => (((y, ()), ()) : compT laws_eqCurve.pr)) fun x => laws_eqCurve.f k x.1.1 x.1.2.1 x.1.2.2.1 x.2.1.1 x.2.1.2.1 x.2.1.2.2.1
theorem laws_eqCurve.env (k : Nat) : EnvOk Go.Proofs.Try.prog (fun f => (laws_eqCurve.E k).lookup f) := envOk_of trivial
theorem laws_eqCurve.ok (k : Nat) : FnOk Go.Proofs.Try.prog 58 (laws_eqCurve.F k) :=
  fn_ok tab (laws_eqCurve.env k) Go.Proofs.Try.func58 rfl (n := 2) (Nat.le_of_ble_eq_true rfl) (by kernel_rfl) (outs := []) (by kernel_rfl) (by kernel_rfl) (d := fun (y : compT laws_eqCurve.pr) => (y.1.1 : laws_eqCurve.N)) (fun _ => rfl) (C := fun _ => []) (k := k) noCuts fun x => by kernel_rfl
/-! laws.eqCurveS -/
@[reducible] def laws_eqCurveS.pc : CutP := [(0, some false, [.fl (.lo (.pair (.int .i64) (.pair (.int .i64) (.int .i64))))]), (1, some false, [.fl (.lo (.pair (.int .i64) (.pair (.int .i64) (.int .i64))))])]
@[reducible] def laws_eqCurveS.pr : CompPs := [(false, [.fl .bool])]
abbrev laws_eqCurveS.N := Bool
noncomputable def laws_eqCurveS.E (k : Nat) : List (FuncId × Go.Rv.Fn) := [(58, laws_eqCurve.F k)]
abbrev laws_eqCurveS.Cs := (List (Int × Int × Int) → List (Int × Int × Int) → Int → Option laws_eqCurveS.N)
def laws_eqCurveS.zero : laws_eqCurveS.Cs := (fun _ _ _ => none)
noncomputable def laws_eqCurveS.step (k : Nat) (c : laws_eqCurveS.Cs) : laws_eqCurveS.Cs := (fun (x0 : List (Int × Int × Int)) (x1 : List (Int × Int × Int)) (x2 : Int) => (if (decide (x2 < (x0.length : Int))) = true then if 0 ≤ x2 then if x2 < (x0.length : Int) then if 0 ≤ x2 then if x2 < (x1.length : Int) then (laws_eqCurve.f k ((rd (0, (0, 0)) x0 x2).1) (((rd (0, (0, 0)) x0 x2).2).1) (((rd (0, (0, 0)) x0 x2).2).2) ((rd (0, (0, 0)) x1 x2).1) (((rd (0, (0, 0)) x1 x2).2).1) (((rd (0, (0, 0)) x1 x2).2).2)).bind fun t1 => (if (!t1) = true then some false else c x0 x1 (wrap64 (x2 + 1))) else none else none else none else none else some true))
noncomputable def laws_eqCurveS.cs (k : Nat) : Nat → laws_eqCurveS.Cs
  | 0 => laws_eqCurveS.zero
  | n + 1 => laws_eqCurveS.step k (laws_eqCurveS.cs k n)
def laws_eqCurveS.CC (c : laws_eqCurveS.Cs) : Cuts laws_eqCurveS.N := [(14, ⟨[(0, some false, [.fl (.lo (.pair (.int .i64) (.pair (.int .i64) (.int .i64))))]), (1, some false, [.fl (.lo (.pair (.int .i64) (.pair (.int .i64) (.int .i64))))]), (5, some false, [.fl (.int .i64)])], fun x => c x.1.1 x.2.1.1 x.2.2.1.1⟩)]
noncomputable def laws_eqCurveS.f (k : Nat) (a0 : List (Int × Int × Int)) (a1 : List (Int × Int × Int)) : Option laws_eqCurveS.N := (if (!decide ((a0.length : Int) = (a1.length : Int))) = true then some false else (laws_eqCurveS.cs k k) a0 a1 0)
noncomputable def laws_eqCurveS.F (k : Nat) : Go.Rv.Fn := mkFn 2 laws_eqCurveS.pc laws_eqCurveS.pr (keepOf []) (fun (y : laws_eqCurveS.N) => (((y, ()), ()) : compT laws_eqCurveS.pr)) fun x => laws_eqCurveS.f k x.1.1 x.2.1.1
theorem laws_eqCurveS.env (k : Nat) : EnvOk Go.Proofs.Try.prog (fun f => (laws_eqCurveS.E k).lookup f) := envOk_of ⟨entry Go.Proofs.Try.call58 rfl (laws_eqCurve.ok k), trivial⟩
theorem laws_eqCurveS.cuts (k : Nat) : CutsOk Go.Proofs.Try.prog X (fun f => (laws_eqCurveS.E k).lookup f) Go.Proofs.Try.f37 [] (decN laws_eqCurveS.pr (fun (y : compT laws_eqCurveS.pr) => (y.1.1 : laws_eqCurveS.N))) fun n => laws_eqCurveS.CC (laws_eqCurveS.cs k n) :=
  cutsOk_of (step := laws_eqCurveS.step k) rfl (fun _ => rfl) ⟨fun _ => rfl, trivial⟩ (fun c => by kernel_rfl) fun c => ⟨fun x => by kernel_rfl, trivial⟩
theorem laws_eqCurveS.ok (k : Nat) : FnOk Go.Proofs.Try.prog 37 (laws_eqCurveS.F k) :=
  fn_ok tab (laws_eqCurveS.env k) Go.Proofs.Try.func37 rfl (n := 2) (Nat.le_of_ble_eq_true rfl) (by kernel_rfl) (outs := []) (by kernel_rfl) (by kernel_rfl) (d := fun (y : compT laws_eqCurveS.pr) => (y.1.1 : laws_eqCurveS.N)) (fun _ => rfl) (C := fun n => laws_eqCurveS.CC (laws_eqCurveS.cs k n)) (k := k) (laws_eqCurveS.cuts k) fun x => by kernel_rfl
/-! laws.eqAxis -/
@[reducible] def laws_eqAxis.pc : CutP := [(0, some true, [.fl (.int .i64), .fl (.int .i64), .fl (.int .i64), .fl (.int .i64), .fl (.lo (.pair (.int .i64) (.pair (.int .i64) (.int .i64))))]), (1, some true, [.fl (.int .i64), .fl (.int .i64), .fl (.int .i64), .fl (.int .i64), .fl (.lo (.pair (.int .i64) (.pair (.int .i64) (.int .i64))))])]
@[reducible] def laws_eqAxis.pr : CompPs := [(false, [.fl .bool])]
abbrev laws_eqAxis.N := Bool
noncomputable def laws_eqAxis.E (k : Nat) : List (FuncId × Go.Rv.Fn) := [(36, laws_eqPose.F k), (37, laws_eqCurveS.F k)]
noncomputable def laws_eqAxis.f (k : Nat) (a0 : Int) (a1 : Int) (a2 : Int) (a3 : Int) (a4 : List (Int × Int × Int)) (a5 : Int) (a6 : Int) (a7 : Int) (a8 : Int) (a9 : List (Int × Int × Int)) : Option laws_eqAxis.N := (laws_eqPose.f k a0 a1 a2 a3 a5 a6 a7 a8).bind fun t1 => (if (!t1) = true then some false else (laws_eqCurveS.f k a4 a9).bind fun t2 => (if (!t2) = true then some false else some true))
noncomputable def laws_eqAxis.F (k : Nat) : Go.Rv.Fn := mkFn 2 laws_eqAxis.pc laws_eqAxis.pr (keepOf []) (fun (y : laws_eqAxis.N) => (((y, ()), ()) : compT laws_eqAxis.pr)) fun x => laws_eqAxis.f k x.1.1 x.1.2.1 x.1.2.2.1 x.1.2.2.2.1 x.1.2.2.2.2.1 x.2.1.1 x.2.1.2.1 x.2.1.2.2.1 x.2.1.2.2.2.1 x.2.1.2.2.2.2.1
theorem laws_eqAxis.env (k : Nat) : EnvOk Go.Proofs.Try.prog (fun f => (laws_eqAxis.E k).lookup f) := envOk_of ⟨entry Go.Proofs.Try.call36 rfl (laws_eqPose.ok k), entry Go.Proofs.Try.call37 rfl (laws_eqCurveS.ok k), trivial⟩
theorem laws_eqAxis.ok (k : Nat) : FnOk Go.Proofs.Try.prog 11 (laws_eqAxis.F k) :=
  fn_ok tab (laws_eqAxis.env k) Go.Proofs.Try.func11 rfl (n := 2) (Nat.le_of_ble_eq_true rfl) (by kernel_rfl) (outs := []) (by kernel_rfl) (by kernel_rfl) (d := fun (y : compT laws_eqAxis.pr) => (y.1.1 : laws_eqAxis.N)) (fun _ => rfl) (C := fun _ => []) (k := k) noCuts fun x => by kernel_rfl
/-! laws.markCurveS -/
@[reducible] def laws_markCurveS.pc : CutP := [(0, some false, [.fl (.own (.pair (.int .i64) (.pair (.int .i64) (.int .i64))))]), (1, some false, [.fl (.int .i64)])]
@[reducible] def laws_markCurveS.pr : CompPs := [(false, [.fl (.int .i64)]), (false, [.fl (.own (.pair (.int .i64) (.pair (.int .i64) (.int .i64))))])]
abbrev laws_markCurveS.N := Int × List (Int × Int × Int)
noncomputable def laws_markCurveS.E (k : Nat) : List (FuncId × Go.Rv.Fn) := []
abbrev laws_markCurveS.Cs := (List (Int × Int × Int) → Int → Int → Option laws_markCurveS.N)
def laws_markCurveS.zero : laws_markCurveS.Cs := (fun _ _ _ => none)
noncomputable def laws_markCurveS.step (k : Nat) (c : laws_markCurveS.Cs) : laws_markCurveS.Cs := (fun (x0 : List (Int × Int × Int)) (x1 : Int) (x2 : Int) => (if (decide (x2 < (x0.length : Int))) = true then if 0 ≤ x2 then if x2 < (x0.length : Int) then if 0 ≤ x2 then if x2 < ((x0.set x2.toNat (x1, (((rd (0, (0, 0)) x0 x2).2).1, ((rd (0, (0, 0)) x0 x2).2).2))).length : Int) then if 0 ≤ x2 then if x2 < (((x0.set x2.toNat (x1, (((rd (0, (0, 0)) x0 x2).2).1, ((rd (0, (0, 0)) x0 x2).2).2))).set x2.toNat ((rd (0, (0, 0)) (x0.set x2.toNat (x1, (((rd (0, (0, 0)) x0 x2).2).1, ((rd (0, (0, 0)) x0 x2).2).2))) x2).1, ((wrap64 (x1 + 1)), ((rd (0, (0, 0)) (x0.set x2.toNat (x1, (((rd (0, (0, 0)) x0 x2).2).1, ((rd (0, (0, 0)) x0 x2).2).2))) x2).2).2))).length : Int) then c (((x0.set x2.toNat (x1, (((rd (0, (0, 0)) x0 x2).2).1, ((rd (0, (0, 0)) x0 x2).2).2))).set x2.toNat ((rd (0, (0, 0)) (x0.set x2.toNat (x1, (((rd (0, (0, 0)) x0 x2).2).1, ((rd (0, (0, 0)) x0 x2).2).2))) x2).1, ((wrap64 (x1 + 1)), ((rd (0, (0, 0)) (x0.set x2.toNat (x1, (((rd (0, (0, 0)) x0 x2).2).1, ((rd (0, (0, 0)) x0 x2).2).2))) x2).2).2))).set x2.toNat ((rd (0, (0, 0)) ((x0.set x2.toNat (x1, (((rd (0, (0, 0)) x0 x2).2).1, ((rd (0, (0, 0)) x0 x2).2).2))).set x2.toNat ((rd (0, (0, 0)) (x0.set x2.toNat (x1, (((rd (0, (0, 0)) x0 x2).2).1, ((rd (0, (0, 0)) x0 x2).2).2))) x2).1, ((wrap64 (x1 + 1)), ((rd (0, (0, 0)) (x0.set x2.toNat (x1, (((rd (0, (0, 0)) x0 x2).2).1, ((rd (0, (0, 0)) x0 x2).2).2))) x2).2).2))) x2).1, (((rd (0, (0, 0)) ((x0.set x2.toNat (x1, (((rd (0, (0, 0)) x0 x2).2).1, ((rd (0, (0, 0)) x0 x2).2).2))).set x2.toNat ((rd (0, (0, 0)) (x0.set x2.toNat (x1, (((rd (0, (0, 0)) x0 x2).2).1, ((rd (0, (0, 0)) x0 x2).2).2))) x2).1, ((wrap64 (x1 + 1)), ((rd (0, (0, 0)) (x0.set x2.toNat (x1, (((rd (0, (0, 0)) x0 x2).2).1, ((rd (0, (0, 0)) x0 x2).2).2))) x2).2).2))) x2).2).1, (wrap64 ((wrap64 (x1 + 1)) + 1))))) (wrap64 ((wrap64 ((wrap64 (x1 + 1)) + 1)) + 1)) (wrap64 (x2 + 1)) else none else none else none else none else none else none else some (x1, x0)))
noncomputable def laws_markCurveS.cs (k : Nat) : Nat → laws_markCurveS.Cs
  | 0 => laws_markCurveS.zero
  | n + 1 => laws_markCurveS.step k (laws_markCurveS.cs k n)
def laws_markCurveS.CC (c : laws_markCurveS.Cs) : Cuts laws_markCurveS.N := [(6, ⟨[(0, some false, [.fl (.own (.pair (.int .i64) (.pair (.int .i64) (.int .i64))))]), (1, some false, [.fl (.int .i64)]), (5, some false, [.fl (.int .i64)])], fun x => c x.1.1 x.2.1.1 x.2.2.1.1⟩)]
noncomputable def laws_markCurveS.f (k : Nat) (a0 : List (Int × Int × Int)) (a1 : Int) : Option laws_markCurveS.N := (laws_markCurveS.cs k k) a0 a1 0
noncomputable def laws_markCurveS.F (k : Nat) : Go.Rv.Fn := mkFn 2 laws_markCurveS.pc laws_markCurveS.pr (keepOf [(0, 1)]) (fun (y : laws_markCurveS.N) => (((y.1, ()), (y.2, ()), ()) : compT laws_markCurveS.pr)) fun x => laws_markCurveS.f k x.1.1 x.2.1.1
theorem laws_markCurveS.env (k : Nat) : EnvOk Go.Proofs.Try.prog (fun f => (laws_markCurveS.E k).lookup f) := envOk_of trivial
theorem laws_markCurveS.cuts (k : Nat) : CutsOk Go.Proofs.Try.prog X (fun f => (laws_markCurveS.E k).lookup f) Go.Proofs.Try.f38 [(0, 1)] (decN laws_markCurveS.pr (fun (y : compT laws_markCurveS.pr) => ((y.1.1, y.2.1.1) : laws_markCurveS.N))) fun n => laws_markCurveS.CC (laws_markCurveS.cs k n) :=
  cutsOk_of (step := laws_markCurveS.step k) rfl (fun _ => rfl) ⟨fun _ => rfl, trivial⟩ (fun c => by kernel_rfl) fun c => ⟨fun x => by kernel_rfl, trivial⟩
theorem laws_markCurveS.ok (k : Nat) : FnOk Go.Proofs.Try.prog 38 (laws_markCurveS.F k) :=
  fn_ok tab (laws_markCurveS.env k) Go.Proofs.Try.func38 rfl (n := 2) (Nat.le_of_ble_eq_true rfl) (by kernel_rfl) (outs := [(0, 1)]) (by kernel_rfl) (by kernel_rfl) (d := fun (y : compT laws_markCurveS.pr) => ((y.1.1, y.2.1.1) : laws_markCurveS.N)) (fun _ => rfl) (C := fun n => laws_markCurveS.CC (laws_markCurveS.cs k n)) (k := k) (laws_markCurveS.cuts k) fun x => by kernel_rfl
/-! laws.markAxis -/
@[reducible] def laws_markAxis.pc : CutP := [(0, some true, [.fl (.int .i64), .fl (.int .i64), .fl (.int .i64), .fl (.int .i64), .fl (.own (.pair (.int .i64) (.pair (.int .i64) (.int .i64))))]), (1, some false, [.fl (.int .i64)])]
@[reducible] def laws_markAxis.pr : CompPs := [(false, [.fl (.int .i64)]), (false, [.fl .dead, .fl .dead, .fl .dead, .fl .dead, .fl (.own (.pair (.int .i64) (.pair (.int .i64) (.int .i64))))])]
abbrev laws_markAxis.N := Int × List (Int × Int × Int)
noncomputable def laws_markAxis.E (k : Nat) : List (FuncId × Go.Rv.Fn) := [(38, laws_markCurveS.F k)]
noncomputable def laws_markAxis.f (k : Nat) (a0 : Int) (a1 : Int) (a2 : Int) (a3 : Int) (a4 : List (Int × Int × Int)) (a5 : Int) : Option laws_markAxis.N := (laws_markCurveS.f k a4 a5).bind fun t1 => some (t1.1, t1.2)
noncomputable def laws_markAxis.F (k : Nat) : Go.Rv.Fn := mkFn 2 laws_markAxis.pc laws_markAxis.pr (keepOf [(0, 5)]) (fun (y : laws_markAxis.N) => (((y.1, ()), ((), (), (), (), y.2, ()), ()) : compT laws_markAxis.pr)) fun x => laws_markAxis.f k x.1.1 x.1.2.1 x.1.2.2.1 x.1.2.2.2.1 x.1.2.2.2.2.1 x.2.1.1
theorem laws_markAxis.env (k : Nat) : EnvOk Go.Proofs.Try.prog (fun f => (laws_markAxis.E k).lookup f) := envOk_of ⟨entry Go.Proofs.Try.call38 rfl (laws_markCurveS.ok k), trivial⟩
theorem laws_markAxis.ok (k : Nat) : FnOk Go.Proofs.Try.prog 12 (laws_markAxis.F k) :=
  fn_ok tab (laws_markAxis.env k) Go.Proofs.Try.func12 rfl (n := 2) (Nat.le_of_ble_eq_true rfl) (by kernel_rfl) (outs := [(0, 5)]) (by kernel_rfl) (by kernel_rfl) (d := fun (y : compT laws_markAxis.pr) => ((y.1.1, y.2.1.2.2.2.2.1) : laws_markAxis.N)) (fun _ => rfl) (C := fun _ => []) (k := k) noCuts fun x => by kernel_rfl
/-! laws.heldCurveS -/
@[reducible] def laws_heldCurveS.pc : CutP := [(0, some false, [.fl (.lo (.pair (.int .i64) (.pair (.int .i64) (.int .i64))))]), (1, some false, [.fl (.int .i64)])]
@[reducible] def laws_heldCurveS.pr : CompPs := [(false, [.fl (.int .i64)])]
abbrev laws_heldCurveS.N := Int
noncomputable def laws_heldCurveS.E (k : Nat) : List (FuncId × Go.Rv.Fn) := []
abbrev laws_heldCurveS.Cs := (List (Int × Int × Int) → Int → Int → Option laws_heldCurveS.N)
def laws_heldCurveS.zero : laws_heldCurveS.Cs := (fun _ _ _ => none)
noncomputable def laws_heldCurveS.step (k : Nat) (c : laws_heldCurveS.Cs) : laws_heldCurveS.Cs := (fun (x0 : List (Int × Int × Int)) (x1 : Int) (x2 : Int) => (if (decide (x2 < (x0.length : Int))) = true then if 0 ≤ x2 then if x2 < (x0.length : Int) then (if (!decide ((rd (0, (0, 0)) x0 x2).1 = x1)) = true then some (-1) else if 0 ≤ x2 then if x2 < (x0.length : Int) then (if (!decide (((rd (0, (0, 0)) x0 x2).2).1 = (wrap64 (x1 + 1)))) = true then some (-1) else if 0 ≤ x2 then if x2 < (x0.length : Int) then (if (!decide (((rd (0, (0, 0)) x0 x2).2).2 = (wrap64 ((wrap64 (x1 + 1)) + 1)))) = true then some (-1) else c x0 (wrap64 ((wrap64 ((wrap64 (x1 + 1)) + 1)) + 1)) (wrap64 (x2 + 1))) else none else none) else none else none) else none else none else some x1))
noncomputable def laws_heldCurveS.cs (k : Nat) : Nat → laws_heldCurveS.Cs
  | 0 => laws_heldCurveS.zero
  | n + 1 => laws_heldCurveS.step k (laws_heldCurveS.cs k n)
def laws_heldCurveS.CC (c : laws_heldCurveS.Cs) : Cuts laws_heldCurveS.N := [(6, ⟨[(0, some false, [.fl (.lo (.pair (.int .i64) (.pair (.int .i64) (.int .i64))))]), (1, some false, [.fl (.int .i64)]), (5, some false, [.fl (.int .i64)])], fun x => c x.1.1 x.2.1.1 x.2.2.1.1⟩)]
noncomputable def laws_heldCurveS.f (k : Nat) (a0 : List (Int × Int × Int)) (a1 : Int) : Option laws_heldCurveS.N := (laws_heldCurveS.cs k k) a0 a1 0
noncomputable def laws_heldCurveS.F (k : Nat) : Go.Rv.Fn := mkFn 2 laws_heldCurveS.pc laws_heldCurveS.pr (keepOf []) (fun (y : laws_heldCurveS.N) => (((y, ()), ()) : compT laws_heldCurveS.pr)) fun x => laws_heldCurveS.f k x.1.1 x.2.1.1
theorem laws_heldCurveS.env (k : Nat) : EnvOk Go.Proofs.Try.prog (fun f => (laws_heldCurveS.E k).lookup f) := envOk_of trivial
theorem laws_heldCurveS.cuts (k : Nat) : CutsOk Go.Proofs.Try.prog X (fun f => (laws_heldCurveS.E k).lookup f) Go.Proofs.Try.f39 [] (decN laws_heldCurveS.pr (fun (y : compT laws_heldCurveS.pr) => (y.1.1 : laws_heldCurveS.N))) fun n => laws_heldCurveS.CC (laws_heldCurveS.cs k n) :=
  cutsOk_of (step := laws_heldCurveS.step k) rfl (fun _ => rfl) ⟨fun _ => rfl, trivial⟩ (fun c => by kernel_rfl) fun c => ⟨fun x => by kernel_rfl, trivial⟩
theorem laws_heldCurveS.ok (k : Nat) : FnOk Go.Proofs.Try.prog 39 (laws_heldCurveS.F k) :=
  fn_ok tab (laws_heldCurveS.env k) Go.Proofs.Try.func39 rfl (n := 2) (Nat.le_of_ble_eq_true rfl) (by kernel_rfl) (outs := []) (by kernel_rfl) (by kernel_rfl) (d := fun (y : compT laws_heldCurveS.pr) => (y.1.1 : laws_heldCurveS.N)) (fun _ => rfl) (C := fun n => laws_heldCurveS.CC (laws_heldCurveS.cs k n)) (k := k) (laws_heldCurveS.cuts k) fun x => by kernel_rfl
/-! laws.heldAxis -/
@[reducible] def laws_heldAxis.pc : CutP := [(0, some true, [.fl (.int .i64), .fl (.int .i64), .fl (.int .i64), .fl (.int .i64), .fl (.lo (.pair (.int .i64) (.pair (.int .i64) (.int .i64))))]), (1, some false, [.fl (.int .i64)])]
@[reducible] def laws_heldAxis.pr : CompPs := [(false, [.fl (.int .i64)])]
abbrev laws_heldAxis.N := Int
noncomputable def laws_heldAxis.E (k : Nat) : List (FuncId × Go.Rv.Fn) := [(39, laws_heldCurveS.F k)]
noncomputable def laws_heldAxis.f (k : Nat) (a0 : Int) (a1 : Int) (a2 : Int) (a3 : Int) (a4 : List (Int × Int × Int)) (a5 : Int) : Option laws_heldAxis.N := (laws_heldCurveS.f k a4 a5).bind fun (t1 : Int) => (if (decide (t1 < 0)) = true then some (-1) else some t1)
noncomputable def laws_heldAxis.F (k : Nat) : Go.Rv.Fn := mkFn 2 laws_heldAxis.pc laws_heldAxis.pr (keepOf []) (fun (y : laws_heldAxis.N) => (((y, ()), ()) : compT laws_heldAxis.pr)) fun x => laws_heldAxis.f k x.1.1 x.1.2.1 x.1.2.2.1 x.1.2.2.2.1 x.1.2.2.2.2.1 x.2.1.1
theorem laws_heldAxis.env (k : Nat) : EnvOk Go.Proofs.Try.prog (fun f => (laws_heldAxis.E k).lookup f) := envOk_of ⟨entry Go.Proofs.Try.call39 rfl (laws_heldCurveS.ok k), trivial⟩
theorem laws_heldAxis.ok (k : Nat) : FnOk Go.Proofs.Try.prog 13 (laws_heldAxis.F k) :=
  fn_ok tab (laws_heldAxis.env k) Go.Proofs.Try.func13 rfl (n := 2) (Nat.le_of_ble_eq_true rfl) (by kernel_rfl) (outs := []) (by kernel_rfl) (by kernel_rfl) (d := fun (y : compT laws_heldAxis.pr) => (y.1.1 : laws_heldAxis.N)) (fun _ => rfl) (C := fun _ => []) (k := k) noCuts fun x => by kernel_rfl
/-! laws.FnExactJoinAxes -/
@[reducible] def laws_FnExactJoinAxes.pc : CutP := [(0, some true, [.fl (.int .i64), .fl (.int .i64), .fl (.int .i64), .fl (.int .i64), .fl (.lo (.pair (.int .i64) (.pair (.int .i64) (.int .i64))))]), (1, some true, [.fl (.int .i64), .fl (.int .i64), .fl (.int .i64), .fl (.int .i64), .fl (.lo (.pair (.int .i64) (.pair (.int .i64) (.int .i64))))])]
@[reducible] def laws_FnExactJoinAxes.pr : CompPs := [(false, [.fl .bool])]
abbrev laws_FnExactJoinAxes.N := Bool
noncomputable def laws_FnExactJoinAxes.E (k : Nat) : List (FuncId × Go.Rv.Fn) := [(7, laws_szAxis.F k), (8, spec_JoinAxes.F k), (9, laws_toAxis.F k), (10, impl_JoinAxes.F k), (11, laws_eqAxis.F k), (12, laws_markAxis.F k), (13, laws_heldAxis.F k)]
abbrev laws_FnExactJoinAxes.Cs := (Int → Int → Int → Int → List (Int × Int × Int) → Int → Int → Int → Int → List (Int × Int × Int) → Int → Int → Int → Int → List (Int × Int × Int) → Bool → Int → Int → Int → Int → List (Int × Int × Int) → Int → Int → Int → Int → List (Int × Int × Int) → Int → Int → Int → Int → List (Int × Int × Int) → Bool → Option laws_FnExactJoinAxes.N) × (Int → Int → Int → Int → List (Int × Int × Int) → Int → Int → Int → Int → List (Int × Int × Int) → Int → Int → Int → Int → List (Int × Int × Int) → Bool → Int → Int → Int → Int → List (Int × Int × Int) → Option laws_FnExactJoinAxes.N)
def laws_FnExactJoinAxes.zero : laws_FnExactJoinAxes.Cs := (fun _ _ _ _ _ _ _ _ _ _ _ _ _ _ _ _ _ _ _ _ _ _ _ _ _ _ _ _ _ _ _ _ => none, fun _ _ _ _ _ _ _ _ _ _ _ _ _ _ _ _ _ _ _ _ _ => none)
noncomputable def laws_FnExactJoinAxes.step (k : Nat) (c : laws_FnExactJoinAxes.Cs) : laws_FnExactJoinAxes.Cs := (fun (x0 : Int) (x1 : Int) (x2 : Int) (x3 : Int) (x4 : List (Int × Int × Int)) (x5 : Int) (x6 : Int) (x7 : Int) (x8 : Int) (x9 : List (Int × Int × Int)) (x10 : Int) (x11 : Int) (x12 : Int) (x13 : Int) (x14 : List (Int × Int × Int)) (x15 : Bool) (x16 : Int) (x17 : Int) (x18 : Int) (x19 : Int) (x20 : List (Int × Int × Int)) (x21 : Int) (x22 : Int) (x23 : Int) (x24 : Int) (x25 : List (Int × Int × Int)) (x26 : Int) (x27 : Int) (x28 : Int) (x29 : Int) (x30 : List (Int × Int × Int)) (x31 : Bool) => (laws_toAxis.f k x0 x1 x2 x3 x4).bind fun t10 => (laws_eqAxis.f k x16 x17 x18 x19 x20 t10.1 t10.2.1 t10.2.2.1 t10.2.2.2.1 t10.2.2.2.2).bind fun t11 => (if (!t11) = true then some false else (laws_toAxis.f k x5 x6 x7 x8 x9).bind fun t12 => (laws_eqAxis.f k x21 x22 x23 x24 x25 t12.1 t12.2.1 t12.2.2.1 t12.2.2.2.1 t12.2.2.2.2).bind fun t13 => (if (!t13) = true then some false else (laws_markAxis.f k x16 x17 x18 x19 x20 1).bind fun t14 => (laws_markAxis.f k x21 x22 x23 x24 x25 t14.1).bind fun t15 => (if (decide (t15.1 < 0)) = true then some false else (laws_eqAxis.f k x26 x27 x28 x29 x30 x10 x11 x12 x13 x14).bind fun t16 => (if (!t16) = true then some false else (if (!(x31 == x15)) = true then some false else c.2 x0 x1 x2 x3 x4 x5 x6 x7 x8 x9 x10 x11 x12 x13 x14 x15 x26 x27 x28 x29 x30))))),
  fun (x0 : Int) (x1 : Int) (x2 : Int) (x3 : Int) (x4 : List (Int × Int × Int)) (x5 : Int) (x6 : Int) (x7 : Int) (x8 : Int) (x9 : List (Int × Int × Int)) (x10 : Int) (x11 : Int) (x12 : Int) (x13 : Int) (x14 : List (Int × Int × Int)) (x15 : Bool) (x16 : Int) (x17 : Int) (x18 : Int) (x19 : Int) (x20 : List (Int × Int × Int)) => (laws_markAxis.f k x16 x17 x18 x19 x20 1).bind fun t17 => (laws_heldAxis.f k x16 x17 x18 x19 t17.2 1).bind fun (t18 : Int) => (if (decide (t18 < 0)) = true then some false else (if (!decide (t18 = t17.1)) = true then some false else (laws_toAxis.f k x0 x1 x2 x3 x4).bind fun t19 => (laws_toAxis.f k x5 x6 x7 x8 x9).bind fun t20 => (impl_JoinAxes.f k t19.1 t19.2.1 t19.2.2.1 t19.2.2.2.1 t19.2.2.2.2 t20.1 t20.2.1 t20.2.2.1 t20.2.2.2.1 t20.2.2.2.2).bind fun t21 => (laws_eqAxis.f k t21.1 t21.2.1 t21.2.2.1 t21.2.2.2.1 t21.2.2.2.2.1 x10 x11 x12 x13 x14).bind fun t22 => (if (!t22) = true then some false else (if (!(t21.2.2.2.2.2 == x15)) = true then some false else (laws_heldAxis.f k x16 x17 x18 x19 t17.2 1).bind fun (t23 : Int) => (if (decide (t23 < 0)) = true then some false else (if (!decide (t23 = t17.1)) = true then some false else some true)))))))
noncomputable def laws_FnExactJoinAxes.cs (k : Nat) : Nat → laws_FnExactJoinAxes.Cs
  | 0 => laws_FnExactJoinAxes.zero
  | n + 1 => laws_FnExactJoinAxes.step k (laws_FnExactJoinAxes.cs k n)
def laws_FnExactJoinAxes.CC (c : laws_FnExactJoinAxes.Cs) : Cuts laws_FnExactJoinAxes.N := [(32, ⟨[(2, none, [.fl (.int .i64), .fl (.int .i64), .fl (.int .i64), .fl (.int .i64), .fl (.lo (.pair (.int .i64) (.pair (.int .i64) (.int .i64))))]), (3, none, [.fl (.int .i64), .fl (.int .i64), .fl (.int .i64), .fl (.int .i64), .fl (.lo (.pair (.int .i64) (.pair (.int .i64) (.int .i64))))]), (6, none, [.fl (.int .i64), .fl (.int .i64), .fl (.int .i64), .fl (.int .i64), .fl (.own (.pair (.int .i64) (.pair (.int .i64) (.int .i64))))]), (7, some false, [.fl .bool]), (8, none, [.fl (.int .i64), .fl (.int .i64), .fl (.int .i64), .fl (.int .i64), .fl (.own (.pair (.int .i64) (.pair (.int .i64) (.int .i64))))]), (9, none, [.fl (.int .i64), .fl (.int .i64), .fl (.int .i64), .fl (.int .i64), .fl (.own (.pair (.int .i64) (.pair (.int .i64) (.int .i64))))]), (10, none, [.fl (.int .i64), .fl (.int .i64), .fl (.int .i64), .fl (.int .i64), .fl (.own (.pair (.int .i64) (.pair (.int .i64) (.int .i64))))]), (11, some false, [.fl .bool])], fun x => c.1 x.1.1 x.1.2.1 x.1.2.2.1 x.1.2.2.2.1 x.1.2.2.2.2.1 x.2.1.1 x.2.1.2.1 x.2.1.2.2.1 x.2.1.2.2.2.1 x.2.1.2.2.2.2.1 x.2.2.1.1 x.2.2.1.2.1 x.2.2.1.2.2.1 x.2.2.1.2.2.2.1 x.2.2.1.2.2.2.2.1 x.2.2.2.1.1 x.2.2.2.2.1.1 x.2.2.2.2.1.2.1 x.2.2.2.2.1.2.2.1 x.2.2.2.2.1.2.2.2.1 x.2.2.2.2.1.2.2.2.2.1 x.2.2.2.2.2.1.1 x.2.2.2.2.2.1.2.1 x.2.2.2.2.2.1.2.2.1 x.2.2.2.2.2.1.2.2.2.1 x.2.2.2.2.2.1.2.2.2.2.1 x.2.2.2.2.2.2.1.1 x.2.2.2.2.2.2.1.2.1 x.2.2.2.2.2.2.1.2.2.1 x.2.2.2.2.2.2.1.2.2.2.1 x.2.2.2.2.2.2.1.2.2.2.2.1 x.2.2.2.2.2.2.2.1.1⟩),
  (62, ⟨[(2, none, [.fl (.int .i64), .fl (.int .i64), .fl (.int .i64), .fl (.int .i64), .fl (.lo (.pair (.int .i64) (.pair (.int .i64) (.int .i64))))]), (3, none, [.fl (.int .i64), .fl (.int .i64), .fl (.int .i64), .fl (.int .i64), .fl (.lo (.pair (.int .i64) (.pair (.int .i64) (.int .i64))))]), (6, none, [.fl (.int .i64), .fl (.int .i64), .fl (.int .i64), .fl (.int .i64), .fl (.own (.pair (.int .i64) (.pair (.int .i64) (.int .i64))))]), (7, some false, [.fl .bool]), (10, none, [.fl (.int .i64), .fl (.int .i64), .fl (.int .i64), .fl (.int .i64), .fl (.own (.pair (.int .i64) (.pair (.int .i64) (.int .i64))))])], fun x => c.2 x.1.1 x.1.2.1 x.1.2.2.1 x.1.2.2.2.1 x.1.2.2.2.2.1 x.2.1.1 x.2.1.2.1 x.2.1.2.2.1 x.2.1.2.2.2.1 x.2.1.2.2.2.2.1 x.2.2.1.1 x.2.2.1.2.1 x.2.2.1.2.2.1 x.2.2.1.2.2.2.1 x.2.2.1.2.2.2.2.1 x.2.2.2.1.1 x.2.2.2.2.1.1 x.2.2.2.2.1.2.1 x.2.2.2.2.1.2.2.1 x.2.2.2.2.1.2.2.2.1 x.2.2.2.2.1.2.2.2.2.1⟩)]
noncomputable def laws_FnExactJoinAxes.f (k : Nat) (a0 : Int) (a1 : Int) (a2 : Int) (a3 : Int) (a4 : List (Int × Int × Int)) (a5 : Int) (a6 : Int) (a7 : Int) (a8 : Int) (a9 : List (Int × Int × Int)) : Option laws_FnExactJoinAxes.N := (laws_szAxis.f k a0 a1 a2 a3 a4 1048576).bind fun (t1 : Int) => (if (decide (t1 < 0)) = true then some true else (laws_szAxis.f k a5 a6 a7 a8 a9 t1).bind fun (t2 : Int) => (if (decide (t2 < 0)) = true then some true else (laws_toAxis.f k a0 a1 a2 a3 a4).bind fun t3 => (laws_toAxis.f k a5 a6 a7 a8 a9).bind fun t4 => (spec_JoinAxes.f k t3.1 t3.2.1 t3.2.2.1 t3.2.2.2.1 t3.2.2.2.2 t4.1 t4.2.1 t4.2.2.1 t4.2.2.2.1 t4.2.2.2.2).bind fun t5 => (laws_toAxis.f k a0 a1 a2 a3 a4).bind fun t6 => (laws_toAxis.f k a5 a6 a7 a8 a9).bind fun t7 => (impl_JoinAxes.f k t6.1 t6.2.1 t6.2.2.1 t6.2.2.2.1 t6.2.2.2.2 t7.1 t7.2.1 t7.2.2.1 t7.2.2.2.1 t7.2.2.2.2).bind fun t8 => (laws_eqAxis.f k t8.1 t8.2.1 t8.2.2.1 t8.2.2.2.1 t8.2.2.2.2.1 t5.1 t5.2.1 t5.2.2.1 t5.2.2.2.1 t5.2.2.2.2.1).bind fun t9 => (if (!t9) = true then some false else (if (!(t8.2.2.2.2.2 == t5.2.2.2.2.2)) = true then some false else (laws_FnExactJoinAxes.cs k k).1 a0 a1 a2 a3 a4 a5 a6 a7 a8 a9 t5.1 t5.2.1 t5.2.2.1 t5.2.2.2.1 t5.2.2.2.2.1 t5.2.2.2.2.2 t6.1 t6.2.1 t6.2.2.1 t6.2.2.2.1 t6.2.2.2.2 t7.1 t7.2.1 t7.2.2.1 t7.2.2.2.1 t7.2.2.2.2 t8.1 t8.2.1 t8.2.2.1 t8.2.2.2.1 t8.2.2.2.2.1 t8.2.2.2.2.2))))
noncomputable def laws_FnExactJoinAxes.F (k : Nat) : Go.Rv.Fn := mkFn 2 laws_FnExactJoinAxes.pc laws_FnExactJoinAxes.pr (keepOf []) (fun (y : laws_FnExactJoinAxes.N) => (((y, ()), ()) : compT laws_FnExactJoinAxes.pr)) fun x => laws_FnExactJoinAxes.f k x.1.1 x.1.2.1 x.1.2.2.1 x.1.2.2.2.1 x.1.2.2.2.2.1 x.2.1.1 x.2.1.2.1 x.2.1.2.2.1 x.2.1.2.2.2.1 x.2.1.2.2.2.2.1
theorem laws_FnExactJoinAxes.env (k : Nat) : EnvOk Go.Proofs.Try.prog (fun f => (laws_FnExactJoinAxes.E k).lookup f) := envOk_of ⟨entry Go.Proofs.Try.call7 rfl (laws_szAxis.ok k), entry Go.Proofs.Try.call8 rfl (spec_JoinAxes.ok k), entry Go.Proofs.Try.call9 rfl (laws_toAxis.ok k), entry Go.Proofs.Try.call10 rfl (impl_JoinAxes.ok k), entry Go.Proofs.Try.call11 rfl (laws_eqAxis.ok k), entry Go.Proofs.Try.call12 rfl (laws_markAxis.ok k), entry Go.Proofs.Try.call13 rfl (laws_heldAxis.ok k), trivial⟩
theorem laws_FnExactJoinAxes.cuts (k : Nat) : CutsOk Go.Proofs.Try.prog X (fun f => (laws_FnExactJoinAxes.E k).lookup f) Go.Proofs.Try.f3 [] (decN laws_FnExactJoinAxes.pr (fun (y : compT laws_FnExactJoinAxes.pr) => (y.1.1 : laws_FnExactJoinAxes.N))) fun n => laws_FnExactJoinAxes.CC (laws_FnExactJoinAxes.cs k n) :=
  cutsOk_of (step := laws_FnExactJoinAxes.step k) rfl (fun _ => rfl) ⟨fun _ => rfl, fun _ => rfl, trivial⟩ (fun c => by kernel_rfl) fun c => ⟨fun x => by kernel_rfl, fun x => by kernel_rfl, trivial⟩
theorem laws_FnExactJoinAxes.ok (k : Nat) : FnOk Go.Proofs.Try.prog 3 (laws_FnExactJoinAxes.F k) :=
  fn_ok tab (laws_FnExactJoinAxes.env k) Go.Proofs.Try.func3 rfl (n := 2) (Nat.le_of_ble_eq_true rfl) (by kernel_rfl) (outs := []) (by kernel_rfl) (by kernel_rfl) (d := fun (y : compT laws_FnExactJoinAxes.pr) => (y.1.1 : laws_FnExactJoinAxes.N)) (fun _ => rfl) (C := fun n => laws_FnExactJoinAxes.CC (laws_FnExactJoinAxes.cs k n)) (k := k) (laws_FnExactJoinAxes.cuts k) fun x => by kernel_rfl
end Go.Proofs.Ytgknckbplbldbaa.R
