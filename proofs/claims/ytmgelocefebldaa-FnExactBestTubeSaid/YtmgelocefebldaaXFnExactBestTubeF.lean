-- written by wip/rev/gen2.py for this claim (out of the translation). Lean checks it.
import Derived.Test.YtmgelocefebldaaRvM4
import Derived.Test.YtmgelocefebldaaProg
import Derived.Test.YtmgelocefebldaaRvTurn
import Derived.Test.YtmgelocefebldaaRvSh
namespace Go.Proofs.Ytmgelocefebldaa.R
open Go.Rv
set_option linter.unusedVariables false
set_option maxRecDepth 100000
def X : Env := { n := 0, keep := [], tk := true, tab := [(2, { ty := (.int .i64) }),
  (3, { ty := (.int .i64) }),
  (4, { ty := .bool }),
  (25, { ty := (.pair (.int .i64) (.pair (.int .i64) (.pair (.int .i64) (.int .i64)))), agg := true, offs := [(0, 1, false), (1, 1, false), (2, 1, false), (3, 1, false)] }),
  (26, { ty := (.sl (.pair (.int .i64) (.pair (.int .i64) (.int .i64)))) }),
  (28, { ty := (.pair (.pair (.int .i64) (.pair (.int .i64) (.pair (.int .i64) (.int .i64)))) (.sl (.pair (.int .i64) (.pair (.int .i64) (.int .i64))))), agg := true, offs := [(0, 4, true), (4, 1, false)] }),
  (33, { ty := (.pair (.int .i64) (.int .i64)), agg := true, offs := [(0, 1, false), (1, 1, false)] }),
  (34, { ty := (.sl (.pair (.int .i64) (.int .i64))) }),
  (46, { ty := (.sl (.sl (.int .i64))) }),
  (49, { ty := (.sl (.pair (.int .i64) (.pair (.int .i64) (.pair (.int .i64) (.int .i64))))) }),
  (54, { ty := (.sl (.int .i64)) }),
  (56, { ty := (.pair (.int .i64) (.pair (.int .i64) (.int .i64))), agg := true, offs := [(0, 1, false), (1, 1, false), (2, 1, false)] }),
  (57, { ty := (.pair (.int .i64) (.pair (.int .i64) (.pair (.int .i64) (.int .i64)))), agg := true, offs := [(0, 1, false), (1, 1, false), (2, 1, false), (3, 1, false)] }),
  (67, { ty := (.sl (.pair (.int .i64) (.pair (.int .i64) (.int .i64)))) }),
  (69, { ty := (.pair (.pair (.int .i64) (.pair (.int .i64) (.pair (.int .i64) (.int .i64)))) (.sl (.pair (.int .i64) (.pair (.int .i64) (.int .i64))))), agg := true, offs := [(0, 4, true), (4, 1, false)] }),
  (74, { ty := (.pair (.int .i64) (.int .i64)), agg := true, offs := [(0, 1, false), (1, 1, false)] }),
  (97, { ty := (.pair (.sl (.pair (.int .i64) (.pair (.int .i64) (.pair (.int .i64) (.int .i64))))) (.pair (.int .i64) (.pair (.sl (.pair (.int .i64) (.int .i64))) (.pair (.sl (.pair (.int .i64) (.int .i64))) (.int .i64))))), agg := true, offs := [(0, 1, false), (1, 1, false), (2, 1, false), (3, 1, false), (4, 1, false)] }),
  (138, { ty := (.pair (.int .i64) (.pair (.int .i64) (.int .i64))), agg := true, offs := [(0, 1, false), (1, 1, false), (2, 1, false)] }),
  (91, { ty := .bool, fn := true }),
  (123, { ty := .bool, fn := true })] }
theorem tab : TabOk Go.Proofs.Try.prog X := ⟨by kernel_rfl, by kernel_rfl, maps_nil⟩
/-! laws.szCurveS -/
@[reducible] def laws_szCurveS.pc : CutP := [(0, some false, [.fl (.lo (.pair (.int .i64) (.pair (.int .i64) (.int .i64))))]), (1, some false, [.fl (.int .i64)])]
@[reducible] def laws_szCurveS.pr : CompPs := [(false, [.fl (.int .i64)])]
abbrev laws_szCurveS.N := Int
noncomputable def laws_szCurveS.E (k : Nat) : List (FuncId × Go.Rv.Fn) := []
noncomputable def laws_szCurveS.f (k : Nat) (a0 : List (Int × Int × Int)) (a1 : Int) : Option laws_szCurveS.N := (if (decide ((wrap64 (a1 - (a0.length : Int))) < 0)) = true then some (-1) else some (wrap64 (a1 - (a0.length : Int))))
noncomputable def laws_szCurveS.F (k : Nat) : Go.Rv.Fn := mkFn 2 laws_szCurveS.pc laws_szCurveS.pr (keepOf []) (fun (y : laws_szCurveS.N) => (((y, ()), ()) : compT laws_szCurveS.pr)) fun x => laws_szCurveS.f k x.1.1 x.2.1.1
theorem laws_szCurveS.env (k : Nat) : EnvOk Go.Proofs.Try.prog (fun f => (laws_szCurveS.E k).lookup f) := envOk_of trivial
theorem laws_szCurveS.ok (k : Nat) : FnOk Go.Proofs.Try.prog 74 (laws_szCurveS.F k) :=
  fn_ok tab (laws_szCurveS.env k) Go.Proofs.Try.func74 rfl (n := 2) (Nat.le_of_ble_eq_true rfl) (by kernel_rfl) (outs := []) (by kernel_rfl) (by kernel_rfl) (d := fun (y : compT laws_szCurveS.pr) => (y.1.1 : laws_szCurveS.N)) (fun _ => rfl) (C := fun _ => []) (k := k) noCuts fun x => by kernel_rfl
/-! laws.szAxis -/
@[reducible] def laws_szAxis.pc : CutP := [(0, some true, [.fl (.int .i64), .fl (.int .i64), .fl (.int .i64), .fl (.int .i64), .fl (.lo (.pair (.int .i64) (.pair (.int .i64) (.int .i64))))]), (1, some false, [.fl (.int .i64)])]
@[reducible] def laws_szAxis.pr : CompPs := [(false, [.fl (.int .i64)])]
abbrev laws_szAxis.N := Int
noncomputable def laws_szAxis.E (k : Nat) : List (FuncId × Go.Rv.Fn) := [(74, laws_szCurveS.F k)]
noncomputable def laws_szAxis.f (k : Nat) (a0 : Int) (a1 : Int) (a2 : Int) (a3 : Int) (a4 : List (Int × Int × Int)) (a5 : Int) : Option laws_szAxis.N := (laws_szCurveS.f k a4 a5).bind fun (t1 : Int) => (if (decide (t1 < 0)) = true then some (-1) else some t1)
noncomputable def laws_szAxis.F (k : Nat) : Go.Rv.Fn := mkFn 2 laws_szAxis.pc laws_szAxis.pr (keepOf []) (fun (y : laws_szAxis.N) => (((y, ()), ()) : compT laws_szAxis.pr)) fun x => laws_szAxis.f k x.1.1 x.1.2.1 x.1.2.2.1 x.1.2.2.2.1 x.1.2.2.2.2.1 x.2.1.1
theorem laws_szAxis.env (k : Nat) : EnvOk Go.Proofs.Try.prog (fun f => (laws_szAxis.E k).lookup f) := envOk_of ⟨entry Go.Proofs.Try.call74 rfl (laws_szCurveS.ok k), trivial⟩
theorem laws_szAxis.ok (k : Nat) : FnOk Go.Proofs.Try.prog 34 (laws_szAxis.F k) :=
  fn_ok tab (laws_szAxis.env k) Go.Proofs.Try.func34 rfl (n := 2) (Nat.le_of_ble_eq_true rfl) (by kernel_rfl) (outs := []) (by kernel_rfl) (by kernel_rfl) (d := fun (y : compT laws_szAxis.pr) => (y.1.1 : laws_szAxis.N)) (fun _ => rfl) (C := fun _ => []) (k := k) noCuts fun x => by kernel_rfl
/-! laws.toPose -/
@[reducible] def laws_toPose.pc : CutP := [(0, some true, [.fl (.int .i64), .fl (.int .i64), .fl (.int .i64), .fl (.int .i64)])]
@[reducible] def laws_toPose.pr : CompPs := [(true, [.fl (.int .i64), .fl (.int .i64), .fl (.int .i64), .fl (.int .i64)])]
abbrev laws_toPose.N := Int × Int × Int × Int
noncomputable def laws_toPose.E (k : Nat) : List (FuncId × Go.Rv.Fn) := []
noncomputable def laws_toPose.f (k : Nat) (a0 : Int) (a1 : Int) (a2 : Int) (a3 : Int) : Option laws_toPose.N := some (a0, a1, a2, a3)
noncomputable def laws_toPose.F (k : Nat) : Go.Rv.Fn := mkFn 1 laws_toPose.pc laws_toPose.pr (keepOf []) (fun (y : laws_toPose.N) => (((y.1, y.2.1, y.2.2.1, y.2.2.2, ()), ()) : compT laws_toPose.pr)) fun x => laws_toPose.f k x.1.1 x.1.2.1 x.1.2.2.1 x.1.2.2.2.1
theorem laws_toPose.env (k : Nat) : EnvOk Go.Proofs.Try.prog (fun f => (laws_toPose.E k).lookup f) := envOk_of trivial
theorem laws_toPose.ok (k : Nat) : FnOk Go.Proofs.Try.prog 27 (laws_toPose.F k) :=
  fn_ok tab (laws_toPose.env k) Go.Proofs.Try.func27 rfl (n := 1) (Nat.le_of_ble_eq_true rfl) (by kernel_rfl) (outs := []) (by kernel_rfl) (by kernel_rfl) (d := fun (y : compT laws_toPose.pr) => ((y.1.1, y.1.2.1, y.1.2.2.1, y.1.2.2.2.1) : laws_toPose.N)) (fun _ => rfl) (C := fun _ => []) (k := k) noCuts fun x => by kernel_rfl
/-! laws.toCurve -/
@[reducible] def laws_toCurve.pc : CutP := [(0, some true, [.fl (.int .i64), .fl (.int .i64), .fl (.int .i64)])]
@[reducible] def laws_toCurve.pr : CompPs := [(true, [.fl (.int .i64), .fl (.int .i64), .fl (.int .i64)])]
abbrev laws_toCurve.N := Int × Int × Int
noncomputable def laws_toCurve.E (k : Nat) : List (FuncId × Go.Rv.Fn) := []
noncomputable def laws_toCurve.f (k : Nat) (a0 : Int) (a1 : Int) (a2 : Int) : Option laws_toCurve.N := some (a0, a1, a2)
noncomputable def laws_toCurve.F (k : Nat) : Go.Rv.Fn := mkFn 1 laws_toCurve.pc laws_toCurve.pr (keepOf []) (fun (y : laws_toCurve.N) => (((y.1, y.2.1, y.2.2, ()), ()) : compT laws_toCurve.pr)) fun x => laws_toCurve.f k x.1.1 x.1.2.1 x.1.2.2.1
theorem laws_toCurve.env (k : Nat) : EnvOk Go.Proofs.Try.prog (fun f => (laws_toCurve.E k).lookup f) := envOk_of trivial
theorem laws_toCurve.ok (k : Nat) : FnOk Go.Proofs.Try.prog 109 (laws_toCurve.F k) :=
  fn_ok tab (laws_toCurve.env k) Go.Proofs.Try.func109 rfl (n := 1) (Nat.le_of_ble_eq_true rfl) (by kernel_rfl) (outs := []) (by kernel_rfl) (by kernel_rfl) (d := fun (y : compT laws_toCurve.pr) => ((y.1.1, y.1.2.1, y.1.2.2.1) : laws_toCurve.N)) (fun _ => rfl) (C := fun _ => []) (k := k) noCuts fun x => by kernel_rfl
/-! laws.toCurveS -/
@[reducible] def laws_toCurveS.pc : CutP := [(0, some false, [.fl (.lo (.pair (.int .i64) (.pair (.int .i64) (.int .i64))))])]
@[reducible] def laws_toCurveS.pr : CompPs := [(false, [.fl (.own (.pair (.int .i64) (.pair (.int .i64) (.int .i64))))])]
abbrev laws_toCurveS.N := List (Int × Int × Int)
noncomputable def laws_toCurveS.E (k : Nat) : List (FuncId × Go.Rv.Fn) := [(109, laws_toCurve.F k)]
abbrev laws_toCurveS.Cs := (List (Int × Int × Int) → List (Int × Int × Int) → Int → Option laws_toCurveS.N)
def laws_toCurveS.zero : laws_toCurveS.Cs := (fun _ _ _ => none)
noncomputable def laws_toCurveS.step (k : Nat) (c : laws_toCurveS.Cs) : laws_toCurveS.Cs := (fun (x0 : List (Int × Int × Int)) (x1 : List (Int × Int × Int)) (x2 : Int) => (if (decide (x2 < (x0.length : Int))) = true then if 0 ≤ x2 then if x2 < (x0.length : Int) then (laws_toCurve.f k ((rd (0, (0, 0)) x0 x2).1) (((rd (0, (0, 0)) x0 x2).2).1) (((rd (0, (0, 0)) x0 x2).2).2)).bind fun t1 => if 0 ≤ x2 then if x2 < (x1.length : Int) then c x0 (x1.set x2.toNat t1) (wrap64 (x2 + 1)) else none else none else none else none else some x1))
noncomputable def laws_toCurveS.cs (k : Nat) : Nat → laws_toCurveS.Cs
  | 0 => laws_toCurveS.zero
  | n + 1 => laws_toCurveS.step k (laws_toCurveS.cs k n)
def laws_toCurveS.CC (c : laws_toCurveS.Cs) : Cuts laws_toCurveS.N := [(8, ⟨[(0, some false, [.fl (.lo (.pair (.int .i64) (.pair (.int .i64) (.int .i64))))]), (3, some false, [.fl (.own (.pair (.int .i64) (.pair (.int .i64) (.int .i64))))]), (4, some false, [.fl (.int .i64)])], fun x => c x.1.1 x.2.1.1 x.2.2.1.1⟩)]
noncomputable def laws_toCurveS.f (k : Nat) (a0 : List (Int × Int × Int)) : Option laws_toCurveS.N := if 0 ≤ (a0.length : Int) then if (a0.length : Int) ≤ (a0.length : Int) then if (a0.length : Int) < 366503875925 then (laws_toCurveS.cs k k) a0 (List.replicate (a0.length : Int).toNat (0, (0, 0))) 0 else none else none else none
noncomputable def laws_toCurveS.F (k : Nat) : Go.Rv.Fn := mkFn 1 laws_toCurveS.pc laws_toCurveS.pr (keepOf []) (fun (y : laws_toCurveS.N) => (((y, ()), ()) : compT laws_toCurveS.pr)) fun x => laws_toCurveS.f k x.1.1
theorem laws_toCurveS.env (k : Nat) : EnvOk Go.Proofs.Try.prog (fun f => (laws_toCurveS.E k).lookup f) := envOk_of ⟨entry Go.Proofs.Try.call109 rfl (laws_toCurve.ok k), trivial⟩
theorem laws_toCurveS.cuts (k : Nat) : CutsOk Go.Proofs.Try.prog X (fun f => (laws_toCurveS.E k).lookup f) Go.Proofs.Try.f76 [] (decN laws_toCurveS.pr (fun (y : compT laws_toCurveS.pr) => (y.1.1 : laws_toCurveS.N))) fun n => laws_toCurveS.CC (laws_toCurveS.cs k n) :=
  cutsOk_of (step := laws_toCurveS.step k) rfl (fun _ => rfl) ⟨fun _ => rfl, trivial⟩ (fun c => by kernel_rfl) fun c => ⟨fun x => by kernel_rfl, trivial⟩
theorem laws_toCurveS.ok (k : Nat) : FnOk Go.Proofs.Try.prog 76 (laws_toCurveS.F k) :=
  fn_ok tab (laws_toCurveS.env k) Go.Proofs.Try.func76 rfl (n := 1) (Nat.le_of_ble_eq_true rfl) (by kernel_rfl) (outs := []) (by kernel_rfl) (by kernel_rfl) (d := fun (y : compT laws_toCurveS.pr) => (y.1.1 : laws_toCurveS.N)) (fun _ => rfl) (C := fun n => laws_toCurveS.CC (laws_toCurveS.cs k n)) (k := k) (laws_toCurveS.cuts k) fun x => by kernel_rfl
/-! laws.toAxis -/
@[reducible] def laws_toAxis.pc : CutP := [(0, some true, [.fl (.int .i64), .fl (.int .i64), .fl (.int .i64), .fl (.int .i64), .fl (.lo (.pair (.int .i64) (.pair (.int .i64) (.int .i64))))])]
@[reducible] def laws_toAxis.pr : CompPs := [(true, [.fl (.int .i64), .fl (.int .i64), .fl (.int .i64), .fl (.int .i64), .fl (.own (.pair (.int .i64) (.pair (.int .i64) (.int .i64))))])]
abbrev laws_toAxis.N := Int × Int × Int × Int × List (Int × Int × Int)
noncomputable def laws_toAxis.E (k : Nat) : List (FuncId × Go.Rv.Fn) := [(27, laws_toPose.F k), (76, laws_toCurveS.F k)]
noncomputable def laws_toAxis.f (k : Nat) (a0 : Int) (a1 : Int) (a2 : Int) (a3 : Int) (a4 : List (Int × Int × Int)) : Option laws_toAxis.N := (laws_toPose.f k a0 a1 a2 a3).bind fun t1 => (laws_toCurveS.f k a4).bind fun t2 => some (t1.1, t1.2.1, t1.2.2.1, t1.2.2.2, t2)
noncomputable def laws_toAxis.F (k : Nat) : Go.Rv.Fn := mkFn 1 laws_toAxis.pc laws_toAxis.pr (keepOf []) (fun (y : laws_toAxis.N) => (((y.1, y.2.1, y.2.2.1, y.2.2.2.1, y.2.2.2.2, ()), ()) : compT laws_toAxis.pr)) fun x => laws_toAxis.f k x.1.1 x.1.2.1 x.1.2.2.1 x.1.2.2.2.1 x.1.2.2.2.2.1
theorem laws_toAxis.env (k : Nat) : EnvOk Go.Proofs.Try.prog (fun f => (laws_toAxis.E k).lookup f) := envOk_of ⟨entry Go.Proofs.Try.call27 rfl (laws_toPose.ok k), entry Go.Proofs.Try.call76 rfl (laws_toCurveS.ok k), trivial⟩
theorem laws_toAxis.ok (k : Nat) : FnOk Go.Proofs.Try.prog 36 (laws_toAxis.F k) :=
  fn_ok tab (laws_toAxis.env k) Go.Proofs.Try.func36 rfl (n := 1) (Nat.le_of_ble_eq_true rfl) (by kernel_rfl) (outs := []) (by kernel_rfl) (by kernel_rfl) (d := fun (y : compT laws_toAxis.pr) => ((y.1.1, y.1.2.1, y.1.2.2.1, y.1.2.2.2.1, y.1.2.2.2.2.1) : laws_toAxis.N)) (fun _ => rfl) (C := fun _ => []) (k := k) noCuts fun x => by kernel_rfl
/-! laws.toRing -/
@[reducible] def laws_toRing.pc : CutP := [(0, some true, [.fl (.int .i64), .fl (.int .i64)])]
@[reducible] def laws_toRing.pr : CompPs := [(true, [.fl (.int .i64), .fl (.int .i64)])]
abbrev laws_toRing.N := Int × Int
noncomputable def laws_toRing.E (k : Nat) : List (FuncId × Go.Rv.Fn) := []
noncomputable def laws_toRing.f (k : Nat) (a0 : Int) (a1 : Int) : Option laws_toRing.N := some (a0, a1)
noncomputable def laws_toRing.F (k : Nat) : Go.Rv.Fn := mkFn 1 laws_toRing.pc laws_toRing.pr (keepOf []) (fun (y : laws_toRing.N) => (((y.1, y.2, ()), ()) : compT laws_toRing.pr)) fun x => laws_toRing.f k x.1.1 x.1.2.1
theorem laws_toRing.env (k : Nat) : EnvOk Go.Proofs.Try.prog (fun f => (laws_toRing.E k).lookup f) := envOk_of trivial
theorem laws_toRing.ok (k : Nat) : FnOk Go.Proofs.Try.prog 38 (laws_toRing.F k) :=
  fn_ok tab (laws_toRing.env k) Go.Proofs.Try.func38 rfl (n := 1) (Nat.le_of_ble_eq_true rfl) (by kernel_rfl) (outs := []) (by kernel_rfl) (by kernel_rfl) (d := fun (y : compT laws_toRing.pr) => ((y.1.1, y.1.2.1) : laws_toRing.N)) (fun _ => rfl) (C := fun _ => []) (k := k) noCuts fun x => by kernel_rfl
/-! spec.l00In -/
@[reducible] def spec_l00In.pc : CutP := [(0, some false, [.fl (.int .i64)]), (1, some false, [.fl (.int .i64)]), (2, some false, [.fl (.int .i64)])]
@[reducible] def spec_l00In.pr : CompPs := [(false, [.fl .bool])]
abbrev spec_l00In.N := Bool
noncomputable def spec_l00In.E (k : Nat) : List (FuncId × Go.Rv.Fn) := []
noncomputable def spec_l00In.f (k : Nat) (a0 : Int) (a1 : Int) (a2 : Int) : Option spec_l00In.N := (if (decide (a1 ≤ a0)) = true then some (decide (a0 ≤ a2)) else some false)
noncomputable def spec_l00In.F (k : Nat) : Go.Rv.Fn := mkFn 3 spec_l00In.pc spec_l00In.pr (keepOf []) (fun (y : spec_l00In.N) => (((y, ()), ()) : compT spec_l00In.pr)) fun x => spec_l00In.f k x.1.1 x.2.1.1 x.2.2.1.1
theorem spec_l00In.env (k : Nat) : EnvOk Go.Proofs.Try.prog (fun f => (spec_l00In.E k).lookup f) := envOk_of trivial
theorem spec_l00In.ok (k : Nat) : FnOk Go.Proofs.Try.prog 60 (spec_l00In.F k) :=
  fn_ok tab (spec_l00In.env k) Go.Proofs.Try.func60 rfl (n := 3) (Nat.le_of_ble_eq_true rfl) (by kernel_rfl) (outs := []) (by kernel_rfl) (by kernel_rfl) (d := fun (y : compT spec_l00In.pr) => (y.1.1 : spec_l00In.N)) (fun _ => rfl) (C := fun _ => []) (k := k) noCuts fun x => by kernel_rfl
/-! spec.l03Is -/
@[reducible] def spec_l03Is.pc : CutP := [(0, some true, [.fl (.int .i64), .fl (.int .i64)])]
@[reducible] def spec_l03Is.pr : CompPs := [(false, [.fl .bool])]
abbrev spec_l03Is.N := Bool
noncomputable def spec_l03Is.E (k : Nat) : List (FuncId × Go.Rv.Fn) := [(60, spec_l00In.F k)]
noncomputable def spec_l03Is.f (k : Nat) (a0 : Int) (a1 : Int) : Option spec_l03Is.N := (spec_l00In.f k a0 0 1).bind fun t1 => (if t1 = true then (spec_l00In.f k a1 0 15).bind fun t2 => some t2 else some false)
noncomputable def spec_l03Is.F (k : Nat) : Go.Rv.Fn := mkFn 1 spec_l03Is.pc spec_l03Is.pr (keepOf []) (fun (y : spec_l03Is.N) => (((y, ()), ()) : compT spec_l03Is.pr)) fun x => spec_l03Is.f k x.1.1 x.1.2.1
theorem spec_l03Is.env (k : Nat) : EnvOk Go.Proofs.Try.prog (fun f => (spec_l03Is.E k).lookup f) := envOk_of ⟨entry Go.Proofs.Try.call60 rfl (spec_l00In.ok k), trivial⟩
theorem spec_l03Is.ok (k : Nat) : FnOk Go.Proofs.Try.prog 58 (spec_l03Is.F k) :=
  fn_ok tab (spec_l03Is.env k) Go.Proofs.Try.func58 rfl (n := 1) (Nat.le_of_ble_eq_true rfl) (by kernel_rfl) (outs := []) (by kernel_rfl) (by kernel_rfl) (d := fun (y : compT spec_l03Is.pr) => (y.1.1 : spec_l03Is.N)) (fun _ => rfl) (C := fun _ => []) (k := k) noCuts fun x => by kernel_rfl
/-! spec.l02Pose -/
@[reducible] def spec_l02Pose.pc : CutP := [(0, some true, [.fl (.int .i64), .fl (.int .i64), .fl (.int .i64), .fl (.int .i64)])]
@[reducible] def spec_l02Pose.pr : CompPs := [(false, [.fl .bool])]
abbrev spec_l02Pose.N := Bool
noncomputable def spec_l02Pose.E (k : Nat) : List (FuncId × Go.Rv.Fn) := [(60, spec_l00In.F k)]
noncomputable def spec_l02Pose.f (k : Nat) (a0 : Int) (a1 : Int) (a2 : Int) (a3 : Int) : Option spec_l02Pose.N := (spec_l00In.f k a0 (-100000) 100000).bind fun t1 => (if t1 = true then (spec_l00In.f k a1 (-100000) 100000).bind fun t2 => (if t2 = true then (spec_l00In.f k a2 (-400) 400).bind fun t3 => (if t3 = true then (spec_l00In.f k a3 (-400) 400).bind fun t4 => some t4 else some false) else some false) else some false)
noncomputable def spec_l02Pose.F (k : Nat) : Go.Rv.Fn := mkFn 1 spec_l02Pose.pc spec_l02Pose.pr (keepOf []) (fun (y : spec_l02Pose.N) => (((y, ()), ()) : compT spec_l02Pose.pr)) fun x => spec_l02Pose.f k x.1.1 x.1.2.1 x.1.2.2.1 x.1.2.2.2.1
theorem spec_l02Pose.env (k : Nat) : EnvOk Go.Proofs.Try.prog (fun f => (spec_l02Pose.E k).lookup f) := envOk_of ⟨entry Go.Proofs.Try.call60 rfl (spec_l00In.ok k), trivial⟩
theorem spec_l02Pose.ok (k : Nat) : FnOk Go.Proofs.Try.prog 50 (spec_l02Pose.F k) :=
  fn_ok tab (spec_l02Pose.env k) Go.Proofs.Try.func50 rfl (n := 1) (Nat.le_of_ble_eq_true rfl) (by kernel_rfl) (outs := []) (by kernel_rfl) (by kernel_rfl) (d := fun (y : compT spec_l02Pose.pr) => (y.1.1 : spec_l02Pose.N)) (fun _ => rfl) (C := fun _ => []) (k := k) noCuts fun x => by kernel_rfl
/-! spec.ValidPose -/
@[reducible] def spec_ValidPose.pc : CutP := [(0, some true, [.fl (.int .i64), .fl (.int .i64), .fl (.int .i64), .fl (.int .i64)])]
@[reducible] def spec_ValidPose.pr : CompPs := [(false, [.fl .bool])]
abbrev spec_ValidPose.N := Bool
noncomputable def spec_ValidPose.E (k : Nat) : List (FuncId × Go.Rv.Fn) := [(50, spec_l02Pose.F k)]
noncomputable def spec_ValidPose.f (k : Nat) (a0 : Int) (a1 : Int) (a2 : Int) (a3 : Int) : Option spec_ValidPose.N := (spec_l02Pose.f k a0 a1 a2 a3).bind fun t1 => some t1
noncomputable def spec_ValidPose.F (k : Nat) : Go.Rv.Fn := mkFn 1 spec_ValidPose.pc spec_ValidPose.pr (keepOf []) (fun (y : spec_ValidPose.N) => (((y, ()), ()) : compT spec_ValidPose.pr)) fun x => spec_ValidPose.f k x.1.1 x.1.2.1 x.1.2.2.1 x.1.2.2.2.1
theorem spec_ValidPose.env (k : Nat) : EnvOk Go.Proofs.Try.prog (fun f => (spec_ValidPose.E k).lookup f) := envOk_of ⟨entry Go.Proofs.Try.call50 rfl (spec_l02Pose.ok k), trivial⟩
theorem spec_ValidPose.ok (k : Nat) : FnOk Go.Proofs.Try.prog 59 (spec_ValidPose.F k) :=
  fn_ok tab (spec_ValidPose.env k) Go.Proofs.Try.func59 rfl (n := 1) (Nat.le_of_ble_eq_true rfl) (by kernel_rfl) (outs := []) (by kernel_rfl) (by kernel_rfl) (d := fun (y : compT spec_ValidPose.pr) => (y.1.1 : spec_ValidPose.N)) (fun _ => rfl) (C := fun _ => []) (k := k) noCuts fun x => by kernel_rfl
/-! spec.l02Turn -/
@[reducible] def spec_l02Turn.pc : CutP := [(0, some false, [.fl (.int .i64)]), (1, some false, [.fl (.int .i64)])]
@[reducible] def spec_l02Turn.pr : CompPs := [(false, [.fl .bool])]
abbrev spec_l02Turn.N := Bool
noncomputable def spec_l02Turn.E (k : Nat) : List (FuncId × Go.Rv.Fn) := [(60, spec_l00In.F k)]
noncomputable def spec_l02Turn.f (k : Nat) (a0 : Int) (a1 : Int) : Option spec_l02Turn.N := (spec_l00In.f k a0 (-12) 12).bind fun t1 => (if t1 = true then (spec_l00In.f k a1 (-12) 12).bind fun t2 => some t2 else some false)
noncomputable def spec_l02Turn.F (k : Nat) : Go.Rv.Fn := mkFn 2 spec_l02Turn.pc spec_l02Turn.pr (keepOf []) (fun (y : spec_l02Turn.N) => (((y, ()), ()) : compT spec_l02Turn.pr)) fun x => spec_l02Turn.f k x.1.1 x.2.1.1
theorem spec_l02Turn.env (k : Nat) : EnvOk Go.Proofs.Try.prog (fun f => (spec_l02Turn.E k).lookup f) := envOk_of ⟨entry Go.Proofs.Try.call60 rfl (spec_l00In.ok k), trivial⟩
theorem spec_l02Turn.ok (k : Nat) : FnOk Go.Proofs.Try.prog 111 (spec_l02Turn.F k) :=
  fn_ok tab (spec_l02Turn.env k) Go.Proofs.Try.func111 rfl (n := 2) (Nat.le_of_ble_eq_true rfl) (by kernel_rfl) (outs := []) (by kernel_rfl) (by kernel_rfl) (d := fun (y : compT spec_l02Turn.pr) => (y.1.1 : spec_l02Turn.N)) (fun _ => rfl) (C := fun _ => []) (k := k) noCuts fun x => by kernel_rfl
/-! spec.l02Next -/
@[reducible] def spec_l02Next.pc : CutP := [(0, some true, [.fl (.int .i64), .fl (.int .i64), .fl (.int .i64), .fl (.int .i64)]), (1, some false, [.fl (.int .i64)]), (2, some false, [.fl (.int .i64)])]
@[reducible] def spec_l02Next.pr : CompPs := [(true, [.fl (.int .i64), .fl (.int .i64), .fl (.int .i64), .fl (.int .i64)])]
abbrev spec_l02Next.N := Int × Int × Int × Int
noncomputable def spec_l02Next.E (k : Nat) : List (FuncId × Go.Rv.Fn) := []
noncomputable def spec_l02Next.f (k : Nat) (a0 : Int) (a1 : Int) (a2 : Int) (a3 : Int) (a4 : Int) (a5 : Int) : Option spec_l02Next.N := some ((wrap64 (a0 + a2)), (wrap64 (a1 + a3)), (wrap64 (a2 + a4)), (wrap64 (a3 + a5)))
noncomputable def spec_l02Next.F (k : Nat) : Go.Rv.Fn := mkFn 3 spec_l02Next.pc spec_l02Next.pr (keepOf []) (fun (y : spec_l02Next.N) => (((y.1, y.2.1, y.2.2.1, y.2.2.2, ()), ()) : compT spec_l02Next.pr)) fun x => spec_l02Next.f k x.1.1 x.1.2.1 x.1.2.2.1 x.1.2.2.2.1 x.2.1.1 x.2.2.1.1
theorem spec_l02Next.env (k : Nat) : EnvOk Go.Proofs.Try.prog (fun f => (spec_l02Next.E k).lookup f) := envOk_of trivial
theorem spec_l02Next.ok (k : Nat) : FnOk Go.Proofs.Try.prog 88 (spec_l02Next.F k) :=
  fn_ok tab (spec_l02Next.env k) Go.Proofs.Try.func88 rfl (n := 3) (Nat.le_of_ble_eq_true rfl) (by kernel_rfl) (outs := []) (by kernel_rfl) (by kernel_rfl) (d := fun (y : compT spec_l02Next.pr) => ((y.1.1, y.1.2.1, y.1.2.2.1, y.1.2.2.2.1) : spec_l02Next.N)) (fun _ => rfl) (C := fun _ => []) (k := k) noCuts fun x => by kernel_rfl
/-! spec.l02Is -/
@[reducible] def spec_l02Is.pc : CutP := [(0, some false, [.rptr [(.int .i64), (.int .i64), (.int .i64), (.int .i64), (.lo (.pair (.int .i64) (.pair (.int .i64) (.int .i64))))]])]
@[reducible] def spec_l02Is.pr : CompPs := [(false, [.fl .bool])]
abbrev spec_l02Is.N := Bool
noncomputable def spec_l02Is.E (k : Nat) : List (FuncId × Go.Rv.Fn) := [(50, spec_l02Pose.F k), (60, spec_l00In.F k), (88, spec_l02Next.F k), (111, spec_l02Turn.F k)]
abbrev spec_l02Is.Cs := (Int → Int → Int → Int → List (Int × Int × Int) → Option spec_l02Is.N) × (Int → Int → Int → Int → List (Int × Int × Int) → Int → Int → Int → Int → Int → Int → Option spec_l02Is.N) × (Int → Int → Int → Int → List (Int × Int × Int) → Int → Int → Int → Int → Int → Int → Int → Int → Int → Option spec_l02Is.N) × (Int → Int → Int → Int → List (Int × Int × Int) → Int → Int → Int → Int → Int → Int → Int → Int → Int → Int → Option spec_l02Is.N)
def spec_l02Is.zero : spec_l02Is.Cs := (fun _ _ _ _ _ => none, fun _ _ _ _ _ _ _ _ _ _ _ => none, fun _ _ _ _ _ _ _ _ _ _ _ _ _ _ => none, fun _ _ _ _ _ _ _ _ _ _ _ _ _ _ _ => none)
noncomputable def spec_l02Is.step (k : Nat) (c : spec_l02Is.Cs) : spec_l02Is.Cs := (fun (x0 : Int) (x1 : Int) (x2 : Int) (x3 : Int) (x4 : List (Int × Int × Int)) => c.2.1 x0 x1 x2 x3 x4 0 x0 x1 x2 x3 0,
  fun (x0 : Int) (x1 : Int) (x2 : Int) (x3 : Int) (x4 : List (Int × Int × Int)) (x5 : Int) (x6 : Int) (x7 : Int) (x8 : Int) (x9 : Int) (x10 : Int) => (if (decide (x10 < (x4.length : Int))) = true then if 0 ≤ x10 then if x10 < (x4.length : Int) then (spec_l00In.f k ((rd (0, (0, 0)) x4 x10).1) 1 (wrap64 (60 - x5))).bind fun t3 => (if (!t3) = true then some false else (spec_l02Turn.f k (((rd (0, (0, 0)) x4 x10).2).1) (((rd (0, (0, 0)) x4 x10).2).2)).bind fun t4 => (if (!t4) = true then some false else c.2.2.1 x0 x1 x2 x3 x4 x5 x6 x7 x8 x9 x10 ((rd (0, (0, 0)) x4 x10).1) (((rd (0, (0, 0)) x4 x10).2).1) (((rd (0, (0, 0)) x4 x10).2).2))) else none else none else some true),
  fun (x0 : Int) (x1 : Int) (x2 : Int) (x3 : Int) (x4 : List (Int × Int × Int)) (x5 : Int) (x6 : Int) (x7 : Int) (x8 : Int) (x9 : Int) (x10 : Int) (x11 : Int) (x12 : Int) (x13 : Int) => c.2.2.2 x0 x1 x2 x3 x4 (wrap64 (x5 + x11)) x6 x7 x8 x9 x10 x11 x12 x13 0,
  fun (x0 : Int) (x1 : Int) (x2 : Int) (x3 : Int) (x4 : List (Int × Int × Int)) (x5 : Int) (x6 : Int) (x7 : Int) (x8 : Int) (x9 : Int) (x10 : Int) (x11 : Int) (x12 : Int) (x13 : Int) (x14 : Int) => (if (decide (x14 < x11)) = true then (spec_l02Next.f k x6 x7 x8 x9 x12 x13).bind fun t5 => (spec_l02Pose.f k t5.1 t5.2.1 t5.2.2.1 t5.2.2.2).bind fun t6 => (if (!t6) = true then some false else c.2.2.2 x0 x1 x2 x3 x4 x5 t5.1 t5.2.1 t5.2.2.1 t5.2.2.2 x10 x11 x12 x13 (wrap64 (x14 + 1))) else c.2.1 x0 x1 x2 x3 x4 x5 x6 x7 x8 x9 (wrap64 (x10 + 1))))
noncomputable def spec_l02Is.cs (k : Nat) : Nat → spec_l02Is.Cs
  | 0 => spec_l02Is.zero
  | n + 1 => spec_l02Is.step k (spec_l02Is.cs k n)
def spec_l02Is.CC (c : spec_l02Is.Cs) : Cuts spec_l02Is.N := [(2, ⟨[(0, some false, [.rptr [(.int .i64), (.int .i64), (.int .i64), (.int .i64), (.lo (.pair (.int .i64) (.pair (.int .i64) (.int .i64))))]])], fun x => c.1 x.1.1.1 x.1.1.2.1 x.1.1.2.2.1 x.1.1.2.2.2.1 x.1.1.2.2.2.2.1⟩),
  (18, ⟨[(0, some false, [.rptr [(.int .i64), (.int .i64), (.int .i64), (.int .i64), (.lo (.pair (.int .i64) (.pair (.int .i64) (.int .i64))))]]), (3, some false, [.fl (.int .i64)]), (4, none, [.fl (.int .i64), .fl (.int .i64), .fl (.int .i64), .fl (.int .i64)]), (5, some false, [.fl (.int .i64)])], fun x => c.2.1 x.1.1.1 x.1.1.2.1 x.1.1.2.2.1 x.1.1.2.2.2.1 x.1.1.2.2.2.2.1 x.2.1.1 x.2.2.1.1 x.2.2.1.2.1 x.2.2.1.2.2.1 x.2.2.1.2.2.2.1 x.2.2.2.1.1⟩),
  (29, ⟨[(0, some false, [.rptr [(.int .i64), (.int .i64), (.int .i64), (.int .i64), (.lo (.pair (.int .i64) (.pair (.int .i64) (.int .i64))))]]), (3, some false, [.fl (.int .i64)]), (4, none, [.fl (.int .i64), .fl (.int .i64), .fl (.int .i64), .fl (.int .i64)]), (5, some false, [.fl (.int .i64)]), (6, none, [.fl (.int .i64), .fl (.int .i64), .fl (.int .i64)])], fun x => c.2.2.1 x.1.1.1 x.1.1.2.1 x.1.1.2.2.1 x.1.1.2.2.2.1 x.1.1.2.2.2.2.1 x.2.1.1 x.2.2.1.1 x.2.2.1.2.1 x.2.2.1.2.2.1 x.2.2.1.2.2.2.1 x.2.2.2.1.1 x.2.2.2.2.1.1 x.2.2.2.2.1.2.1 x.2.2.2.2.1.2.2.1⟩),
  (42, ⟨[(0, some false, [.rptr [(.int .i64), (.int .i64), (.int .i64), (.int .i64), (.lo (.pair (.int .i64) (.pair (.int .i64) (.int .i64))))]]), (3, some false, [.fl (.int .i64)]), (4, none, [.fl (.int .i64), .fl (.int .i64), .fl (.int .i64), .fl (.int .i64)]), (5, some false, [.fl (.int .i64)]), (6, none, [.fl (.int .i64), .fl (.int .i64), .fl (.int .i64)]), (7, some false, [.fl (.int .i64)])], fun x => c.2.2.2 x.1.1.1 x.1.1.2.1 x.1.1.2.2.1 x.1.1.2.2.2.1 x.1.1.2.2.2.2.1 x.2.1.1 x.2.2.1.1 x.2.2.1.2.1 x.2.2.1.2.2.1 x.2.2.1.2.2.2.1 x.2.2.2.1.1 x.2.2.2.2.1.1 x.2.2.2.2.1.2.1 x.2.2.2.2.1.2.2.1 x.2.2.2.2.2.1.1⟩)]
noncomputable def spec_l02Is.f (k : Nat) (a0 : Int) (a1 : Int) (a2 : Int) (a3 : Int) (a4 : List (Int × Int × Int)) : Option spec_l02Is.N := (spec_l02Pose.f k a0 a1 a2 a3).bind fun t1 => (if (!t1) = true then some false else (spec_l00In.f k (a4.length : Int) 1 8).bind fun t2 => (if (!t2) = true then some false else (spec_l02Is.cs k k).1 a0 a1 a2 a3 a4))
noncomputable def spec_l02Is.F (k : Nat) : Go.Rv.Fn := mkFn 1 spec_l02Is.pc spec_l02Is.pr (keepOf []) (fun (y : spec_l02Is.N) => (((y, ()), ()) : compT spec_l02Is.pr)) fun x => spec_l02Is.f k x.1.1.1 x.1.1.2.1 x.1.1.2.2.1 x.1.1.2.2.2.1 x.1.1.2.2.2.2.1
theorem spec_l02Is.env (k : Nat) : EnvOk Go.Proofs.Try.prog (fun f => (spec_l02Is.E k).lookup f) := envOk_of ⟨entry Go.Proofs.Try.call50 rfl (spec_l02Pose.ok k), entry Go.Proofs.Try.call60 rfl (spec_l00In.ok k), entry Go.Proofs.Try.call88 rfl (spec_l02Next.ok k), entry Go.Proofs.Try.call111 rfl (spec_l02Turn.ok k), trivial⟩
theorem spec_l02Is.cuts (k : Nat) : CutsOk Go.Proofs.Try.prog X (fun f => (spec_l02Is.E k).lookup f) Go.Proofs.Try.f85 [] (decN spec_l02Is.pr (fun (y : compT spec_l02Is.pr) => (y.1.1 : spec_l02Is.N))) fun n => spec_l02Is.CC (spec_l02Is.cs k n) :=
  cutsOk_of (step := spec_l02Is.step k) rfl (fun _ => rfl) ⟨fun _ => rfl, fun _ => rfl, fun _ => rfl, fun _ => rfl, trivial⟩ (fun c => by kernel_rfl) fun c => ⟨fun x => by kernel_rfl, fun x => by kernel_rfl, fun x => by kernel_rfl, fun x => by kernel_rfl, trivial⟩
theorem spec_l02Is.ok (k : Nat) : FnOk Go.Proofs.Try.prog 85 (spec_l02Is.F k) :=
  fn_ok tab (spec_l02Is.env k) Go.Proofs.Try.func85 rfl (n := 1) (Nat.le_of_ble_eq_true rfl) (by kernel_rfl) (outs := []) (by kernel_rfl) (by kernel_rfl) (d := fun (y : compT spec_l02Is.pr) => (y.1.1 : spec_l02Is.N)) (fun _ => rfl) (C := fun n => spec_l02Is.CC (spec_l02Is.cs k n)) (k := k) (spec_l02Is.cuts k) fun x => by kernel_rfl
/-! spec.l02Turns -/
@[reducible] def spec_l02Turns.pc : CutP := [(0, some false, [.rptr [(.int .i64), (.int .i64), (.int .i64), (.int .i64), (.lo (.pair (.int .i64) (.pair (.int .i64) (.int .i64))))]])]
@[reducible] def spec_l02Turns.pr : CompPs := [(false, [.fl (.own (.pair (.int .i64) (.pair (.int .i64) (.int .i64))))])]
abbrev spec_l02Turns.N := List (Int × Int × Int)
noncomputable def spec_l02Turns.E (k : Nat) : List (FuncId × Go.Rv.Fn) := []
abbrev spec_l02Turns.Cs := (Int → Int → Int → Int → List (Int × Int × Int) → List (Int × Int × Int) → Int → Option spec_l02Turns.N) × (Int → Int → Int → Int → List (Int × Int × Int) → List (Int × Int × Int) → Int → Int → Option spec_l02Turns.N)
def spec_l02Turns.zero : spec_l02Turns.Cs := (fun _ _ _ _ _ _ _ => none, fun _ _ _ _ _ _ _ _ => none)
noncomputable def spec_l02Turns.step (k : Nat) (c : spec_l02Turns.Cs) : spec_l02Turns.Cs := (fun (x0 : Int) (x1 : Int) (x2 : Int) (x3 : Int) (x4 : List (Int × Int × Int)) (x5 : List (Int × Int × Int)) (x6 : Int) => (if (decide (x6 < (x4.length : Int))) = true then c.2 x0 x1 x2 x3 x4 x5 x6 0 else some x5),
  fun (x0 : Int) (x1 : Int) (x2 : Int) (x3 : Int) (x4 : List (Int × Int × Int)) (x5 : List (Int × Int × Int)) (x6 : Int) (x7 : Int) => if 0 ≤ x6 then if x6 < (x4.length : Int) then (if (decide (x7 < (rd (0, (0, 0)) x4 x6).1)) = true then if 0 ≤ x6 then if x6 < (x4.length : Int) then if 0 ≤ x6 then if x6 < (x4.length : Int) then if x5.length + [(1, (((rd (0, (0, 0)) x4 x6).2).1, ((rd (0, (0, 0)) x4 x6).2).2))].length < 366503875925 then c.2 x0 x1 x2 x3 x4 (x5 ++ [(1, (((rd (0, (0, 0)) x4 x6).2).1, ((rd (0, (0, 0)) x4 x6).2).2))]) x6 (wrap64 (x7 + 1)) else none else none else none else none else none else c.1 x0 x1 x2 x3 x4 x5 (wrap64 (x6 + 1))) else none else none)
noncomputable def spec_l02Turns.cs (k : Nat) : Nat → spec_l02Turns.Cs
  | 0 => spec_l02Turns.zero
  | n + 1 => spec_l02Turns.step k (spec_l02Turns.cs k n)
def spec_l02Turns.CC (c : spec_l02Turns.Cs) : Cuts spec_l02Turns.N := [(8, ⟨[(0, some false, [.rptr [(.int .i64), (.int .i64), (.int .i64), (.int .i64), (.lo (.pair (.int .i64) (.pair (.int .i64) (.int .i64))))]]), (3, some false, [.fl (.own (.pair (.int .i64) (.pair (.int .i64) (.int .i64))))]), (4, some false, [.fl (.int .i64)])], fun x => c.1 x.1.1.1 x.1.1.2.1 x.1.1.2.2.1 x.1.1.2.2.2.1 x.1.1.2.2.2.2.1 x.2.1.1 x.2.2.1.1⟩),
  (20, ⟨[(0, some false, [.rptr [(.int .i64), (.int .i64), (.int .i64), (.int .i64), (.lo (.pair (.int .i64) (.pair (.int .i64) (.int .i64))))]]), (3, some false, [.fl (.own (.pair (.int .i64) (.pair (.int .i64) (.int .i64))))]), (4, some false, [.fl (.int .i64)]), (5, some false, [.fl (.int .i64)])], fun x => c.2 x.1.1.1 x.1.1.2.1 x.1.1.2.2.1 x.1.1.2.2.2.1 x.1.1.2.2.2.2.1 x.2.1.1 x.2.2.1.1 x.2.2.2.1.1⟩)]
noncomputable def spec_l02Turns.f (k : Nat) (a0 : Int) (a1 : Int) (a2 : Int) (a3 : Int) (a4 : List (Int × Int × Int)) : Option spec_l02Turns.N := (spec_l02Turns.cs k k).1 a0 a1 a2 a3 a4 ([] : List (Int × Int × Int)) 0
noncomputable def spec_l02Turns.F (k : Nat) : Go.Rv.Fn := mkFn 1 spec_l02Turns.pc spec_l02Turns.pr (keepOf []) (fun (y : spec_l02Turns.N) => (((y, ()), ()) : compT spec_l02Turns.pr)) fun x => spec_l02Turns.f k x.1.1.1 x.1.1.2.1 x.1.1.2.2.1 x.1.1.2.2.2.1 x.1.1.2.2.2.2.1
theorem spec_l02Turns.env (k : Nat) : EnvOk Go.Proofs.Try.prog (fun f => (spec_l02Turns.E k).lookup f) := envOk_of trivial
theorem spec_l02Turns.cuts (k : Nat) : CutsOk Go.Proofs.Try.prog X (fun f => (spec_l02Turns.E k).lookup f) Go.Proofs.Try.f86 [] (decN spec_l02Turns.pr (fun (y : compT spec_l02Turns.pr) => (y.1.1 : spec_l02Turns.N))) fun n => spec_l02Turns.CC (spec_l02Turns.cs k n) :=
  cutsOk_of (step := spec_l02Turns.step k) rfl (fun _ => rfl) ⟨fun _ => rfl, fun _ => rfl, trivial⟩ (fun c => by kernel_rfl) fun c => ⟨fun x => by kernel_rfl, fun x => by kernel_rfl, trivial⟩
theorem spec_l02Turns.ok (k : Nat) : FnOk Go.Proofs.Try.prog 86 (spec_l02Turns.F k) :=
  fn_ok tab (spec_l02Turns.env k) Go.Proofs.Try.func86 rfl (n := 1) (Nat.le_of_ble_eq_true rfl) (by kernel_rfl) (outs := []) (by kernel_rfl) (by kernel_rfl) (d := fun (y : compT spec_l02Turns.pr) => (y.1.1 : spec_l02Turns.N)) (fun _ => rfl) (C := fun n => spec_l02Turns.CC (spec_l02Turns.cs k n)) (k := k) (spec_l02Turns.cuts k) fun x => by kernel_rfl
/-! spec.l02Rings -/
@[reducible] def spec_l02Rings.pc : CutP := [(0, some false, [.rptr [(.int .i64), (.int .i64), (.int .i64), (.int .i64), (.lo (.pair (.int .i64) (.pair (.int .i64) (.int .i64))))]])]
@[reducible] def spec_l02Rings.pr : CompPs := [(false, [.fl (.int .i64)])]
abbrev spec_l02Rings.N := Int
noncomputable def spec_l02Rings.E (k : Nat) : List (FuncId × Go.Rv.Fn) := [(86, spec_l02Turns.F k)]
noncomputable def spec_l02Rings.f (k : Nat) (a0 : Int) (a1 : Int) (a2 : Int) (a3 : Int) (a4 : List (Int × Int × Int)) : Option spec_l02Rings.N := (spec_l02Turns.f k a0 a1 a2 a3 a4).bind fun t1 => some (t1.length : Int)
noncomputable def spec_l02Rings.F (k : Nat) : Go.Rv.Fn := mkFn 1 spec_l02Rings.pc spec_l02Rings.pr (keepOf []) (fun (y : spec_l02Rings.N) => (((y, ()), ()) : compT spec_l02Rings.pr)) fun x => spec_l02Rings.f k x.1.1.1 x.1.1.2.1 x.1.1.2.2.1 x.1.1.2.2.2.1 x.1.1.2.2.2.2.1
theorem spec_l02Rings.env (k : Nat) : EnvOk Go.Proofs.Try.prog (fun f => (spec_l02Rings.E k).lookup f) := envOk_of ⟨entry Go.Proofs.Try.call86 rfl (spec_l02Turns.ok k), trivial⟩
theorem spec_l02Rings.ok (k : Nat) : FnOk Go.Proofs.Try.prog 47 (spec_l02Rings.F k) :=
  fn_ok tab (spec_l02Rings.env k) Go.Proofs.Try.func47 rfl (n := 1) (Nat.le_of_ble_eq_true rfl) (by kernel_rfl) (outs := []) (by kernel_rfl) (by kernel_rfl) (d := fun (y : compT spec_l02Rings.pr) => (y.1.1 : spec_l02Rings.N)) (fun _ => rfl) (C := fun _ => []) (k := k) noCuts fun x => by kernel_rfl
/-! spec.RingsOf -/
@[reducible] def spec_RingsOf.pc : CutP := [(0, some true, [.fl (.int .i64), .fl (.int .i64), .fl (.int .i64), .fl (.int .i64), .fl (.lo (.pair (.int .i64) (.pair (.int .i64) (.int .i64))))])]
@[reducible] def spec_RingsOf.pr : CompPs := [(false, [.fl (.int .i64)]), (false, [.fl .bool])]
abbrev spec_RingsOf.N := Int × Bool
noncomputable def spec_RingsOf.E (k : Nat) : List (FuncId × Go.Rv.Fn) := [(47, spec_l02Rings.F k), (85, spec_l02Is.F k)]
noncomputable def spec_RingsOf.f (k : Nat) (a0 : Int) (a1 : Int) (a2 : Int) (a3 : Int) (a4 : List (Int × Int × Int)) : Option spec_RingsOf.N := (spec_l02Is.f k a0 a1 a2 a3 a4).bind fun t1 => (if (!t1) = true then some (0, false) else (spec_l02Rings.f k a0 a1 a2 a3 a4).bind fun (t2 : Int) => some (t2, true))
noncomputable def spec_RingsOf.F (k : Nat) : Go.Rv.Fn := mkFn 1 spec_RingsOf.pc spec_RingsOf.pr (keepOf []) (fun (y : spec_RingsOf.N) => (((y.1, ()), (y.2, ()), ()) : compT spec_RingsOf.pr)) fun x => spec_RingsOf.f k x.1.1 x.1.2.1 x.1.2.2.1 x.1.2.2.2.1 x.1.2.2.2.2.1
theorem spec_RingsOf.env (k : Nat) : EnvOk Go.Proofs.Try.prog (fun f => (spec_RingsOf.E k).lookup f) := envOk_of ⟨entry Go.Proofs.Try.call47 rfl (spec_l02Rings.ok k), entry Go.Proofs.Try.call85 rfl (spec_l02Is.ok k), trivial⟩
theorem spec_RingsOf.ok (k : Nat) : FnOk Go.Proofs.Try.prog 95 (spec_RingsOf.F k) :=
  fn_ok tab (spec_RingsOf.env k) Go.Proofs.Try.func95 rfl (n := 1) (Nat.le_of_ble_eq_true rfl) (by kernel_rfl) (outs := []) (by kernel_rfl) (by kernel_rfl) (d := fun (y : compT spec_RingsOf.pr) => ((y.1.1, y.2.1.1) : spec_RingsOf.N)) (fun _ => rfl) (C := fun _ => []) (k := k) noCuts fun x => by kernel_rfl
/-! spec.l03Behind -/
@[reducible] def spec_l03Behind.pc : CutP := [(0, some true, [.fl (.int .i64), .fl (.int .i64), .fl (.int .i64), .fl (.int .i64), .fl (.lo (.pair (.int .i64) (.pair (.int .i64) (.int .i64))))]), (1, some false, [.fl (.int .i64)]), (2, some false, [.fl (.int .i64)])]
@[reducible] def spec_l03Behind.pr : CompPs := [(false, [.fl .bool])]
abbrev spec_l03Behind.N := Bool
noncomputable def spec_l03Behind.E (k : Nat) : List (FuncId × Go.Rv.Fn) := [(60, spec_l00In.F k), (95, spec_RingsOf.F k)]
noncomputable def spec_l03Behind.f (k : Nat) (a0 : Int) (a1 : Int) (a2 : Int) (a3 : Int) (a4 : List (Int × Int × Int)) (a5 : Int) (a6 : Int) : Option spec_l03Behind.N := (spec_RingsOf.f k a0 a1 a2 a3 a4).bind fun t1 => (if t1.2 = true then (spec_l00In.f k a5 0 t1.1).bind fun t2 => (if t2 = true then (spec_l00In.f k a6 0 (wrap64 (t1.1 - a5))).bind fun t3 => some t3 else some false) else some false)
noncomputable def spec_l03Behind.F (k : Nat) : Go.Rv.Fn := mkFn 3 spec_l03Behind.pc spec_l03Behind.pr (keepOf []) (fun (y : spec_l03Behind.N) => (((y, ()), ()) : compT spec_l03Behind.pr)) fun x => spec_l03Behind.f k x.1.1 x.1.2.1 x.1.2.2.1 x.1.2.2.2.1 x.1.2.2.2.2.1 x.2.1.1 x.2.2.1.1
theorem spec_l03Behind.env (k : Nat) : EnvOk Go.Proofs.Try.prog (fun f => (spec_l03Behind.E k).lookup f) := envOk_of ⟨entry Go.Proofs.Try.call60 rfl (spec_l00In.ok k), entry Go.Proofs.Try.call95 rfl (spec_RingsOf.ok k), trivial⟩
theorem spec_l03Behind.ok (k : Nat) : FnOk Go.Proofs.Try.prog 61 (spec_l03Behind.F k) :=
  fn_ok tab (spec_l03Behind.env k) Go.Proofs.Try.func61 rfl (n := 3) (Nat.le_of_ble_eq_true rfl) (by kernel_rfl) (outs := []) (by kernel_rfl) (by kernel_rfl) (d := fun (y : compT spec_l03Behind.pr) => (y.1.1 : spec_l03Behind.N)) (fun _ => rfl) (C := fun _ => []) (k := k) noCuts fun x => by kernel_rfl
/-! spec.l02Poses -/
@[reducible] def spec_l02Poses.pc : CutP := [(0, some false, [.rptr [(.int .i64), (.int .i64), (.int .i64), (.int .i64), (.lo (.pair (.int .i64) (.pair (.int .i64) (.int .i64))))]])]
@[reducible] def spec_l02Poses.pr : CompPs := [(false, [.fl (.own (.pair (.int .i64) (.pair (.int .i64) (.pair (.int .i64) (.int .i64)))))])]
abbrev spec_l02Poses.N := List (Int × Int × Int × Int)
noncomputable def spec_l02Poses.E (k : Nat) : List (FuncId × Go.Rv.Fn) := [(86, spec_l02Turns.F k), (88, spec_l02Next.F k)]
abbrev spec_l02Poses.Cs := (List (Int × Int × Int × Int) → List (Int × Int × Int) → Int → Option spec_l02Poses.N)
def spec_l02Poses.zero : spec_l02Poses.Cs := (fun _ _ _ => none)
noncomputable def spec_l02Poses.step (k : Nat) (c : spec_l02Poses.Cs) : spec_l02Poses.Cs := (fun (x0 : List (Int × Int × Int × Int)) (x1 : List (Int × Int × Int)) (x2 : Int) => (if (decide (x2 < (x1.length : Int))) = true then if 0 ≤ x2 then if x2 < (x0.length : Int) then if 0 ≤ x2 then if x2 < (x1.length : Int) then if 0 ≤ x2 then if x2 < (x1.length : Int) then (spec_l02Next.f k ((rd (0, (0, (0, 0))) x0 x2).1) (((rd (0, (0, (0, 0))) x0 x2).2).1) ((((rd (0, (0, (0, 0))) x0 x2).2).2).1) ((((rd (0, (0, (0, 0))) x0 x2).2).2).2) (((rd (0, (0, 0)) x1 x2).2).1) (((rd (0, (0, 0)) x1 x2).2).2)).bind fun t2 => if x0.length + [t2].length < 274877906944 then c (x0 ++ [t2]) x1 (wrap64 (x2 + 1)) else none else none else none else none else none else none else none else some x0))
noncomputable def spec_l02Poses.cs (k : Nat) : Nat → spec_l02Poses.Cs
  | 0 => spec_l02Poses.zero
  | n + 1 => spec_l02Poses.step k (spec_l02Poses.cs k n)
def spec_l02Poses.CC (c : spec_l02Poses.Cs) : Cuts spec_l02Poses.N := [(10, ⟨[(3, some false, [.fl (.own (.pair (.int .i64) (.pair (.int .i64) (.pair (.int .i64) (.int .i64)))))]), (4, some false, [.fl (.own (.pair (.int .i64) (.pair (.int .i64) (.int .i64))))]), (5, some false, [.fl (.int .i64)])], fun x => c x.1.1 x.2.1.1 x.2.2.1.1⟩)]
noncomputable def spec_l02Poses.f (k : Nat) (a0 : Int) (a1 : Int) (a2 : Int) (a3 : Int) (a4 : List (Int × Int × Int)) : Option spec_l02Poses.N := (spec_l02Turns.f k a0 a1 a2 a3 a4).bind fun t1 => (spec_l02Poses.cs k k) [(a0, (a1, (a2, a3)))] t1 0
noncomputable def spec_l02Poses.F (k : Nat) : Go.Rv.Fn := mkFn 1 spec_l02Poses.pc spec_l02Poses.pr (keepOf []) (fun (y : spec_l02Poses.N) => (((y, ()), ()) : compT spec_l02Poses.pr)) fun x => spec_l02Poses.f k x.1.1.1 x.1.1.2.1 x.1.1.2.2.1 x.1.1.2.2.2.1 x.1.1.2.2.2.2.1
theorem spec_l02Poses.env (k : Nat) : EnvOk Go.Proofs.Try.prog (fun f => (spec_l02Poses.E k).lookup f) := envOk_of ⟨entry Go.Proofs.Try.call86 rfl (spec_l02Turns.ok k), entry Go.Proofs.Try.call88 rfl (spec_l02Next.ok k), trivial⟩
theorem spec_l02Poses.cuts (k : Nat) : CutsOk Go.Proofs.Try.prog X (fun f => (spec_l02Poses.E k).lookup f) Go.Proofs.Try.f49 [] (decN spec_l02Poses.pr (fun (y : compT spec_l02Poses.pr) => (y.1.1 : spec_l02Poses.N))) fun n => spec_l02Poses.CC (spec_l02Poses.cs k n) :=
  cutsOk_of (step := spec_l02Poses.step k) rfl (fun _ => rfl) ⟨fun _ => rfl, trivial⟩ (fun c => by kernel_rfl) fun c => ⟨fun x => by kernel_rfl, trivial⟩
theorem spec_l02Poses.ok (k : Nat) : FnOk Go.Proofs.Try.prog 49 (spec_l02Poses.F k) :=
  fn_ok tab (spec_l02Poses.env k) Go.Proofs.Try.func49 rfl (n := 1) (Nat.le_of_ble_eq_true rfl) (by kernel_rfl) (outs := []) (by kernel_rfl) (by kernel_rfl) (d := fun (y : compT spec_l02Poses.pr) => (y.1.1 : spec_l02Poses.N)) (fun _ => rfl) (C := fun n => spec_l02Poses.CC (spec_l02Poses.cs k n)) (k := k) (spec_l02Poses.cuts k) fun x => by kernel_rfl
/-! spec.l00Put -/
@[reducible] def spec_l00Put.pc : CutP := [(0, some false, [.fl (.lo (.int .i64))]), (1, some false, [.fl (.int .i64)])]
@[reducible] def spec_l00Put.pr : CompPs := [(false, [.fl (.own (.int .i64))])]
abbrev spec_l00Put.N := List Int
noncomputable def spec_l00Put.E (k : Nat) : List (FuncId × Go.Rv.Fn) := []
abbrev spec_l00Put.Cs := (List Int → Int → List Int → Bool → Int → Option spec_l00Put.N)
def spec_l00Put.zero : spec_l00Put.Cs := (fun _ _ _ _ _ => none)
noncomputable def spec_l00Put.step (k : Nat) (c : spec_l00Put.Cs) : spec_l00Put.Cs := (fun (x0 : List Int) (x1 : Int) (x2 : List Int) (x3 : Bool) (x4 : Int) => (if (decide (x4 < (x0.length : Int))) = true then (if (!x3) = true then if 0 ≤ x4 then if x4 < (x0.length : Int) then (if (decide (x1 ≤ (rd 0 x0 x4))) = true then if 0 ≤ x4 then if x4 < (x0.length : Int) then (if (decide (x1 < (rd 0 x0 x4))) = true then if x2.length + [x1].length < 1099511627776 then if 0 ≤ x4 then if x4 < (x0.length : Int) then if (x2 ++ [x1]).length + [(rd 0 x0 x4)].length < 1099511627776 then c x0 x1 ((x2 ++ [x1]) ++ [(rd 0 x0 x4)]) true (wrap64 (x4 + 1)) else none else none else none else none else if 0 ≤ x4 then if x4 < (x0.length : Int) then if x2.length + [(rd 0 x0 x4)].length < 1099511627776 then c x0 x1 (x2 ++ [(rd 0 x0 x4)]) true (wrap64 (x4 + 1)) else none else none else none) else none else none else if 0 ≤ x4 then if x4 < (x0.length : Int) then if x2.length + [(rd 0 x0 x4)].length < 1099511627776 then c x0 x1 (x2 ++ [(rd 0 x0 x4)]) x3 (wrap64 (x4 + 1)) else none else none else none) else none else none else if 0 ≤ x4 then if x4 < (x0.length : Int) then if x2.length + [(rd 0 x0 x4)].length < 1099511627776 then c x0 x1 (x2 ++ [(rd 0 x0 x4)]) x3 (wrap64 (x4 + 1)) else none else none else none) else (if (!x3) = true then if x2.length + [x1].length < 1099511627776 then some (x2 ++ [x1]) else none else some x2)))
noncomputable def spec_l00Put.cs (k : Nat) : Nat → spec_l00Put.Cs
  | 0 => spec_l00Put.zero
  | n + 1 => spec_l00Put.step k (spec_l00Put.cs k n)
def spec_l00Put.CC (c : spec_l00Put.Cs) : Cuts spec_l00Put.N := [(10, ⟨[(0, some false, [.fl (.lo (.int .i64))]), (1, some false, [.fl (.int .i64)]), (5, some false, [.fl (.own (.int .i64))]), (6, some false, [.fl .bool]), (7, some false, [.fl (.int .i64)])], fun x => c x.1.1 x.2.1.1 x.2.2.1.1 x.2.2.2.1.1 x.2.2.2.2.1.1⟩)]
noncomputable def spec_l00Put.f (k : Nat) (a0 : List Int) (a1 : Int) : Option spec_l00Put.N := (spec_l00Put.cs k k) a0 a1 ([] : List Int) false 0
noncomputable def spec_l00Put.F (k : Nat) : Go.Rv.Fn := mkFn 2 spec_l00Put.pc spec_l00Put.pr (keepOf []) (fun (y : spec_l00Put.N) => (((y, ()), ()) : compT spec_l00Put.pr)) fun x => spec_l00Put.f k x.1.1 x.2.1.1
theorem spec_l00Put.env (k : Nat) : EnvOk Go.Proofs.Try.prog (fun f => (spec_l00Put.E k).lookup f) := envOk_of trivial
theorem spec_l00Put.cuts (k : Nat) : CutsOk Go.Proofs.Try.prog X (fun f => (spec_l00Put.E k).lookup f) Go.Proofs.Try.f112 [] (decN spec_l00Put.pr (fun (y : compT spec_l00Put.pr) => (y.1.1 : spec_l00Put.N))) fun n => spec_l00Put.CC (spec_l00Put.cs k n) :=
  cutsOk_of (step := spec_l00Put.step k) rfl (fun _ => rfl) ⟨fun _ => rfl, trivial⟩ (fun c => by kernel_rfl) fun c => ⟨fun x => by kernel_rfl, trivial⟩
theorem spec_l00Put.ok (k : Nat) : FnOk Go.Proofs.Try.prog 112 (spec_l00Put.F k) :=
  fn_ok tab (spec_l00Put.env k) Go.Proofs.Try.func112 rfl (n := 2) (Nat.le_of_ble_eq_true rfl) (by kernel_rfl) (outs := []) (by kernel_rfl) (by kernel_rfl) (d := fun (y : compT spec_l00Put.pr) => (y.1.1 : spec_l00Put.N)) (fun _ => rfl) (C := fun n => spec_l00Put.CC (spec_l00Put.cs k n)) (k := k) (spec_l00Put.cuts k) fun x => by kernel_rfl
/-! spec.l03Next -/
@[reducible] def spec_l03Next.pc : CutP := [(0, some false, [.fl (.int .i64)])]
@[reducible] def spec_l03Next.pr : CompPs := [(false, [.fl (.own (.int .i64))])]
abbrev spec_l03Next.N := List Int
noncomputable def spec_l03Next.E (k : Nat) : List (FuncId × Go.Rv.Fn) := [(112, spec_l00Put.F k)]
abbrev spec_l03Next.Cs := (Int → List Int → List Int → Int → Option spec_l03Next.N)
def spec_l03Next.zero : spec_l03Next.Cs := (fun _ _ _ _ => none)
noncomputable def spec_l03Next.step (k : Nat) (c : spec_l03Next.Cs) : spec_l03Next.Cs := (fun (x0 : Int) (x1 : List Int) (x2 : List Int) (x3 : Int) => (if (decide (x3 < (x2.length : Int))) = true then if 0 ≤ x3 then if x3 < (x2.length : Int) then (if 16 = 0 then none else (spec_l00Put.f k x1 ((wrap64 (x0 + (rd 0 x2 x3))).tmod 16)).bind fun t1 => c x0 t1 x2 (wrap64 (x3 + 1))) else none else none else some x1))
noncomputable def spec_l03Next.cs (k : Nat) : Nat → spec_l03Next.Cs
  | 0 => spec_l03Next.zero
  | n + 1 => spec_l03Next.step k (spec_l03Next.cs k n)
def spec_l03Next.CC (c : spec_l03Next.Cs) : Cuts spec_l03Next.N := [(10, ⟨[(0, some false, [.fl (.int .i64)]), (3, some false, [.fl (.own (.int .i64))]), (4, some false, [.fl (.own (.int .i64))]), (5, some false, [.fl (.int .i64)])], fun x => c x.1.1 x.2.1.1 x.2.2.1.1 x.2.2.2.1.1⟩)]
noncomputable def spec_l03Next.f (k : Nat) (a0 : Int) : Option spec_l03Next.N := (spec_l03Next.cs k k) a0 ([] : List Int) [2, 5, 8, 11, 14] 0
noncomputable def spec_l03Next.F (k : Nat) : Go.Rv.Fn := mkFn 1 spec_l03Next.pc spec_l03Next.pr (keepOf []) (fun (y : spec_l03Next.N) => (((y, ()), ()) : compT spec_l03Next.pr)) fun x => spec_l03Next.f k x.1.1
theorem spec_l03Next.env (k : Nat) : EnvOk Go.Proofs.Try.prog (fun f => (spec_l03Next.E k).lookup f) := envOk_of ⟨entry Go.Proofs.Try.call112 rfl (spec_l00Put.ok k), trivial⟩
theorem spec_l03Next.cuts (k : Nat) : CutsOk Go.Proofs.Try.prog X (fun f => (spec_l03Next.E k).lookup f) Go.Proofs.Try.f93 [] (decN spec_l03Next.pr (fun (y : compT spec_l03Next.pr) => (y.1.1 : spec_l03Next.N))) fun n => spec_l03Next.CC (spec_l03Next.cs k n) :=
  cutsOk_of (step := spec_l03Next.step k) rfl (fun _ => rfl) ⟨fun _ => rfl, trivial⟩ (fun c => by kernel_rfl) fun c => ⟨fun x => by kernel_rfl, trivial⟩
theorem spec_l03Next.ok (k : Nat) : FnOk Go.Proofs.Try.prog 93 (spec_l03Next.F k) :=
  fn_ok tab (spec_l03Next.env k) Go.Proofs.Try.func93 rfl (n := 1) (Nat.le_of_ble_eq_true rfl) (by kernel_rfl) (outs := []) (by kernel_rfl) (by kernel_rfl) (d := fun (y : compT spec_l03Next.pr) => (y.1.1 : spec_l03Next.N)) (fun _ => rfl) (C := fun n => spec_l03Next.CC (spec_l03Next.cs k n)) (k := k) (spec_l03Next.cuts k) fun x => by kernel_rfl
/-! spec.l03All -/
@[reducible] def spec_l03All.pc : CutP := [(0, some false, [.fl (.lo (.int .i64))])]
@[reducible] def spec_l03All.pr : CompPs := [(false, [.fl (.own (.pair (.int .i64) (.int .i64)))])]
abbrev spec_l03All.N := List (Int × Int)
noncomputable def spec_l03All.E (k : Nat) : List (FuncId × Go.Rv.Fn) := []
abbrev spec_l03All.Cs := (List Int → List (Int × Int) → Int → Option spec_l03All.N) × (List Int → List (Int × Int) → Int → Int → Option spec_l03All.N)
def spec_l03All.zero : spec_l03All.Cs := (fun _ _ _ => none, fun _ _ _ _ => none)
noncomputable def spec_l03All.step (k : Nat) (c : spec_l03All.Cs) : spec_l03All.Cs := (fun (x0 : List Int) (x1 : List (Int × Int)) (x2 : Int) => (if (decide (x2 ≤ 1)) = true then c.2 x0 x1 x2 0 else some x1),
  fun (x0 : List Int) (x1 : List (Int × Int)) (x2 : Int) (x3 : Int) => (if (decide (x3 < (x0.length : Int))) = true then if 0 ≤ x3 then if x3 < (x0.length : Int) then if x1.length + [(x2, (rd 0 x0 x3))].length < 549755813888 then c.2 x0 (x1 ++ [(x2, (rd 0 x0 x3))]) x2 (wrap64 (x3 + 1)) else none else none else none else c.1 x0 x1 (wrap64 (x2 + 1))))
noncomputable def spec_l03All.cs (k : Nat) : Nat → spec_l03All.Cs
  | 0 => spec_l03All.zero
  | n + 1 => spec_l03All.step k (spec_l03All.cs k n)
def spec_l03All.CC (c : spec_l03All.Cs) : Cuts spec_l03All.N := [(8, ⟨[(0, some false, [.fl (.lo (.int .i64))]), (3, some false, [.fl (.own (.pair (.int .i64) (.int .i64)))]), (4, some false, [.fl (.int .i64)])], fun x => c.1 x.1.1 x.2.1.1 x.2.2.1.1⟩),
  (20, ⟨[(0, some false, [.fl (.lo (.int .i64))]), (3, some false, [.fl (.own (.pair (.int .i64) (.int .i64)))]), (4, some false, [.fl (.int .i64)]), (5, some false, [.fl (.int .i64)])], fun x => c.2 x.1.1 x.2.1.1 x.2.2.1.1 x.2.2.2.1.1⟩)]
noncomputable def spec_l03All.f (k : Nat) (a0 : List Int) : Option spec_l03All.N := (spec_l03All.cs k k).1 a0 ([] : List (Int × Int)) 0
noncomputable def spec_l03All.F (k : Nat) : Go.Rv.Fn := mkFn 1 spec_l03All.pc spec_l03All.pr (keepOf []) (fun (y : spec_l03All.N) => (((y, ()), ()) : compT spec_l03All.pr)) fun x => spec_l03All.f k x.1.1
theorem spec_l03All.env (k : Nat) : EnvOk Go.Proofs.Try.prog (fun f => (spec_l03All.E k).lookup f) := envOk_of trivial
theorem spec_l03All.cuts (k : Nat) : CutsOk Go.Proofs.Try.prog X (fun f => (spec_l03All.E k).lookup f) Go.Proofs.Try.f96 [] (decN spec_l03All.pr (fun (y : compT spec_l03All.pr) => (y.1.1 : spec_l03All.N))) fun n => spec_l03All.CC (spec_l03All.cs k n) :=
  cutsOk_of (step := spec_l03All.step k) rfl (fun _ => rfl) ⟨fun _ => rfl, fun _ => rfl, trivial⟩ (fun c => by kernel_rfl) fun c => ⟨fun x => by kernel_rfl, fun x => by kernel_rfl, trivial⟩
theorem spec_l03All.ok (k : Nat) : FnOk Go.Proofs.Try.prog 96 (spec_l03All.F k) :=
  fn_ok tab (spec_l03All.env k) Go.Proofs.Try.func96 rfl (n := 1) (Nat.le_of_ble_eq_true rfl) (by kernel_rfl) (outs := []) (by kernel_rfl) (by kernel_rfl) (d := fun (y : compT spec_l03All.pr) => (y.1.1 : spec_l03All.N)) (fun _ => rfl) (C := fun n => spec_l03All.CC (spec_l03All.cs k n)) (k := k) (spec_l03All.cuts k) fun x => by kernel_rfl
/-! spec.l03Turn -/
@[reducible] def spec_l03Turn.pc : CutP := [(0, some true, [.fl (.int .i64), .fl (.int .i64)])]
@[reducible] def spec_l03Turn.pr : CompPs := [(false, [.fl (.int .i64)]), (false, [.fl (.int .i64)])]
abbrev spec_l03Turn.N := Int × Int
noncomputable def spec_l03Turn.E (k : Nat) : List (FuncId × Go.Rv.Fn) := []
noncomputable def spec_l03Turn.f (k : Nat) (a0 : Int) (a1 : Int) : Option spec_l03Turn.N := (if (decide (a0 = 0)) = true then some (0, 0) else if 0 ≤ a1 then if a1 < ([10, 9, 7, 4, 0, (-4), (-7), (-9), (-10), (-9), (-7), (-4), 0, 4, 7, 9].length : Int) then (if 16 = 0 then none else if 0 ≤ ((wrap64 (a1 + 12)).tmod 16) then if ((wrap64 (a1 + 12)).tmod 16) < ([10, 9, 7, 4, 0, (-4), (-7), (-9), (-10), (-9), (-7), (-4), 0, 4, 7, 9].length : Int) then some ((rd 0 [10, 9, 7, 4, 0, (-4), (-7), (-9), (-10), (-9), (-7), (-4), 0, 4, 7, 9] a1), (rd 0 [10, 9, 7, 4, 0, (-4), (-7), (-9), (-10), (-9), (-7), (-4), 0, 4, 7, 9] ((wrap64 (a1 + 12)).tmod 16))) else none else none) else none else none)
noncomputable def spec_l03Turn.F (k : Nat) : Go.Rv.Fn := mkFn 1 spec_l03Turn.pc spec_l03Turn.pr (keepOf []) (fun (y : spec_l03Turn.N) => (((y.1, ()), (y.2, ()), ()) : compT spec_l03Turn.pr)) fun x => spec_l03Turn.f k x.1.1 x.1.2.1
theorem spec_l03Turn.env (k : Nat) : EnvOk Go.Proofs.Try.prog (fun f => (spec_l03Turn.E k).lookup f) := envOk_of trivial
theorem spec_l03Turn.ok (k : Nat) : FnOk Go.Proofs.Try.prog 97 (spec_l03Turn.F k) :=
  fn_ok tab (spec_l03Turn.env k) Go.Proofs.Try.func97 rfl (n := 1) (Nat.le_of_ble_eq_true rfl) (by kernel_rfl) (outs := []) (by kernel_rfl) (by kernel_rfl) (d := fun (y : compT spec_l03Turn.pr) => ((y.1.1, y.2.1.1) : spec_l03Turn.N)) (fun _ => rfl) (C := fun _ => []) (k := k) noCuts fun x => by kernel_rfl
/-! spec.NextPose -/
@[reducible] def spec_NextPose.pc : CutP := [(0, some true, [.fl (.int .i64), .fl (.int .i64), .fl (.int .i64), .fl (.int .i64)]), (1, some false, [.fl (.int .i64)]), (2, some false, [.fl (.int .i64)])]
@[reducible] def spec_NextPose.pr : CompPs := [(true, [.fl (.int .i64), .fl (.int .i64), .fl (.int .i64), .fl (.int .i64)]), (false, [.fl .bool])]
abbrev spec_NextPose.N := Int × Int × Int × Int × Bool
noncomputable def spec_NextPose.E (k : Nat) : List (FuncId × Go.Rv.Fn) := [(50, spec_l02Pose.F k), (88, spec_l02Next.F k), (111, spec_l02Turn.F k)]
abbrev spec_NextPose.Cs := (Int → Int → Int → Int → Int → Int → Int → Int → Int → Int → Option spec_NextPose.N)
def spec_NextPose.zero : spec_NextPose.Cs := (fun _ _ _ _ _ _ _ _ _ _ => none)
noncomputable def spec_NextPose.step (k : Nat) (c : spec_NextPose.Cs) : spec_NextPose.Cs := (fun (x0 : Int) (x1 : Int) (x2 : Int) (x3 : Int) (x4 : Int) (x5 : Int) (x6 : Int) (x7 : Int) (x8 : Int) (x9 : Int) => (spec_l02Next.f k x2 x3 x4 x5 x0 x1).bind fun t3 => (spec_l02Pose.f k t3.1 t3.2.1 t3.2.2.1 t3.2.2.2).bind fun t4 => (if (!t4) = true then some (0, 0, 0, 0, false) else some (t3.1, t3.2.1, t3.2.2.1, t3.2.2.2, true)))
noncomputable def spec_NextPose.cs (k : Nat) : Nat → spec_NextPose.Cs
  | 0 => spec_NextPose.zero
  | n + 1 => spec_NextPose.step k (spec_NextPose.cs k n)
def spec_NextPose.CC (c : spec_NextPose.Cs) : Cuts spec_NextPose.N := [(2, ⟨[(1, some false, [.fl (.int .i64)]), (2, some false, [.fl (.int .i64)]), (3, none, [.fl (.int .i64), .fl (.int .i64), .fl (.int .i64), .fl (.int .i64)]), (6, none, [.fl (.int .i64), .fl (.int .i64), .fl (.int .i64), .fl (.int .i64)])], fun x => c x.1.1 x.2.1.1 x.2.2.1.1 x.2.2.1.2.1 x.2.2.1.2.2.1 x.2.2.1.2.2.2.1 x.2.2.2.1.1 x.2.2.2.1.2.1 x.2.2.2.1.2.2.1 x.2.2.2.1.2.2.2.1⟩)]
noncomputable def spec_NextPose.f (k : Nat) (a0 : Int) (a1 : Int) (a2 : Int) (a3 : Int) (a4 : Int) (a5 : Int) : Option spec_NextPose.N := (spec_l02Pose.f k a0 a1 a2 a3).bind fun t1 => (if (!t1) = true then some (0, 0, 0, 0, false) else (spec_l02Turn.f k a4 a5).bind fun t2 => (if (!t2) = true then some (0, 0, 0, 0, false) else (spec_NextPose.cs k k) a4 a5 a0 a1 a2 a3 0 0 0 0))
noncomputable def spec_NextPose.F (k : Nat) : Go.Rv.Fn := mkFn 3 spec_NextPose.pc spec_NextPose.pr (keepOf []) (fun (y : spec_NextPose.N) => (((y.1, y.2.1, y.2.2.1, y.2.2.2.1, ()), (y.2.2.2.2, ()), ()) : compT spec_NextPose.pr)) fun x => spec_NextPose.f k x.1.1 x.1.2.1 x.1.2.2.1 x.1.2.2.2.1 x.2.1.1 x.2.2.1.1
theorem spec_NextPose.env (k : Nat) : EnvOk Go.Proofs.Try.prog (fun f => (spec_NextPose.E k).lookup f) := envOk_of ⟨entry Go.Proofs.Try.call50 rfl (spec_l02Pose.ok k), entry Go.Proofs.Try.call88 rfl (spec_l02Next.ok k), entry Go.Proofs.Try.call111 rfl (spec_l02Turn.ok k), trivial⟩
theorem spec_NextPose.cuts (k : Nat) : CutsOk Go.Proofs.Try.prog X (fun f => (spec_NextPose.E k).lookup f) Go.Proofs.Try.f98 [] (decN spec_NextPose.pr (fun (y : compT spec_NextPose.pr) => ((y.1.1, y.1.2.1, y.1.2.2.1, y.1.2.2.2.1, y.2.1.1) : spec_NextPose.N))) fun n => spec_NextPose.CC (spec_NextPose.cs k n) :=
  cutsOk_of (step := spec_NextPose.step k) rfl (fun _ => rfl) ⟨fun _ => rfl, trivial⟩ (fun c => by kernel_rfl) fun c => ⟨fun x => by kernel_rfl, trivial⟩
theorem spec_NextPose.ok (k : Nat) : FnOk Go.Proofs.Try.prog 98 (spec_NextPose.F k) :=
  fn_ok tab (spec_NextPose.env k) Go.Proofs.Try.func98 rfl (n := 3) (Nat.le_of_ble_eq_true rfl) (by kernel_rfl) (outs := []) (by kernel_rfl) (by kernel_rfl) (d := fun (y : compT spec_NextPose.pr) => ((y.1.1, y.1.2.1, y.1.2.2.1, y.1.2.2.2.1, y.2.1.1) : spec_NextPose.N)) (fun _ => rfl) (C := fun n => spec_NextPose.CC (spec_NextPose.cs k n)) (k := k) (spec_NextPose.cuts k) fun x => by kernel_rfl
/-! spec.l03Off -/
@[reducible] def spec_l03Off.pc : CutP := [(0, some true, [.fl (.int .i64), .fl (.int .i64), .fl (.int .i64), .fl (.int .i64)]), (1, some true, [.fl (.int .i64), .fl (.int .i64), .fl (.int .i64), .fl (.int .i64)])]
@[reducible] def spec_l03Off.pr : CompPs := [(false, [.fl (.own (.int .i64))])]
abbrev spec_l03Off.N := List Int
noncomputable def spec_l03Off.E (k : Nat) : List (FuncId × Go.Rv.Fn) := []
noncomputable def spec_l03Off.f (k : Nat) (a0 : Int) (a1 : Int) (a2 : Int) (a3 : Int) (a4 : Int) (a5 : Int) (a6 : Int) (a7 : Int) : Option spec_l03Off.N := some [(wrap64 (a0 - a4)), (wrap64 (a1 - a5))]
noncomputable def spec_l03Off.F (k : Nat) : Go.Rv.Fn := mkFn 2 spec_l03Off.pc spec_l03Off.pr (keepOf []) (fun (y : spec_l03Off.N) => (((y, ()), ()) : compT spec_l03Off.pr)) fun x => spec_l03Off.f k x.1.1 x.1.2.1 x.1.2.2.1 x.1.2.2.2.1 x.2.1.1 x.2.1.2.1 x.2.1.2.2.1 x.2.1.2.2.2.1
theorem spec_l03Off.env (k : Nat) : EnvOk Go.Proofs.Try.prog (fun f => (spec_l03Off.E k).lookup f) := envOk_of trivial
theorem spec_l03Off.ok (k : Nat) : FnOk Go.Proofs.Try.prog 99 (spec_l03Off.F k) :=
  fn_ok tab (spec_l03Off.env k) Go.Proofs.Try.func99 rfl (n := 2) (Nat.le_of_ble_eq_true rfl) (by kernel_rfl) (outs := []) (by kernel_rfl) (by kernel_rfl) (d := fun (y : compT spec_l03Off.pr) => (y.1.1 : spec_l03Off.N)) (fun _ => rfl) (C := fun _ => []) (k := k) noCuts fun x => by kernel_rfl
/-! (*spec.l03Search).grow -/
@[reducible] def spec_l03Search_grow.bs : BoxPs := [(0, [(.lo (.pair (.int .i64) (.pair (.int .i64) (.pair (.int .i64) (.int .i64))))), (.int .i64), (.own (.pair (.int .i64) (.int .i64))), (.own (.pair (.int .i64) (.int .i64))), (.int .i64)])]
abbrev spec_l03Search_grow.hand : List (Nat × Bool) := [(0, false)]
@[reducible] def spec_l03Search_grow.pc : CutP := [(0, none, [.fl (.lo (.pair (.int .i64) (.pair (.int .i64) (.pair (.int .i64) (.int .i64))))), .fl (.int .i64), .fl (.own (.pair (.int .i64) (.int .i64))), .fl (.own (.pair (.int .i64) (.int .i64))), .fl (.int .i64)]), (1, some true, [.fl (.int .i64), .fl (.int .i64)]), (2, some true, [.fl (.int .i64), .fl (.int .i64), .fl (.int .i64), .fl (.int .i64)]), (3, some false, [.fl (.int .i64)])]
@[reducible] def spec_l03Search_grow.pr : CompPs := []
abbrev spec_l03Search_grow.N := List (Int × Int × Int × Int) × Int × List (Int × Int) × List (Int × Int) × Int
noncomputable def spec_l03Search_grow.G (rec : List (Int × Int × Int × Int) → Int → List (Int × Int) → List (Int × Int) → Int → Int → Int → Int → Int → Int → Int → Int → Option spec_l03Search_grow.N) : Go.Rv.Fn := mkFnH 4 spec_l03Search_grow.hand spec_l03Search_grow.pc spec_l03Search_grow.pr spec_l03Search_grow.bs (fun (y : spec_l03Search_grow.N) => (((()), ((y.1, y.2.1, y.2.2.1, y.2.2.2.1, y.2.2.2.2, ()), ())) : compT spec_l03Search_grow.pr × boxPT spec_l03Search_grow.bs)) fun x => rec x.1.1 x.1.2.1 x.1.2.2.1 x.1.2.2.2.1 x.1.2.2.2.2.1 x.2.1.1 x.2.1.2.1 x.2.2.1.1 x.2.2.1.2.1 x.2.2.1.2.2.1 x.2.2.1.2.2.2.1 x.2.2.2.1.1
noncomputable def spec_l03Search_grow.E (k : Nat) (rec : List (Int × Int × Int × Int) → Int → List (Int × Int) → List (Int × Int) → Int → Int → Int → Int → Int → Int → Int → Int → Option spec_l03Search_grow.N) : List (FuncId × Go.Rv.Fn) := [(93, spec_l03Next.F k), (96, spec_l03All.F k), (97, spec_l03Turn.F k), (98, spec_NextPose.F k), (99, spec_l03Off.F k), (62, spec_l03Search_grow.G rec)]
abbrev spec_l03Search_grow.Cs := (List (Int × Int × Int × Int) → Int → List (Int × Int) → List (Int × Int) → Int → Int → Int → Int → Int → Int → Int → List (Int × Int) → Int → Option spec_l03Search_grow.N) × (List (Int × Int × Int × Int) → Int → List (Int × Int) → List (Int × Int) → Int → Int → Int → Int → Int → Int → Int → List (Int × Int) → Int → Int → Int → Int → Int → Int → Option spec_l03Search_grow.N)
def spec_l03Search_grow.zero : spec_l03Search_grow.Cs := (fun _ _ _ _ _ _ _ _ _ _ _ _ _ => none, fun _ _ _ _ _ _ _ _ _ _ _ _ _ _ _ _ _ _ => none)
noncomputable def spec_l03Search_grow.step (k : Nat) (rec : List (Int × Int × Int × Int) → Int → List (Int × Int) → List (Int × Int) → Int → Int → Int → Int → Int → Int → Int → Int → Option spec_l03Search_grow.N) (c : spec_l03Search_grow.Cs) : spec_l03Search_grow.Cs := (fun (x0 : List (Int × Int × Int × Int)) (x1 : Int) (x2 : List (Int × Int)) (x3 : List (Int × Int)) (x4 : Int) (x5 : Int) (x6 : Int) (x7 : Int) (x8 : Int) (x9 : Int) (x10 : Int) (x11 : List (Int × Int)) (x12 : Int) => (if (decide (x12 < (x11.length : Int))) = true then if 0 ≤ x12 then if x12 < (x11.length : Int) then (spec_l03Turn.f k ((rd (0, 0) x11 x12).1) ((rd (0, 0) x11 x12).2)).bind fun t3 => (spec_NextPose.f k x6 x7 x8 x9 t3.1 t3.2).bind fun t4 => (if (!t4.2.2.2.2) = true then c.1 x0 x1 x2 x3 x4 x5 x6 x7 x8 x9 x10 x11 (wrap64 (x12 + 1)) else if 0 ≤ x10 then if x10 < (x0.length : Int) then (spec_l03Off.f k t4.1 t4.2.1 t4.2.2.1 t4.2.2.2.1 ((rd (0, (0, (0, 0))) x0 x10).1) (((rd (0, (0, (0, 0))) x0 x10).2).1) ((((rd (0, (0, (0, 0))) x0 x10).2).2).1) ((((rd (0, (0, (0, 0))) x0 x10).2).2).2)).bind fun t5 => if 0 ≤ 0 then if 0 < (t5.length : Int) then if 0 ≤ 0 then if 0 < (t5.length : Int) then if 0 ≤ 1 then if 1 < (t5.length : Int) then if 0 ≤ 1 then if 1 < (t5.length : Int) then (if (decide (0 < (x3.length : Int))) = true then (if (decide (x4 ≤ (wrap64 ((wrap64 (x5 + (wrap64 ((rd 0 t5 0) * (rd 0 t5 0))))) + (wrap64 ((rd 0 t5 1) * (rd 0 t5 1))))))) = true then c.1 x0 x1 x2 x3 x4 x5 x6 x7 x8 x9 x10 x11 (wrap64 (x12 + 1)) else c.2 x0 x1 x2 x3 x4 x5 x6 x7 x8 x9 x10 x11 x12 t4.1 t4.2.1 t4.2.2.1 t4.2.2.2.1 (wrap64 ((wrap64 (x5 + (wrap64 ((rd 0 t5 0) * (rd 0 t5 0))))) + (wrap64 ((rd 0 t5 1) * (rd 0 t5 1)))))) else c.2 x0 x1 x2 x3 x4 x5 x6 x7 x8 x9 x10 x11 x12 t4.1 t4.2.1 t4.2.2.1 t4.2.2.2.1 (wrap64 ((wrap64 (x5 + (wrap64 ((rd 0 t5 0) * (rd 0 t5 0))))) + (wrap64 ((rd 0 t5 1) * (rd 0 t5 1)))))) else none else none else none else none else none else none else none else none else none else none) else none else none else some (x0, x1, x2, x3, x4)),
  fun (x0 : List (Int × Int × Int × Int)) (x1 : Int) (x2 : List (Int × Int)) (x3 : List (Int × Int)) (x4 : Int) (x5 : Int) (x6 : Int) (x7 : Int) (x8 : Int) (x9 : Int) (x10 : Int) (x11 : List (Int × Int)) (x12 : Int) (x13 : Int) (x14 : Int) (x15 : Int) (x16 : Int) (x17 : Int) => if 0 ≤ x12 then if x12 < (x11.length : Int) then if x2.length + [((rd (0, 0) x11 x12).1, (rd (0, 0) x11 x12).2)].length < 549755813888 then if 0 ≤ x12 then if x12 < (x11.length : Int) then (rec x0 x1 (x2 ++ [((rd (0, 0) x11 x12).1, (rd (0, 0) x11 x12).2)]) x3 x4 ((rd (0, 0) x11 x12).1) ((rd (0, 0) x11 x12).2) x13 x14 x15 x16 x17).bind fun t6 => if 0 ≤ x10 then if x10 ≤ (t6.2.2.1.length : Int) then c.1 t6.1 t6.2.1 (t6.2.2.1.take x10.toNat) t6.2.2.2.1 t6.2.2.2.2 x5 x6 x7 x8 x9 x10 x11 (wrap64 (x12 + 1)) else none else none else none else none else none else none else none)
noncomputable def spec_l03Search_grow.cs (k : Nat) (rec : List (Int × Int × Int × Int) → Int → List (Int × Int) → List (Int × Int) → Int → Int → Int → Int → Int → Int → Int → Int → Option spec_l03Search_grow.N) : Nat → spec_l03Search_grow.Cs
  | 0 => spec_l03Search_grow.zero
  | n + 1 => spec_l03Search_grow.step k rec (spec_l03Search_grow.cs k rec n)
def spec_l03Search_grow.CC (c : spec_l03Search_grow.Cs) : Cuts spec_l03Search_grow.N := [(23, ⟨[(0, none, [.fl (.lo (.pair (.int .i64) (.pair (.int .i64) (.pair (.int .i64) (.int .i64))))), .fl (.int .i64), .fl (.own (.pair (.int .i64) (.int .i64))), .fl (.own (.pair (.int .i64) (.int .i64))), .fl (.int .i64)]), (3, some false, [.fl (.int .i64)]), (6, none, [.fl (.int .i64), .fl (.int .i64), .fl (.int .i64), .fl (.int .i64)]), (8, some false, [.fl (.int .i64)]), (9, some false, [.fl (.own (.pair (.int .i64) (.int .i64)))]), (10, some false, [.fl (.int .i64)])], fun x => c.1 x.1.1 x.1.2.1 x.1.2.2.1 x.1.2.2.2.1 x.1.2.2.2.2.1 x.2.1.1 x.2.2.1.1 x.2.2.1.2.1 x.2.2.1.2.2.1 x.2.2.1.2.2.2.1 x.2.2.2.1.1 x.2.2.2.2.1.1 x.2.2.2.2.2.1.1⟩),
  (46, ⟨[(0, none, [.fl (.lo (.pair (.int .i64) (.pair (.int .i64) (.pair (.int .i64) (.int .i64))))), .fl (.int .i64), .fl (.own (.pair (.int .i64) (.int .i64))), .fl (.own (.pair (.int .i64) (.int .i64))), .fl (.int .i64)]), (3, some false, [.fl (.int .i64)]), (6, none, [.fl (.int .i64), .fl (.int .i64), .fl (.int .i64), .fl (.int .i64)]), (8, some false, [.fl (.int .i64)]), (9, some false, [.fl (.own (.pair (.int .i64) (.int .i64)))]), (10, some false, [.fl (.int .i64)]), (13, none, [.fl (.int .i64), .fl (.int .i64), .fl (.int .i64), .fl (.int .i64)]), (16, some false, [.fl (.int .i64)])], fun x => c.2 x.1.1 x.1.2.1 x.1.2.2.1 x.1.2.2.2.1 x.1.2.2.2.2.1 x.2.1.1 x.2.2.1.1 x.2.2.1.2.1 x.2.2.1.2.2.1 x.2.2.1.2.2.2.1 x.2.2.2.1.1 x.2.2.2.2.1.1 x.2.2.2.2.2.1.1 x.2.2.2.2.2.2.1.1 x.2.2.2.2.2.2.1.2.1 x.2.2.2.2.2.2.1.2.2.1 x.2.2.2.2.2.2.1.2.2.2.1 x.2.2.2.2.2.2.2.1.1⟩)]
noncomputable def spec_l03Search_grow.body (k : Nat) (rec : List (Int × Int × Int × Int) → Int → List (Int × Int) → List (Int × Int) → Int → Int → Int → Int → Int → Int → Int → Int → Option spec_l03Search_grow.N) (a0 : List (Int × Int × Int × Int)) (a1 : Int) (a2 : List (Int × Int)) (a3 : List (Int × Int)) (a4 : Int) (a5 : Int) (a6 : Int) (a7 : Int) (a8 : Int) (a9 : Int) (a10 : Int) (a11 : Int) : Option spec_l03Search_grow.N := (if (decide ((a2.length : Int) = a1)) = true then (if (decide ((a3.length : Int) = 0)) = true then if ([] : List (Int × Int)).length + a2.length < 549755813888 then some (a0, a1, a2, (([] : List (Int × Int)) ++ a2), a11) else none else (if (decide (a11 < a4)) = true then if ([] : List (Int × Int)).length + a2.length < 549755813888 then some (a0, a1, a2, (([] : List (Int × Int)) ++ a2), a11) else none else some (a0, a1, a2, a3, a4))) else (spec_l03Next.f k a6).bind fun t1 => (spec_l03All.f k t1).bind fun t2 => (spec_l03Search_grow.cs k rec k).1 a0 a1 a2 a3 a4 a11 a7 a8 a9 a10 (a2.length : Int) t2 0)
noncomputable def spec_l03Search_grow.fr (k : Nat) : Nat → List (Int × Int × Int × Int) → Int → List (Int × Int) → List (Int × Int) → Int → Int → Int → Int → Int → Int → Int → Int → Option spec_l03Search_grow.N
  | 0 => fun _ _ _ _ _ _ _ _ _ _ _ _ => none
  | n + 1 => spec_l03Search_grow.body k (spec_l03Search_grow.fr k n)
noncomputable def spec_l03Search_grow.f (k : Nat) (a0 : List (Int × Int × Int × Int)) (a1 : Int) (a2 : List (Int × Int)) (a3 : List (Int × Int)) (a4 : Int) (a5 : Int) (a6 : Int) (a7 : Int) (a8 : Int) (a9 : Int) (a10 : Int) (a11 : Int) : Option spec_l03Search_grow.N := spec_l03Search_grow.fr k k a0 a1 a2 a3 a4 a5 a6 a7 a8 a9 a10 a11
noncomputable def spec_l03Search_grow.F (k : Nat) : Go.Rv.Fn := spec_l03Search_grow.G (spec_l03Search_grow.f k)
theorem spec_l03Search_grow.cuts (k : Nat) (rec : List (Int × Int × Int × Int) → Int → List (Int × Int) → List (Int × Int) → Int → Int → Int → Int → Int → Int → Int → Int → Option spec_l03Search_grow.N) : CutsOkG Go.Proofs.Try.prog { X with n := Go.Proofs.Try.f62.ntmps, keep := handN spec_l03Search_grow.hand, ro := roOf spec_l03Search_grow.hand } (fun f => (spec_l03Search_grow.E k rec).lookup f) Go.Proofs.Try.f62 (endH { X with n := Go.Proofs.Try.f62.ntmps, keep := handN spec_l03Search_grow.hand, ro := roOf spec_l03Search_grow.hand } Go.Proofs.Try.f62 spec_l03Search_grow.pr spec_l03Search_grow.bs (fun (y : compT spec_l03Search_grow.pr × boxPT spec_l03Search_grow.bs) => ((y.2.1.1, y.2.1.2.1, y.2.1.2.2.1, y.2.1.2.2.2.1, y.2.1.2.2.2.2.1) : spec_l03Search_grow.N))) fun n => spec_l03Search_grow.CC (spec_l03Search_grow.cs k rec n) :=
  cutsOkG_of (step := spec_l03Search_grow.step k rec) rfl (fun _ => rfl) ⟨fun _ => rfl, fun _ => rfl, trivial⟩ (fun c => by kernel_rfl) fun c => ⟨fun x => by kernel_rfl, fun x => by kernel_rfl, trivial⟩
theorem spec_l03Search_grow.okb (k : Nat) (rec : List (Int × Int × Int × Int) → Int → List (Int × Int) → List (Int × Int) → Int → Int → Int → Int → Int → Int → Int → Int → Option spec_l03Search_grow.N) (hr : FnOkH Go.Proofs.Try.prog 62 (spec_l03Search_grow.G rec)) : FnOkH Go.Proofs.Try.prog 62 (spec_l03Search_grow.G (spec_l03Search_grow.body k rec)) :=
  fn_okH (E := fun f => (spec_l03Search_grow.E k rec).lookup f) tab (envOk_of ⟨entry Go.Proofs.Try.call93 rfl (spec_l03Next.ok k), entry Go.Proofs.Try.call96 rfl (spec_l03All.ok k), entry Go.Proofs.Try.call97 rfl (spec_l03Turn.ok k), entry Go.Proofs.Try.call98 rfl (spec_NextPose.ok k), entry Go.Proofs.Try.call99 rfl (spec_l03Off.ok k), entryH Go.Proofs.Try.call62 rfl hr, trivial⟩) Go.Proofs.Try.func62 rfl (n := 4) (Nat.le_of_ble_eq_true rfl) (by kernel_rfl) (by kernel_rfl) (by kernel_rfl) (by kernel_rfl) rfl (d := fun (y : compT spec_l03Search_grow.pr × boxPT spec_l03Search_grow.bs) => ((y.2.1.1, y.2.1.2.1, y.2.1.2.2.1, y.2.1.2.2.2.1, y.2.1.2.2.2.2.1) : spec_l03Search_grow.N)) (fun _ => rfl) (C := fun n => spec_l03Search_grow.CC (spec_l03Search_grow.cs k rec n)) (k := k) (spec_l03Search_grow.cuts k rec) fun x => by kernel_rfl
theorem spec_l03Search_grow.okr (k : Nat) : ∀ n, FnOkH Go.Proofs.Try.prog 62 (spec_l03Search_grow.G (spec_l03Search_grow.fr k n))
  | 0 => fnOkH_none fun _ => rfl
  | n + 1 => spec_l03Search_grow.okb k _ (spec_l03Search_grow.okr k n)
theorem spec_l03Search_grow.ok (k : Nat) : FnOkH Go.Proofs.Try.prog 62 (spec_l03Search_grow.F k) := spec_l03Search_grow.okr k k
/-! spec.BestTube -/
@[reducible] def spec_BestTube.pc : CutP := [(0, some true, [.fl (.int .i64), .fl (.int .i64), .fl (.int .i64), .fl (.int .i64), .fl (.lo (.pair (.int .i64) (.pair (.int .i64) (.int .i64))))]), (1, some false, [.fl (.int .i64)]), (2, some true, [.fl (.int .i64), .fl (.int .i64), .fl (.int .i64), .fl (.int .i64)]), (3, some true, [.fl (.int .i64), .fl (.int .i64)]), (4, some false, [.fl (.int .i64)])]
@[reducible] def spec_BestTube.pr : CompPs := [(false, [.fl (.own (.pair (.int .i64) (.int .i64)))]), (false, [.fl (.int .i64)]), (false, [.fl .bool])]
abbrev spec_BestTube.N := List (Int × Int) × Int × Bool
noncomputable def spec_BestTube.E (k : Nat) : List (FuncId × Go.Rv.Fn) := [(49, spec_l02Poses.F k), (58, spec_l03Is.F k), (59, spec_ValidPose.F k), (60, spec_l00In.F k), (61, spec_l03Behind.F k), (62, spec_l03Search_grow.F k)]
abbrev spec_BestTube.Cs := (Int → Int → Int → Int → Int → Int → List (Int × Int × Int) → Int → Int → Int → Int → Int → Int → Option spec_BestTube.N)
def spec_BestTube.zero : spec_BestTube.Cs := (fun _ _ _ _ _ _ _ _ _ _ _ _ _ => none)
noncomputable def spec_BestTube.step (k : Nat) (c : spec_BestTube.Cs) : spec_BestTube.Cs := (fun (x0 : Int) (x1 : Int) (x2 : Int) (x3 : Int) (x4 : Int) (x5 : Int) (x6 : List (Int × Int × Int)) (x7 : Int) (x8 : Int) (x9 : Int) (x10 : Int) (x11 : Int) (x12 : Int) => (spec_l02Poses.f k x2 x3 x4 x5 x6).bind fun t5 => if 0 ≤ (wrap64 (x0 + 1)) then if (wrap64 (x0 + 1)) ≤ (t5.length : Int) then (spec_l03Search_grow.f k (t5.drop (wrap64 (x0 + 1)).toNat) x1 ([] : List (Int × Int)) ([] : List (Int × Int)) 0 x11 x12 x7 x8 x9 x10 0).bind fun t6 => (if (decide ((t6.2.2.2.1.length : Int) = 0)) = true then some ([], 0, false) else some (t6.2.2.2.1, t6.2.2.2.2, true)) else none else none)
noncomputable def spec_BestTube.cs (k : Nat) : Nat → spec_BestTube.Cs
  | 0 => spec_BestTube.zero
  | n + 1 => spec_BestTube.step k (spec_BestTube.cs k n)
def spec_BestTube.CC (c : spec_BestTube.Cs) : Cuts spec_BestTube.N := [(2, ⟨[(1, some false, [.fl (.int .i64)]), (4, some false, [.fl (.int .i64)]), (5, none, [.fl (.int .i64), .fl (.int .i64), .fl (.int .i64), .fl (.int .i64), .fl (.lo (.pair (.int .i64) (.pair (.int .i64) (.int .i64))))]), (7, none, [.fl (.int .i64), .fl (.int .i64), .fl (.int .i64), .fl (.int .i64)]), (8, none, [.fl (.int .i64), .fl (.int .i64)])], fun x => c x.1.1 x.2.1.1 x.2.2.1.1 x.2.2.1.2.1 x.2.2.1.2.2.1 x.2.2.1.2.2.2.1 x.2.2.1.2.2.2.2.1 x.2.2.2.1.1 x.2.2.2.1.2.1 x.2.2.2.1.2.2.1 x.2.2.2.1.2.2.2.1 x.2.2.2.2.1.1 x.2.2.2.2.1.2.1⟩)]
noncomputable def spec_BestTube.f (k : Nat) (a0 : Int) (a1 : Int) (a2 : Int) (a3 : Int) (a4 : List (Int × Int × Int)) (a5 : Int) (a6 : Int) (a7 : Int) (a8 : Int) (a9 : Int) (a10 : Int) (a11 : Int) (a12 : Int) : Option spec_BestTube.N := (spec_l03Is.f k a10 a11).bind fun t1 => (if (!t1) = true then some ([], 0, false) else (spec_ValidPose.f k a6 a7 a8 a9).bind fun t2 => (if (!t2) = true then some ([], 0, false) else (spec_l00In.f k a12 1 4).bind fun t3 => (if (!t3) = true then some ([], 0, false) else (spec_l03Behind.f k a0 a1 a2 a3 a4 a5 a12).bind fun t4 => (if (!t4) = true then some ([], 0, false) else (spec_BestTube.cs k k) a5 a12 a0 a1 a2 a3 a4 a6 a7 a8 a9 a10 a11))))
noncomputable def spec_BestTube.F (k : Nat) : Go.Rv.Fn := mkFn 5 spec_BestTube.pc spec_BestTube.pr (keepOf []) (fun (y : spec_BestTube.N) => (((y.1, ()), (y.2.1, ()), (y.2.2, ()), ()) : compT spec_BestTube.pr)) fun x => spec_BestTube.f k x.1.1 x.1.2.1 x.1.2.2.1 x.1.2.2.2.1 x.1.2.2.2.2.1 x.2.1.1 x.2.2.1.1 x.2.2.1.2.1 x.2.2.1.2.2.1 x.2.2.1.2.2.2.1 x.2.2.2.1.1 x.2.2.2.1.2.1 x.2.2.2.2.1.1
theorem spec_BestTube.env (k : Nat) : EnvOk Go.Proofs.Try.prog (fun f => (spec_BestTube.E k).lookup f) := envOk_of ⟨entry Go.Proofs.Try.call49 rfl (spec_l02Poses.ok k), entry Go.Proofs.Try.call58 rfl (spec_l03Is.ok k), entry Go.Proofs.Try.call59 rfl (spec_ValidPose.ok k), entry Go.Proofs.Try.call60 rfl (spec_l00In.ok k), entry Go.Proofs.Try.call61 rfl (spec_l03Behind.ok k), entryH Go.Proofs.Try.call62 rfl (spec_l03Search_grow.ok k), trivial⟩
theorem spec_BestTube.cuts (k : Nat) : CutsOk Go.Proofs.Try.prog X (fun f => (spec_BestTube.E k).lookup f) Go.Proofs.Try.f16 [] (decN spec_BestTube.pr (fun (y : compT spec_BestTube.pr) => ((y.1.1, y.2.1.1, y.2.2.1.1) : spec_BestTube.N))) fun n => spec_BestTube.CC (spec_BestTube.cs k n) :=
  cutsOk_of (step := spec_BestTube.step k) rfl (fun _ => rfl) ⟨fun _ => rfl, trivial⟩ (fun c => by kernel_rfl) fun c => ⟨fun x => by kernel_rfl, trivial⟩
theorem spec_BestTube.ok (k : Nat) : FnOk Go.Proofs.Try.prog 16 (spec_BestTube.F k) :=
  fn_ok tab (spec_BestTube.env k) Go.Proofs.Try.func16 rfl (n := 5) (Nat.le_of_ble_eq_true rfl) (by kernel_rfl) (outs := []) (by kernel_rfl) (by kernel_rfl) (d := fun (y : compT spec_BestTube.pr) => ((y.1.1, y.2.1.1, y.2.2.1.1) : spec_BestTube.N)) (fun _ => rfl) (C := fun n => spec_BestTube.CC (spec_BestTube.cs k n)) (k := k) (spec_BestTube.cuts k) fun x => by kernel_rfl
/-! impl.within -/
@[reducible] def impl_within.pc : CutP := [(0, some false, [.fl (.int .i64)]), (1, some false, [.fl (.int .i64)]), (2, some false, [.fl (.int .i64)])]
@[reducible] def impl_within.pr : CompPs := [(false, [.fl .bool])]
abbrev impl_within.N := Bool
noncomputable def impl_within.E (k : Nat) : List (FuncId × Go.Rv.Fn) := []
noncomputable def impl_within.f (k : Nat) (a0 : Int) (a1 : Int) (a2 : Int) : Option impl_within.N := (if (decide (a1 ≤ a0)) = true then some (decide (a0 ≤ a2)) else some false)
noncomputable def impl_within.F (k : Nat) : Go.Rv.Fn := mkFn 3 impl_within.pc impl_within.pr (keepOf []) (fun (y : impl_within.N) => (((y, ()), ()) : compT impl_within.pr)) fun x => impl_within.f k x.1.1 x.2.1.1 x.2.2.1.1
theorem impl_within.env (k : Nat) : EnvOk Go.Proofs.Try.prog (fun f => (impl_within.E k).lookup f) := envOk_of trivial
theorem impl_within.ok (k : Nat) : FnOk Go.Proofs.Try.prog 52 (impl_within.F k) :=
  fn_ok tab (impl_within.env k) Go.Proofs.Try.func52 rfl (n := 3) (Nat.le_of_ble_eq_true rfl) (by kernel_rfl) (outs := []) (by kernel_rfl) (by kernel_rfl) (d := fun (y : compT impl_within.pr) => (y.1.1 : impl_within.N)) (fun _ => rfl) (C := fun _ => []) (k := k) noCuts fun x => by kernel_rfl
/-! impl.areWithin$1 -/
@[reducible] def impl_areWithin_1.pc : CutP := [(0, some false, [.fl (.int .i64)]), (1, some false, [.rptr [(.int .i64)]]), (2, some false, [.rptr [(.int .i64)]])]
@[reducible] def impl_areWithin_1.pr : CompPs := [(false, [.fl .bool])]
abbrev impl_areWithin_1.N := Bool
noncomputable def impl_areWithin_1.E (k : Nat) : List (FuncId × Go.Rv.Fn) := [(52, impl_within.F k)]
noncomputable def impl_areWithin_1.f (k : Nat) (a0 : Int) (a1 : Int) (a2 : Int) : Option impl_areWithin_1.N := (impl_within.f k a0 a1 a2).bind fun t1 => some (!t1)
noncomputable def impl_areWithin_1.F (k : Nat) : Go.Rv.Fn := mkFn 3 impl_areWithin_1.pc impl_areWithin_1.pr (keepOf []) (fun (y : impl_areWithin_1.N) => (((y, ()), ()) : compT impl_areWithin_1.pr)) fun x => impl_areWithin_1.f k x.1.1 x.2.1.1.1 x.2.2.1.1.1
theorem impl_areWithin_1.env (k : Nat) : EnvOk Go.Proofs.Try.prog (fun f => (impl_areWithin_1.E k).lookup f) := envOk_of ⟨entry Go.Proofs.Try.call52 rfl (impl_within.ok k), trivial⟩
theorem impl_areWithin_1.ok (k : Nat) : FnOk Go.Proofs.Try.prog 103 (impl_areWithin_1.F k) :=
  fn_ok tab (impl_areWithin_1.env k) Go.Proofs.Try.func103 rfl (n := 3) (Nat.le_of_ble_eq_true rfl) (by kernel_rfl) (outs := []) (by kernel_rfl) (by kernel_rfl) (d := fun (y : compT impl_areWithin_1.pr) => (y.1.1 : impl_areWithin_1.N)) (fun _ => rfl) (C := fun _ => []) (k := k) noCuts fun x => by kernel_rfl
/-! slices.IndexFunc[[]int64,int64] -/
@[reducible] def slices_IndexFunc_int64_areWithin_1.pc : CutP := [(0, some false, [.fl (.lo (.int .i64))]), (1, some false, [.fn 103 [[(.int .i64)], [(.int .i64)]]])]
@[reducible] def slices_IndexFunc_int64_areWithin_1.pr : CompPs := [(false, [.fl (.int .i64)])]
abbrev slices_IndexFunc_int64_areWithin_1.N := Int
noncomputable def slices_IndexFunc_int64_areWithin_1.E (k : Nat) : List (FuncId × Go.Rv.Fn) := [(103, impl_areWithin_1.F k)]
abbrev slices_IndexFunc_int64_areWithin_1.Cs := (List Int → Int → Int → Int → Int → Option slices_IndexFunc_int64_areWithin_1.N)
def slices_IndexFunc_int64_areWithin_1.zero : slices_IndexFunc_int64_areWithin_1.Cs := (fun _ _ _ _ _ => none)
noncomputable def slices_IndexFunc_int64_areWithin_1.step (k : Nat) (c : slices_IndexFunc_int64_areWithin_1.Cs) : slices_IndexFunc_int64_areWithin_1.Cs := (fun (x0 : List Int) (x1 : Int) (x2 : Int) (x3 : Int) (x4 : Int) => (if (decide (x4 < x3)) = true then if 0 ≤ x4 then if x4 < (x0.length : Int) then (impl_areWithin_1.f k (rd 0 x0 x4) x1 x2).bind fun t1 => (if t1 = true then some x4 else c x0 x1 x2 x3 (wrap64 (x4 + 1))) else none else none else some (-1)))
noncomputable def slices_IndexFunc_int64_areWithin_1.cs (k : Nat) : Nat → slices_IndexFunc_int64_areWithin_1.Cs
  | 0 => slices_IndexFunc_int64_areWithin_1.zero
  | n + 1 => slices_IndexFunc_int64_areWithin_1.step k (slices_IndexFunc_int64_areWithin_1.cs k n)
def slices_IndexFunc_int64_areWithin_1.CC (c : slices_IndexFunc_int64_areWithin_1.Cs) : Cuts slices_IndexFunc_int64_areWithin_1.N := [(6, ⟨[(0, some false, [.fl (.lo (.int .i64))]), (1, some false, [.fn 103 [[(.int .i64)], [(.int .i64)]]]), (7, some false, [.fl (.int .i64)]), (8, some false, [.fl (.int .i64)])], fun x => c x.1.1 x.2.1.1.1.1 x.2.1.1.2.1.1 x.2.2.1.1 x.2.2.2.1.1⟩)]
noncomputable def slices_IndexFunc_int64_areWithin_1.f (k : Nat) (a0 : List Int) (a1 : Int) (a2 : Int) : Option slices_IndexFunc_int64_areWithin_1.N := (slices_IndexFunc_int64_areWithin_1.cs k k) a0 a1 a2 (a0.length : Int) 0
noncomputable def slices_IndexFunc_int64_areWithin_1.F (k : Nat) : Go.Rv.Fn := mkFn 2 slices_IndexFunc_int64_areWithin_1.pc slices_IndexFunc_int64_areWithin_1.pr (keepOf []) (fun (y : slices_IndexFunc_int64_areWithin_1.N) => (((y, ()), ()) : compT slices_IndexFunc_int64_areWithin_1.pr)) fun x => slices_IndexFunc_int64_areWithin_1.f k x.1.1 x.2.1.1.1.1 x.2.1.1.2.1.1
theorem slices_IndexFunc_int64_areWithin_1.env (k : Nat) : EnvOk Go.Proofs.Try.prog (fun f => (slices_IndexFunc_int64_areWithin_1.E k).lookup f) := envOk_of ⟨entry Go.Proofs.Try.call103 rfl (impl_areWithin_1.ok k), trivial⟩
theorem slices_IndexFunc_int64_areWithin_1.cuts (k : Nat) : CutsOk Go.Proofs.Try.prog X (fun f => (slices_IndexFunc_int64_areWithin_1.E k).lookup f) Go.Proofs.Try.f115 [] (decN slices_IndexFunc_int64_areWithin_1.pr (fun (y : compT slices_IndexFunc_int64_areWithin_1.pr) => (y.1.1 : slices_IndexFunc_int64_areWithin_1.N))) fun n => slices_IndexFunc_int64_areWithin_1.CC (slices_IndexFunc_int64_areWithin_1.cs k n) :=
  cutsOk_of (step := slices_IndexFunc_int64_areWithin_1.step k) rfl (fun _ => rfl) ⟨fun _ => rfl, trivial⟩ (fun c => by kernel_rfl) fun c => ⟨fun x => by kernel_rfl, trivial⟩
theorem slices_IndexFunc_int64_areWithin_1.ok (k : Nat) : FnOk Go.Proofs.Try.prog 115 (slices_IndexFunc_int64_areWithin_1.F k) :=
  fn_ok tab (slices_IndexFunc_int64_areWithin_1.env k) Go.Proofs.Try.func115 rfl (n := 2) (Nat.le_of_ble_eq_true rfl) (by kernel_rfl) (outs := []) (by kernel_rfl) (by kernel_rfl) (d := fun (y : compT slices_IndexFunc_int64_areWithin_1.pr) => (y.1.1 : slices_IndexFunc_int64_areWithin_1.N)) (fun _ => rfl) (C := fun n => slices_IndexFunc_int64_areWithin_1.CC (slices_IndexFunc_int64_areWithin_1.cs k n)) (k := k) (slices_IndexFunc_int64_areWithin_1.cuts k) fun x => by kernel_rfl
/-! slices.ContainsFunc[[]int64,int64] -/
@[reducible] def slices_ContainsFunc_int64_areWithin_1.pc : CutP := [(0, some false, [.fl (.lo (.int .i64))]), (1, some false, [.fn 103 [[(.int .i64)], [(.int .i64)]]])]
@[reducible] def slices_ContainsFunc_int64_areWithin_1.pr : CompPs := [(false, [.fl .bool])]
abbrev slices_ContainsFunc_int64_areWithin_1.N := Bool
noncomputable def slices_ContainsFunc_int64_areWithin_1.E (k : Nat) : List (FuncId × Go.Rv.Fn) := [(115, slices_IndexFunc_int64_areWithin_1.F k)]
noncomputable def slices_ContainsFunc_int64_areWithin_1.f (k : Nat) (a0 : List Int) (a1 : Int) (a2 : Int) : Option slices_ContainsFunc_int64_areWithin_1.N := (slices_IndexFunc_int64_areWithin_1.f k a0 a1 a2).bind fun (t1 : Int) => some (decide (0 ≤ t1))
noncomputable def slices_ContainsFunc_int64_areWithin_1.F (k : Nat) : Go.Rv.Fn := mkFn 2 slices_ContainsFunc_int64_areWithin_1.pc slices_ContainsFunc_int64_areWithin_1.pr (keepOf []) (fun (y : slices_ContainsFunc_int64_areWithin_1.N) => (((y, ()), ()) : compT slices_ContainsFunc_int64_areWithin_1.pr)) fun x => slices_ContainsFunc_int64_areWithin_1.f k x.1.1 x.2.1.1.1.1 x.2.1.1.2.1.1
theorem slices_ContainsFunc_int64_areWithin_1.env (k : Nat) : EnvOk Go.Proofs.Try.prog (fun f => (slices_ContainsFunc_int64_areWithin_1.E k).lookup f) := envOk_of ⟨entry Go.Proofs.Try.call115 rfl (slices_IndexFunc_int64_areWithin_1.ok k), trivial⟩
theorem slices_ContainsFunc_int64_areWithin_1.ok (k : Nat) : FnOk Go.Proofs.Try.prog 102 (slices_ContainsFunc_int64_areWithin_1.F k) :=
  fn_ok tab (slices_ContainsFunc_int64_areWithin_1.env k) Go.Proofs.Try.func102 rfl (n := 2) (Nat.le_of_ble_eq_true rfl) (by kernel_rfl) (outs := []) (by kernel_rfl) (by kernel_rfl) (d := fun (y : compT slices_ContainsFunc_int64_areWithin_1.pr) => (y.1.1 : slices_ContainsFunc_int64_areWithin_1.N)) (fun _ => rfl) (C := fun _ => []) (k := k) noCuts fun x => by kernel_rfl
/-! impl.areWithin -/
@[reducible] def impl_areWithin.pc : CutP := [(0, some false, [.fl (.lo (.int .i64))]), (1, some false, [.fl (.int .i64)]), (2, some false, [.fl (.int .i64)])]
@[reducible] def impl_areWithin.pr : CompPs := [(false, [.fl .bool])]
abbrev impl_areWithin.N := Bool
noncomputable def impl_areWithin.E (k : Nat) : List (FuncId × Go.Rv.Fn) := [(102, slices_ContainsFunc_int64_areWithin_1.F k)]
noncomputable def impl_areWithin.f (k : Nat) (a0 : List Int) (a1 : Int) (a2 : Int) : Option impl_areWithin.N := (slices_ContainsFunc_int64_areWithin_1.f k a0 a1 a2).bind fun t1 => some (!t1)
noncomputable def impl_areWithin.F (k : Nat) : Go.Rv.Fn := mkFn 3 impl_areWithin.pc impl_areWithin.pr (keepOf []) (fun (y : impl_areWithin.N) => (((y, ()), ()) : compT impl_areWithin.pr)) fun x => impl_areWithin.f k x.1.1 x.2.1.1 x.2.2.1.1
theorem impl_areWithin.env (k : Nat) : EnvOk Go.Proofs.Try.prog (fun f => (impl_areWithin.E k).lookup f) := envOk_of ⟨entry Go.Proofs.Try.call102 rfl (slices_ContainsFunc_int64_areWithin_1.ok k), trivial⟩
theorem impl_areWithin.ok (k : Nat) : FnOk Go.Proofs.Try.prog 65 (impl_areWithin.F k) :=
  fn_ok tab (impl_areWithin.env k) Go.Proofs.Try.func65 rfl (n := 3) (Nat.le_of_ble_eq_true rfl) (by kernel_rfl) (outs := []) (by kernel_rfl) (by kernel_rfl) (d := fun (y : compT impl_areWithin.pr) => (y.1.1 : impl_areWithin.N)) (fun _ => rfl) (C := fun _ => []) (k := k) noCuts fun x => by kernel_rfl
/-! impl.ValidPose -/
@[reducible] def impl_ValidPose.pc : CutP := [(0, some true, [.fl (.int .i64), .fl (.int .i64), .fl (.int .i64), .fl (.int .i64)])]
@[reducible] def impl_ValidPose.pr : CompPs := [(false, [.fl .bool])]
abbrev impl_ValidPose.N := Bool
noncomputable def impl_ValidPose.E (k : Nat) : List (FuncId × Go.Rv.Fn) := [(65, impl_areWithin.F k)]
noncomputable def impl_ValidPose.f (k : Nat) (a0 : Int) (a1 : Int) (a2 : Int) (a3 : Int) : Option impl_ValidPose.N := (impl_areWithin.f k [a0, a1] (-100000) 100000).bind fun t1 => (if t1 = true then (impl_areWithin.f k [a2, a3] (-400) 400).bind fun t2 => some t2 else some false)
noncomputable def impl_ValidPose.F (k : Nat) : Go.Rv.Fn := mkFn 1 impl_ValidPose.pc impl_ValidPose.pr (keepOf []) (fun (y : impl_ValidPose.N) => (((y, ()), ()) : compT impl_ValidPose.pr)) fun x => impl_ValidPose.f k x.1.1 x.1.2.1 x.1.2.2.1 x.1.2.2.2.1
theorem impl_ValidPose.env (k : Nat) : EnvOk Go.Proofs.Try.prog (fun f => (impl_ValidPose.E k).lookup f) := envOk_of ⟨entry Go.Proofs.Try.call65 rfl (impl_areWithin.ok k), trivial⟩
theorem impl_ValidPose.ok (k : Nat) : FnOk Go.Proofs.Try.prog 53 (impl_ValidPose.F k) :=
  fn_ok tab (impl_ValidPose.env k) Go.Proofs.Try.func53 rfl (n := 1) (Nat.le_of_ble_eq_true rfl) (by kernel_rfl) (outs := []) (by kernel_rfl) (by kernel_rfl) (d := fun (y : compT impl_ValidPose.pr) => (y.1.1 : impl_ValidPose.N)) (fun _ => rfl) (C := fun _ => []) (k := k) noCuts fun x => by kernel_rfl
/-! impl.isTurn -/
@[reducible] def impl_isTurn.pc : CutP := [(0, some false, [.fl (.int .i64)]), (1, some false, [.fl (.int .i64)])]
@[reducible] def impl_isTurn.pr : CompPs := [(false, [.fl .bool])]
abbrev impl_isTurn.N := Bool
noncomputable def impl_isTurn.E (k : Nat) : List (FuncId × Go.Rv.Fn) := [(65, impl_areWithin.F k)]
noncomputable def impl_isTurn.f (k : Nat) (a0 : Int) (a1 : Int) : Option impl_isTurn.N := (impl_areWithin.f k [a0, a1] (-12) 12).bind fun t1 => some t1
noncomputable def impl_isTurn.F (k : Nat) : Go.Rv.Fn := mkFn 2 impl_isTurn.pc impl_isTurn.pr (keepOf []) (fun (y : impl_isTurn.N) => (((y, ()), ()) : compT impl_isTurn.pr)) fun x => impl_isTurn.f k x.1.1 x.2.1.1
theorem impl_isTurn.env (k : Nat) : EnvOk Go.Proofs.Try.prog (fun f => (impl_isTurn.E k).lookup f) := envOk_of ⟨entry Go.Proofs.Try.call65 rfl (impl_areWithin.ok k), trivial⟩
theorem impl_isTurn.ok (k : Nat) : FnOk Go.Proofs.Try.prog 89 (impl_isTurn.F k) :=
  fn_ok tab (impl_isTurn.env k) Go.Proofs.Try.func89 rfl (n := 2) (Nat.le_of_ble_eq_true rfl) (by kernel_rfl) (outs := []) (by kernel_rfl) (by kernel_rfl) (d := fun (y : compT impl_isTurn.pr) => (y.1.1 : impl_isTurn.N)) (fun _ => rfl) (C := fun _ => []) (k := k) noCuts fun x => by kernel_rfl
/-! (impl.Pose).next -/
@[reducible] def impl_Pose_next.pc : CutP := [(0, some true, [.fl (.int .i64), .fl (.int .i64), .fl (.int .i64), .fl (.int .i64)]), (1, some false, [.fl (.int .i64)]), (2, some false, [.fl (.int .i64)])]
@[reducible] def impl_Pose_next.pr : CompPs := [(true, [.fl (.int .i64), .fl (.int .i64), .fl (.int .i64), .fl (.int .i64)])]
abbrev impl_Pose_next.N := Int × Int × Int × Int
noncomputable def impl_Pose_next.E (k : Nat) : List (FuncId × Go.Rv.Fn) := []
noncomputable def impl_Pose_next.f (k : Nat) (a0 : Int) (a1 : Int) (a2 : Int) (a3 : Int) (a4 : Int) (a5 : Int) : Option impl_Pose_next.N := some ((wrap64 (a0 + a2)), (wrap64 (a1 + a3)), (wrap64 (a2 + a4)), (wrap64 (a3 + a5)))
noncomputable def impl_Pose_next.F (k : Nat) : Go.Rv.Fn := mkFn 3 impl_Pose_next.pc impl_Pose_next.pr (keepOf []) (fun (y : impl_Pose_next.N) => (((y.1, y.2.1, y.2.2.1, y.2.2.2, ()), ()) : compT impl_Pose_next.pr)) fun x => impl_Pose_next.f k x.1.1 x.1.2.1 x.1.2.2.1 x.1.2.2.2.1 x.2.1.1 x.2.2.1.1
theorem impl_Pose_next.env (k : Nat) : EnvOk Go.Proofs.Try.prog (fun f => (impl_Pose_next.E k).lookup f) := envOk_of trivial
theorem impl_Pose_next.ok (k : Nat) : FnOk Go.Proofs.Try.prog 90 (impl_Pose_next.F k) :=
  fn_ok tab (impl_Pose_next.env k) Go.Proofs.Try.func90 rfl (n := 3) (Nat.le_of_ble_eq_true rfl) (by kernel_rfl) (outs := []) (by kernel_rfl) (by kernel_rfl) (d := fun (y : compT impl_Pose_next.pr) => ((y.1.1, y.1.2.1, y.1.2.2.1, y.1.2.2.2.1) : impl_Pose_next.N)) (fun _ => rfl) (C := fun _ => []) (k := k) noCuts fun x => by kernel_rfl
/-! (impl.Axis).poses -/
@[reducible] def impl_Axis_poses.pc : CutP := [(0, some true, [.fl (.int .i64), .fl (.int .i64), .fl (.int .i64), .fl (.int .i64), .fl (.lo (.pair (.int .i64) (.pair (.int .i64) (.int .i64))))])]
@[reducible] def impl_Axis_poses.pr : CompPs := [(false, [.fl (.own (.pair (.int .i64) (.pair (.int .i64) (.pair (.int .i64) (.int .i64)))))]), (false, [.fl .bool])]
abbrev impl_Axis_poses.N := List (Int × Int × Int × Int) × Bool
noncomputable def impl_Axis_poses.E (k : Nat) : List (FuncId × Go.Rv.Fn) := [(52, impl_within.F k), (53, impl_ValidPose.F k), (89, impl_isTurn.F k), (90, impl_Pose_next.F k)]
abbrev impl_Axis_poses.Cs := (Int → Int → Int → Int → List (Int × Int × Int) → List (Int × Int × Int × Int) → Option impl_Axis_poses.N) × (List (Int × Int × Int × Int) → List (Int × Int × Int) → Int → Int → Option impl_Axis_poses.N) × (List (Int × Int × Int × Int) → Int → Int → Int → List (Int × Int × Int) → Int → Int → Option impl_Axis_poses.N) × (List (Int × Int × Int × Int) → Int → Int → Int → List (Int × Int × Int) → Int → Int → Int → Int → Option impl_Axis_poses.N)
def impl_Axis_poses.zero : impl_Axis_poses.Cs := (fun _ _ _ _ _ _ => none, fun _ _ _ _ => none, fun _ _ _ _ _ _ _ => none, fun _ _ _ _ _ _ _ _ _ => none)
noncomputable def impl_Axis_poses.step (k : Nat) (c : impl_Axis_poses.Cs) : impl_Axis_poses.Cs := (fun (x0 : Int) (x1 : Int) (x2 : Int) (x3 : Int) (x4 : List (Int × Int × Int)) (x5 : List (Int × Int × Int × Int)) => c.2.1 x5 x4 (x4.length : Int) 0,
  fun (x0 : List (Int × Int × Int × Int)) (x1 : List (Int × Int × Int)) (x2 : Int) (x3 : Int) => (if (decide (x3 < x2)) = true then if 0 ≤ x3 then if x3 < (x1.length : Int) then (impl_within.f k ((rd (0, (0, 0)) x1 x3).1) 1 60).bind fun t3 => (if (!t3) = true then some ([], false) else (impl_isTurn.f k (((rd (0, (0, 0)) x1 x3).2).1) (((rd (0, (0, 0)) x1 x3).2).2)).bind fun t4 => (if (!t4) = true then some ([], false) else (if (decide (61 < (wrap64 ((x0.length : Int) + (rd (0, (0, 0)) x1 x3).1)))) = true then some ([], false) else c.2.2.1 x0 ((rd (0, (0, 0)) x1 x3).1) (((rd (0, (0, 0)) x1 x3).2).1) (((rd (0, (0, 0)) x1 x3).2).2) x1 x2 x3))) else none else none else some (x0, true)),
  fun (x0 : List (Int × Int × Int × Int)) (x1 : Int) (x2 : Int) (x3 : Int) (x4 : List (Int × Int × Int)) (x5 : Int) (x6 : Int) => c.2.2.2 x0 x1 x2 x3 x4 x5 x6 x1 0,
  fun (x0 : List (Int × Int × Int × Int)) (x1 : Int) (x2 : Int) (x3 : Int) (x4 : List (Int × Int × Int)) (x5 : Int) (x6 : Int) (x7 : Int) (x8 : Int) => (if (decide (x8 < x7)) = true then if 0 ≤ (wrap64 ((x0.length : Int) - 1)) then if (wrap64 ((x0.length : Int) - 1)) < (x0.length : Int) then (impl_Pose_next.f k ((rd (0, (0, (0, 0))) x0 (wrap64 ((x0.length : Int) - 1))).1) (((rd (0, (0, (0, 0))) x0 (wrap64 ((x0.length : Int) - 1))).2).1) ((((rd (0, (0, (0, 0))) x0 (wrap64 ((x0.length : Int) - 1))).2).2).1) ((((rd (0, (0, (0, 0))) x0 (wrap64 ((x0.length : Int) - 1))).2).2).2) x2 x3).bind fun t5 => (impl_ValidPose.f k t5.1 t5.2.1 t5.2.2.1 t5.2.2.2).bind fun t6 => (if (!t6) = true then some ([], false) else if x0.length + [t5].length < 274877906944 then c.2.2.2 (x0 ++ [t5]) x1 x2 x3 x4 x5 x6 x7 (wrap64 (x8 + 1)) else none) else none else none else c.2.1 x0 x4 x5 (wrap64 (x6 + 1))))
noncomputable def impl_Axis_poses.cs (k : Nat) : Nat → impl_Axis_poses.Cs
  | 0 => impl_Axis_poses.zero
  | n + 1 => impl_Axis_poses.step k (impl_Axis_poses.cs k n)
def impl_Axis_poses.CC (c : impl_Axis_poses.Cs) : Cuts impl_Axis_poses.N := [(4, ⟨[(1, none, [.fl (.int .i64), .fl (.int .i64), .fl (.int .i64), .fl (.int .i64), .fl (.lo (.pair (.int .i64) (.pair (.int .i64) (.int .i64))))]), (4, some false, [.fl (.own (.pair (.int .i64) (.pair (.int .i64) (.pair (.int .i64) (.int .i64)))))])], fun x => c.1 x.1.1 x.1.2.1 x.1.2.2.1 x.1.2.2.2.1 x.1.2.2.2.2.1 x.2.1.1⟩),
  (16, ⟨[(4, some false, [.fl (.own (.pair (.int .i64) (.pair (.int .i64) (.pair (.int .i64) (.int .i64)))))]), (23, some false, [.fl (.lo (.pair (.int .i64) (.pair (.int .i64) (.int .i64))))]), (24, some false, [.fl (.int .i64)]), (25, some false, [.fl (.int .i64)])], fun x => c.2.1 x.1.1 x.2.1.1 x.2.2.1.1 x.2.2.2.1.1⟩),
  (27, ⟨[(4, some false, [.fl (.own (.pair (.int .i64) (.pair (.int .i64) (.pair (.int .i64) (.int .i64)))))]), (6, none, [.fl (.int .i64), .fl (.int .i64), .fl (.int .i64)]), (23, some false, [.fl (.lo (.pair (.int .i64) (.pair (.int .i64) (.int .i64))))]), (24, some false, [.fl (.int .i64)]), (25, some false, [.fl (.int .i64)])], fun x => c.2.2.1 x.1.1 x.2.1.1 x.2.1.2.1 x.2.1.2.2.1 x.2.2.1.1 x.2.2.2.1.1 x.2.2.2.2.1.1⟩),
  (38, ⟨[(4, some false, [.fl (.own (.pair (.int .i64) (.pair (.int .i64) (.pair (.int .i64) (.int .i64)))))]), (6, none, [.fl (.int .i64), .fl (.int .i64), .fl (.int .i64)]), (23, some false, [.fl (.lo (.pair (.int .i64) (.pair (.int .i64) (.int .i64))))]), (24, some false, [.fl (.int .i64)]), (25, some false, [.fl (.int .i64)]), (50, some false, [.fl (.int .i64)]), (51, some false, [.fl (.int .i64)])], fun x => c.2.2.2 x.1.1 x.2.1.1 x.2.1.2.1 x.2.1.2.2.1 x.2.2.1.1 x.2.2.2.1.1 x.2.2.2.2.1.1 x.2.2.2.2.2.1.1 x.2.2.2.2.2.2.1.1⟩)]
noncomputable def impl_Axis_poses.f (k : Nat) (a0 : Int) (a1 : Int) (a2 : Int) (a3 : Int) (a4 : List (Int × Int × Int)) : Option impl_Axis_poses.N := (impl_ValidPose.f k a0 a1 a2 a3).bind fun t1 => (if (!t1) = true then some ([], false) else (impl_within.f k (a4.length : Int) 1 8).bind fun t2 => (if (!t2) = true then some ([], false) else (impl_Axis_poses.cs k k).1 a0 a1 a2 a3 a4 [(a0, (a1, (a2, a3)))]))
noncomputable def impl_Axis_poses.F (k : Nat) : Go.Rv.Fn := mkFn 1 impl_Axis_poses.pc impl_Axis_poses.pr (keepOf []) (fun (y : impl_Axis_poses.N) => (((y.1, ()), (y.2, ()), ()) : compT impl_Axis_poses.pr)) fun x => impl_Axis_poses.f k x.1.1 x.1.2.1 x.1.2.2.1 x.1.2.2.2.1 x.1.2.2.2.2.1
theorem impl_Axis_poses.env (k : Nat) : EnvOk Go.Proofs.Try.prog (fun f => (impl_Axis_poses.E k).lookup f) := envOk_of ⟨entry Go.Proofs.Try.call52 rfl (impl_within.ok k), entry Go.Proofs.Try.call53 rfl (impl_ValidPose.ok k), entry Go.Proofs.Try.call89 rfl (impl_isTurn.ok k), entry Go.Proofs.Try.call90 rfl (impl_Pose_next.ok k), trivial⟩
theorem impl_Axis_poses.cuts (k : Nat) : CutsOk Go.Proofs.Try.prog X (fun f => (impl_Axis_poses.E k).lookup f) Go.Proofs.Try.f51 [] (decN impl_Axis_poses.pr (fun (y : compT impl_Axis_poses.pr) => ((y.1.1, y.2.1.1) : impl_Axis_poses.N))) fun n => impl_Axis_poses.CC (impl_Axis_poses.cs k n) :=
  cutsOk_of (step := impl_Axis_poses.step k) rfl (fun _ => rfl) ⟨fun _ => rfl, fun _ => rfl, fun _ => rfl, fun _ => rfl, trivial⟩ (fun c => by kernel_rfl) fun c => ⟨fun x => by kernel_rfl, fun x => by kernel_rfl, fun x => by kernel_rfl, fun x => by kernel_rfl, trivial⟩
theorem impl_Axis_poses.ok (k : Nat) : FnOk Go.Proofs.Try.prog 51 (impl_Axis_poses.F k) :=
  fn_ok tab (impl_Axis_poses.env k) Go.Proofs.Try.func51 rfl (n := 1) (Nat.le_of_ble_eq_true rfl) (by kernel_rfl) (outs := []) (by kernel_rfl) (by kernel_rfl) (d := fun (y : compT impl_Axis_poses.pr) => ((y.1.1, y.2.1.1) : impl_Axis_poses.N)) (fun _ => rfl) (C := fun n => impl_Axis_poses.CC (impl_Axis_poses.cs k n)) (k := k) (impl_Axis_poses.cuts k) fun x => by kernel_rfl
/-! impl.ValidRing -/
@[reducible] def impl_ValidRing.pc : CutP := [(0, some true, [.fl (.int .i64), .fl (.int .i64)])]
@[reducible] def impl_ValidRing.pr : CompPs := [(false, [.fl .bool])]
abbrev impl_ValidRing.N := Bool
noncomputable def impl_ValidRing.E (k : Nat) : List (FuncId × Go.Rv.Fn) := [(52, impl_within.F k)]
noncomputable def impl_ValidRing.f (k : Nat) (a0 : Int) (a1 : Int) : Option impl_ValidRing.N := (impl_within.f k a0 0 1).bind fun t1 => (if t1 = true then (impl_within.f k a1 0 15).bind fun t2 => some t2 else some false)
noncomputable def impl_ValidRing.F (k : Nat) : Go.Rv.Fn := mkFn 1 impl_ValidRing.pc impl_ValidRing.pr (keepOf []) (fun (y : impl_ValidRing.N) => (((y, ()), ()) : compT impl_ValidRing.pr)) fun x => impl_ValidRing.f k x.1.1 x.1.2.1
theorem impl_ValidRing.env (k : Nat) : EnvOk Go.Proofs.Try.prog (fun f => (impl_ValidRing.E k).lookup f) := envOk_of ⟨entry Go.Proofs.Try.call52 rfl (impl_within.ok k), trivial⟩
theorem impl_ValidRing.ok (k : Nat) : FnOk Go.Proofs.Try.prog 63 (impl_ValidRing.F k) :=
  fn_ok tab (impl_ValidRing.env k) Go.Proofs.Try.func63 rfl (n := 1) (Nat.le_of_ble_eq_true rfl) (by kernel_rfl) (outs := []) (by kernel_rfl) (by kernel_rfl) (d := fun (y : compT impl_ValidRing.pr) => (y.1.1 : impl_ValidRing.N)) (fun _ => rfl) (C := fun _ => []) (k := k) noCuts fun x => by kernel_rfl
/-! slices.Sort[[]int64,int64] -/
@[reducible] def slices_Sort_int64.pc : CutP := [(0, some false, [.fl (.own (.int .i64))])]
@[reducible] def slices_Sort_int64.pr : CompPs := [(false, [.fl (.own (.int .i64))])]
abbrev slices_Sort_int64.N := List Int
noncomputable def slices_Sort_int64.E (k : Nat) : List (FuncId × Go.Rv.Fn) := []
noncomputable def slices_Sort_int64.f (k : Nat) (a0 : List Int) : Option slices_Sort_int64.N := Go.Rv.sortF a0
noncomputable def slices_Sort_int64.F (k : Nat) : Go.Rv.Fn := mkFn 1 slices_Sort_int64.pc slices_Sort_int64.pr (keepOf [(0, 1)]) (fun (y : slices_Sort_int64.N) => (((y, ()), ()) : compT slices_Sort_int64.pr)) fun x => slices_Sort_int64.f k x.1.1
theorem slices_Sort_int64.ok (k : Nat) : FnOk Go.Proofs.Try.prog 113 (slices_Sort_int64.F k) := Go.Rv.sort_fn Sh.sort_113 Sh.sort0_113
/-! (impl.Ring).joints -/
@[reducible] def impl_Ring_joints.pc : CutP := [(0, some true, [.fl (.int .i64), .fl (.int .i64)])]
@[reducible] def impl_Ring_joints.pr : CompPs := [(false, [.fl (.own (.int .i64))])]
abbrev impl_Ring_joints.N := List Int
noncomputable def impl_Ring_joints.E (k : Nat) : List (FuncId × Go.Rv.Fn) := [(113, slices_Sort_int64.F k)]
abbrev impl_Ring_joints.Cs := (Int → Int → List Int → List Int → Int → Int → Option impl_Ring_joints.N)
def impl_Ring_joints.zero : impl_Ring_joints.Cs := (fun _ _ _ _ _ _ => none)
noncomputable def impl_Ring_joints.step (k : Nat) (c : impl_Ring_joints.Cs) : impl_Ring_joints.Cs := (fun (x0 : Int) (x1 : Int) (x2 : List Int) (x3 : List Int) (x4 : Int) (x5 : Int) => (if (decide (x5 < x4)) = true then if 0 ≤ x5 then if x5 < (x3.length : Int) then (if 16 = 0 then none else if x2.length + [((wrap64 (x1 + (rd 0 x3 x5))).tmod 16)].length < 1099511627776 then c x0 x1 (x2 ++ [((wrap64 (x1 + (rd 0 x3 x5))).tmod 16)]) x3 x4 (wrap64 (x5 + 1)) else none) else none else none else (slices_Sort_int64.f k x2).bind fun t1 => some t1))
noncomputable def impl_Ring_joints.cs (k : Nat) : Nat → impl_Ring_joints.Cs
  | 0 => impl_Ring_joints.zero
  | n + 1 => impl_Ring_joints.step k (impl_Ring_joints.cs k n)
def impl_Ring_joints.CC (c : impl_Ring_joints.Cs) : Cuts impl_Ring_joints.N := [(8, ⟨[(1, none, [.fl (.int .i64), .fl (.int .i64)]), (3, some false, [.fl (.own (.int .i64))]), (7, some false, [.fl (.own (.int .i64))]), (8, some false, [.fl (.int .i64)]), (9, some false, [.fl (.int .i64)])], fun x => c x.1.1 x.1.2.1 x.2.1.1 x.2.2.1.1 x.2.2.2.1.1 x.2.2.2.2.1.1⟩)]
noncomputable def impl_Ring_joints.f (k : Nat) (a0 : Int) (a1 : Int) : Option impl_Ring_joints.N := (impl_Ring_joints.cs k k) a0 a1 ([] : List Int) [0, 1, 4, 7, 10, 13] ([0, 1, 4, 7, 10, 13].length : Int) 0
noncomputable def impl_Ring_joints.F (k : Nat) : Go.Rv.Fn := mkFn 1 impl_Ring_joints.pc impl_Ring_joints.pr (keepOf []) (fun (y : impl_Ring_joints.N) => (((y, ()), ()) : compT impl_Ring_joints.pr)) fun x => impl_Ring_joints.f k x.1.1 x.1.2.1
theorem impl_Ring_joints.env (k : Nat) : EnvOk Go.Proofs.Try.prog (fun f => (impl_Ring_joints.E k).lookup f) := envOk_of ⟨entry Go.Proofs.Try.call113 rfl (slices_Sort_int64.ok k), trivial⟩
theorem impl_Ring_joints.cuts (k : Nat) : CutsOk Go.Proofs.Try.prog X (fun f => (impl_Ring_joints.E k).lookup f) Go.Proofs.Try.f100 [] (decN impl_Ring_joints.pr (fun (y : compT impl_Ring_joints.pr) => (y.1.1 : impl_Ring_joints.N))) fun n => impl_Ring_joints.CC (impl_Ring_joints.cs k n) :=
  cutsOk_of (step := impl_Ring_joints.step k) rfl (fun _ => rfl) ⟨fun _ => rfl, trivial⟩ (fun c => by kernel_rfl) fun c => ⟨fun x => by kernel_rfl, trivial⟩
theorem impl_Ring_joints.ok (k : Nat) : FnOk Go.Proofs.Try.prog 100 (impl_Ring_joints.F k) :=
  fn_ok tab (impl_Ring_joints.env k) Go.Proofs.Try.func100 rfl (n := 1) (Nat.le_of_ble_eq_true rfl) (by kernel_rfl) (outs := []) (by kernel_rfl) (by kernel_rfl) (d := fun (y : compT impl_Ring_joints.pr) => (y.1.1 : impl_Ring_joints.N)) (fun _ => rfl) (C := fun n => impl_Ring_joints.CC (impl_Ring_joints.cs k n)) (k := k) (impl_Ring_joints.cuts k) fun x => by kernel_rfl
/-! slices.Index[[]int64,int64] -/
@[reducible] def slices_Index_int64.pc : CutP := [(0, some false, [.fl (.lo (.int .i64))]), (1, some false, [.fl (.int .i64)])]
@[reducible] def slices_Index_int64.pr : CompPs := [(false, [.fl (.int .i64)])]
abbrev slices_Index_int64.N := Int
noncomputable def slices_Index_int64.E (k : Nat) : List (FuncId × Go.Rv.Fn) := []
abbrev slices_Index_int64.Cs := (List Int → Int → Int → Int → Option slices_Index_int64.N)
def slices_Index_int64.zero : slices_Index_int64.Cs := (fun _ _ _ _ => none)
noncomputable def slices_Index_int64.step (k : Nat) (c : slices_Index_int64.Cs) : slices_Index_int64.Cs := (fun (x0 : List Int) (x1 : Int) (x2 : Int) (x3 : Int) => (if (decide (x3 < x2)) = true then if 0 ≤ x3 then if x3 < (x0.length : Int) then (if (decide (x1 = (rd 0 x0 x3))) = true then some x3 else c x0 x1 x2 (wrap64 (x3 + 1))) else none else none else some (-1)))
noncomputable def slices_Index_int64.cs (k : Nat) : Nat → slices_Index_int64.Cs
  | 0 => slices_Index_int64.zero
  | n + 1 => slices_Index_int64.step k (slices_Index_int64.cs k n)
def slices_Index_int64.CC (c : slices_Index_int64.Cs) : Cuts slices_Index_int64.N := [(6, ⟨[(0, some false, [.fl (.lo (.int .i64))]), (1, some false, [.fl (.int .i64)]), (7, some false, [.fl (.int .i64)]), (8, some false, [.fl (.int .i64)])], fun x => c x.1.1 x.2.1.1 x.2.2.1.1 x.2.2.2.1.1⟩)]
noncomputable def slices_Index_int64.f (k : Nat) (a0 : List Int) (a1 : Int) : Option slices_Index_int64.N := (slices_Index_int64.cs k k) a0 a1 (a0.length : Int) 0
noncomputable def slices_Index_int64.F (k : Nat) : Go.Rv.Fn := mkFn 2 slices_Index_int64.pc slices_Index_int64.pr (keepOf []) (fun (y : slices_Index_int64.N) => (((y, ()), ()) : compT slices_Index_int64.pr)) fun x => slices_Index_int64.f k x.1.1 x.2.1.1
theorem slices_Index_int64.env (k : Nat) : EnvOk Go.Proofs.Try.prog (fun f => (slices_Index_int64.E k).lookup f) := envOk_of trivial
theorem slices_Index_int64.cuts (k : Nat) : CutsOk Go.Proofs.Try.prog X (fun f => (slices_Index_int64.E k).lookup f) Go.Proofs.Try.f114 [] (decN slices_Index_int64.pr (fun (y : compT slices_Index_int64.pr) => (y.1.1 : slices_Index_int64.N))) fun n => slices_Index_int64.CC (slices_Index_int64.cs k n) :=
  cutsOk_of (step := slices_Index_int64.step k) rfl (fun _ => rfl) ⟨fun _ => rfl, trivial⟩ (fun c => by kernel_rfl) fun c => ⟨fun x => by kernel_rfl, trivial⟩
theorem slices_Index_int64.ok (k : Nat) : FnOk Go.Proofs.Try.prog 114 (slices_Index_int64.F k) :=
  fn_ok tab (slices_Index_int64.env k) Go.Proofs.Try.func114 rfl (n := 2) (Nat.le_of_ble_eq_true rfl) (by kernel_rfl) (outs := []) (by kernel_rfl) (by kernel_rfl) (d := fun (y : compT slices_Index_int64.pr) => (y.1.1 : slices_Index_int64.N)) (fun _ => rfl) (C := fun n => slices_Index_int64.CC (slices_Index_int64.cs k n)) (k := k) (slices_Index_int64.cuts k) fun x => by kernel_rfl
/-! slices.Contains[[]int64,int64] -/
@[reducible] def slices_Contains_int64.pc : CutP := [(0, some false, [.fl (.lo (.int .i64))]), (1, some false, [.fl (.int .i64)])]
@[reducible] def slices_Contains_int64.pr : CompPs := [(false, [.fl .bool])]
abbrev slices_Contains_int64.N := Bool
noncomputable def slices_Contains_int64.E (k : Nat) : List (FuncId × Go.Rv.Fn) := [(114, slices_Index_int64.F k)]
noncomputable def slices_Contains_int64.f (k : Nat) (a0 : List Int) (a1 : Int) : Option slices_Contains_int64.N := (slices_Index_int64.f k a0 a1).bind fun (t1 : Int) => some (decide (0 ≤ t1))
noncomputable def slices_Contains_int64.F (k : Nat) : Go.Rv.Fn := mkFn 2 slices_Contains_int64.pc slices_Contains_int64.pr (keepOf []) (fun (y : slices_Contains_int64.N) => (((y, ()), ()) : compT slices_Contains_int64.pr)) fun x => slices_Contains_int64.f k x.1.1 x.2.1.1
theorem slices_Contains_int64.env (k : Nat) : EnvOk Go.Proofs.Try.prog (fun f => (slices_Contains_int64.E k).lookup f) := envOk_of ⟨entry Go.Proofs.Try.call114 rfl (slices_Index_int64.ok k), trivial⟩
theorem slices_Contains_int64.ok (k : Nat) : FnOk Go.Proofs.Try.prog 101 (slices_Contains_int64.F k) :=
  fn_ok tab (slices_Contains_int64.env k) Go.Proofs.Try.func101 rfl (n := 2) (Nat.le_of_ble_eq_true rfl) (by kernel_rfl) (outs := []) (by kernel_rfl) (by kernel_rfl) (d := fun (y : compT slices_Contains_int64.pr) => (y.1.1 : slices_Contains_int64.N)) (fun _ => rfl) (C := fun _ => []) (k := k) noCuts fun x => by kernel_rfl
/-! impl.meeting -/
@[reducible] def impl_meeting.pc : CutP := [(0, some true, [.fl (.int .i64), .fl (.int .i64)]), (1, some true, [.fl (.int .i64), .fl (.int .i64)])]
@[reducible] def impl_meeting.pr : CompPs := [(false, [.fl (.own (.int .i64))])]
abbrev impl_meeting.N := List Int
noncomputable def impl_meeting.E (k : Nat) : List (FuncId × Go.Rv.Fn) := [(100, impl_Ring_joints.F k), (101, slices_Contains_int64.F k)]
abbrev impl_meeting.Cs := (Int → Int → List Int → List Int → Int → Int → Option impl_meeting.N)
def impl_meeting.zero : impl_meeting.Cs := (fun _ _ _ _ _ _ => none)
noncomputable def impl_meeting.step (k : Nat) (c : impl_meeting.Cs) : impl_meeting.Cs := (fun (x0 : Int) (x1 : Int) (x2 : List Int) (x3 : List Int) (x4 : Int) (x5 : Int) => (if (decide (x5 < x4)) = true then if 0 ≤ x5 then if x5 < (x3.length : Int) then (impl_Ring_joints.f k x0 x1).bind fun t2 => (slices_Contains_int64.f k t2 (rd 0 x3 x5)).bind fun t3 => (if t3 = true then if x2.length + [(rd 0 x3 x5)].length < 1099511627776 then c x0 x1 (x2 ++ [(rd 0 x3 x5)]) x3 x4 (wrap64 (x5 + 1)) else none else c x0 x1 x2 x3 x4 (wrap64 (x5 + 1))) else none else none else some x2))
noncomputable def impl_meeting.cs (k : Nat) : Nat → impl_meeting.Cs
  | 0 => impl_meeting.zero
  | n + 1 => impl_meeting.step k (impl_meeting.cs k n)
def impl_meeting.CC (c : impl_meeting.Cs) : Cuts impl_meeting.N := [(8, ⟨[(3, none, [.fl (.int .i64), .fl (.int .i64)]), (5, some false, [.fl (.own (.int .i64))]), (10, some false, [.fl (.own (.int .i64))]), (11, some false, [.fl (.int .i64)]), (12, some false, [.fl (.int .i64)])], fun x => c x.1.1 x.1.2.1 x.2.1.1 x.2.2.1.1 x.2.2.2.1.1 x.2.2.2.2.1.1⟩)]
noncomputable def impl_meeting.f (k : Nat) (a0 : Int) (a1 : Int) (a2 : Int) (a3 : Int) : Option impl_meeting.N := (impl_Ring_joints.f k a0 a1).bind fun t1 => (impl_meeting.cs k k) a2 a3 ([] : List Int) t1 (t1.length : Int) 0
noncomputable def impl_meeting.F (k : Nat) : Go.Rv.Fn := mkFn 2 impl_meeting.pc impl_meeting.pr (keepOf []) (fun (y : impl_meeting.N) => (((y, ()), ()) : compT impl_meeting.pr)) fun x => impl_meeting.f k x.1.1 x.1.2.1 x.2.1.1 x.2.1.2.1
theorem impl_meeting.env (k : Nat) : EnvOk Go.Proofs.Try.prog (fun f => (impl_meeting.E k).lookup f) := envOk_of ⟨entry Go.Proofs.Try.call100 rfl (impl_Ring_joints.ok k), entry Go.Proofs.Try.call101 rfl (slices_Contains_int64.ok k), trivial⟩
theorem impl_meeting.cuts (k : Nat) : CutsOk Go.Proofs.Try.prog X (fun f => (impl_meeting.E k).lookup f) Go.Proofs.Try.f64 [] (decN impl_meeting.pr (fun (y : compT impl_meeting.pr) => (y.1.1 : impl_meeting.N))) fun n => impl_meeting.CC (impl_meeting.cs k n) :=
  cutsOk_of (step := impl_meeting.step k) rfl (fun _ => rfl) ⟨fun _ => rfl, trivial⟩ (fun c => by kernel_rfl) fun c => ⟨fun x => by kernel_rfl, trivial⟩
theorem impl_meeting.ok (k : Nat) : FnOk Go.Proofs.Try.prog 64 (impl_meeting.F k) :=
  fn_ok tab (impl_meeting.env k) Go.Proofs.Try.func64 rfl (n := 2) (Nat.le_of_ble_eq_true rfl) (by kernel_rfl) (outs := []) (by kernel_rfl) (by kernel_rfl) (d := fun (y : compT impl_meeting.pr) => (y.1.1 : impl_meeting.N)) (fun _ => rfl) (C := fun n => impl_meeting.CC (impl_meeting.cs k n)) (k := k) (impl_meeting.cuts k) fun x => by kernel_rfl
/-! impl.ValidTube -/
@[reducible] def impl_ValidTube.pc : CutP := [(0, some false, [.fl (.lo (.pair (.int .i64) (.int .i64)))])]
@[reducible] def impl_ValidTube.pr : CompPs := [(false, [.fl .bool])]
abbrev impl_ValidTube.N := Bool
noncomputable def impl_ValidTube.E (k : Nat) : List (FuncId × Go.Rv.Fn) := [(63, impl_ValidRing.F k), (64, impl_meeting.F k)]
abbrev impl_ValidTube.Cs := (List (Int × Int) → List (Int × Int) → Int → Int → Option impl_ValidTube.N)
def impl_ValidTube.zero : impl_ValidTube.Cs := (fun _ _ _ _ => none)
noncomputable def impl_ValidTube.step (k : Nat) (c : impl_ValidTube.Cs) : impl_ValidTube.Cs := (fun (x0 : List (Int × Int)) (x1 : List (Int × Int)) (x2 : Int) (x3 : Int) => (if (decide (x3 < x2)) = true then if 0 ≤ x3 then if x3 < (x1.length : Int) then (impl_ValidRing.f k ((rd (0, 0) x1 x3).1) ((rd (0, 0) x1 x3).2)).bind fun t1 => (if (!t1) = true then some false else (if (decide (0 < x3)) = true then if 0 ≤ (wrap64 (x3 - 1)) then if (wrap64 (x3 - 1)) < (x0.length : Int) then (impl_meeting.f k ((rd (0, 0) x0 (wrap64 (x3 - 1))).1) ((rd (0, 0) x0 (wrap64 (x3 - 1))).2) ((rd (0, 0) x1 x3).1) ((rd (0, 0) x1 x3).2)).bind fun t2 => (if (decide (0 < (t2.length : Int))) = true then some false else c x0 x1 x2 (wrap64 (x3 + 1))) else none else none else c x0 x1 x2 (wrap64 (x3 + 1)))) else none else none else some (decide ((x0.length : Int) ≤ 60))))
noncomputable def impl_ValidTube.cs (k : Nat) : Nat → impl_ValidTube.Cs
  | 0 => impl_ValidTube.zero
  | n + 1 => impl_ValidTube.step k (impl_ValidTube.cs k n)
def impl_ValidTube.CC (c : impl_ValidTube.Cs) : Cuts impl_ValidTube.N := [(6, ⟨[(0, some false, [.fl (.lo (.pair (.int .i64) (.int .i64)))]), (5, some false, [.fl (.lo (.pair (.int .i64) (.int .i64)))]), (6, some false, [.fl (.int .i64)]), (7, some false, [.fl (.int .i64)])], fun x => c x.1.1 x.2.1.1 x.2.2.1.1 x.2.2.2.1.1⟩)]
noncomputable def impl_ValidTube.f (k : Nat) (a0 : List (Int × Int)) : Option impl_ValidTube.N := (impl_ValidTube.cs k k) a0 a0 (a0.length : Int) 0
noncomputable def impl_ValidTube.F (k : Nat) : Go.Rv.Fn := mkFn 1 impl_ValidTube.pc impl_ValidTube.pr (keepOf []) (fun (y : impl_ValidTube.N) => (((y, ()), ()) : compT impl_ValidTube.pr)) fun x => impl_ValidTube.f k x.1.1
theorem impl_ValidTube.env (k : Nat) : EnvOk Go.Proofs.Try.prog (fun f => (impl_ValidTube.E k).lookup f) := envOk_of ⟨entry Go.Proofs.Try.call63 rfl (impl_ValidRing.ok k), entry Go.Proofs.Try.call64 rfl (impl_meeting.ok k), trivial⟩
theorem impl_ValidTube.cuts (k : Nat) : CutsOk Go.Proofs.Try.prog X (fun f => (impl_ValidTube.E k).lookup f) Go.Proofs.Try.f17 [] (decN impl_ValidTube.pr (fun (y : compT impl_ValidTube.pr) => (y.1.1 : impl_ValidTube.N))) fun n => impl_ValidTube.CC (impl_ValidTube.cs k n) :=
  cutsOk_of (step := impl_ValidTube.step k) rfl (fun _ => rfl) ⟨fun _ => rfl, trivial⟩ (fun c => by kernel_rfl) fun c => ⟨fun x => by kernel_rfl, trivial⟩
theorem impl_ValidTube.ok (k : Nat) : FnOk Go.Proofs.Try.prog 17 (impl_ValidTube.F k) :=
  fn_ok tab (impl_ValidTube.env k) Go.Proofs.Try.func17 rfl (n := 1) (Nat.le_of_ble_eq_true rfl) (by kernel_rfl) (outs := []) (by kernel_rfl) (by kernel_rfl) (d := fun (y : compT impl_ValidTube.pr) => (y.1.1 : impl_ValidTube.N)) (fun _ => rfl) (C := fun n => impl_ValidTube.CC (impl_ValidTube.cs k n)) (k := k) (impl_ValidTube.cuts k) fun x => by kernel_rfl
/-! (impl.Ring).turn -/
@[reducible] def impl_Ring_turn.pc : CutP := [(0, some true, [.fl (.int .i64), .fl (.int .i64)])]
@[reducible] def impl_Ring_turn.pr : CompPs := [(false, [.fl (.int .i64)]), (false, [.fl (.int .i64)])]
abbrev impl_Ring_turn.N := Int × Int
noncomputable def impl_Ring_turn.E (k : Nat) : List (FuncId × Go.Rv.Fn) := []
noncomputable def impl_Ring_turn.f (k : Nat) (a0 : Int) (a1 : Int) : Option impl_Ring_turn.N := T.impl_Ring_turn.f a0 a1
noncomputable def impl_Ring_turn.F (k : Nat) : Go.Rv.Fn := mkFn 1 impl_Ring_turn.pc impl_Ring_turn.pr (keepOf []) (fun (y : impl_Ring_turn.N) => (((y.1, ()), (y.2, ()), ()) : compT impl_Ring_turn.pr)) fun x => impl_Ring_turn.f k x.1.1 x.1.2.1
theorem impl_Ring_turn.ok (k : Nat) : FnOk Go.Proofs.Try.prog 104 (impl_Ring_turn.F k) := T.pair_fn (f2 := T.impl_Ring_turn.f) fun a b r1 r2 w h => T.impl_Ring_turn.calls a b r1 r2 w h
/-! impl.first -/
@[reducible] def impl_first.pc : CutP := [(0, some false, [.fl (.int .i64)]), (1, some false, [.fl (.int .i64)])]
@[reducible] def impl_first.pr : CompPs := [(false, [.fl (.int .i64)])]
abbrev impl_first.N := Int
noncomputable def impl_first.E (k : Nat) : List (FuncId × Go.Rv.Fn) := []
noncomputable def impl_first.f (k : Nat) (a0 : Int) (a1 : Int) : Option impl_first.N := some a0
noncomputable def impl_first.F (k : Nat) : Go.Rv.Fn := mkFn 2 impl_first.pc impl_first.pr (keepOf []) (fun (y : impl_first.N) => (((y, ()), ()) : compT impl_first.pr)) fun x => impl_first.f k x.1.1 x.2.1.1
theorem impl_first.env (k : Nat) : EnvOk Go.Proofs.Try.prog (fun f => (impl_first.E k).lookup f) := envOk_of trivial
theorem impl_first.ok (k : Nat) : FnOk Go.Proofs.Try.prog 106 (impl_first.F k) :=
  fn_ok tab (impl_first.env k) Go.Proofs.Try.func106 rfl (n := 2) (Nat.le_of_ble_eq_true rfl) (by kernel_rfl) (outs := []) (by kernel_rfl) (by kernel_rfl) (d := fun (y : compT impl_first.pr) => (y.1.1 : impl_first.N)) (fun _ => rfl) (C := fun _ => []) (k := k) noCuts fun x => by kernel_rfl
/-! impl.second -/
@[reducible] def impl_second.pc : CutP := [(0, some false, [.fl (.int .i64)]), (1, some false, [.fl (.int .i64)])]
@[reducible] def impl_second.pr : CompPs := [(false, [.fl (.int .i64)])]
abbrev impl_second.N := Int
noncomputable def impl_second.E (k : Nat) : List (FuncId × Go.Rv.Fn) := []
noncomputable def impl_second.f (k : Nat) (a0 : Int) (a1 : Int) : Option impl_second.N := some a1
noncomputable def impl_second.F (k : Nat) : Go.Rv.Fn := mkFn 2 impl_second.pc impl_second.pr (keepOf []) (fun (y : impl_second.N) => (((y, ()), ()) : compT impl_second.pr)) fun x => impl_second.f k x.1.1 x.2.1.1
theorem impl_second.env (k : Nat) : EnvOk Go.Proofs.Try.prog (fun f => (impl_second.E k).lookup f) := envOk_of trivial
theorem impl_second.ok (k : Nat) : FnOk Go.Proofs.Try.prog 107 (impl_second.F k) :=
  fn_ok tab (impl_second.env k) Go.Proofs.Try.func107 rfl (n := 2) (Nat.le_of_ble_eq_true rfl) (by kernel_rfl) (outs := []) (by kernel_rfl) (by kernel_rfl) (d := fun (y : compT impl_second.pr) => (y.1.1 : impl_second.N)) (fun _ => rfl) (C := fun _ => []) (k := k) noCuts fun x => by kernel_rfl
/-! impl.NextPose -/
@[reducible] def impl_NextPose.pc : CutP := [(0, some true, [.fl (.int .i64), .fl (.int .i64), .fl (.int .i64), .fl (.int .i64)]), (1, some false, [.fl (.int .i64)]), (2, some false, [.fl (.int .i64)])]
@[reducible] def impl_NextPose.pr : CompPs := [(true, [.fl (.int .i64), .fl (.int .i64), .fl (.int .i64), .fl (.int .i64)]), (false, [.fl .bool])]
abbrev impl_NextPose.N := Int × Int × Int × Int × Bool
noncomputable def impl_NextPose.E (k : Nat) : List (FuncId × Go.Rv.Fn) := [(53, impl_ValidPose.F k), (89, impl_isTurn.F k), (90, impl_Pose_next.F k)]
noncomputable def impl_NextPose.f (k : Nat) (a0 : Int) (a1 : Int) (a2 : Int) (a3 : Int) (a4 : Int) (a5 : Int) : Option impl_NextPose.N := (impl_ValidPose.f k a0 a1 a2 a3).bind fun t1 => (if (!t1) = true then some (0, 0, 0, 0, false) else (impl_isTurn.f k a4 a5).bind fun t2 => (if (!t2) = true then some (0, 0, 0, 0, false) else (impl_Pose_next.f k a0 a1 a2 a3 a4 a5).bind fun t3 => (impl_ValidPose.f k t3.1 t3.2.1 t3.2.2.1 t3.2.2.2).bind fun t4 => (if (!t4) = true then some (0, 0, 0, 0, false) else (impl_Pose_next.f k a0 a1 a2 a3 a4 a5).bind fun t5 => some (t5.1, t5.2.1, t5.2.2.1, t5.2.2.2, true))))
noncomputable def impl_NextPose.F (k : Nat) : Go.Rv.Fn := mkFn 3 impl_NextPose.pc impl_NextPose.pr (keepOf []) (fun (y : impl_NextPose.N) => (((y.1, y.2.1, y.2.2.1, y.2.2.2.1, ()), (y.2.2.2.2, ()), ()) : compT impl_NextPose.pr)) fun x => impl_NextPose.f k x.1.1 x.1.2.1 x.1.2.2.1 x.1.2.2.2.1 x.2.1.1 x.2.2.1.1
theorem impl_NextPose.env (k : Nat) : EnvOk Go.Proofs.Try.prog (fun f => (impl_NextPose.E k).lookup f) := envOk_of ⟨entry Go.Proofs.Try.call53 rfl (impl_ValidPose.ok k), entry Go.Proofs.Try.call89 rfl (impl_isTurn.ok k), entry Go.Proofs.Try.call90 rfl (impl_Pose_next.ok k), trivial⟩
theorem impl_NextPose.ok (k : Nat) : FnOk Go.Proofs.Try.prog 105 (impl_NextPose.F k) :=
  fn_ok tab (impl_NextPose.env k) Go.Proofs.Try.func105 rfl (n := 3) (Nat.le_of_ble_eq_true rfl) (by kernel_rfl) (outs := []) (by kernel_rfl) (by kernel_rfl) (d := fun (y : compT impl_NextPose.pr) => ((y.1.1, y.1.2.1, y.1.2.2.1, y.1.2.2.2.1, y.2.1.1) : impl_NextPose.N)) (fun _ => rfl) (C := fun _ => []) (k := k) noCuts fun x => by kernel_rfl
/-! impl.tubePoses -/
@[reducible] def impl_tubePoses.pc : CutP := [(0, some true, [.fl (.int .i64), .fl (.int .i64), .fl (.int .i64), .fl (.int .i64)]), (1, some false, [.fl (.lo (.pair (.int .i64) (.int .i64)))])]
@[reducible] def impl_tubePoses.pr : CompPs := [(false, [.fl (.own (.pair (.int .i64) (.pair (.int .i64) (.pair (.int .i64) (.int .i64)))))]), (false, [.fl .bool])]
abbrev impl_tubePoses.N := List (Int × Int × Int × Int) × Bool
noncomputable def impl_tubePoses.E (k : Nat) : List (FuncId × Go.Rv.Fn) := [(53, impl_ValidPose.F k), (104, impl_Ring_turn.F k), (105, impl_NextPose.F k), (106, impl_first.F k), (107, impl_second.F k)]
abbrev impl_tubePoses.Cs := (List (Int × Int × Int × Int) → List (Int × Int) → Int → Int → Option impl_tubePoses.N)
def impl_tubePoses.zero : impl_tubePoses.Cs := (fun _ _ _ _ => none)
noncomputable def impl_tubePoses.step (k : Nat) (c : impl_tubePoses.Cs) : impl_tubePoses.Cs := (fun (x0 : List (Int × Int × Int × Int)) (x1 : List (Int × Int)) (x2 : Int) (x3 : Int) => (if (decide (x3 < x2)) = true then if 0 ≤ x3 then if x3 < (x1.length : Int) then if 0 ≤ (wrap64 ((x0.length : Int) - 1)) then if (wrap64 ((x0.length : Int) - 1)) < (x0.length : Int) then (impl_Ring_turn.f k ((rd (0, 0) x1 x3).1) ((rd (0, 0) x1 x3).2)).bind fun t2 => (impl_first.f k t2.1 t2.2).bind fun (t3 : Int) => (impl_Ring_turn.f k ((rd (0, 0) x1 x3).1) ((rd (0, 0) x1 x3).2)).bind fun t4 => (impl_second.f k t4.1 t4.2).bind fun (t5 : Int) => (impl_NextPose.f k ((rd (0, (0, (0, 0))) x0 (wrap64 ((x0.length : Int) - 1))).1) (((rd (0, (0, (0, 0))) x0 (wrap64 ((x0.length : Int) - 1))).2).1) ((((rd (0, (0, (0, 0))) x0 (wrap64 ((x0.length : Int) - 1))).2).2).1) ((((rd (0, (0, (0, 0))) x0 (wrap64 ((x0.length : Int) - 1))).2).2).2) t3 t5).bind fun t6 => (if (!t6.2.2.2.2) = true then some ([], false) else if x0.length + [(t6.1, (t6.2.1, (t6.2.2.1, t6.2.2.2.1)))].length < 274877906944 then c (x0 ++ [(t6.1, (t6.2.1, (t6.2.2.1, t6.2.2.2.1)))]) x1 x2 (wrap64 (x3 + 1)) else none) else none else none else none else none else some (x0, true)))
noncomputable def impl_tubePoses.cs (k : Nat) : Nat → impl_tubePoses.Cs
  | 0 => impl_tubePoses.zero
  | n + 1 => impl_tubePoses.step k (impl_tubePoses.cs k n)
def impl_tubePoses.CC (c : impl_tubePoses.Cs) : Cuts impl_tubePoses.N := [(16, ⟨[(6, some false, [.fl (.own (.pair (.int .i64) (.pair (.int .i64) (.pair (.int .i64) (.int .i64)))))]), (16, some false, [.fl (.lo (.pair (.int .i64) (.int .i64)))]), (17, some false, [.fl (.int .i64)]), (18, some false, [.fl (.int .i64)])], fun x => c x.1.1 x.2.1.1 x.2.2.1.1 x.2.2.2.1.1⟩)]
noncomputable def impl_tubePoses.f (k : Nat) (a0 : Int) (a1 : Int) (a2 : Int) (a3 : Int) (a4 : List (Int × Int)) : Option impl_tubePoses.N := (impl_ValidPose.f k a0 a1 a2 a3).bind fun t1 => (if (!t1) = true then some ([], false) else (impl_tubePoses.cs k k) [(a0, (a1, (a2, a3)))] a4 (a4.length : Int) 0)
noncomputable def impl_tubePoses.F (k : Nat) : Go.Rv.Fn := mkFn 2 impl_tubePoses.pc impl_tubePoses.pr (keepOf []) (fun (y : impl_tubePoses.N) => (((y.1, ()), (y.2, ()), ()) : compT impl_tubePoses.pr)) fun x => impl_tubePoses.f k x.1.1 x.1.2.1 x.1.2.2.1 x.1.2.2.2.1 x.2.1.1
theorem impl_tubePoses.env (k : Nat) : EnvOk Go.Proofs.Try.prog (fun f => (impl_tubePoses.E k).lookup f) := envOk_of ⟨entry Go.Proofs.Try.call53 rfl (impl_ValidPose.ok k), entry Go.Proofs.Try.call104 rfl (impl_Ring_turn.ok k), entry Go.Proofs.Try.call105 rfl (impl_NextPose.ok k), entry Go.Proofs.Try.call106 rfl (impl_first.ok k), entry Go.Proofs.Try.call107 rfl (impl_second.ok k), trivial⟩
theorem impl_tubePoses.cuts (k : Nat) : CutsOk Go.Proofs.Try.prog X (fun f => (impl_tubePoses.E k).lookup f) Go.Proofs.Try.f69 [] (decN impl_tubePoses.pr (fun (y : compT impl_tubePoses.pr) => ((y.1.1, y.2.1.1) : impl_tubePoses.N))) fun n => impl_tubePoses.CC (impl_tubePoses.cs k n) :=
  cutsOk_of (step := impl_tubePoses.step k) rfl (fun _ => rfl) ⟨fun _ => rfl, trivial⟩ (fun c => by kernel_rfl) fun c => ⟨fun x => by kernel_rfl, trivial⟩
theorem impl_tubePoses.ok (k : Nat) : FnOk Go.Proofs.Try.prog 69 (impl_tubePoses.F k) :=
  fn_ok tab (impl_tubePoses.env k) Go.Proofs.Try.func69 rfl (n := 2) (Nat.le_of_ble_eq_true rfl) (by kernel_rfl) (outs := []) (by kernel_rfl) (by kernel_rfl) (d := fun (y : compT impl_tubePoses.pr) => ((y.1.1, y.2.1.1) : impl_tubePoses.N)) (fun _ => rfl) (C := fun n => impl_tubePoses.CC (impl_tubePoses.cs k n)) (k := k) (impl_tubePoses.cuts k) fun x => by kernel_rfl
/-! impl.TubePoses -/
@[reducible] def impl_TubePoses.pc : CutP := [(0, some true, [.fl (.int .i64), .fl (.int .i64), .fl (.int .i64), .fl (.int .i64)]), (1, some false, [.fl (.lo (.pair (.int .i64) (.int .i64)))])]
@[reducible] def impl_TubePoses.pr : CompPs := [(false, [.fl (.own (.pair (.int .i64) (.pair (.int .i64) (.pair (.int .i64) (.int .i64)))))]), (false, [.fl .bool])]
abbrev impl_TubePoses.N := List (Int × Int × Int × Int) × Bool
noncomputable def impl_TubePoses.E (k : Nat) : List (FuncId × Go.Rv.Fn) := [(17, impl_ValidTube.F k), (69, impl_tubePoses.F k)]
noncomputable def impl_TubePoses.f (k : Nat) (a0 : Int) (a1 : Int) (a2 : Int) (a3 : Int) (a4 : List (Int × Int)) : Option impl_TubePoses.N := (impl_ValidTube.f k a4).bind fun t1 => (if (!t1) = true then some ([], false) else (impl_tubePoses.f k a0 a1 a2 a3 a4).bind fun t2 => some (t2.1, t2.2))
noncomputable def impl_TubePoses.F (k : Nat) : Go.Rv.Fn := mkFn 2 impl_TubePoses.pc impl_TubePoses.pr (keepOf []) (fun (y : impl_TubePoses.N) => (((y.1, ()), (y.2, ()), ()) : compT impl_TubePoses.pr)) fun x => impl_TubePoses.f k x.1.1 x.1.2.1 x.1.2.2.1 x.1.2.2.2.1 x.2.1.1
theorem impl_TubePoses.env (k : Nat) : EnvOk Go.Proofs.Try.prog (fun f => (impl_TubePoses.E k).lookup f) := envOk_of ⟨entry Go.Proofs.Try.call17 rfl (impl_ValidTube.ok k), entry Go.Proofs.Try.call69 rfl (impl_tubePoses.ok k), trivial⟩
theorem impl_TubePoses.ok (k : Nat) : FnOk Go.Proofs.Try.prog 23 (impl_TubePoses.F k) :=
  fn_ok tab (impl_TubePoses.env k) Go.Proofs.Try.func23 rfl (n := 2) (Nat.le_of_ble_eq_true rfl) (by kernel_rfl) (outs := []) (by kernel_rfl) (by kernel_rfl) (d := fun (y : compT impl_TubePoses.pr) => ((y.1.1, y.2.1.1) : impl_TubePoses.N)) (fun _ => rfl) (C := fun _ => []) (k := k) noCuts fun x => by kernel_rfl
/-! impl.OffsetsBehind -/
@[reducible] def impl_OffsetsBehind.pc : CutP := [(0, some true, [.fl (.int .i64), .fl (.int .i64), .fl (.int .i64), .fl (.int .i64), .fl (.lo (.pair (.int .i64) (.pair (.int .i64) (.int .i64))))]), (1, some false, [.fl (.int .i64)]), (2, some true, [.fl (.int .i64), .fl (.int .i64), .fl (.int .i64), .fl (.int .i64)]), (3, some false, [.fl (.lo (.pair (.int .i64) (.int .i64)))])]
@[reducible] def impl_OffsetsBehind.pr : CompPs := [(false, [.fl (.own (.sl (.int .i64)))]), (false, [.fl .bool])]
abbrev impl_OffsetsBehind.N := List (List Int) × Bool
noncomputable def impl_OffsetsBehind.E (k : Nat) : List (FuncId × Go.Rv.Fn) := [(23, impl_TubePoses.F k), (51, impl_Axis_poses.F k), (52, impl_within.F k)]
abbrev impl_OffsetsBehind.Cs := (Int → List (Int × Int) → List (Int × Int × Int × Int) → List (Int × Int × Int × Int) → Option impl_OffsetsBehind.N) × (Int → List (Int × Int × Int × Int) → List (Int × Int × Int × Int) → List (List Int) → Int → Int → Option impl_OffsetsBehind.N)
def impl_OffsetsBehind.zero : impl_OffsetsBehind.Cs := (fun _ _ _ _ => none, fun _ _ _ _ _ _ => none)
noncomputable def impl_OffsetsBehind.step (k : Nat) (c : impl_OffsetsBehind.Cs) : impl_OffsetsBehind.Cs := (fun (x0 : Int) (x1 : List (Int × Int)) (x2 : List (Int × Int × Int × Int)) (x3 : List (Int × Int × Int × Int)) => c.2 x0 x2 x3 ([] : List (List Int)) (x1.length : Int) 0,
  fun (x0 : Int) (x1 : List (Int × Int × Int × Int)) (x2 : List (Int × Int × Int × Int)) (x3 : List (List Int)) (x4 : Int) (x5 : Int) => (if (decide (x5 < x4)) = true then if 0 ≤ (wrap64 (x5 + 1)) then if (wrap64 (x5 + 1)) < (x2.length : Int) then if 0 ≤ (wrap64 ((wrap64 (x0 + x5)) + 1)) then if (wrap64 ((wrap64 (x0 + x5)) + 1)) < (x1.length : Int) then if x3.length + [[(wrap64 ((rd (0, (0, (0, 0))) x2 (wrap64 (x5 + 1))).1 - (rd (0, (0, (0, 0))) x1 (wrap64 ((wrap64 (x0 + x5)) + 1))).1)), (wrap64 (((rd (0, (0, (0, 0))) x2 (wrap64 (x5 + 1))).2).1 - ((rd (0, (0, (0, 0))) x1 (wrap64 ((wrap64 (x0 + x5)) + 1))).2).1))]].length < 1099511627776 then c.2 x0 x1 x2 (x3 ++ [[(wrap64 ((rd (0, (0, (0, 0))) x2 (wrap64 (x5 + 1))).1 - (rd (0, (0, (0, 0))) x1 (wrap64 ((wrap64 (x0 + x5)) + 1))).1)), (wrap64 (((rd (0, (0, (0, 0))) x2 (wrap64 (x5 + 1))).2).1 - ((rd (0, (0, (0, 0))) x1 (wrap64 ((wrap64 (x0 + x5)) + 1))).2).1))]]) x4 (wrap64 (x5 + 1)) else none else none else none else none else none else some (x3, true)))
noncomputable def impl_OffsetsBehind.cs (k : Nat) : Nat → impl_OffsetsBehind.Cs
  | 0 => impl_OffsetsBehind.zero
  | n + 1 => impl_OffsetsBehind.step k (impl_OffsetsBehind.cs k n)
def impl_OffsetsBehind.CC (c : impl_OffsetsBehind.Cs) : Cuts impl_OffsetsBehind.N := [(6, ⟨[(1, some false, [.fl (.int .i64)]), (3, some false, [.fl (.lo (.pair (.int .i64) (.int .i64)))]), (10, some false, [.fl (.own (.pair (.int .i64) (.pair (.int .i64) (.pair (.int .i64) (.int .i64)))))]), (12, some false, [.fl (.own (.pair (.int .i64) (.pair (.int .i64) (.pair (.int .i64) (.int .i64)))))])], fun x => c.1 x.1.1 x.2.1.1 x.2.2.1.1 x.2.2.2.1.1⟩),
  (20, ⟨[(1, some false, [.fl (.int .i64)]), (10, some false, [.fl (.own (.pair (.int .i64) (.pair (.int .i64) (.pair (.int .i64) (.int .i64)))))]), (12, some false, [.fl (.own (.pair (.int .i64) (.pair (.int .i64) (.pair (.int .i64) (.int .i64)))))]), (14, some false, [.fl (.own (.sl (.int .i64)))]), (54, some false, [.fl (.int .i64)]), (55, some false, [.fl (.int .i64)])], fun x => c.2 x.1.1 x.2.1.1 x.2.2.1.1 x.2.2.2.1.1 x.2.2.2.2.1.1 x.2.2.2.2.2.1.1⟩)]
noncomputable def impl_OffsetsBehind.f (k : Nat) (a0 : Int) (a1 : Int) (a2 : Int) (a3 : Int) (a4 : List (Int × Int × Int)) (a5 : Int) (a6 : Int) (a7 : Int) (a8 : Int) (a9 : Int) (a10 : List (Int × Int)) : Option impl_OffsetsBehind.N := (impl_Axis_poses.f k a0 a1 a2 a3 a4).bind fun t1 => (impl_TubePoses.f k a6 a7 a8 a9 a10).bind fun t2 => (if (!t1.2) = true then some ([], false) else (if (!t2.2) = true then some ([], false) else (impl_within.f k a5 0 (wrap64 ((t1.1.length : Int) - 1))).bind fun t3 => (if (!t3) = true then some ([], false) else (if (decide ((t1.1.length : Int) ≤ (wrap64 (a5 + (a10.length : Int))))) = true then some ([], false) else (impl_OffsetsBehind.cs k k).1 a5 a10 t1.1 t2.1))))
noncomputable def impl_OffsetsBehind.F (k : Nat) : Go.Rv.Fn := mkFn 4 impl_OffsetsBehind.pc impl_OffsetsBehind.pr (keepOf []) (fun (y : impl_OffsetsBehind.N) => (((y.1, ()), (y.2, ()), ()) : compT impl_OffsetsBehind.pr)) fun x => impl_OffsetsBehind.f k x.1.1 x.1.2.1 x.1.2.2.1 x.1.2.2.2.1 x.1.2.2.2.2.1 x.2.1.1 x.2.2.1.1 x.2.2.1.2.1 x.2.2.1.2.2.1 x.2.2.1.2.2.2.1 x.2.2.2.1.1
theorem impl_OffsetsBehind.env (k : Nat) : EnvOk Go.Proofs.Try.prog (fun f => (impl_OffsetsBehind.E k).lookup f) := envOk_of ⟨entry Go.Proofs.Try.call23 rfl (impl_TubePoses.ok k), entry Go.Proofs.Try.call51 rfl (impl_Axis_poses.ok k), entry Go.Proofs.Try.call52 rfl (impl_within.ok k), trivial⟩
theorem impl_OffsetsBehind.cuts (k : Nat) : CutsOk Go.Proofs.Try.prog X (fun f => (impl_OffsetsBehind.E k).lookup f) Go.Proofs.Try.f22 [] (decN impl_OffsetsBehind.pr (fun (y : compT impl_OffsetsBehind.pr) => ((y.1.1, y.2.1.1) : impl_OffsetsBehind.N))) fun n => impl_OffsetsBehind.CC (impl_OffsetsBehind.cs k n) :=
  cutsOk_of (step := impl_OffsetsBehind.step k) rfl (fun _ => rfl) ⟨fun _ => rfl, fun _ => rfl, trivial⟩ (fun c => by kernel_rfl) fun c => ⟨fun x => by kernel_rfl, fun x => by kernel_rfl, trivial⟩
theorem impl_OffsetsBehind.ok (k : Nat) : FnOk Go.Proofs.Try.prog 22 (impl_OffsetsBehind.F k) :=
  fn_ok tab (impl_OffsetsBehind.env k) Go.Proofs.Try.func22 rfl (n := 4) (Nat.le_of_ble_eq_true rfl) (by kernel_rfl) (outs := []) (by kernel_rfl) (by kernel_rfl) (d := fun (y : compT impl_OffsetsBehind.pr) => ((y.1.1, y.2.1.1) : impl_OffsetsBehind.N)) (fun _ => rfl) (C := fun n => impl_OffsetsBehind.CC (impl_OffsetsBehind.cs k n)) (k := k) (impl_OffsetsBehind.cuts k) fun x => by kernel_rfl
/-! impl.SquaresOf -/
@[reducible] def impl_SquaresOf.pc : CutP := [(0, some true, [.fl (.int .i64), .fl (.int .i64), .fl (.int .i64), .fl (.int .i64), .fl (.lo (.pair (.int .i64) (.pair (.int .i64) (.int .i64))))]), (1, some false, [.fl (.int .i64)]), (2, some true, [.fl (.int .i64), .fl (.int .i64), .fl (.int .i64), .fl (.int .i64)]), (3, some false, [.fl (.lo (.pair (.int .i64) (.int .i64)))])]
@[reducible] def impl_SquaresOf.pr : CompPs := [(false, [.fl (.int .i64)]), (false, [.fl .bool])]
abbrev impl_SquaresOf.N := Int × Bool
noncomputable def impl_SquaresOf.E (k : Nat) : List (FuncId × Go.Rv.Fn) := [(22, impl_OffsetsBehind.F k)]
abbrev impl_SquaresOf.Cs := (List (List Int) → Int → List (List Int) → Int → Int → Option impl_SquaresOf.N)
def impl_SquaresOf.zero : impl_SquaresOf.Cs := (fun _ _ _ _ _ => none)
noncomputable def impl_SquaresOf.step (k : Nat) (c : impl_SquaresOf.Cs) : impl_SquaresOf.Cs := (fun (x0 : List (List Int)) (x1 : Int) (x2 : List (List Int)) (x3 : Int) (x4 : Int) => (if (decide (x4 < x3)) = true then if 0 ≤ x4 then if x4 < (x2.length : Int) then if 0 ≤ 0 then if 0 < ((rd [] x2 x4).length : Int) then if 0 ≤ 0 then if 0 < ((rd [] x2 x4).length : Int) then if 0 ≤ 1 then if 1 < ((rd [] x2 x4).length : Int) then if 0 ≤ 1 then if 1 < ((rd [] x2 x4).length : Int) then c x0 (wrap64 (x1 + (wrap64 ((wrap64 ((rd 0 (rd [] x2 x4) 0) * (rd 0 (rd [] x2 x4) 0))) + (wrap64 ((rd 0 (rd [] x2 x4) 1) * (rd 0 (rd [] x2 x4) 1))))))) x2 x3 (wrap64 (x4 + 1)) else none else none else none else none else none else none else none else none else none else none else some (x1, true)))
noncomputable def impl_SquaresOf.cs (k : Nat) : Nat → impl_SquaresOf.Cs
  | 0 => impl_SquaresOf.zero
  | n + 1 => impl_SquaresOf.step k (impl_SquaresOf.cs k n)
def impl_SquaresOf.CC (c : impl_SquaresOf.Cs) : Cuts impl_SquaresOf.N := [(18, ⟨[(10, some false, [.fl (.own (.sl (.int .i64)))]), (12, some false, [.fl (.int .i64)]), (25, some false, [.fl (.ref 10 1 (.sl (.int .i64)))]), (26, some false, [.fl (.int .i64)]), (27, some false, [.fl (.int .i64)])], fun x => c x.1.1 x.2.1.1 x.2.2.1.1 x.2.2.2.1.1 x.2.2.2.2.1.1⟩)]
noncomputable def impl_SquaresOf.f (k : Nat) (a0 : Int) (a1 : Int) (a2 : Int) (a3 : Int) (a4 : List (Int × Int × Int)) (a5 : Int) (a6 : Int) (a7 : Int) (a8 : Int) (a9 : Int) (a10 : List (Int × Int)) : Option impl_SquaresOf.N := (impl_OffsetsBehind.f k a0 a1 a2 a3 a4 a5 a6 a7 a8 a9 a10).bind fun t1 => (if (!t1.2) = true then some (0, false) else (impl_SquaresOf.cs k k) t1.1 0 t1.1 (t1.1.length : Int) 0)
noncomputable def impl_SquaresOf.F (k : Nat) : Go.Rv.Fn := mkFn 4 impl_SquaresOf.pc impl_SquaresOf.pr (keepOf []) (fun (y : impl_SquaresOf.N) => (((y.1, ()), (y.2, ()), ()) : compT impl_SquaresOf.pr)) fun x => impl_SquaresOf.f k x.1.1 x.1.2.1 x.1.2.2.1 x.1.2.2.2.1 x.1.2.2.2.2.1 x.2.1.1 x.2.2.1.1 x.2.2.1.2.1 x.2.2.1.2.2.1 x.2.2.1.2.2.2.1 x.2.2.2.1.1
theorem impl_SquaresOf.env (k : Nat) : EnvOk Go.Proofs.Try.prog (fun f => (impl_SquaresOf.E k).lookup f) := envOk_of ⟨entry Go.Proofs.Try.call22 rfl (impl_OffsetsBehind.ok k), trivial⟩
theorem impl_SquaresOf.cuts (k : Nat) : CutsOk Go.Proofs.Try.prog X (fun f => (impl_SquaresOf.E k).lookup f) Go.Proofs.Try.f15 [] (decN impl_SquaresOf.pr (fun (y : compT impl_SquaresOf.pr) => ((y.1.1, y.2.1.1) : impl_SquaresOf.N))) fun n => impl_SquaresOf.CC (impl_SquaresOf.cs k n) :=
  cutsOk_of (step := impl_SquaresOf.step k) rfl (fun _ => rfl) ⟨fun _ => rfl, trivial⟩ (fun c => by kernel_rfl) fun c => ⟨fun x => by kernel_rfl, trivial⟩
theorem impl_SquaresOf.ok (k : Nat) : FnOk Go.Proofs.Try.prog 15 (impl_SquaresOf.F k) :=
  fn_ok tab (impl_SquaresOf.env k) Go.Proofs.Try.func15 rfl (n := 4) (Nat.le_of_ble_eq_true rfl) (by kernel_rfl) (outs := []) (by kernel_rfl) (by kernel_rfl) (d := fun (y : compT impl_SquaresOf.pr) => ((y.1.1, y.2.1.1) : impl_SquaresOf.N)) (fun _ => rfl) (C := fun n => impl_SquaresOf.CC (impl_SquaresOf.cs k n)) (k := k) (impl_SquaresOf.cuts k) fun x => by kernel_rfl
/-! impl.BestTube$1 -/
@[reducible] def impl_BestTube_1.pc : CutP := [(0, some false, [.fl (.lo (.pair (.int .i64) (.int .i64)))]), (1, some false, [.rptr [(.int .i64), (.int .i64), (.int .i64), (.int .i64), (.lo (.pair (.int .i64) (.pair (.int .i64) (.int .i64))))]]), (2, some false, [.rptr [(.int .i64)]]), (3, some false, [.rptr [(.int .i64), (.int .i64), (.int .i64), (.int .i64)]])]
@[reducible] def impl_BestTube_1.pr : CompPs := [(false, [.fl (.int .i64)]), (false, [.fl .bool])]
abbrev impl_BestTube_1.N := Int × Bool
noncomputable def impl_BestTube_1.E (k : Nat) : List (FuncId × Go.Rv.Fn) := [(15, impl_SquaresOf.F k)]
noncomputable def impl_BestTube_1.f (k : Nat) (a0 : List (Int × Int)) (a1 : Int) (a2 : Int) (a3 : Int) (a4 : Int) (a5 : List (Int × Int × Int)) (a6 : Int) (a7 : Int) (a8 : Int) (a9 : Int) (a10 : Int) : Option impl_BestTube_1.N := (impl_SquaresOf.f k a1 a2 a3 a4 a5 a6 a7 a8 a9 a10 a0).bind fun t1 => some (t1.1, t1.2)
noncomputable def impl_BestTube_1.F (k : Nat) : Go.Rv.Fn := mkFn 4 impl_BestTube_1.pc impl_BestTube_1.pr (keepOf []) (fun (y : impl_BestTube_1.N) => (((y.1, ()), (y.2, ()), ()) : compT impl_BestTube_1.pr)) fun x => impl_BestTube_1.f k x.1.1 x.2.1.1.1 x.2.1.1.2.1 x.2.1.1.2.2.1 x.2.1.1.2.2.2.1 x.2.1.1.2.2.2.2.1 x.2.2.1.1.1 x.2.2.2.1.1.1 x.2.2.2.1.1.2.1 x.2.2.2.1.1.2.2.1 x.2.2.2.1.1.2.2.2.1
theorem impl_BestTube_1.env (k : Nat) : EnvOk Go.Proofs.Try.prog (fun f => (impl_BestTube_1.E k).lookup f) := envOk_of ⟨entry Go.Proofs.Try.call15 rfl (impl_SquaresOf.ok k), trivial⟩
theorem impl_BestTube_1.ok (k : Nat) : FnOk Go.Proofs.Try.prog 56 (impl_BestTube_1.F k) :=
  fn_ok tab (impl_BestTube_1.env k) Go.Proofs.Try.func56 rfl (n := 4) (Nat.le_of_ble_eq_true rfl) (by kernel_rfl) (outs := []) (by kernel_rfl) (by kernel_rfl) (d := fun (y : compT impl_BestTube_1.pr) => ((y.1.1, y.2.1.1) : impl_BestTube_1.N)) (fun _ => rfl) (C := fun _ => []) (k := k) noCuts fun x => by kernel_rfl
/-! slices.Clone[[]impl.Ring,impl.Ring] -/
@[reducible] def slices_Clone_Ring.pc : CutP := [(0, some false, [.fl (.lo (.pair (.int .i64) (.int .i64)))])]
@[reducible] def slices_Clone_Ring.pr : CompPs := [(false, [.fl (.own (.pair (.int .i64) (.int .i64)))])]
abbrev slices_Clone_Ring.N := List (Int × Int)
noncomputable def slices_Clone_Ring.E (k : Nat) : List (FuncId × Go.Rv.Fn) := []
noncomputable def slices_Clone_Ring.f (k : Nat) (a0 : List (Int × Int)) : Option slices_Clone_Ring.N := (if 0 < a0.length then if ([] : List (Int × Int)).length + a0.length < 549755813888 then some (([] : List (Int × Int)) ++ a0) else none else allSame [true, false] (fun (t1 : Bool) => (if t1 = true then some [] else if ([] : List (Int × Int)).length + a0.length < 549755813888 then some (([] : List (Int × Int)) ++ a0) else none)))
noncomputable def slices_Clone_Ring.F (k : Nat) : Go.Rv.Fn := mkFn 1 slices_Clone_Ring.pc slices_Clone_Ring.pr (keepOf []) (fun (y : slices_Clone_Ring.N) => (((y, ()), ()) : compT slices_Clone_Ring.pr)) fun x => slices_Clone_Ring.f k x.1.1
theorem slices_Clone_Ring.env (k : Nat) : EnvOk Go.Proofs.Try.prog (fun f => (slices_Clone_Ring.E k).lookup f) := envOk_of trivial
theorem slices_Clone_Ring.ok (k : Nat) : FnOk Go.Proofs.Try.prog 92 (slices_Clone_Ring.F k) :=
  fn_ok tab (slices_Clone_Ring.env k) Go.Proofs.Try.func92 rfl (n := 1) (Nat.le_of_ble_eq_true rfl) (by kernel_rfl) (outs := []) (by kernel_rfl) (by kernel_rfl) (d := fun (y : compT slices_Clone_Ring.pr) => (y.1.1 : slices_Clone_Ring.N)) (fun _ => rfl) (C := fun _ => []) (k := k) noCuts fun x => by kernel_rfl
/-! impl.search$1 -/
@[reducible] def impl_search_1_BestTube_1_search_1.bs : BoxPs := [(3, [.bool]), (4, [(.int .i64)]), (5, [(.own (.pair (.int .i64) (.int .i64)))])]
abbrev impl_search_1_BestTube_1_search_1.hand : List (Nat × Bool) := [(1, true), (2, true), (3, false), (4, false), (5, false), (6, true), (7, true)]
@[reducible] def impl_search_1_BestTube_1_search_1.pc : CutP := [(0, some false, [.fl (.lo (.pair (.int .i64) (.int .i64)))]), (1, none, [.fl (.int .i64)]), (2, none, [.fn 56 [[(.int .i64), (.int .i64), (.int .i64), (.int .i64), (.lo (.pair (.int .i64) (.pair (.int .i64) (.int .i64))))], [(.int .i64)], [(.int .i64), (.int .i64), (.int .i64), (.int .i64)]]]), (3, none, [.fl .bool]), (4, none, [.fl (.int .i64)]), (5, none, [.fl (.own (.pair (.int .i64) (.int .i64)))]), (6, none, [.fl (.int .i64), .fl (.int .i64)]), (7, none, [.fn 91 [[(.ptr 1 0)], [(.ptr 2 0)], [(.ptr 3 0)], [(.ptr 4 0)], [(.ptr 5 0)], [(.ptr 6 0)], [(.ptr 7 0)]]])]
@[reducible] def impl_search_1_BestTube_1_search_1.pr : CompPs := []
abbrev impl_search_1_BestTube_1_search_1.N := Bool × Int × List (Int × Int)
noncomputable def impl_search_1_BestTube_1_search_1.G (rec : List (Int × Int) → Int → Int → Int → Int → Int → List (Int × Int × Int) → Int → Int → Int → Int → Int → Bool → Int → List (Int × Int) → Int → Int → Option impl_search_1_BestTube_1_search_1.N) : Go.Rv.Fn := mkFnH 8 impl_search_1_BestTube_1_search_1.hand impl_search_1_BestTube_1_search_1.pc impl_search_1_BestTube_1_search_1.pr impl_search_1_BestTube_1_search_1.bs (fun (y : impl_search_1_BestTube_1_search_1.N) => (((()), ((y.1, ()), (y.2.1, ()), (y.2.2, ()), ())) : compT impl_search_1_BestTube_1_search_1.pr × boxPT impl_search_1_BestTube_1_search_1.bs)) fun x => rec x.1.1 x.2.1.1 x.2.2.1.1.1.1 x.2.2.1.1.1.2.1 x.2.2.1.1.1.2.2.1 x.2.2.1.1.1.2.2.2.1 x.2.2.1.1.1.2.2.2.2.1 x.2.2.1.1.2.1.1 x.2.2.1.1.2.2.1.1 x.2.2.1.1.2.2.1.2.1 x.2.2.1.1.2.2.1.2.2.1 x.2.2.1.1.2.2.1.2.2.2.1 x.2.2.2.1.1 x.2.2.2.2.1.1 x.2.2.2.2.2.1.1 x.2.2.2.2.2.2.1.1 x.2.2.2.2.2.2.1.2.1
noncomputable def impl_search_1_BestTube_1_search_1.E (k : Nat) (rec : List (Int × Int) → Int → Int → Int → Int → Int → List (Int × Int × Int) → Int → Int → Int → Int → Int → Bool → Int → List (Int × Int) → Int → Int → Option impl_search_1_BestTube_1_search_1.N) : List (FuncId × Go.Rv.Fn) := [(56, impl_BestTube_1.F k), (64, impl_meeting.F k), (92, slices_Clone_Ring.F k), (91, impl_search_1_BestTube_1_search_1.G rec)]
abbrev impl_search_1_BestTube_1_search_1.Cs := (List (Int × Int) → Int → Int → Int → Int → Int → List (Int × Int × Int) → Int → Int → Int → Int → Int → Bool → Int → List (Int × Int) → Int → Int → Int → Int → Option impl_search_1_BestTube_1_search_1.N) × (List (Int × Int) → Int → Int → Int → Int → Int → List (Int × Int × Int) → Int → Int → Int → Int → Int → Bool → Int → List (Int × Int) → Int → Int → Int → Int → Int → Option impl_search_1_BestTube_1_search_1.N) × (List (Int × Int) → Int → Int → Int → Int → Int → List (Int × Int × Int) → Int → Int → Int → Int → Int → Bool → Int → List (Int × Int) → Int → Int → Int → Int → Int → Int → Option impl_search_1_BestTube_1_search_1.N)
def impl_search_1_BestTube_1_search_1.zero : impl_search_1_BestTube_1_search_1.Cs := (fun _ _ _ _ _ _ _ _ _ _ _ _ _ _ _ _ _ _ _ => none, fun _ _ _ _ _ _ _ _ _ _ _ _ _ _ _ _ _ _ _ _ => none, fun _ _ _ _ _ _ _ _ _ _ _ _ _ _ _ _ _ _ _ _ _ => none)
noncomputable def impl_search_1_BestTube_1_search_1.step (k : Nat) (rec : List (Int × Int) → Int → Int → Int → Int → Int → List (Int × Int × Int) → Int → Int → Int → Int → Int → Bool → Int → List (Int × Int) → Int → Int → Option impl_search_1_BestTube_1_search_1.N) (c : impl_search_1_BestTube_1_search_1.Cs) : impl_search_1_BestTube_1_search_1.Cs := (fun (x0 : List (Int × Int)) (x1 : Int) (x2 : Int) (x3 : Int) (x4 : Int) (x5 : Int) (x6 : List (Int × Int × Int)) (x7 : Int) (x8 : Int) (x9 : Int) (x10 : Int) (x11 : Int) (x12 : Bool) (x13 : Int) (x14 : List (Int × Int)) (x15 : Int) (x16 : Int) (x17 : Int) (x18 : Int) => c.2.1 x0 x1 x2 x3 x4 x5 x6 x7 x8 x9 x10 x11 x12 x13 x14 x15 x16 x17 x18 0,
  fun (x0 : List (Int × Int)) (x1 : Int) (x2 : Int) (x3 : Int) (x4 : Int) (x5 : Int) (x6 : List (Int × Int × Int)) (x7 : Int) (x8 : Int) (x9 : Int) (x10 : Int) (x11 : Int) (x12 : Bool) (x13 : Int) (x14 : List (Int × Int)) (x15 : Int) (x16 : Int) (x17 : Int) (x18 : Int) (x19 : Int) => (if (decide (x19 ≤ 1)) = true then c.2.2 x0 x1 x2 x3 x4 x5 x6 x7 x8 x9 x10 x11 x12 x13 x14 x15 x16 x17 x18 x19 0 else some (x12, x13, x14)),
  fun (x0 : List (Int × Int)) (x1 : Int) (x2 : Int) (x3 : Int) (x4 : Int) (x5 : Int) (x6 : List (Int × Int × Int)) (x7 : Int) (x8 : Int) (x9 : Int) (x10 : Int) (x11 : Int) (x12 : Bool) (x13 : Int) (x14 : List (Int × Int)) (x15 : Int) (x16 : Int) (x17 : Int) (x18 : Int) (x19 : Int) (x20 : Int) => (if (decide (x20 < 16)) = true then (impl_meeting.f k x17 x18 x19 x20).bind fun t4 => (if (decide ((t4.length : Int) = 0)) = true then (slices_Clone_Ring.f k x0).bind fun t5 => if t5.length + [(x19, x20)].length < 549755813888 then (rec (t5 ++ [(x19, x20)]) x1 x2 x3 x4 x5 x6 x7 x8 x9 x10 x11 x12 x13 x14 x15 x16).bind fun t6 => c.2.2 x0 x1 x2 x3 x4 x5 x6 x7 x8 x9 x10 x11 t6.1 t6.2.1 t6.2.2 x15 x16 x17 x18 x19 (wrap64 (x20 + 1)) else none else c.2.2 x0 x1 x2 x3 x4 x5 x6 x7 x8 x9 x10 x11 x12 x13 x14 x15 x16 x17 x18 x19 (wrap64 (x20 + 1))) else c.2.1 x0 x1 x2 x3 x4 x5 x6 x7 x8 x9 x10 x11 x12 x13 x14 x15 x16 x17 x18 (wrap64 (x19 + 1))))
noncomputable def impl_search_1_BestTube_1_search_1.cs (k : Nat) (rec : List (Int × Int) → Int → Int → Int → Int → Int → List (Int × Int × Int) → Int → Int → Int → Int → Int → Bool → Int → List (Int × Int) → Int → Int → Option impl_search_1_BestTube_1_search_1.N) : Nat → impl_search_1_BestTube_1_search_1.Cs
  | 0 => impl_search_1_BestTube_1_search_1.zero
  | n + 1 => impl_search_1_BestTube_1_search_1.step k rec (impl_search_1_BestTube_1_search_1.cs k rec n)
def impl_search_1_BestTube_1_search_1.CC (c : impl_search_1_BestTube_1_search_1.Cs) : Cuts impl_search_1_BestTube_1_search_1.N := [(16, ⟨[(0, some false, [.fl (.lo (.pair (.int .i64) (.int .i64)))]), (1, none, [.fl (.int .i64)]), (2, none, [.fn 56 [[(.int .i64), (.int .i64), (.int .i64), (.int .i64), (.lo (.pair (.int .i64) (.pair (.int .i64) (.int .i64))))], [(.int .i64)], [(.int .i64), (.int .i64), (.int .i64), (.int .i64)]]]), (3, none, [.fl .bool]), (4, none, [.fl (.int .i64)]), (5, none, [.fl (.own (.pair (.int .i64) (.int .i64)))]), (6, none, [.fl (.int .i64), .fl (.int .i64)]), (7, none, [.fn 91 [[(.ptr 1 0)], [(.ptr 2 0)], [(.ptr 3 0)], [(.ptr 4 0)], [(.ptr 5 0)], [(.ptr 6 0)], [(.ptr 7 0)]]]), (11, none, [.fl (.int .i64), .fl (.int .i64)])], fun x => c.1 x.1.1 x.2.1.1 x.2.2.1.1.1.1 x.2.2.1.1.1.2.1 x.2.2.1.1.1.2.2.1 x.2.2.1.1.1.2.2.2.1 x.2.2.1.1.1.2.2.2.2.1 x.2.2.1.1.2.1.1 x.2.2.1.1.2.2.1.1 x.2.2.1.1.2.2.1.2.1 x.2.2.1.1.2.2.1.2.2.1 x.2.2.1.1.2.2.1.2.2.2.1 x.2.2.2.1.1 x.2.2.2.2.1.1 x.2.2.2.2.2.1.1 x.2.2.2.2.2.2.1.1 x.2.2.2.2.2.2.1.2.1 x.2.2.2.2.2.2.2.2.1.1 x.2.2.2.2.2.2.2.2.1.2.1⟩),
  (25, ⟨[(0, some false, [.fl (.lo (.pair (.int .i64) (.int .i64)))]), (1, none, [.fl (.int .i64)]), (2, none, [.fn 56 [[(.int .i64), (.int .i64), (.int .i64), (.int .i64), (.lo (.pair (.int .i64) (.pair (.int .i64) (.int .i64))))], [(.int .i64)], [(.int .i64), (.int .i64), (.int .i64), (.int .i64)]]]), (3, none, [.fl .bool]), (4, none, [.fl (.int .i64)]), (5, none, [.fl (.own (.pair (.int .i64) (.int .i64)))]), (6, none, [.fl (.int .i64), .fl (.int .i64)]), (7, none, [.fn 91 [[(.ptr 1 0)], [(.ptr 2 0)], [(.ptr 3 0)], [(.ptr 4 0)], [(.ptr 5 0)], [(.ptr 6 0)], [(.ptr 7 0)]]]), (11, none, [.fl (.int .i64), .fl (.int .i64)]), (12, some false, [.fl (.int .i64)])], fun x => c.2.1 x.1.1 x.2.1.1 x.2.2.1.1.1.1 x.2.2.1.1.1.2.1 x.2.2.1.1.1.2.2.1 x.2.2.1.1.1.2.2.2.1 x.2.2.1.1.1.2.2.2.2.1 x.2.2.1.1.2.1.1 x.2.2.1.1.2.2.1.1 x.2.2.1.1.2.2.1.2.1 x.2.2.1.1.2.2.1.2.2.1 x.2.2.1.1.2.2.1.2.2.2.1 x.2.2.2.1.1 x.2.2.2.2.1.1 x.2.2.2.2.2.1.1 x.2.2.2.2.2.2.1.1 x.2.2.2.2.2.2.1.2.1 x.2.2.2.2.2.2.2.2.1.1 x.2.2.2.2.2.2.2.2.1.2.1 x.2.2.2.2.2.2.2.2.2.1.1⟩),
  (37, ⟨[(0, some false, [.fl (.lo (.pair (.int .i64) (.int .i64)))]), (1, none, [.fl (.int .i64)]), (2, none, [.fn 56 [[(.int .i64), (.int .i64), (.int .i64), (.int .i64), (.lo (.pair (.int .i64) (.pair (.int .i64) (.int .i64))))], [(.int .i64)], [(.int .i64), (.int .i64), (.int .i64), (.int .i64)]]]), (3, none, [.fl .bool]), (4, none, [.fl (.int .i64)]), (5, none, [.fl (.own (.pair (.int .i64) (.int .i64)))]), (6, none, [.fl (.int .i64), .fl (.int .i64)]), (7, none, [.fn 91 [[(.ptr 1 0)], [(.ptr 2 0)], [(.ptr 3 0)], [(.ptr 4 0)], [(.ptr 5 0)], [(.ptr 6 0)], [(.ptr 7 0)]]]), (11, none, [.fl (.int .i64), .fl (.int .i64)]), (12, some false, [.fl (.int .i64)]), (52, some false, [.fl (.int .i64)])], fun x => c.2.2 x.1.1 x.2.1.1 x.2.2.1.1.1.1 x.2.2.1.1.1.2.1 x.2.2.1.1.1.2.2.1 x.2.2.1.1.1.2.2.2.1 x.2.2.1.1.1.2.2.2.2.1 x.2.2.1.1.2.1.1 x.2.2.1.1.2.2.1.1 x.2.2.1.1.2.2.1.2.1 x.2.2.1.1.2.2.1.2.2.1 x.2.2.1.1.2.2.1.2.2.2.1 x.2.2.2.1.1 x.2.2.2.2.1.1 x.2.2.2.2.2.1.1 x.2.2.2.2.2.2.1.1 x.2.2.2.2.2.2.1.2.1 x.2.2.2.2.2.2.2.2.1.1 x.2.2.2.2.2.2.2.2.1.2.1 x.2.2.2.2.2.2.2.2.2.1.1 x.2.2.2.2.2.2.2.2.2.2.1.1⟩)]
noncomputable def impl_search_1_BestTube_1_search_1.body (k : Nat) (rec : List (Int × Int) → Int → Int → Int → Int → Int → List (Int × Int × Int) → Int → Int → Int → Int → Int → Bool → Int → List (Int × Int) → Int → Int → Option impl_search_1_BestTube_1_search_1.N) (a0 : List (Int × Int)) (a1 : Int) (a2 : Int) (a3 : Int) (a4 : Int) (a5 : Int) (a6 : List (Int × Int × Int)) (a7 : Int) (a8 : Int) (a9 : Int) (a10 : Int) (a11 : Int) (a12 : Bool) (a13 : Int) (a14 : List (Int × Int)) (a15 : Int) (a16 : Int) : Option impl_search_1_BestTube_1_search_1.N := (if (decide ((a0.length : Int) = a1)) = true then (impl_BestTube_1.f k a0 a2 a3 a4 a5 a6 a7 a8 a9 a10 a11).bind fun t1 => (if t1.2 = true then (if (!a12) = true then (slices_Clone_Ring.f k a0).bind fun t2 => some (true, t1.1, t2) else (if (decide (t1.1 < a13)) = true then (slices_Clone_Ring.f k a0).bind fun t3 => some (true, t1.1, t3) else some (a12, a13, a14))) else some (a12, a13, a14)) else (if (decide (0 < (a0.length : Int))) = true then if 0 ≤ (wrap64 ((a0.length : Int) - 1)) then if (wrap64 ((a0.length : Int) - 1)) < (a0.length : Int) then (impl_search_1_BestTube_1_search_1.cs k rec k).1 a0 a1 a2 a3 a4 a5 a6 a7 a8 a9 a10 a11 a12 a13 a14 a15 a16 ((rd (0, 0) a0 (wrap64 ((a0.length : Int) - 1))).1) ((rd (0, 0) a0 (wrap64 ((a0.length : Int) - 1))).2) else none else none else (impl_search_1_BestTube_1_search_1.cs k rec k).1 a0 a1 a2 a3 a4 a5 a6 a7 a8 a9 a10 a11 a12 a13 a14 a15 a16 a15 a16))
noncomputable def impl_search_1_BestTube_1_search_1.fr (k : Nat) : Nat → List (Int × Int) → Int → Int → Int → Int → Int → List (Int × Int × Int) → Int → Int → Int → Int → Int → Bool → Int → List (Int × Int) → Int → Int → Option impl_search_1_BestTube_1_search_1.N
  | 0 => fun _ _ _ _ _ _ _ _ _ _ _ _ _ _ _ _ _ => none
  | n + 1 => impl_search_1_BestTube_1_search_1.body k (impl_search_1_BestTube_1_search_1.fr k n)
noncomputable def impl_search_1_BestTube_1_search_1.f (k : Nat) (a0 : List (Int × Int)) (a1 : Int) (a2 : Int) (a3 : Int) (a4 : Int) (a5 : Int) (a6 : List (Int × Int × Int)) (a7 : Int) (a8 : Int) (a9 : Int) (a10 : Int) (a11 : Int) (a12 : Bool) (a13 : Int) (a14 : List (Int × Int)) (a15 : Int) (a16 : Int) : Option impl_search_1_BestTube_1_search_1.N := impl_search_1_BestTube_1_search_1.fr k k a0 a1 a2 a3 a4 a5 a6 a7 a8 a9 a10 a11 a12 a13 a14 a15 a16
noncomputable def impl_search_1_BestTube_1_search_1.F (k : Nat) : Go.Rv.Fn := impl_search_1_BestTube_1_search_1.G (impl_search_1_BestTube_1_search_1.f k)
theorem impl_search_1_BestTube_1_search_1.cuts (k : Nat) (rec : List (Int × Int) → Int → Int → Int → Int → Int → List (Int × Int × Int) → Int → Int → Int → Int → Int → Bool → Int → List (Int × Int) → Int → Int → Option impl_search_1_BestTube_1_search_1.N) : CutsOkG Go.Proofs.Try.prog { X with n := Go.Proofs.Try.f91.ntmps, keep := handN impl_search_1_BestTube_1_search_1.hand, ro := roOf impl_search_1_BestTube_1_search_1.hand } (fun f => (impl_search_1_BestTube_1_search_1.E k rec).lookup f) Go.Proofs.Try.f91 (endH { X with n := Go.Proofs.Try.f91.ntmps, keep := handN impl_search_1_BestTube_1_search_1.hand, ro := roOf impl_search_1_BestTube_1_search_1.hand } Go.Proofs.Try.f91 impl_search_1_BestTube_1_search_1.pr impl_search_1_BestTube_1_search_1.bs (fun (y : compT impl_search_1_BestTube_1_search_1.pr × boxPT impl_search_1_BestTube_1_search_1.bs) => ((y.2.1.1, y.2.2.1.1, y.2.2.2.1.1) : impl_search_1_BestTube_1_search_1.N))) fun n => impl_search_1_BestTube_1_search_1.CC (impl_search_1_BestTube_1_search_1.cs k rec n) :=
  cutsOkG_of (step := impl_search_1_BestTube_1_search_1.step k rec) rfl (fun _ => rfl) ⟨fun _ => rfl, fun _ => rfl, fun _ => rfl, trivial⟩ (fun c => by kernel_rfl) fun c => ⟨fun x => by kernel_rfl, fun x => by kernel_rfl, fun x => by kernel_rfl, trivial⟩
theorem impl_search_1_BestTube_1_search_1.okb (k : Nat) (rec : List (Int × Int) → Int → Int → Int → Int → Int → List (Int × Int × Int) → Int → Int → Int → Int → Int → Bool → Int → List (Int × Int) → Int → Int → Option impl_search_1_BestTube_1_search_1.N) (hr : FnOkH Go.Proofs.Try.prog 91 (impl_search_1_BestTube_1_search_1.G rec)) : FnOkH Go.Proofs.Try.prog 91 (impl_search_1_BestTube_1_search_1.G (impl_search_1_BestTube_1_search_1.body k rec)) :=
  fn_okH (E := fun f => (impl_search_1_BestTube_1_search_1.E k rec).lookup f) tab (envOk_of ⟨entry Go.Proofs.Try.call56 rfl (impl_BestTube_1.ok k), entry Go.Proofs.Try.call64 rfl (impl_meeting.ok k), entry Go.Proofs.Try.call92 rfl (slices_Clone_Ring.ok k), entryH Go.Proofs.Try.call91 rfl hr, trivial⟩) Go.Proofs.Try.func91 rfl (n := 8) (Nat.le_of_ble_eq_true rfl) (by kernel_rfl) (by kernel_rfl) (by kernel_rfl) (by kernel_rfl) rfl (d := fun (y : compT impl_search_1_BestTube_1_search_1.pr × boxPT impl_search_1_BestTube_1_search_1.bs) => ((y.2.1.1, y.2.2.1.1, y.2.2.2.1.1) : impl_search_1_BestTube_1_search_1.N)) (fun _ => rfl) (C := fun n => impl_search_1_BestTube_1_search_1.CC (impl_search_1_BestTube_1_search_1.cs k rec n)) (k := k) (impl_search_1_BestTube_1_search_1.cuts k rec) fun x => by kernel_rfl
theorem impl_search_1_BestTube_1_search_1.okr (k : Nat) : ∀ n, FnOkH Go.Proofs.Try.prog 91 (impl_search_1_BestTube_1_search_1.G (impl_search_1_BestTube_1_search_1.fr k n))
  | 0 => fnOkH_none fun _ => rfl
  | n + 1 => impl_search_1_BestTube_1_search_1.okb k _ (impl_search_1_BestTube_1_search_1.okr k n)
theorem impl_search_1_BestTube_1_search_1.ok (k : Nat) : FnOkH Go.Proofs.Try.prog 91 (impl_search_1_BestTube_1_search_1.F k) := impl_search_1_BestTube_1_search_1.okr k k
/-! impl.search -/
@[reducible] def impl_search_BestTube_1.pc : CutP := [(0, some true, [.fl (.int .i64), .fl (.int .i64)]), (1, some false, [.fl (.int .i64)]), (2, some false, [.fn 56 [[(.int .i64), (.int .i64), (.int .i64), (.int .i64), (.lo (.pair (.int .i64) (.pair (.int .i64) (.int .i64))))], [(.int .i64)], [(.int .i64), (.int .i64), (.int .i64), (.int .i64)]]])]
@[reducible] def impl_search_BestTube_1.pr : CompPs := [(false, [.fl (.own (.pair (.int .i64) (.int .i64)))]), (false, [.fl (.int .i64)]), (false, [.fl .bool])]
abbrev impl_search_BestTube_1.N := List (Int × Int) × Int × Bool
noncomputable def impl_search_BestTube_1.E (k : Nat) : List (FuncId × Go.Rv.Fn) := [(52, impl_within.F k), (63, impl_ValidRing.F k), (91, impl_search_1_BestTube_1_search_1.F k)]
abbrev impl_search_BestTube_1.Cs := (Int → Int → Int → Int → Int → Int → Int → List (Int × Int × Int) → Int → Int → Int → Int → Int → Option impl_search_BestTube_1.N)
def impl_search_BestTube_1.zero : impl_search_BestTube_1.Cs := (fun _ _ _ _ _ _ _ _ _ _ _ _ _ => none)
noncomputable def impl_search_BestTube_1.step (k : Nat) (c : impl_search_BestTube_1.Cs) : impl_search_BestTube_1.Cs := (fun (x0 : Int) (x1 : Int) (x2 : Int) (x3 : Int) (x4 : Int) (x5 : Int) (x6 : Int) (x7 : List (Int × Int × Int)) (x8 : Int) (x9 : Int) (x10 : Int) (x11 : Int) (x12 : Int) => (impl_search_1_BestTube_1_search_1.f k [] x2 x3 x4 x5 x6 x7 x8 x9 x10 x11 x12 false 0 ([] : List (Int × Int)) x0 x1).bind fun t3 => some (t3.2.2, t3.2.1, t3.1))
noncomputable def impl_search_BestTube_1.cs (k : Nat) : Nat → impl_search_BestTube_1.Cs
  | 0 => impl_search_BestTube_1.zero
  | n + 1 => impl_search_BestTube_1.step k (impl_search_BestTube_1.cs k n)
def impl_search_BestTube_1.CC (c : impl_search_BestTube_1.Cs) : Cuts impl_search_BestTube_1.N := [(2, ⟨[(3, none, [.fl (.int .i64), .fl (.int .i64)]), (4, none, [.fl (.int .i64)]), (5, none, [.fn 56 [[(.int .i64), (.int .i64), (.int .i64), (.int .i64), (.lo (.pair (.int .i64) (.pair (.int .i64) (.int .i64))))], [(.int .i64)], [(.int .i64), (.int .i64), (.int .i64), (.int .i64)]]])], fun x => c x.1.1 x.1.2.1 x.2.1.1 x.2.2.1.1.1.1 x.2.2.1.1.1.2.1 x.2.2.1.1.1.2.2.1 x.2.2.1.1.1.2.2.2.1 x.2.2.1.1.1.2.2.2.2.1 x.2.2.1.1.2.1.1 x.2.2.1.1.2.2.1.1 x.2.2.1.1.2.2.1.2.1 x.2.2.1.1.2.2.1.2.2.1 x.2.2.1.1.2.2.1.2.2.2.1⟩)]
noncomputable def impl_search_BestTube_1.f (k : Nat) (a0 : Int) (a1 : Int) (a2 : Int) (a3 : Int) (a4 : Int) (a5 : Int) (a6 : Int) (a7 : List (Int × Int × Int)) (a8 : Int) (a9 : Int) (a10 : Int) (a11 : Int) (a12 : Int) : Option impl_search_BestTube_1.N := (impl_ValidRing.f k a0 a1).bind fun t1 => (if (!t1) = true then some ([], 0, false) else (impl_within.f k a2 1 4).bind fun t2 => (if (!t2) = true then some ([], 0, false) else (impl_search_BestTube_1.cs k k) a0 a1 a2 a3 a4 a5 a6 a7 a8 a9 a10 a11 a12))
noncomputable def impl_search_BestTube_1.F (k : Nat) : Go.Rv.Fn := mkFn 3 impl_search_BestTube_1.pc impl_search_BestTube_1.pr (keepOf []) (fun (y : impl_search_BestTube_1.N) => (((y.1, ()), (y.2.1, ()), (y.2.2, ()), ()) : compT impl_search_BestTube_1.pr)) fun x => impl_search_BestTube_1.f k x.1.1 x.1.2.1 x.2.1.1 x.2.2.1.1.1.1 x.2.2.1.1.1.2.1 x.2.2.1.1.1.2.2.1 x.2.2.1.1.1.2.2.2.1 x.2.2.1.1.1.2.2.2.2.1 x.2.2.1.1.2.1.1 x.2.2.1.1.2.2.1.1 x.2.2.1.1.2.2.1.2.1 x.2.2.1.1.2.2.1.2.2.1 x.2.2.1.1.2.2.1.2.2.2.1
theorem impl_search_BestTube_1.env (k : Nat) : EnvOk Go.Proofs.Try.prog (fun f => (impl_search_BestTube_1.E k).lookup f) := envOk_of ⟨entry Go.Proofs.Try.call52 rfl (impl_within.ok k), entry Go.Proofs.Try.call63 rfl (impl_ValidRing.ok k), entryH Go.Proofs.Try.call91 rfl (impl_search_1_BestTube_1_search_1.ok k), trivial⟩
theorem impl_search_BestTube_1.cuts (k : Nat) : CutsOk Go.Proofs.Try.prog X (fun f => (impl_search_BestTube_1.E k).lookup f) Go.Proofs.Try.f55 [] (decN impl_search_BestTube_1.pr (fun (y : compT impl_search_BestTube_1.pr) => ((y.1.1, y.2.1.1, y.2.2.1.1) : impl_search_BestTube_1.N))) fun n => impl_search_BestTube_1.CC (impl_search_BestTube_1.cs k n) :=
  cutsOk_of (step := impl_search_BestTube_1.step k) rfl (fun _ => rfl) ⟨fun _ => rfl, trivial⟩ (fun c => by kernel_rfl) fun c => ⟨fun x => by kernel_rfl, trivial⟩
theorem impl_search_BestTube_1.ok (k : Nat) : FnOk Go.Proofs.Try.prog 55 (impl_search_BestTube_1.F k) :=
  fn_ok tab (impl_search_BestTube_1.env k) Go.Proofs.Try.func55 rfl (n := 3) (Nat.le_of_ble_eq_true rfl) (by kernel_rfl) (outs := []) (by kernel_rfl) (by kernel_rfl) (d := fun (y : compT impl_search_BestTube_1.pr) => ((y.1.1, y.2.1.1, y.2.2.1.1) : impl_search_BestTube_1.N)) (fun _ => rfl) (C := fun n => impl_search_BestTube_1.CC (impl_search_BestTube_1.cs k n)) (k := k) (impl_search_BestTube_1.cuts k) fun x => by kernel_rfl
/-! impl.found -/
@[reducible] def impl_found.pc : CutP := [(0, some false, [.fl (.own (.pair (.int .i64) (.int .i64)))]), (1, some false, [.fl (.int .i64)]), (2, some false, [.fl .bool])]
@[reducible] def impl_found.pr : CompPs := [(false, [.fl (.own (.pair (.int .i64) (.int .i64)))]), (false, [.fl (.int .i64)]), (false, [.fl .bool]), (false, [.fl .dead])]
abbrev impl_found.N := List (Int × Int) × Int × Bool
noncomputable def impl_found.E (k : Nat) : List (FuncId × Go.Rv.Fn) := []
noncomputable def impl_found.f (k : Nat) (a0 : List (Int × Int)) (a1 : Int) (a2 : Bool) : Option impl_found.N := (if (!a2) = true then some ([], 0, false) else some (a0, a1, true))
noncomputable def impl_found.F (k : Nat) : Go.Rv.Fn := mkFn 3 impl_found.pc impl_found.pr (keepOf [(0, 1)]) (fun (y : impl_found.N) => (((y.1, ()), (y.2.1, ()), (y.2.2, ()), ((), ()), ()) : compT impl_found.pr)) fun x => impl_found.f k x.1.1 x.2.1.1 x.2.2.1.1
theorem impl_found.env (k : Nat) : EnvOk Go.Proofs.Try.prog (fun f => (impl_found.E k).lookup f) := envOk_of trivial
theorem impl_found.ok (k : Nat) : FnOk Go.Proofs.Try.prog 54 (impl_found.F k) :=
  fn_ok tab (impl_found.env k) Go.Proofs.Try.func54 rfl (n := 3) (Nat.le_of_ble_eq_true rfl) (by kernel_rfl) (outs := [(0, 1)]) (by kernel_rfl) (by kernel_rfl) (d := fun (y : compT impl_found.pr) => ((y.1.1, y.2.1.1, y.2.2.1.1) : impl_found.N)) (fun _ => rfl) (C := fun _ => []) (k := k) noCuts fun x => by kernel_rfl
/-! impl.BestTube -/
@[reducible] def impl_BestTube.pc : CutP := [(0, some true, [.fl (.int .i64), .fl (.int .i64), .fl (.int .i64), .fl (.int .i64), .fl (.lo (.pair (.int .i64) (.pair (.int .i64) (.int .i64))))]), (1, some false, [.fl (.int .i64)]), (2, some true, [.fl (.int .i64), .fl (.int .i64), .fl (.int .i64), .fl (.int .i64)]), (3, some true, [.fl (.int .i64), .fl (.int .i64)]), (4, some false, [.fl (.int .i64)])]
@[reducible] def impl_BestTube.pr : CompPs := [(false, [.fl (.own (.pair (.int .i64) (.int .i64)))]), (false, [.fl (.int .i64)]), (false, [.fl .bool])]
abbrev impl_BestTube.N := List (Int × Int) × Int × Bool
noncomputable def impl_BestTube.E (k : Nat) : List (FuncId × Go.Rv.Fn) := [(51, impl_Axis_poses.F k), (52, impl_within.F k), (53, impl_ValidPose.F k), (54, impl_found.F k), (55, impl_search_BestTube_1.F k)]
noncomputable def impl_BestTube.f (k : Nat) (a0 : Int) (a1 : Int) (a2 : Int) (a3 : Int) (a4 : List (Int × Int × Int)) (a5 : Int) (a6 : Int) (a7 : Int) (a8 : Int) (a9 : Int) (a10 : Int) (a11 : Int) (a12 : Int) : Option impl_BestTube.N := (impl_Axis_poses.f k a0 a1 a2 a3 a4).bind fun t1 => (if (!t1.2) = true then some ([], 0, false) else (impl_within.f k a5 0 (wrap64 ((t1.1.length : Int) - 1))).bind fun t2 => (if (!t2) = true then some ([], 0, false) else (impl_ValidPose.f k a6 a7 a8 a9).bind fun t3 => (if (!t3) = true then some ([], 0, false) else (impl_within.f k a12 1 4).bind fun t4 => (if (!t4) = true then some ([], 0, false) else (if (decide ((t1.1.length : Int) ≤ (wrap64 (a5 + a12)))) = true then some ([], 0, false) else (impl_search_BestTube_1.f k a10 a11 a12 a0 a1 a2 a3 a4 a5 a6 a7 a8 a9).bind fun t5 => (impl_found.f k t5.1 t5.2.1 t5.2.2).bind fun t6 => some (t6.1, t6.2.1, t6.2.2))))))
noncomputable def impl_BestTube.F (k : Nat) : Go.Rv.Fn := mkFn 5 impl_BestTube.pc impl_BestTube.pr (keepOf []) (fun (y : impl_BestTube.N) => (((y.1, ()), (y.2.1, ()), (y.2.2, ()), ()) : compT impl_BestTube.pr)) fun x => impl_BestTube.f k x.1.1 x.1.2.1 x.1.2.2.1 x.1.2.2.2.1 x.1.2.2.2.2.1 x.2.1.1 x.2.2.1.1 x.2.2.1.2.1 x.2.2.1.2.2.1 x.2.2.1.2.2.2.1 x.2.2.2.1.1 x.2.2.2.1.2.1 x.2.2.2.2.1.1
theorem impl_BestTube.env (k : Nat) : EnvOk Go.Proofs.Try.prog (fun f => (impl_BestTube.E k).lookup f) := envOk_of ⟨entry Go.Proofs.Try.call51 rfl (impl_Axis_poses.ok k), entry Go.Proofs.Try.call52 rfl (impl_within.ok k), entry Go.Proofs.Try.call53 rfl (impl_ValidPose.ok k), entry Go.Proofs.Try.call54 rfl (impl_found.ok k), entry Go.Proofs.Try.call55 rfl (impl_search_BestTube_1.ok k), trivial⟩
theorem impl_BestTube.ok (k : Nat) : FnOk Go.Proofs.Try.prog 13 (impl_BestTube.F k) :=
  fn_ok tab (impl_BestTube.env k) Go.Proofs.Try.func13 rfl (n := 5) (Nat.le_of_ble_eq_true rfl) (by kernel_rfl) (outs := []) (by kernel_rfl) (by kernel_rfl) (d := fun (y : compT impl_BestTube.pr) => ((y.1.1, y.2.1.1, y.2.2.1.1) : impl_BestTube.N)) (fun _ => rfl) (C := fun _ => []) (k := k) noCuts fun x => by kernel_rfl
/-! laws.eqRing -/
@[reducible] def laws_eqRing.pc : CutP := [(0, some true, [.fl (.int .i64), .fl (.int .i64)]), (1, some true, [.fl (.int .i64), .fl (.int .i64)])]
@[reducible] def laws_eqRing.pr : CompPs := [(false, [.fl .bool])]
abbrev laws_eqRing.N := Bool
noncomputable def laws_eqRing.E (k : Nat) : List (FuncId × Go.Rv.Fn) := []
noncomputable def laws_eqRing.f (k : Nat) (a0 : Int) (a1 : Int) (a2 : Int) (a3 : Int) : Option laws_eqRing.N := (if (!decide (a0 = a2)) = true then some false else (if (!decide (a1 = a3)) = true then some false else some true))
noncomputable def laws_eqRing.F (k : Nat) : Go.Rv.Fn := mkFn 2 laws_eqRing.pc laws_eqRing.pr (keepOf []) (fun (y : laws_eqRing.N) => (((y, ()), ()) : compT laws_eqRing.pr)) fun x => laws_eqRing.f k x.1.1 x.1.2.1 x.2.1.1 x.2.1.2.1
theorem laws_eqRing.env (k : Nat) : EnvOk Go.Proofs.Try.prog (fun f => (laws_eqRing.E k).lookup f) := envOk_of trivial
theorem laws_eqRing.ok (k : Nat) : FnOk Go.Proofs.Try.prog 73 (laws_eqRing.F k) :=
  fn_ok tab (laws_eqRing.env k) Go.Proofs.Try.func73 rfl (n := 2) (Nat.le_of_ble_eq_true rfl) (by kernel_rfl) (outs := []) (by kernel_rfl) (by kernel_rfl) (d := fun (y : compT laws_eqRing.pr) => (y.1.1 : laws_eqRing.N)) (fun _ => rfl) (C := fun _ => []) (k := k) noCuts fun x => by kernel_rfl
/-! laws.eqRingS -/
@[reducible] def laws_eqRingS.pc : CutP := [(0, some false, [.fl (.lo (.pair (.int .i64) (.int .i64)))]), (1, some false, [.fl (.lo (.pair (.int .i64) (.int .i64)))])]
@[reducible] def laws_eqRingS.pr : CompPs := [(false, [.fl .bool])]
abbrev laws_eqRingS.N := Bool
noncomputable def laws_eqRingS.E (k : Nat) : List (FuncId × Go.Rv.Fn) := [(73, laws_eqRing.F k)]
abbrev laws_eqRingS.Cs := (List (Int × Int) → List (Int × Int) → Int → Option laws_eqRingS.N)
def laws_eqRingS.zero : laws_eqRingS.Cs := (fun _ _ _ => none)
noncomputable def laws_eqRingS.step (k : Nat) (c : laws_eqRingS.Cs) : laws_eqRingS.Cs := (fun (x0 : List (Int × Int)) (x1 : List (Int × Int)) (x2 : Int) => (if (decide (x2 < (x0.length : Int))) = true then if 0 ≤ x2 then if x2 < (x0.length : Int) then if 0 ≤ x2 then if x2 < (x1.length : Int) then (laws_eqRing.f k ((rd (0, 0) x0 x2).1) ((rd (0, 0) x0 x2).2) ((rd (0, 0) x1 x2).1) ((rd (0, 0) x1 x2).2)).bind fun t1 => (if (!t1) = true then some false else c x0 x1 (wrap64 (x2 + 1))) else none else none else none else none else some true))
noncomputable def laws_eqRingS.cs (k : Nat) : Nat → laws_eqRingS.Cs
  | 0 => laws_eqRingS.zero
  | n + 1 => laws_eqRingS.step k (laws_eqRingS.cs k n)
def laws_eqRingS.CC (c : laws_eqRingS.Cs) : Cuts laws_eqRingS.N := [(14, ⟨[(0, some false, [.fl (.lo (.pair (.int .i64) (.int .i64)))]), (1, some false, [.fl (.lo (.pair (.int .i64) (.int .i64)))]), (5, some false, [.fl (.int .i64)])], fun x => c x.1.1 x.2.1.1 x.2.2.1.1⟩)]
noncomputable def laws_eqRingS.f (k : Nat) (a0 : List (Int × Int)) (a1 : List (Int × Int)) : Option laws_eqRingS.N := (if (!decide ((a0.length : Int) = (a1.length : Int))) = true then some false else (laws_eqRingS.cs k k) a0 a1 0)
noncomputable def laws_eqRingS.F (k : Nat) : Go.Rv.Fn := mkFn 2 laws_eqRingS.pc laws_eqRingS.pr (keepOf []) (fun (y : laws_eqRingS.N) => (((y, ()), ()) : compT laws_eqRingS.pr)) fun x => laws_eqRingS.f k x.1.1 x.2.1.1
theorem laws_eqRingS.env (k : Nat) : EnvOk Go.Proofs.Try.prog (fun f => (laws_eqRingS.E k).lookup f) := envOk_of ⟨entry Go.Proofs.Try.call73 rfl (laws_eqRing.ok k), trivial⟩
theorem laws_eqRingS.cuts (k : Nat) : CutsOk Go.Proofs.Try.prog X (fun f => (laws_eqRingS.E k).lookup f) Go.Proofs.Try.f30 [] (decN laws_eqRingS.pr (fun (y : compT laws_eqRingS.pr) => (y.1.1 : laws_eqRingS.N))) fun n => laws_eqRingS.CC (laws_eqRingS.cs k n) :=
  cutsOk_of (step := laws_eqRingS.step k) rfl (fun _ => rfl) ⟨fun _ => rfl, trivial⟩ (fun c => by kernel_rfl) fun c => ⟨fun x => by kernel_rfl, trivial⟩
theorem laws_eqRingS.ok (k : Nat) : FnOk Go.Proofs.Try.prog 30 (laws_eqRingS.F k) :=
  fn_ok tab (laws_eqRingS.env k) Go.Proofs.Try.func30 rfl (n := 2) (Nat.le_of_ble_eq_true rfl) (by kernel_rfl) (outs := []) (by kernel_rfl) (by kernel_rfl) (d := fun (y : compT laws_eqRingS.pr) => (y.1.1 : laws_eqRingS.N)) (fun _ => rfl) (C := fun n => laws_eqRingS.CC (laws_eqRingS.cs k n)) (k := k) (laws_eqRingS.cuts k) fun x => by kernel_rfl
/-! laws.eqPose -/
@[reducible] def laws_eqPose.pc : CutP := [(0, some true, [.fl (.int .i64), .fl (.int .i64), .fl (.int .i64), .fl (.int .i64)]), (1, some true, [.fl (.int .i64), .fl (.int .i64), .fl (.int .i64), .fl (.int .i64)])]
@[reducible] def laws_eqPose.pr : CompPs := [(false, [.fl .bool])]
abbrev laws_eqPose.N := Bool
noncomputable def laws_eqPose.E (k : Nat) : List (FuncId × Go.Rv.Fn) := []
noncomputable def laws_eqPose.f (k : Nat) (a0 : Int) (a1 : Int) (a2 : Int) (a3 : Int) (a4 : Int) (a5 : Int) (a6 : Int) (a7 : Int) : Option laws_eqPose.N := (if (!decide (a0 = a4)) = true then some false else (if (!decide (a1 = a5)) = true then some false else (if (!decide (a2 = a6)) = true then some false else (if (!decide (a3 = a7)) = true then some false else some true))))
noncomputable def laws_eqPose.F (k : Nat) : Go.Rv.Fn := mkFn 2 laws_eqPose.pc laws_eqPose.pr (keepOf []) (fun (y : laws_eqPose.N) => (((y, ()), ()) : compT laws_eqPose.pr)) fun x => laws_eqPose.f k x.1.1 x.1.2.1 x.1.2.2.1 x.1.2.2.2.1 x.2.1.1 x.2.1.2.1 x.2.1.2.2.1 x.2.1.2.2.2.1
theorem laws_eqPose.env (k : Nat) : EnvOk Go.Proofs.Try.prog (fun f => (laws_eqPose.E k).lookup f) := envOk_of trivial
theorem laws_eqPose.ok (k : Nat) : FnOk Go.Proofs.Try.prog 72 (laws_eqPose.F k) :=
  fn_ok tab (laws_eqPose.env k) Go.Proofs.Try.func72 rfl (n := 2) (Nat.le_of_ble_eq_true rfl) (by kernel_rfl) (outs := []) (by kernel_rfl) (by kernel_rfl) (d := fun (y : compT laws_eqPose.pr) => (y.1.1 : laws_eqPose.N)) (fun _ => rfl) (C := fun _ => []) (k := k) noCuts fun x => by kernel_rfl
/-! laws.eqCurve -/
@[reducible] def laws_eqCurve.pc : CutP := [(0, some true, [.fl (.int .i64), .fl (.int .i64), .fl (.int .i64)]), (1, some true, [.fl (.int .i64), .fl (.int .i64), .fl (.int .i64)])]
@[reducible] def laws_eqCurve.pr : CompPs := [(false, [.fl .bool])]
abbrev laws_eqCurve.N := Bool
noncomputable def laws_eqCurve.E (k : Nat) : List (FuncId × Go.Rv.Fn) := []
noncomputable def laws_eqCurve.f (k : Nat) (a0 : Int) (a1 : Int) (a2 : Int) (a3 : Int) (a4 : Int) (a5 : Int) : Option laws_eqCurve.N := (if (!decide (a0 = a3)) = true then some false else (if (!decide (a1 = a4)) = true then some false else (if (!decide (a2 = a5)) = true then some false else some true)))
noncomputable def laws_eqCurve.F (k : Nat) : Go.Rv.Fn := mkFn 2 laws_eqCurve.pc laws_eqCurve.pr (keepOf []) (fun (y : laws_eqCurve.N) => (((y, ()), ()) : compT laws_eqCurve.pr)) fun x => laws_eqCurve.f k x.1.1 x.1.2.1 x.1.2.2.1 x.2.1.1 x.2.1.2.1 x.2.1.2.2.1
theorem laws_eqCurve.env (k : Nat) : EnvOk Go.Proofs.Try.prog (fun f => (laws_eqCurve.E k).lookup f) := envOk_of trivial
theorem laws_eqCurve.ok (k : Nat) : FnOk Go.Proofs.Try.prog 110 (laws_eqCurve.F k) :=
  fn_ok tab (laws_eqCurve.env k) Go.Proofs.Try.func110 rfl (n := 2) (Nat.le_of_ble_eq_true rfl) (by kernel_rfl) (outs := []) (by kernel_rfl) (by kernel_rfl) (d := fun (y : compT laws_eqCurve.pr) => (y.1.1 : laws_eqCurve.N)) (fun _ => rfl) (C := fun _ => []) (k := k) noCuts fun x => by kernel_rfl
/-! laws.eqCurveS -/
@[reducible] def laws_eqCurveS.pc : CutP := [(0, some false, [.fl (.lo (.pair (.int .i64) (.pair (.int .i64) (.int .i64))))]), (1, some false, [.fl (.lo (.pair (.int .i64) (.pair (.int .i64) (.int .i64))))])]
@[reducible] def laws_eqCurveS.pr : CompPs := [(false, [.fl .bool])]
abbrev laws_eqCurveS.N := Bool
noncomputable def laws_eqCurveS.E (k : Nat) : List (FuncId × Go.Rv.Fn) := [(110, laws_eqCurve.F k)]
abbrev laws_eqCurveS.Cs := (List (Int × Int × Int) → List (Int × Int × Int) → Int → Option laws_eqCurveS.N)
def laws_eqCurveS.zero : laws_eqCurveS.Cs := (fun _ _ _ => none)
noncomputable def laws_eqCurveS.step (k : Nat) (c : laws_eqCurveS.Cs) : laws_eqCurveS.Cs := (fun (x0 : List (Int × Int × Int)) (x1 : List (Int × Int × Int)) (x2 : Int) => (if (decide (x2 < (x0.length : Int))) = true then if 0 ≤ x2 then if x2 < (x0.length : Int) then if 0 ≤ x2 then if x2 < (x1.length : Int) then (laws_eqCurve.f k ((rd (0, (0, 0)) x0 x2).1) (((rd (0, (0, 0)) x0 x2).2).1) (((rd (0, (0, 0)) x0 x2).2).2) ((rd (0, (0, 0)) x1 x2).1) (((rd (0, (0, 0)) x1 x2).2).1) (((rd (0, (0, 0)) x1 x2).2).2)).bind fun t1 => (if (!t1) = true then some false else c x0 x1 (wrap64 (x2 + 1))) else none else none else none else none else some true))
noncomputable def laws_eqCurveS.cs (k : Nat) : Nat → laws_eqCurveS.Cs
  | 0 => laws_eqCurveS.zero
  | n + 1 => laws_eqCurveS.step k (laws_eqCurveS.cs k n)
def laws_eqCurveS.CC (c : laws_eqCurveS.Cs) : Cuts laws_eqCurveS.N := [(14, ⟨[(0, some false, [.fl (.lo (.pair (.int .i64) (.pair (.int .i64) (.int .i64))))]), (1, some false, [.fl (.lo (.pair (.int .i64) (.pair (.int .i64) (.int .i64))))]), (5, some false, [.fl (.int .i64)])], fun x => c x.1.1 x.2.1.1 x.2.2.1.1⟩)]
noncomputable def laws_eqCurveS.f (k : Nat) (a0 : List (Int × Int × Int)) (a1 : List (Int × Int × Int)) : Option laws_eqCurveS.N := (if (!decide ((a0.length : Int) = (a1.length : Int))) = true then some false else (laws_eqCurveS.cs k k) a0 a1 0)
noncomputable def laws_eqCurveS.F (k : Nat) : Go.Rv.Fn := mkFn 2 laws_eqCurveS.pc laws_eqCurveS.pr (keepOf []) (fun (y : laws_eqCurveS.N) => (((y, ()), ()) : compT laws_eqCurveS.pr)) fun x => laws_eqCurveS.f k x.1.1 x.2.1.1
theorem laws_eqCurveS.env (k : Nat) : EnvOk Go.Proofs.Try.prog (fun f => (laws_eqCurveS.E k).lookup f) := envOk_of ⟨entry Go.Proofs.Try.call110 rfl (laws_eqCurve.ok k), trivial⟩
theorem laws_eqCurveS.cuts (k : Nat) : CutsOk Go.Proofs.Try.prog X (fun f => (laws_eqCurveS.E k).lookup f) Go.Proofs.Try.f77 [] (decN laws_eqCurveS.pr (fun (y : compT laws_eqCurveS.pr) => (y.1.1 : laws_eqCurveS.N))) fun n => laws_eqCurveS.CC (laws_eqCurveS.cs k n) :=
  cutsOk_of (step := laws_eqCurveS.step k) rfl (fun _ => rfl) ⟨fun _ => rfl, trivial⟩ (fun c => by kernel_rfl) fun c => ⟨fun x => by kernel_rfl, trivial⟩
theorem laws_eqCurveS.ok (k : Nat) : FnOk Go.Proofs.Try.prog 77 (laws_eqCurveS.F k) :=
  fn_ok tab (laws_eqCurveS.env k) Go.Proofs.Try.func77 rfl (n := 2) (Nat.le_of_ble_eq_true rfl) (by kernel_rfl) (outs := []) (by kernel_rfl) (by kernel_rfl) (d := fun (y : compT laws_eqCurveS.pr) => (y.1.1 : laws_eqCurveS.N)) (fun _ => rfl) (C := fun n => laws_eqCurveS.CC (laws_eqCurveS.cs k n)) (k := k) (laws_eqCurveS.cuts k) fun x => by kernel_rfl
/-! laws.eqAxis -/
@[reducible] def laws_eqAxis.pc : CutP := [(0, some true, [.fl (.int .i64), .fl (.int .i64), .fl (.int .i64), .fl (.int .i64), .fl (.lo (.pair (.int .i64) (.pair (.int .i64) (.int .i64))))]), (1, some true, [.fl (.int .i64), .fl (.int .i64), .fl (.int .i64), .fl (.int .i64), .fl (.lo (.pair (.int .i64) (.pair (.int .i64) (.int .i64))))])]
@[reducible] def laws_eqAxis.pr : CompPs := [(false, [.fl .bool])]
abbrev laws_eqAxis.N := Bool
noncomputable def laws_eqAxis.E (k : Nat) : List (FuncId × Go.Rv.Fn) := [(72, laws_eqPose.F k), (77, laws_eqCurveS.F k)]
noncomputable def laws_eqAxis.f (k : Nat) (a0 : Int) (a1 : Int) (a2 : Int) (a3 : Int) (a4 : List (Int × Int × Int)) (a5 : Int) (a6 : Int) (a7 : Int) (a8 : Int) (a9 : List (Int × Int × Int)) : Option laws_eqAxis.N := (laws_eqPose.f k a0 a1 a2 a3 a5 a6 a7 a8).bind fun t1 => (if (!t1) = true then some false else (laws_eqCurveS.f k a4 a9).bind fun t2 => (if (!t2) = true then some false else some true))
noncomputable def laws_eqAxis.F (k : Nat) : Go.Rv.Fn := mkFn 2 laws_eqAxis.pc laws_eqAxis.pr (keepOf []) (fun (y : laws_eqAxis.N) => (((y, ()), ()) : compT laws_eqAxis.pr)) fun x => laws_eqAxis.f k x.1.1 x.1.2.1 x.1.2.2.1 x.1.2.2.2.1 x.1.2.2.2.2.1 x.2.1.1 x.2.1.2.1 x.2.1.2.2.1 x.2.1.2.2.2.1 x.2.1.2.2.2.2.1
theorem laws_eqAxis.env (k : Nat) : EnvOk Go.Proofs.Try.prog (fun f => (laws_eqAxis.E k).lookup f) := envOk_of ⟨entry Go.Proofs.Try.call72 rfl (laws_eqPose.ok k), entry Go.Proofs.Try.call77 rfl (laws_eqCurveS.ok k), trivial⟩
theorem laws_eqAxis.ok (k : Nat) : FnOk Go.Proofs.Try.prog 37 (laws_eqAxis.F k) :=
  fn_ok tab (laws_eqAxis.env k) Go.Proofs.Try.func37 rfl (n := 2) (Nat.le_of_ble_eq_true rfl) (by kernel_rfl) (outs := []) (by kernel_rfl) (by kernel_rfl) (d := fun (y : compT laws_eqAxis.pr) => (y.1.1 : laws_eqAxis.N)) (fun _ => rfl) (C := fun _ => []) (k := k) noCuts fun x => by kernel_rfl
/-! laws.markCurveS -/
@[reducible] def laws_markCurveS.pc : CutP := [(0, some false, [.fl (.own (.pair (.int .i64) (.pair (.int .i64) (.int .i64))))]), (1, some false, [.fl (.int .i64)])]
@[reducible] def laws_markCurveS.pr : CompPs := [(false, [.fl (.int .i64)]), (false, [.fl (.own (.pair (.int .i64) (.pair (.int .i64) (.int .i64))))])]
abbrev laws_markCurveS.N := Int × List (Int × Int × Int)
noncomputable def laws_markCurveS.E (k : Nat) : List (FuncId × Go.Rv.Fn) := []
abbrev laws_markCurveS.Cs := (List (Int × Int × Int) → Int → Int → Option laws_markCurveS.N)
def laws_markCurveS.zero : laws_markCurveS.Cs := (fun _ _ _ => none)
noncomputable def laws_markCurveS.step (k : Nat) (c : laws_markCurveS.Cs) : laws_markCurveS.Cs := (fun (x0 : List (Int × Int × Int)) (x1 : Int) (x2 : Int) => (if (decide (x2 < (x0.length : Int))) = true then if 0 ≤ x2 then if x2 < (x0.length : Int) then if 0 ≤ x2 then if x2 < ((x0.set x2.toNat (x1, (((rd (0, (0, 0)) x0 x2).2).1, ((rd (0, (0, 0)) x0 x2).2).2))).length : Int) then if 0 ≤ x2 then if x2 < (((x0.set x2.toNat (x1, (((rd (0, (0, 0)) x0 x2).2).1, ((rd (0, (0, 0)) x0 x2).2).2))).set x2.toNat ((rd (0, (0, 0)) (x0.set x2.toNat (x1, (((rd (0, (0, 0)) x0 x2).2).1, ((rd (0, (0, 0)) x0 x2).2).2))) x2).1, ((wrap64 (x1 + 1)), ((rd (0, (0, 0)) (x0.set x2.toNat (x1, (((rd (0, (0, 0)) x0 x2).2).1, ((rd (0, (0, 0)) x0 x2).2).2))) x2).2).2))).length : Int) then c (((x0.set x2.toNat (x1, (((rd (0, (0, 0)) x0 x2).2).1, ((rd (0, (0, 0)) x0 x2).2).2))).set x2.toNat ((rd (0, (0, 0)) (x0.set x2.toNat (x1, (((rd (0, (0, 0)) x0 x2).2).1, ((rd (0, (0, 0)) x0 x2).2).2))) x2).1, ((wrap64 (x1 + 1)), ((rd (0, (0, 0)) (x0.set x2.toNat (x1, (((rd (0, (0, 0)) x0 x2).2).1, ((rd (0, (0, 0)) x0 x2).2).2))) x2).2).2))).set x2.toNat ((rd (0, (0, 0)) ((x0.set x2.toNat (x1, (((rd (0, (0, 0)) x0 x2).2).1, ((rd (0, (0, 0)) x0 x2).2).2))).set x2.toNat ((rd (0, (0, 0)) (x0.set x2.toNat (x1, (((rd (0, (0, 0)) x0 x2).2).1, ((rd (0, (0, 0)) x0 x2).2).2))) x2).1, ((wrap64 (x1 + 1)), ((rd (0, (0, 0)) (x0.set x2.toNat (x1, (((rd (0, (0, 0)) x0 x2).2).1, ((rd (0, (0, 0)) x0 x2).2).2))) x2).2).2))) x2).1, (((rd (0, (0, 0)) ((x0.set x2.toNat (x1, (((rd (0, (0, 0)) x0 x2).2).1, ((rd (0, (0, 0)) x0 x2).2).2))).set x2.toNat ((rd (0, (0, 0)) (x0.set x2.toNat (x1, (((rd (0, (0, 0)) x0 x2).2).1, ((rd (0, (0, 0)) x0 x2).2).2))) x2).1, ((wrap64 (x1 + 1)), ((rd (0, (0, 0)) (x0.set x2.toNat (x1, (((rd (0, (0, 0)) x0 x2).2).1, ((rd (0, (0, 0)) x0 x2).2).2))) x2).2).2))) x2).2).1, (wrap64 ((wrap64 (x1 + 1)) + 1))))) (wrap64 ((wrap64 ((wrap64 (x1 + 1)) + 1)) + 1)) (wrap64 (x2 + 1)) else none else none else none else none else none else none else some (x1, x0)))
noncomputable def laws_markCurveS.cs (k : Nat) : Nat → laws_markCurveS.Cs
  | 0 => laws_markCurveS.zero
  | n + 1 => laws_markCurveS.step k (laws_markCurveS.cs k n)
def laws_markCurveS.CC (c : laws_markCurveS.Cs) : Cuts laws_markCurveS.N := [(6, ⟨[(0, some false, [.fl (.own (.pair (.int .i64) (.pair (.int .i64) (.int .i64))))]), (1, some false, [.fl (.int .i64)]), (5, some false, [.fl (.int .i64)])], fun x => c x.1.1 x.2.1.1 x.2.2.1.1⟩)]
noncomputable def laws_markCurveS.f (k : Nat) (a0 : List (Int × Int × Int)) (a1 : Int) : Option laws_markCurveS.N := (laws_markCurveS.cs k k) a0 a1 0
noncomputable def laws_markCurveS.F (k : Nat) : Go.Rv.Fn := mkFn 2 laws_markCurveS.pc laws_markCurveS.pr (keepOf [(0, 1)]) (fun (y : laws_markCurveS.N) => (((y.1, ()), (y.2, ()), ()) : compT laws_markCurveS.pr)) fun x => laws_markCurveS.f k x.1.1 x.2.1.1
theorem laws_markCurveS.env (k : Nat) : EnvOk Go.Proofs.Try.prog (fun f => (laws_markCurveS.E k).lookup f) := envOk_of trivial
theorem laws_markCurveS.cuts (k : Nat) : CutsOk Go.Proofs.Try.prog X (fun f => (laws_markCurveS.E k).lookup f) Go.Proofs.Try.f78 [(0, 1)] (decN laws_markCurveS.pr (fun (y : compT laws_markCurveS.pr) => ((y.1.1, y.2.1.1) : laws_markCurveS.N))) fun n => laws_markCurveS.CC (laws_markCurveS.cs k n) :=
  cutsOk_of (step := laws_markCurveS.step k) rfl (fun _ => rfl) ⟨fun _ => rfl, trivial⟩ (fun c => by kernel_rfl) fun c => ⟨fun x => by kernel_rfl, trivial⟩
theorem laws_markCurveS.ok (k : Nat) : FnOk Go.Proofs.Try.prog 78 (laws_markCurveS.F k) :=
  fn_ok tab (laws_markCurveS.env k) Go.Proofs.Try.func78 rfl (n := 2) (Nat.le_of_ble_eq_true rfl) (by kernel_rfl) (outs := [(0, 1)]) (by kernel_rfl) (by kernel_rfl) (d := fun (y : compT laws_markCurveS.pr) => ((y.1.1, y.2.1.1) : laws_markCurveS.N)) (fun _ => rfl) (C := fun n => laws_markCurveS.CC (laws_markCurveS.cs k n)) (k := k) (laws_markCurveS.cuts k) fun x => by kernel_rfl
/-! laws.markAxis -/
@[reducible] def laws_markAxis.pc : CutP := [(0, some true, [.fl (.int .i64), .fl (.int .i64), .fl (.int .i64), .fl (.int .i64), .fl (.own (.pair (.int .i64) (.pair (.int .i64) (.int .i64))))]), (1, some false, [.fl (.int .i64)])]
@[reducible] def laws_markAxis.pr : CompPs := [(false, [.fl (.int .i64)]), (false, [.fl .dead, .fl .dead, .fl .dead, .fl .dead, .fl .dead])]
abbrev laws_markAxis.N := Int
noncomputable def laws_markAxis.E (k : Nat) : List (FuncId × Go.Rv.Fn) := [(78, laws_markCurveS.F k)]
noncomputable def laws_markAxis.f (k : Nat) (a0 : Int) (a1 : Int) (a2 : Int) (a3 : Int) (a4 : List (Int × Int × Int)) (a5 : Int) : Option laws_markAxis.N := (laws_markCurveS.f k a4 a5).bind fun t1 => some t1.1
noncomputable def laws_markAxis.F (k : Nat) : Go.Rv.Fn := mkFn 2 laws_markAxis.pc laws_markAxis.pr (keepOf [(0, 5)]) (fun (y : laws_markAxis.N) => (((y, ()), ((), (), (), (), (), ()), ()) : compT laws_markAxis.pr)) fun x => laws_markAxis.f k x.1.1 x.1.2.1 x.1.2.2.1 x.1.2.2.2.1 x.1.2.2.2.2.1 x.2.1.1
theorem laws_markAxis.env (k : Nat) : EnvOk Go.Proofs.Try.prog (fun f => (laws_markAxis.E k).lookup f) := envOk_of ⟨entry Go.Proofs.Try.call78 rfl (laws_markCurveS.ok k), trivial⟩
theorem laws_markAxis.ok (k : Nat) : FnOk Go.Proofs.Try.prog 39 (laws_markAxis.F k) :=
  fn_ok tab (laws_markAxis.env k) Go.Proofs.Try.func39 rfl (n := 2) (Nat.le_of_ble_eq_true rfl) (by kernel_rfl) (outs := [(0, 5)]) (by kernel_rfl) (by kernel_rfl) (d := fun (y : compT laws_markAxis.pr) => (y.1.1 : laws_markAxis.N)) (fun _ => rfl) (C := fun _ => []) (k := k) noCuts fun x => by kernel_rfl
/-! laws.markRingS -/
@[reducible] def laws_markRingS.pc : CutP := [(0, some false, [.fl (.own (.pair (.int .i64) (.int .i64)))]), (1, some false, [.fl (.int .i64)])]
@[reducible] def laws_markRingS.pr : CompPs := [(false, [.fl (.int .i64)]), (false, [.fl (.own (.pair (.int .i64) (.int .i64)))])]
abbrev laws_markRingS.N := Int × List (Int × Int)
noncomputable def laws_markRingS.E (k : Nat) : List (FuncId × Go.Rv.Fn) := []
abbrev laws_markRingS.Cs := (List (Int × Int) → Int → Int → Option laws_markRingS.N)
def laws_markRingS.zero : laws_markRingS.Cs := (fun _ _ _ => none)
noncomputable def laws_markRingS.step (k : Nat) (c : laws_markRingS.Cs) : laws_markRingS.Cs := (fun (x0 : List (Int × Int)) (x1 : Int) (x2 : Int) => (if (decide (x2 < (x0.length : Int))) = true then if 0 ≤ x2 then if x2 < (x0.length : Int) then if 0 ≤ x2 then if x2 < ((x0.set x2.toNat (x1, (rd (0, 0) x0 x2).2)).length : Int) then c ((x0.set x2.toNat (x1, (rd (0, 0) x0 x2).2)).set x2.toNat ((rd (0, 0) (x0.set x2.toNat (x1, (rd (0, 0) x0 x2).2)) x2).1, (wrap64 (x1 + 1)))) (wrap64 ((wrap64 (x1 + 1)) + 1)) (wrap64 (x2 + 1)) else none else none else none else none else some (x1, x0)))
noncomputable def laws_markRingS.cs (k : Nat) : Nat → laws_markRingS.Cs
  | 0 => laws_markRingS.zero
  | n + 1 => laws_markRingS.step k (laws_markRingS.cs k n)
def laws_markRingS.CC (c : laws_markRingS.Cs) : Cuts laws_markRingS.N := [(6, ⟨[(0, some false, [.fl (.own (.pair (.int .i64) (.int .i64)))]), (1, some false, [.fl (.int .i64)]), (5, some false, [.fl (.int .i64)])], fun x => c x.1.1 x.2.1.1 x.2.2.1.1⟩)]
noncomputable def laws_markRingS.f (k : Nat) (a0 : List (Int × Int)) (a1 : Int) : Option laws_markRingS.N := (laws_markRingS.cs k k) a0 a1 0
noncomputable def laws_markRingS.F (k : Nat) : Go.Rv.Fn := mkFn 2 laws_markRingS.pc laws_markRingS.pr (keepOf [(0, 1)]) (fun (y : laws_markRingS.N) => (((y.1, ()), (y.2, ()), ()) : compT laws_markRingS.pr)) fun x => laws_markRingS.f k x.1.1 x.2.1.1
theorem laws_markRingS.env (k : Nat) : EnvOk Go.Proofs.Try.prog (fun f => (laws_markRingS.E k).lookup f) := envOk_of trivial
theorem laws_markRingS.cuts (k : Nat) : CutsOk Go.Proofs.Try.prog X (fun f => (laws_markRingS.E k).lookup f) Go.Proofs.Try.f31 [(0, 1)] (decN laws_markRingS.pr (fun (y : compT laws_markRingS.pr) => ((y.1.1, y.2.1.1) : laws_markRingS.N))) fun n => laws_markRingS.CC (laws_markRingS.cs k n) :=
  cutsOk_of (step := laws_markRingS.step k) rfl (fun _ => rfl) ⟨fun _ => rfl, trivial⟩ (fun c => by kernel_rfl) fun c => ⟨fun x => by kernel_rfl, trivial⟩
theorem laws_markRingS.ok (k : Nat) : FnOk Go.Proofs.Try.prog 31 (laws_markRingS.F k) :=
  fn_ok tab (laws_markRingS.env k) Go.Proofs.Try.func31 rfl (n := 2) (Nat.le_of_ble_eq_true rfl) (by kernel_rfl) (outs := [(0, 1)]) (by kernel_rfl) (by kernel_rfl) (d := fun (y : compT laws_markRingS.pr) => ((y.1.1, y.2.1.1) : laws_markRingS.N)) (fun _ => rfl) (C := fun n => laws_markRingS.CC (laws_markRingS.cs k n)) (k := k) (laws_markRingS.cuts k) fun x => by kernel_rfl
/-! laws.heldRingS -/
@[reducible] def laws_heldRingS.pc : CutP := [(0, some false, [.fl (.lo (.pair (.int .i64) (.int .i64)))]), (1, some false, [.fl (.int .i64)])]
@[reducible] def laws_heldRingS.pr : CompPs := [(false, [.fl (.int .i64)])]
abbrev laws_heldRingS.N := Int
noncomputable def laws_heldRingS.E (k : Nat) : List (FuncId × Go.Rv.Fn) := []
abbrev laws_heldRingS.Cs := (List (Int × Int) → Int → Int → Option laws_heldRingS.N)
def laws_heldRingS.zero : laws_heldRingS.Cs := (fun _ _ _ => none)
noncomputable def laws_heldRingS.step (k : Nat) (c : laws_heldRingS.Cs) : laws_heldRingS.Cs := (fun (x0 : List (Int × Int)) (x1 : Int) (x2 : Int) => (if (decide (x2 < (x0.length : Int))) = true then if 0 ≤ x2 then if x2 < (x0.length : Int) then (if (!decide ((rd (0, 0) x0 x2).1 = x1)) = true then some (-1) else if 0 ≤ x2 then if x2 < (x0.length : Int) then (if (!decide ((rd (0, 0) x0 x2).2 = (wrap64 (x1 + 1)))) = true then some (-1) else c x0 (wrap64 ((wrap64 (x1 + 1)) + 1)) (wrap64 (x2 + 1))) else none else none) else none else none else some x1))
noncomputable def laws_heldRingS.cs (k : Nat) : Nat → laws_heldRingS.Cs
  | 0 => laws_heldRingS.zero
  | n + 1 => laws_heldRingS.step k (laws_heldRingS.cs k n)
def laws_heldRingS.CC (c : laws_heldRingS.Cs) : Cuts laws_heldRingS.N := [(6, ⟨[(0, some false, [.fl (.lo (.pair (.int .i64) (.int .i64)))]), (1, some false, [.fl (.int .i64)]), (5, some false, [.fl (.int .i64)])], fun x => c x.1.1 x.2.1.1 x.2.2.1.1⟩)]
noncomputable def laws_heldRingS.f (k : Nat) (a0 : List (Int × Int)) (a1 : Int) : Option laws_heldRingS.N := (laws_heldRingS.cs k k) a0 a1 0
noncomputable def laws_heldRingS.F (k : Nat) : Go.Rv.Fn := mkFn 2 laws_heldRingS.pc laws_heldRingS.pr (keepOf []) (fun (y : laws_heldRingS.N) => (((y, ()), ()) : compT laws_heldRingS.pr)) fun x => laws_heldRingS.f k x.1.1 x.2.1.1
theorem laws_heldRingS.env (k : Nat) : EnvOk Go.Proofs.Try.prog (fun f => (laws_heldRingS.E k).lookup f) := envOk_of trivial
theorem laws_heldRingS.cuts (k : Nat) : CutsOk Go.Proofs.Try.prog X (fun f => (laws_heldRingS.E k).lookup f) Go.Proofs.Try.f40 [] (decN laws_heldRingS.pr (fun (y : compT laws_heldRingS.pr) => (y.1.1 : laws_heldRingS.N))) fun n => laws_heldRingS.CC (laws_heldRingS.cs k n) :=
  cutsOk_of (step := laws_heldRingS.step k) rfl (fun _ => rfl) ⟨fun _ => rfl, trivial⟩ (fun c => by kernel_rfl) fun c => ⟨fun x => by kernel_rfl, trivial⟩
theorem laws_heldRingS.ok (k : Nat) : FnOk Go.Proofs.Try.prog 40 (laws_heldRingS.F k) :=
  fn_ok tab (laws_heldRingS.env k) Go.Proofs.Try.func40 rfl (n := 2) (Nat.le_of_ble_eq_true rfl) (by kernel_rfl) (outs := []) (by kernel_rfl) (by kernel_rfl) (d := fun (y : compT laws_heldRingS.pr) => (y.1.1 : laws_heldRingS.N)) (fun _ => rfl) (C := fun n => laws_heldRingS.CC (laws_heldRingS.cs k n)) (k := k) (laws_heldRingS.cuts k) fun x => by kernel_rfl
/-! laws.FnExactBestTube -/
@[reducible] def laws_FnExactBestTube.pc : CutP := [(0, some true, [.fl (.int .i64), .fl (.int .i64), .fl (.int .i64), .fl (.int .i64), .fl (.lo (.pair (.int .i64) (.pair (.int .i64) (.int .i64))))]), (1, some false, [.fl (.int .i64)]), (2, some true, [.fl (.int .i64), .fl (.int .i64), .fl (.int .i64), .fl (.int .i64)]), (3, some true, [.fl (.int .i64), .fl (.int .i64)]), (4, some false, [.fl (.int .i64)])]
@[reducible] def laws_FnExactBestTube.pr : CompPs := [(false, [.fl .bool])]
abbrev laws_FnExactBestTube.N := Bool
noncomputable def laws_FnExactBestTube.E (k : Nat) : List (FuncId × Go.Rv.Fn) := [(13, impl_BestTube.F k), (16, spec_BestTube.F k), (27, laws_toPose.F k), (30, laws_eqRingS.F k), (31, laws_markRingS.F k), (34, laws_szAxis.F k), (36, laws_toAxis.F k), (37, laws_eqAxis.F k), (38, laws_toRing.F k), (39, laws_markAxis.F k), (40, laws_heldRingS.F k)]
abbrev laws_FnExactBestTube.Cs := (Int → Int → Int → Int → Int → Int → List (Int × Int × Int) → Int → Int → Int → Int → Int → Int → List (Int × Int) → Int → Bool → Int → Int → Int → Int → List (Int × Int × Int) → List (Int × Int) → Int → Bool → Option laws_FnExactBestTube.N) × (Int → Int → Int → Int → Int → Int → List (Int × Int × Int) → Int → Int → Int → Int → Int → Int → List (Int × Int) → Int → Bool → List (Int × Int) → Option laws_FnExactBestTube.N)
def laws_FnExactBestTube.zero : laws_FnExactBestTube.Cs := (fun _ _ _ _ _ _ _ _ _ _ _ _ _ _ _ _ _ _ _ _ _ _ _ _ => none, fun _ _ _ _ _ _ _ _ _ _ _ _ _ _ _ _ _ => none)
noncomputable def laws_FnExactBestTube.step (k : Nat) (c : laws_FnExactBestTube.Cs) : laws_FnExactBestTube.Cs := (fun (x0 : Int) (x1 : Int) (x2 : Int) (x3 : Int) (x4 : Int) (x5 : Int) (x6 : List (Int × Int × Int)) (x7 : Int) (x8 : Int) (x9 : Int) (x10 : Int) (x11 : Int) (x12 : Int) (x13 : List (Int × Int)) (x14 : Int) (x15 : Bool) (x16 : Int) (x17 : Int) (x18 : Int) (x19 : Int) (x20 : List (Int × Int × Int)) (x21 : List (Int × Int)) (x22 : Int) (x23 : Bool) => (laws_toAxis.f k x2 x3 x4 x5 x6).bind fun t11 => (laws_eqAxis.f k x16 x17 x18 x19 x20 t11.1 t11.2.1 t11.2.2.1 t11.2.2.2.1 t11.2.2.2.2).bind fun t12 => (if (!t12) = true then some false else (laws_markAxis.f k x16 x17 x18 x19 x20 1).bind fun (t13 : Int) => (if (decide (t13 < 0)) = true then some false else (laws_eqRingS.f k x21 x13).bind fun t14 => (if (!t14) = true then some false else (if (!decide (x22 = x14)) = true then some false else (if (!(x23 == x15)) = true then some false else c.2 x0 x1 x2 x3 x4 x5 x6 x7 x8 x9 x10 x11 x12 x13 x14 x15 x21))))),
  fun (x0 : Int) (x1 : Int) (x2 : Int) (x3 : Int) (x4 : Int) (x5 : Int) (x6 : List (Int × Int × Int)) (x7 : Int) (x8 : Int) (x9 : Int) (x10 : Int) (x11 : Int) (x12 : Int) (x13 : List (Int × Int)) (x14 : Int) (x15 : Bool) (x16 : List (Int × Int)) => (laws_markRingS.f k x16 1).bind fun t15 => (laws_heldRingS.f k t15.2 1).bind fun (t16 : Int) => (if (decide (t16 < 0)) = true then some false else (if (!decide (t16 = t15.1)) = true then some false else (laws_toAxis.f k x2 x3 x4 x5 x6).bind fun t17 => (laws_toPose.f k x7 x8 x9 x10).bind fun t18 => (laws_toRing.f k x11 x12).bind fun t19 => (impl_BestTube.f k t17.1 t17.2.1 t17.2.2.1 t17.2.2.2.1 t17.2.2.2.2 x0 t18.1 t18.2.1 t18.2.2.1 t18.2.2.2 t19.1 t19.2 x1).bind fun t20 => (laws_eqRingS.f k t20.1 x13).bind fun t21 => (if (!t21) = true then some false else (if (!decide (t20.2.1 = x14)) = true then some false else (if (!(t20.2.2 == x15)) = true then some false else (laws_heldRingS.f k t15.2 1).bind fun (t22 : Int) => (if (decide (t22 < 0)) = true then some false else (if (!decide (t22 = t15.1)) = true then some false else some true))))))))
noncomputable def laws_FnExactBestTube.cs (k : Nat) : Nat → laws_FnExactBestTube.Cs
  | 0 => laws_FnExactBestTube.zero
  | n + 1 => laws_FnExactBestTube.step k (laws_FnExactBestTube.cs k n)
def laws_FnExactBestTube.CC (c : laws_FnExactBestTube.Cs) : Cuts laws_FnExactBestTube.N := [(20, ⟨[(1, some false, [.fl (.int .i64)]), (4, some false, [.fl (.int .i64)]), (5, none, [.fl (.int .i64), .fl (.int .i64), .fl (.int .i64), .fl (.int .i64), .fl (.lo (.pair (.int .i64) (.pair (.int .i64) (.int .i64))))]), (7, none, [.fl (.int .i64), .fl (.int .i64), .fl (.int .i64), .fl (.int .i64)]), (8, none, [.fl (.int .i64), .fl (.int .i64)]), (12, some false, [.fl (.own (.pair (.int .i64) (.int .i64)))]), (13, some false, [.fl (.int .i64)]), (14, some false, [.fl .bool]), (15, none, [.fl (.int .i64), .fl (.int .i64), .fl (.int .i64), .fl (.int .i64), .fl (.own (.pair (.int .i64) (.pair (.int .i64) (.int .i64))))]), (16, some false, [.fl (.own (.pair (.int .i64) (.int .i64)))]), (17, some false, [.fl (.int .i64)]), (18, some false, [.fl .bool])], fun x => c.1 x.1.1 x.2.1.1 x.2.2.1.1 x.2.2.1.2.1 x.2.2.1.2.2.1 x.2.2.1.2.2.2.1 x.2.2.1.2.2.2.2.1 x.2.2.2.1.1 x.2.2.2.1.2.1 x.2.2.2.1.2.2.1 x.2.2.2.1.2.2.2.1 x.2.2.2.2.1.1 x.2.2.2.2.1.2.1 x.2.2.2.2.2.1.1 x.2.2.2.2.2.2.1.1 x.2.2.2.2.2.2.2.1.1 x.2.2.2.2.2.2.2.2.1.1 x.2.2.2.2.2.2.2.2.1.2.1 x.2.2.2.2.2.2.2.2.1.2.2.1 x.2.2.2.2.2.2.2.2.1.2.2.2.1 x.2.2.2.2.2.2.2.2.1.2.2.2.2.1 x.2.2.2.2.2.2.2.2.2.1.1 x.2.2.2.2.2.2.2.2.2.2.1.1 x.2.2.2.2.2.2.2.2.2.2.2.1.1⟩),
  (40, ⟨[(1, some false, [.fl (.int .i64)]), (4, some false, [.fl (.int .i64)]), (5, none, [.fl (.int .i64), .fl (.int .i64), .fl (.int .i64), .fl (.int .i64), .fl (.lo (.pair (.int .i64) (.pair (.int .i64) (.int .i64))))]), (7, none, [.fl (.int .i64), .fl (.int .i64), .fl (.int .i64), .fl (.int .i64)]), (8, none, [.fl (.int .i64), .fl (.int .i64)]), (12, some false, [.fl (.own (.pair (.int .i64) (.int .i64)))]), (13, some false, [.fl (.int .i64)]), (14, some false, [.fl .bool]), (16, some false, [.fl (.own (.pair (.int .i64) (.int .i64)))])], fun x => c.2 x.1.1 x.2.1.1 x.2.2.1.1 x.2.2.1.2.1 x.2.2.1.2.2.1 x.2.2.1.2.2.2.1 x.2.2.1.2.2.2.2.1 x.2.2.2.1.1 x.2.2.2.1.2.1 x.2.2.2.1.2.2.1 x.2.2.2.1.2.2.2.1 x.2.2.2.2.1.1 x.2.2.2.2.1.2.1 x.2.2.2.2.2.1.1 x.2.2.2.2.2.2.1.1 x.2.2.2.2.2.2.2.1.1 x.2.2.2.2.2.2.2.2.1.1⟩)]
noncomputable def laws_FnExactBestTube.f (k : Nat) (a0 : Int) (a1 : Int) (a2 : Int) (a3 : Int) (a4 : List (Int × Int × Int)) (a5 : Int) (a6 : Int) (a7 : Int) (a8 : Int) (a9 : Int) (a10 : Int) (a11 : Int) (a12 : Int) : Option laws_FnExactBestTube.N := (laws_szAxis.f k a0 a1 a2 a3 a4 1048576).bind fun (t1 : Int) => (if (decide (t1 < 0)) = true then some true else (laws_toAxis.f k a0 a1 a2 a3 a4).bind fun t2 => (laws_toPose.f k a6 a7 a8 a9).bind fun t3 => (laws_toRing.f k a10 a11).bind fun t4 => (spec_BestTube.f k t2.1 t2.2.1 t2.2.2.1 t2.2.2.2.1 t2.2.2.2.2 a5 t3.1 t3.2.1 t3.2.2.1 t3.2.2.2 t4.1 t4.2 a12).bind fun t5 => (laws_toAxis.f k a0 a1 a2 a3 a4).bind fun t6 => (laws_toPose.f k a6 a7 a8 a9).bind fun t7 => (laws_toRing.f k a10 a11).bind fun t8 => (impl_BestTube.f k t6.1 t6.2.1 t6.2.2.1 t6.2.2.2.1 t6.2.2.2.2 a5 t7.1 t7.2.1 t7.2.2.1 t7.2.2.2 t8.1 t8.2 a12).bind fun t9 => (laws_eqRingS.f k t9.1 t5.1).bind fun t10 => (if (!t10) = true then some false else (if (!decide (t9.2.1 = t5.2.1)) = true then some false else (if (!(t9.2.2 == t5.2.2)) = true then some false else (laws_FnExactBestTube.cs k k).1 a5 a12 a0 a1 a2 a3 a4 a6 a7 a8 a9 a10 a11 t5.1 t5.2.1 t5.2.2 t6.1 t6.2.1 t6.2.2.1 t6.2.2.2.1 t6.2.2.2.2 t9.1 t9.2.1 t9.2.2))))
noncomputable def laws_FnExactBestTube.F (k : Nat) : Go.Rv.Fn := mkFn 5 laws_FnExactBestTube.pc laws_FnExactBestTube.pr (keepOf []) (fun (y : laws_FnExactBestTube.N) => (((y, ()), ()) : compT laws_FnExactBestTube.pr)) fun x => laws_FnExactBestTube.f k x.1.1 x.1.2.1 x.1.2.2.1 x.1.2.2.2.1 x.1.2.2.2.2.1 x.2.1.1 x.2.2.1.1 x.2.2.1.2.1 x.2.2.1.2.2.1 x.2.2.1.2.2.2.1 x.2.2.2.1.1 x.2.2.2.1.2.1 x.2.2.2.2.1.1
theorem laws_FnExactBestTube.env (k : Nat) : EnvOk Go.Proofs.Try.prog (fun f => (laws_FnExactBestTube.E k).lookup f) := envOk_of ⟨entry Go.Proofs.Try.call13 rfl (impl_BestTube.ok k), entry Go.Proofs.Try.call16 rfl (spec_BestTube.ok k), entry Go.Proofs.Try.call27 rfl (laws_toPose.ok k), entry Go.Proofs.Try.call30 rfl (laws_eqRingS.ok k), entry Go.Proofs.Try.call31 rfl (laws_markRingS.ok k), entry Go.Proofs.Try.call34 rfl (laws_szAxis.ok k), entry Go.Proofs.Try.call36 rfl (laws_toAxis.ok k), entry Go.Proofs.Try.call37 rfl (laws_eqAxis.ok k), entry Go.Proofs.Try.call38 rfl (laws_toRing.ok k), entry Go.Proofs.Try.call39 rfl (laws_markAxis.ok k), entry Go.Proofs.Try.call40 rfl (laws_heldRingS.ok k), trivial⟩
theorem laws_FnExactBestTube.cuts (k : Nat) : CutsOk Go.Proofs.Try.prog X (fun f => (laws_FnExactBestTube.E k).lookup f) Go.Proofs.Try.f8 [] (decN laws_FnExactBestTube.pr (fun (y : compT laws_FnExactBestTube.pr) => (y.1.1 : laws_FnExactBestTube.N))) fun n => laws_FnExactBestTube.CC (laws_FnExactBestTube.cs k n) :=
  cutsOk_of (step := laws_FnExactBestTube.step k) rfl (fun _ => rfl) ⟨fun _ => rfl, fun _ => rfl, trivial⟩ (fun c => by kernel_rfl) fun c => ⟨fun x => by kernel_rfl, fun x => by kernel_rfl, trivial⟩
theorem laws_FnExactBestTube.ok (k : Nat) : FnOk Go.Proofs.Try.prog 8 (laws_FnExactBestTube.F k) :=
  fn_ok tab (laws_FnExactBestTube.env k) Go.Proofs.Try.func8 rfl (n := 5) (Nat.le_of_ble_eq_true rfl) (by kernel_rfl) (outs := []) (by kernel_rfl) (by kernel_rfl) (d := fun (y : compT laws_FnExactBestTube.pr) => (y.1.1 : laws_FnExactBestTube.N)) (fun _ => rfl) (C := fun n => laws_FnExactBestTube.CC (laws_FnExactBestTube.cs k n)) (k := k) (laws_FnExactBestTube.cuts k) fun x => by kernel_rfl
end Go.Proofs.Ytmgelocefebldaa.R
