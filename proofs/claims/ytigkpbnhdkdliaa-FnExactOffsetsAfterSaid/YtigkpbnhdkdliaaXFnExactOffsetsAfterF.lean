-- written by wip/rev/gen2.py for this claim (out of the translation). Lean checks it.
import Derived.Test.YtigkpbnhdkdliaaRvM3
import Derived.Test.YtigkpbnhdkdliaaProg
import Derived.Test.YtigkpbnhdkdliaaRvSh
namespace Go.Proofs.Ytigkpbnhdkdliaa.R
open Go.Rv
set_option linter.unusedVariables false
set_option maxRecDepth 100000
def X : Env := { n := 0, keep := [], tab := [(2, { ty := (.int .i64) }),
  (3, { ty := (.int .i64) }),
  (4, { ty := .bool }),
  (25, { ty := (.pair (.int .i64) (.int .i64)), agg := true, offs := [(0, 1, false), (1, 1, false)] }),
  (27, { ty := (.pair (.int .i64) (.pair (.int .i64) (.int .i64))), agg := true, offs := [(0, 1, false), (1, 1, false), (2, 1, false)] }),
  (33, { ty := (.sl (.int .i64)) }),
  (42, { ty := (.sl (.pair (.int .i64) (.pair (.int .i64) (.int .i64)))) }),
  (45, { ty := (.pair (.int .i64) (.int .i64)), agg := true, offs := [(0, 1, false), (1, 1, false)] }),
  (46, { ty := (.pair (.int .i64) (.pair (.int .i64) (.int .i64))), agg := true, offs := [(0, 1, false), (1, 1, false), (2, 1, false)] }),
  (93, { ty := (.sl .bool) })], mp := [(65, (.pair (.int .i64) (.pair (.int .i64) (.int .i64))), .bool)] }
theorem laidOutT : laidOutB Go.Proofs.Try.prog = true := by kernel_rfl
theorem tab : TabOk Go.Proofs.Try.prog X := ⟨by kernel_rfl, by kernel_rfl, (maps_cons (mapTy3 laidOutT (t := 65) (kt := 27) (vt := 4) (by kernel_rfl) (by kernel_rfl) (v := .bool) (by kernel_rfl) (fun _ => by kernel_rfl)) maps_nil)⟩
/-! laws.toLimits -/
@[reducible] def laws_toLimits.pc : CutP := [(0, some true, [.fl (.int .i64), .fl (.int .i64)])]
@[reducible] def laws_toLimits.pr : CompPs := [(true, [.fl (.int .i64), .fl (.int .i64)])]
abbrev laws_toLimits.N := Int × Int
noncomputable def laws_toLimits.E (k : Nat) : List (FuncId × Go.Rv.Fn) := []
noncomputable def laws_toLimits.f (k : Nat) (a0 : Int) (a1 : Int) : Option laws_toLimits.N := some (a0, a1)
noncomputable def laws_toLimits.F (k : Nat) : Go.Rv.Fn := mkFn 1 laws_toLimits.pc laws_toLimits.pr (keepOf []) (fun (y : laws_toLimits.N) => (((y.1, y.2, ()), ()) : compT laws_toLimits.pr)) fun x => laws_toLimits.f k x.1.1 x.1.2.1
theorem laws_toLimits.env (k : Nat) : EnvOk Go.Proofs.Try.prog (fun f => (laws_toLimits.E k).lookup f) := envOk_of trivial
theorem laws_toLimits.ok (k : Nat) : FnOk Go.Proofs.Try.prog 18 (laws_toLimits.F k) :=
  fn_ok tab (laws_toLimits.env k) Go.Proofs.Try.func18 rfl (n := 1) (Nat.le_of_ble_eq_true rfl) (by kernel_rfl) (outs := []) (by kernel_rfl) (by kernel_rfl) (d := fun (y : compT laws_toLimits.pr) => ((y.1.1, y.1.2.1) : laws_toLimits.N)) (fun _ => rfl) (C := fun _ => []) (k := k) noCuts fun x => by kernel_rfl
/-! laws.toCourse -/
@[reducible] def laws_toCourse.pc : CutP := [(0, some true, [.fl (.int .i64), .fl (.int .i64), .fl (.int .i64)])]
@[reducible] def laws_toCourse.pr : CompPs := [(true, [.fl (.int .i64), .fl (.int .i64), .fl (.int .i64)])]
abbrev laws_toCourse.N := Int × Int × Int
noncomputable def laws_toCourse.E (k : Nat) : List (FuncId × Go.Rv.Fn) := []
noncomputable def laws_toCourse.f (k : Nat) (a0 : Int) (a1 : Int) (a2 : Int) : Option laws_toCourse.N := some (a0, a1, a2)
noncomputable def laws_toCourse.F (k : Nat) : Go.Rv.Fn := mkFn 1 laws_toCourse.pc laws_toCourse.pr (keepOf []) (fun (y : laws_toCourse.N) => (((y.1, y.2.1, y.2.2, ()), ()) : compT laws_toCourse.pr)) fun x => laws_toCourse.f k x.1.1 x.1.2.1 x.1.2.2.1
theorem laws_toCourse.env (k : Nat) : EnvOk Go.Proofs.Try.prog (fun f => (laws_toCourse.E k).lookup f) := envOk_of trivial
theorem laws_toCourse.ok (k : Nat) : FnOk Go.Proofs.Try.prog 19 (laws_toCourse.F k) :=
  fn_ok tab (laws_toCourse.env k) Go.Proofs.Try.func19 rfl (n := 1) (Nat.le_of_ble_eq_true rfl) (by kernel_rfl) (outs := []) (by kernel_rfl) (by kernel_rfl) (d := fun (y : compT laws_toCourse.pr) => ((y.1.1, y.1.2.1, y.1.2.2.1) : laws_toCourse.N)) (fun _ => rfl) (C := fun _ => []) (k := k) noCuts fun x => by kernel_rfl
/-! spec.l00In -/
@[reducible] def spec_l00In.pc : CutP := [(0, some false, [.fl (.int .i64)]), (1, some false, [.fl (.int .i64)]), (2, some false, [.fl (.int .i64)])]
@[reducible] def spec_l00In.pr : CompPs := [(false, [.fl .bool])]
abbrev spec_l00In.N := Bool
noncomputable def spec_l00In.E (k : Nat) : List (FuncId × Go.Rv.Fn) := []
noncomputable def spec_l00In.f (k : Nat) (a0 : Int) (a1 : Int) (a2 : Int) : Option spec_l00In.N := (if (decide (a1 ≤ a0)) = true then some (decide (a0 ≤ a2)) else some false)
noncomputable def spec_l00In.F (k : Nat) : Go.Rv.Fn := mkFn 3 spec_l00In.pc spec_l00In.pr (keepOf []) (fun (y : spec_l00In.N) => (((y, ()), ()) : compT spec_l00In.pr)) fun x => spec_l00In.f k x.1.1 x.2.1.1 x.2.2.1.1
theorem spec_l00In.env (k : Nat) : EnvOk Go.Proofs.Try.prog (fun f => (spec_l00In.E k).lookup f) := envOk_of trivial
theorem spec_l00In.ok (k : Nat) : FnOk Go.Proofs.Try.prog 47 (spec_l00In.F k) :=
  fn_ok tab (spec_l00In.env k) Go.Proofs.Try.func47 rfl (n := 3) (Nat.le_of_ble_eq_true rfl) (by kernel_rfl) (outs := []) (by kernel_rfl) (by kernel_rfl) (d := fun (y : compT spec_l00In.pr) => (y.1.1 : spec_l00In.N)) (fun _ => rfl) (C := fun _ => []) (k := k) noCuts fun x => by kernel_rfl
/-! spec.l05Limits -/
@[reducible] def spec_l05Limits.pc : CutP := [(0, some true, [.fl (.int .i64), .fl (.int .i64)])]
@[reducible] def spec_l05Limits.pr : CompPs := [(false, [.fl .bool])]
abbrev spec_l05Limits.N := Bool
noncomputable def spec_l05Limits.E (k : Nat) : List (FuncId × Go.Rv.Fn) := [(47, spec_l00In.F k)]
noncomputable def spec_l05Limits.f (k : Nat) (a0 : Int) (a1 : Int) : Option spec_l05Limits.N := (spec_l00In.f k a0 1 3).bind fun t1 => (if t1 = true then (spec_l00In.f k a1 1 6).bind fun t2 => some t2 else some false)
noncomputable def spec_l05Limits.F (k : Nat) : Go.Rv.Fn := mkFn 1 spec_l05Limits.pc spec_l05Limits.pr (keepOf []) (fun (y : spec_l05Limits.N) => (((y, ()), ()) : compT spec_l05Limits.pr)) fun x => spec_l05Limits.f k x.1.1 x.1.2.1
theorem spec_l05Limits.env (k : Nat) : EnvOk Go.Proofs.Try.prog (fun f => (spec_l05Limits.E k).lookup f) := envOk_of ⟨entry Go.Proofs.Try.call47 rfl (spec_l00In.ok k), trivial⟩
theorem spec_l05Limits.ok (k : Nat) : FnOk Go.Proofs.Try.prog 55 (spec_l05Limits.F k) :=
  fn_ok tab (spec_l05Limits.env k) Go.Proofs.Try.func55 rfl (n := 1) (Nat.le_of_ble_eq_true rfl) (by kernel_rfl) (outs := []) (by kernel_rfl) (by kernel_rfl) (d := fun (y : compT spec_l05Limits.pr) => (y.1.1 : spec_l05Limits.N)) (fun _ => rfl) (C := fun _ => []) (k := k) noCuts fun x => by kernel_rfl
/-! spec.l05Inside -/
@[reducible] def spec_l05Inside.pc : CutP := [(0, some false, [.fl (.int .i64)]), (1, some true, [.fl (.int .i64), .fl (.int .i64), .fl (.int .i64)])]
@[reducible] def spec_l05Inside.pr : CompPs := [(false, [.fl .bool])]
abbrev spec_l05Inside.N := Bool
noncomputable def spec_l05Inside.E (k : Nat) : List (FuncId × Go.Rv.Fn) := [(47, spec_l00In.F k)]
noncomputable def spec_l05Inside.f (k : Nat) (a0 : Int) (a1 : Int) (a2 : Int) (a3 : Int) : Option spec_l05Inside.N := (spec_l00In.f k a1 (-40) 40).bind fun t1 => (if t1 = true then (spec_l00In.f k a2 (-10) 10).bind fun t2 => (if t2 = true then (spec_l00In.f k a3 (wrap64 (0 - a0)) a0).bind fun t3 => some t3 else some false) else some false)
noncomputable def spec_l05Inside.F (k : Nat) : Go.Rv.Fn := mkFn 2 spec_l05Inside.pc spec_l05Inside.pr (keepOf []) (fun (y : spec_l05Inside.N) => (((y, ()), ()) : compT spec_l05Inside.pr)) fun x => spec_l05Inside.f k x.1.1 x.2.1.1 x.2.1.2.1 x.2.1.2.2.1
theorem spec_l05Inside.env (k : Nat) : EnvOk Go.Proofs.Try.prog (fun f => (spec_l05Inside.E k).lookup f) := envOk_of ⟨entry Go.Proofs.Try.call47 rfl (spec_l00In.ok k), trivial⟩
theorem spec_l05Inside.ok (k : Nat) : FnOk Go.Proofs.Try.prog 56 (spec_l05Inside.F k) :=
  fn_ok tab (spec_l05Inside.env k) Go.Proofs.Try.func56 rfl (n := 2) (Nat.le_of_ble_eq_true rfl) (by kernel_rfl) (outs := []) (by kernel_rfl) (by kernel_rfl) (d := fun (y : compT spec_l05Inside.pr) => (y.1.1 : spec_l05Inside.N)) (fun _ => rfl) (C := fun _ => []) (k := k) noCuts fun x => by kernel_rfl
/-! spec.l05Is -/
@[reducible] def spec_l05Is.pc : CutP := [(0, some true, [.fl (.int .i64), .fl (.int .i64)]), (1, some true, [.fl (.int .i64), .fl (.int .i64), .fl (.int .i64)])]
@[reducible] def spec_l05Is.pr : CompPs := [(false, [.fl .bool])]
abbrev spec_l05Is.N := Bool
noncomputable def spec_l05Is.E (k : Nat) : List (FuncId × Go.Rv.Fn) := [(55, spec_l05Limits.F k), (56, spec_l05Inside.F k)]
noncomputable def spec_l05Is.f (k : Nat) (a0 : Int) (a1 : Int) (a2 : Int) (a3 : Int) (a4 : Int) : Option spec_l05Is.N := (spec_l05Limits.f k a0 a1).bind fun t1 => (if t1 = true then (spec_l05Inside.f k a0 a2 a3 a4).bind fun t2 => some t2 else some false)
noncomputable def spec_l05Is.F (k : Nat) : Go.Rv.Fn := mkFn 2 spec_l05Is.pc spec_l05Is.pr (keepOf []) (fun (y : spec_l05Is.N) => (((y, ()), ()) : compT spec_l05Is.pr)) fun x => spec_l05Is.f k x.1.1 x.1.2.1 x.2.1.1 x.2.1.2.1 x.2.1.2.2.1
theorem spec_l05Is.env (k : Nat) : EnvOk Go.Proofs.Try.prog (fun f => (spec_l05Is.E k).lookup f) := envOk_of ⟨entry Go.Proofs.Try.call55 rfl (spec_l05Limits.ok k), entry Go.Proofs.Try.call56 rfl (spec_l05Inside.ok k), trivial⟩
theorem spec_l05Is.ok (k : Nat) : FnOk Go.Proofs.Try.prog 41 (spec_l05Is.F k) :=
  fn_ok tab (spec_l05Is.env k) Go.Proofs.Try.func41 rfl (n := 2) (Nat.le_of_ble_eq_true rfl) (by kernel_rfl) (outs := []) (by kernel_rfl) (by kernel_rfl) (d := fun (y : compT spec_l05Is.pr) => (y.1.1 : spec_l05Is.N)) (fun _ => rfl) (C := fun _ => []) (k := k) noCuts fun x => by kernel_rfl
/-! spec.l05Next -/
@[reducible] def spec_l05Next.pc : CutP := [(0, some true, [.fl (.int .i64), .fl (.int .i64)]), (1, some true, [.fl (.int .i64), .fl (.int .i64), .fl (.int .i64)]), (2, some false, [.fl (.int .i64)])]
@[reducible] def spec_l05Next.pr : CompPs := [(true, [.fl (.int .i64), .fl (.int .i64), .fl (.int .i64)]), (false, [.fl .bool])]
abbrev spec_l05Next.N := Int × Int × Int × Bool
noncomputable def spec_l05Next.E (k : Nat) : List (FuncId × Go.Rv.Fn) := [(47, spec_l00In.F k), (56, spec_l05Inside.F k)]
abbrev spec_l05Next.Cs := (Int → Int → Int → Int → Int → Int → Int → Int → Int → Option spec_l05Next.N)
def spec_l05Next.zero : spec_l05Next.Cs := (fun _ _ _ _ _ _ _ _ _ => none)
noncomputable def spec_l05Next.step (k : Nat) (c : spec_l05Next.Cs) : spec_l05Next.Cs := (fun (x0 : Int) (x1 : Int) (x2 : Int) (x3 : Int) (x4 : Int) (x5 : Int) (x6 : Int) (x7 : Int) (x8 : Int) => (spec_l05Inside.f k x1 (wrap64 (x3 + x4)) (wrap64 (x4 + x0)) x0).bind fun t3 => (if (!t3) = true then some (0, 0, 0, false) else some ((wrap64 (x3 + x4)), (wrap64 (x4 + x0)), x0, true)))
noncomputable def spec_l05Next.cs (k : Nat) : Nat → spec_l05Next.Cs
  | 0 => spec_l05Next.zero
  | n + 1 => spec_l05Next.step k (spec_l05Next.cs k n)
def spec_l05Next.CC (c : spec_l05Next.Cs) : Cuts spec_l05Next.N := [(2, ⟨[(2, some false, [.fl (.int .i64)]), (3, none, [.fl (.int .i64), .fl (.int .i64)]), (4, none, [.fl (.int .i64), .fl (.int .i64), .fl (.int .i64)]), (6, none, [.fl (.int .i64), .fl (.int .i64), .fl (.int .i64)])], fun x => c x.1.1 x.2.1.1 x.2.1.2.1 x.2.2.1.1 x.2.2.1.2.1 x.2.2.1.2.2.1 x.2.2.2.1.1 x.2.2.2.1.2.1 x.2.2.2.1.2.2.1⟩)]
noncomputable def spec_l05Next.f (k : Nat) (a0 : Int) (a1 : Int) (a2 : Int) (a3 : Int) (a4 : Int) (a5 : Int) : Option spec_l05Next.N := (spec_l00In.f k a5 (wrap64 (0 - a0)) a0).bind fun t1 => (if (!t1) = true then some (0, 0, 0, false) else (spec_l00In.f k (wrap64 (a5 - a4)) (wrap64 (0 - a1)) a1).bind fun t2 => (if (!t2) = true then some (0, 0, 0, false) else (spec_l05Next.cs k k) a5 a0 a1 a2 a3 a4 0 0 0))
noncomputable def spec_l05Next.F (k : Nat) : Go.Rv.Fn := mkFn 3 spec_l05Next.pc spec_l05Next.pr (keepOf []) (fun (y : spec_l05Next.N) => (((y.1, y.2.1, y.2.2.1, ()), (y.2.2.2, ()), ()) : compT spec_l05Next.pr)) fun x => spec_l05Next.f k x.1.1 x.1.2.1 x.2.1.1 x.2.1.2.1 x.2.1.2.2.1 x.2.2.1.1
theorem spec_l05Next.env (k : Nat) : EnvOk Go.Proofs.Try.prog (fun f => (spec_l05Next.E k).lookup f) := envOk_of ⟨entry Go.Proofs.Try.call47 rfl (spec_l00In.ok k), entry Go.Proofs.Try.call56 rfl (spec_l05Inside.ok k), trivial⟩
theorem spec_l05Next.cuts (k : Nat) : CutsOk Go.Proofs.Try.prog X (fun f => (spec_l05Next.E k).lookup f) Go.Proofs.Try.f59 [] (decN spec_l05Next.pr (fun (y : compT spec_l05Next.pr) => ((y.1.1, y.1.2.1, y.1.2.2.1, y.2.1.1) : spec_l05Next.N))) fun n => spec_l05Next.CC (spec_l05Next.cs k n) :=
  cutsOk_of (step := spec_l05Next.step k) rfl (fun _ => rfl) ⟨fun _ => rfl, trivial⟩ (fun c => by kernel_rfl) fun c => ⟨fun x => by kernel_rfl, trivial⟩
theorem spec_l05Next.ok (k : Nat) : FnOk Go.Proofs.Try.prog 59 (spec_l05Next.F k) :=
  fn_ok tab (spec_l05Next.env k) Go.Proofs.Try.func59 rfl (n := 3) (Nat.le_of_ble_eq_true rfl) (by kernel_rfl) (outs := []) (by kernel_rfl) (by kernel_rfl) (d := fun (y : compT spec_l05Next.pr) => ((y.1.1, y.1.2.1, y.1.2.2.1, y.2.1.1) : spec_l05Next.N)) (fun _ => rfl) (C := fun n => spec_l05Next.CC (spec_l05Next.cs k n)) (k := k) (spec_l05Next.cuts k) fun x => by kernel_rfl
/-! spec.l05Spot -/
@[reducible] def spec_l05Spot.pc : CutP := [(0, some true, [.fl (.int .i64), .fl (.int .i64), .fl (.int .i64)])]
@[reducible] def spec_l05Spot.pr : CompPs := [(false, [.fl (.int .i64)])]
abbrev spec_l05Spot.N := Int
noncomputable def spec_l05Spot.E (k : Nat) : List (FuncId × Go.Rv.Fn) := []
noncomputable def spec_l05Spot.f (k : Nat) (a0 : Int) (a1 : Int) (a2 : Int) : Option spec_l05Spot.N := some (wrap64 ((wrap64 ((wrap64 ((wrap64 ((wrap64 ((wrap64 ((wrap64 (a0 + 40)) * 21)) + a1)) + 10)) * 7)) + a2)) + 3))
noncomputable def spec_l05Spot.F (k : Nat) : Go.Rv.Fn := mkFn 1 spec_l05Spot.pc spec_l05Spot.pr (keepOf []) (fun (y : spec_l05Spot.N) => (((y, ()), ()) : compT spec_l05Spot.pr)) fun x => spec_l05Spot.f k x.1.1 x.1.2.1 x.1.2.2.1
theorem spec_l05Spot.env (k : Nat) : EnvOk Go.Proofs.Try.prog (fun f => (spec_l05Spot.E k).lookup f) := envOk_of trivial
theorem spec_l05Spot.ok (k : Nat) : FnOk Go.Proofs.Try.prog 58 (spec_l05Spot.F k) :=
  fn_ok tab (spec_l05Spot.env k) Go.Proofs.Try.func58 rfl (n := 1) (Nat.le_of_ble_eq_true rfl) (by kernel_rfl) (outs := []) (by kernel_rfl) (by kernel_rfl) (d := fun (y : compT spec_l05Spot.pr) => (y.1.1 : spec_l05Spot.N)) (fun _ => rfl) (C := fun _ => []) (k := k) noCuts fun x => by kernel_rfl
/-! spec.l05After -/
@[reducible] def spec_l05After.pc : CutP := [(0, some true, [.fl (.int .i64), .fl (.int .i64)]), (1, some true, [.fl (.int .i64), .fl (.int .i64), .fl (.int .i64)]), (2, some false, [.fl (.int .i64)])]
@[reducible] def spec_l05After.pr : CompPs := [(false, [.fl (.own (.pair (.int .i64) (.pair (.int .i64) (.int .i64))))])]
abbrev spec_l05After.N := List (Int × Int × Int)
noncomputable def spec_l05After.E (k : Nat) : List (FuncId × Go.Rv.Fn) := [(58, spec_l05Spot.F k), (59, spec_l05Next.F k)]
abbrev spec_l05After.Cs := (Int → Int → Int → List (Int × Int × Int) → Option spec_l05After.N) × (Int → Int → Int → List (Int × Int × Int) → List Bool → List (Int × Int × Int) → Int → Option spec_l05After.N) × (Int → Int → Int → List (Int × Int × Int) → List Bool → List (Int × Int × Int) → Int → Int → Option spec_l05After.N)
def spec_l05After.zero : spec_l05After.Cs := (fun _ _ _ _ => none, fun _ _ _ _ _ _ _ => none, fun _ _ _ _ _ _ _ _ => none)
noncomputable def spec_l05After.step (k : Nat) (c : spec_l05After.Cs) : spec_l05After.Cs := (fun (x0 : Int) (x1 : Int) (x2 : Int) (x3 : List (Int × Int × Int)) => (if (decide (0 < x0)) = true then if 0 ≤ 11907 then if 11907 ≤ 11907 then if 11907 < 1099511627776 then c.2.1 x0 x1 x2 x3 (List.replicate (11907 : Int).toNat false) ([] : List (Int × Int × Int)) 0 else none else none else none else some x3),
  fun (x0 : Int) (x1 : Int) (x2 : Int) (x3 : List (Int × Int × Int)) (x4 : List Bool) (x5 : List (Int × Int × Int)) (x6 : Int) => (if (decide (x6 < (x3.length : Int))) = true then c.2.2 x0 x1 x2 x3 x4 x5 x6 (wrap64 (0 - x1)) else c.1 (wrap64 (x0 - 1)) x1 x2 x5),
  fun (x0 : Int) (x1 : Int) (x2 : Int) (x3 : List (Int × Int × Int)) (x4 : List Bool) (x5 : List (Int × Int × Int)) (x6 : Int) (x7 : Int) => (if (decide (x7 ≤ x1)) = true then if 0 ≤ x6 then if x6 < (x3.length : Int) then (spec_l05Next.f k x1 x2 ((rd (0, (0, 0)) x3 x6).1) (((rd (0, (0, 0)) x3 x6).2).1) (((rd (0, (0, 0)) x3 x6).2).2) x7).bind fun t1 => (if t1.2.2.2 = true then (spec_l05Spot.f k t1.1 t1.2.1 t1.2.2.1).bind fun (t2 : Int) => if 0 ≤ t2 then if t2 < (x4.length : Int) then (if (!(rd false x4 t2)) = true then (spec_l05Spot.f k t1.1 t1.2.1 t1.2.2.1).bind fun (t3 : Int) => if 0 ≤ t3 then if t3 < (x4.length : Int) then if x5.length + [(t1.1, (t1.2.1, t1.2.2.1))].length < 366503875925 then c.2.2 x0 x1 x2 x3 (x4.set t3.toNat true) (x5 ++ [(t1.1, (t1.2.1, t1.2.2.1))]) x6 (wrap64 (x7 + 1)) else none else none else none else c.2.2 x0 x1 x2 x3 x4 x5 x6 (wrap64 (x7 + 1))) else none else none else c.2.2 x0 x1 x2 x3 x4 x5 x6 (wrap64 (x7 + 1))) else none else none else c.2.1 x0 x1 x2 x3 x4 x5 (wrap64 (x6 + 1))))
noncomputable def spec_l05After.cs (k : Nat) : Nat → spec_l05After.Cs
  | 0 => spec_l05After.zero
  | n + 1 => spec_l05After.step k (spec_l05After.cs k n)
def spec_l05After.CC (c : spec_l05After.Cs) : Cuts spec_l05After.N := [(6, ⟨[(2, some false, [.fl (.int .i64)]), (3, none, [.fl (.int .i64), .fl (.int .i64)]), (7, some false, [.fl (.own (.pair (.int .i64) (.pair (.int .i64) (.int .i64))))])], fun x => c.1 x.1.1 x.2.1.1 x.2.1.2.1 x.2.2.1.1⟩),
  (23, ⟨[(2, some false, [.fl (.int .i64)]), (3, none, [.fl (.int .i64), .fl (.int .i64)]), (7, some false, [.fl (.own (.pair (.int .i64) (.pair (.int .i64) (.int .i64))))]), (8, some false, [.fl (.own .bool)]), (9, some false, [.fl (.own (.pair (.int .i64) (.pair (.int .i64) (.int .i64))))]), (10, some false, [.fl (.int .i64)])], fun x => c.2.1 x.1.1 x.2.1.1 x.2.1.2.1 x.2.2.1.1 x.2.2.2.1.1 x.2.2.2.2.1.1 x.2.2.2.2.2.1.1⟩),
  (35, ⟨[(2, some false, [.fl (.int .i64)]), (3, none, [.fl (.int .i64), .fl (.int .i64)]), (7, some false, [.fl (.own (.pair (.int .i64) (.pair (.int .i64) (.int .i64))))]), (8, some false, [.fl (.own .bool)]), (9, some false, [.fl (.own (.pair (.int .i64) (.pair (.int .i64) (.int .i64))))]), (10, some false, [.fl (.int .i64)]), (11, some false, [.fl (.int .i64)])], fun x => c.2.2 x.1.1 x.2.1.1 x.2.1.2.1 x.2.2.1.1 x.2.2.2.1.1 x.2.2.2.2.1.1 x.2.2.2.2.2.1.1 x.2.2.2.2.2.2.1.1⟩)]
noncomputable def spec_l05After.f (k : Nat) (a0 : Int) (a1 : Int) (a2 : Int) (a3 : Int) (a4 : Int) (a5 : Int) : Option spec_l05After.N := (spec_l05After.cs k k).1 a5 a0 a1 [(a2, (a3, a4))]
noncomputable def spec_l05After.F (k : Nat) : Go.Rv.Fn := mkFn 3 spec_l05After.pc spec_l05After.pr (keepOf []) (fun (y : spec_l05After.N) => (((y, ()), ()) : compT spec_l05After.pr)) fun x => spec_l05After.f k x.1.1 x.1.2.1 x.2.1.1 x.2.1.2.1 x.2.1.2.2.1 x.2.2.1.1
theorem spec_l05After.env (k : Nat) : EnvOk Go.Proofs.Try.prog (fun f => (spec_l05After.E k).lookup f) := envOk_of ⟨entry Go.Proofs.Try.call58 rfl (spec_l05Spot.ok k), entry Go.Proofs.Try.call59 rfl (spec_l05Next.ok k), trivial⟩
theorem spec_l05After.cuts (k : Nat) : CutsOk Go.Proofs.Try.prog X (fun f => (spec_l05After.E k).lookup f) Go.Proofs.Try.f48 [] (decN spec_l05After.pr (fun (y : compT spec_l05After.pr) => (y.1.1 : spec_l05After.N))) fun n => spec_l05After.CC (spec_l05After.cs k n) :=
  cutsOk_of (step := spec_l05After.step k) rfl (fun _ => rfl) ⟨fun _ => rfl, fun _ => rfl, fun _ => rfl, trivial⟩ (fun c => by kernel_rfl) fun c => ⟨fun x => by kernel_rfl, fun x => by kernel_rfl, fun x => by kernel_rfl, trivial⟩
theorem spec_l05After.ok (k : Nat) : FnOk Go.Proofs.Try.prog 48 (spec_l05After.F k) :=
  fn_ok tab (spec_l05After.env k) Go.Proofs.Try.func48 rfl (n := 3) (Nat.le_of_ble_eq_true rfl) (by kernel_rfl) (outs := []) (by kernel_rfl) (by kernel_rfl) (d := fun (y : compT spec_l05After.pr) => (y.1.1 : spec_l05After.N)) (fun _ => rfl) (C := fun n => spec_l05After.CC (spec_l05After.cs k n)) (k := k) (spec_l05After.cuts k) fun x => by kernel_rfl
/-! spec.l00Put -/
@[reducible] def spec_l00Put.pc : CutP := [(0, some false, [.fl (.lo (.int .i64))]), (1, some false, [.fl (.int .i64)])]
@[reducible] def spec_l00Put.pr : CompPs := [(false, [.fl (.own (.int .i64))])]
abbrev spec_l00Put.N := List Int
noncomputable def spec_l00Put.E (k : Nat) : List (FuncId × Go.Rv.Fn) := []
abbrev spec_l00Put.Cs := (List Int → Int → List Int → Bool → Int → Option spec_l00Put.N)
def spec_l00Put.zero : spec_l00Put.Cs := (fun _ _ _ _ _ => none)
noncomputable def spec_l00Put.step (k : Nat) (c : spec_l00Put.Cs) : spec_l00Put.Cs := (fun (x0 : List Int) (x1 : Int) (x2 : List Int) (x3 : Bool) (x4 : Int) => (if (decide (x4 < (x0.length : Int))) = true then (if (!x3) = true then if 0 ≤ x4 then if x4 < (x0.length : Int) then (if (decide (x1 ≤ (rd 0 x0 x4))) = true then if 0 ≤ x4 then if x4 < (x0.length : Int) then (if (decide (x1 < (rd 0 x0 x4))) = true then if x2.length + [x1].length < 1099511627776 then if 0 ≤ x4 then if x4 < (x0.length : Int) then if (x2 ++ [x1]).length + [(rd 0 x0 x4)].length < 1099511627776 then c x0 x1 ((x2 ++ [x1]) ++ [(rd 0 x0 x4)]) true (wrap64 (x4 + 1)) else none else none else none else none else if 0 ≤ x4 then if x4 < (x0.length : Int) then if x2.length + [(rd 0 x0 x4)].length < 1099511627776 then c x0 x1 (x2 ++ [(rd 0 x0 x4)]) true (wrap64 (x4 + 1)) else none else none else none) else none else none else if 0 ≤ x4 then if x4 < (x0.length : Int) then if x2.length + [(rd 0 x0 x4)].length < 1099511627776 then c x0 x1 (x2 ++ [(rd 0 x0 x4)]) x3 (wrap64 (x4 + 1)) else none else none else none) else none else none else if 0 ≤ x4 then if x4 < (x0.length : Int) then if x2.length + [(rd 0 x0 x4)].length < 1099511627776 then c x0 x1 (x2 ++ [(rd 0 x0 x4)]) x3 (wrap64 (x4 + 1)) else none else none else none) else (if (!x3) = true then if x2.length + [x1].length < 1099511627776 then some (x2 ++ [x1]) else none else some x2)))
noncomputable def spec_l00Put.cs (k : Nat) : Nat → spec_l00Put.Cs
  | 0 => spec_l00Put.zero
  | n + 1 => spec_l00Put.step k (spec_l00Put.cs k n)
def spec_l00Put.CC (c : spec_l00Put.Cs) : Cuts spec_l00Put.N := [(10, ⟨[(0, some false, [.fl (.lo (.int .i64))]), (1, some false, [.fl (.int .i64)]), (5, some false, [.fl (.own (.int .i64))]), (6, some false, [.fl .bool]), (7, some false, [.fl (.int .i64)])], fun x => c x.1.1 x.2.1.1 x.2.2.1.1 x.2.2.2.1.1 x.2.2.2.2.1.1⟩)]
noncomputable def spec_l00Put.f (k : Nat) (a0 : List Int) (a1 : Int) : Option spec_l00Put.N := (spec_l00Put.cs k k) a0 a1 ([] : List Int) false 0
noncomputable def spec_l00Put.F (k : Nat) : Go.Rv.Fn := mkFn 2 spec_l00Put.pc spec_l00Put.pr (keepOf []) (fun (y : spec_l00Put.N) => (((y, ()), ()) : compT spec_l00Put.pr)) fun x => spec_l00Put.f k x.1.1 x.2.1.1
theorem spec_l00Put.env (k : Nat) : EnvOk Go.Proofs.Try.prog (fun f => (spec_l00Put.E k).lookup f) := envOk_of trivial
theorem spec_l00Put.cuts (k : Nat) : CutsOk Go.Proofs.Try.prog X (fun f => (spec_l00Put.E k).lookup f) Go.Proofs.Try.f49 [] (decN spec_l00Put.pr (fun (y : compT spec_l00Put.pr) => (y.1.1 : spec_l00Put.N))) fun n => spec_l00Put.CC (spec_l00Put.cs k n) :=
  cutsOk_of (step := spec_l00Put.step k) rfl (fun _ => rfl) ⟨fun _ => rfl, trivial⟩ (fun c => by kernel_rfl) fun c => ⟨fun x => by kernel_rfl, trivial⟩
theorem spec_l00Put.ok (k : Nat) : FnOk Go.Proofs.Try.prog 49 (spec_l00Put.F k) :=
  fn_ok tab (spec_l00Put.env k) Go.Proofs.Try.func49 rfl (n := 2) (Nat.le_of_ble_eq_true rfl) (by kernel_rfl) (outs := []) (by kernel_rfl) (by kernel_rfl) (d := fun (y : compT spec_l00Put.pr) => (y.1.1 : spec_l00Put.N)) (fun _ => rfl) (C := fun n => spec_l00Put.CC (spec_l00Put.cs k n)) (k := k) (spec_l00Put.cuts k) fun x => by kernel_rfl
/-! spec.OffsetsAfter -/
@[reducible] def spec_OffsetsAfter.pc : CutP := [(0, some true, [.fl (.int .i64), .fl (.int .i64)]), (1, some true, [.fl (.int .i64), .fl (.int .i64), .fl (.int .i64)]), (2, some false, [.fl (.int .i64)]), (3, some false, [.fl (.int .i64)])]
@[reducible] def spec_OffsetsAfter.pr : CompPs := [(false, [.fl (.own (.int .i64))]), (false, [.fl .bool])]
abbrev spec_OffsetsAfter.N := List Int × Bool
noncomputable def spec_OffsetsAfter.E (k : Nat) : List (FuncId × Go.Rv.Fn) := [(41, spec_l05Is.F k), (47, spec_l00In.F k), (48, spec_l05After.F k), (49, spec_l00Put.F k)]
abbrev spec_OffsetsAfter.Cs := (Int → Int → Int → Int → Int → Int → Int → Option spec_OffsetsAfter.N) × (Int → List Int → List (Int × Int × Int) → Int → Option spec_OffsetsAfter.N)
def spec_OffsetsAfter.zero : spec_OffsetsAfter.Cs := (fun _ _ _ _ _ _ _ => none, fun _ _ _ _ => none)
noncomputable def spec_OffsetsAfter.step (k : Nat) (c : spec_OffsetsAfter.Cs) : spec_OffsetsAfter.Cs := (fun (x0 : Int) (x1 : Int) (x2 : Int) (x3 : Int) (x4 : Int) (x5 : Int) (x6 : Int) => (spec_l05After.f k x2 x3 x4 x5 x6 x0).bind fun t3 => c.2 x1 ([] : List Int) t3 0,
  fun (x0 : Int) (x1 : List Int) (x2 : List (Int × Int × Int)) (x3 : Int) => (if (decide (x3 < (x2.length : Int))) = true then if 0 ≤ x3 then if x3 < (x2.length : Int) then (if (decide (((rd (0, (0, 0)) x2 x3).2).1 = x0)) = true then if 0 ≤ x3 then if x3 < (x2.length : Int) then (spec_l00Put.f k x1 ((rd (0, (0, 0)) x2 x3).1)).bind fun t4 => c.2 x0 t4 x2 (wrap64 (x3 + 1)) else none else none else c.2 x0 x1 x2 (wrap64 (x3 + 1))) else none else none else some (x1, true)))
noncomputable def spec_OffsetsAfter.cs (k : Nat) : Nat → spec_OffsetsAfter.Cs
  | 0 => spec_OffsetsAfter.zero
  | n + 1 => spec_OffsetsAfter.step k (spec_OffsetsAfter.cs k n)
def spec_OffsetsAfter.CC (c : spec_OffsetsAfter.Cs) : Cuts spec_OffsetsAfter.N := [(2, ⟨[(2, some false, [.fl (.int .i64)]), (3, some false, [.fl (.int .i64)]), (4, none, [.fl (.int .i64), .fl (.int .i64)]), (5, none, [.fl (.int .i64), .fl (.int .i64), .fl (.int .i64)])], fun x => c.1 x.1.1 x.2.1.1 x.2.2.1.1 x.2.2.1.2.1 x.2.2.2.1.1 x.2.2.2.1.2.1 x.2.2.2.1.2.2.1⟩),
  (18, ⟨[(3, some false, [.fl (.int .i64)]), (10, some false, [.fl (.own (.int .i64))]), (11, some false, [.fl (.own (.pair (.int .i64) (.pair (.int .i64) (.int .i64))))]), (12, some false, [.fl (.int .i64)])], fun x => c.2 x.1.1 x.2.1.1 x.2.2.1.1 x.2.2.2.1.1⟩)]
noncomputable def spec_OffsetsAfter.f (k : Nat) (a0 : Int) (a1 : Int) (a2 : Int) (a3 : Int) (a4 : Int) (a5 : Int) (a6 : Int) : Option spec_OffsetsAfter.N := (spec_l05Is.f k a0 a1 a2 a3 a4).bind fun t1 => (if (!t1) = true then some ([], false) else (spec_l00In.f k a5 0 8).bind fun t2 => (if (!t2) = true then some ([], false) else (spec_OffsetsAfter.cs k k).1 a5 a6 a0 a1 a2 a3 a4))
noncomputable def spec_OffsetsAfter.F (k : Nat) : Go.Rv.Fn := mkFn 4 spec_OffsetsAfter.pc spec_OffsetsAfter.pr (keepOf []) (fun (y : spec_OffsetsAfter.N) => (((y.1, ()), (y.2, ()), ()) : compT spec_OffsetsAfter.pr)) fun x => spec_OffsetsAfter.f k x.1.1 x.1.2.1 x.2.1.1 x.2.1.2.1 x.2.1.2.2.1 x.2.2.1.1 x.2.2.2.1.1
theorem spec_OffsetsAfter.env (k : Nat) : EnvOk Go.Proofs.Try.prog (fun f => (spec_OffsetsAfter.E k).lookup f) := envOk_of ⟨entry Go.Proofs.Try.call41 rfl (spec_l05Is.ok k), entry Go.Proofs.Try.call47 rfl (spec_l00In.ok k), entry Go.Proofs.Try.call48 rfl (spec_l05After.ok k), entry Go.Proofs.Try.call49 rfl (spec_l00Put.ok k), trivial⟩
theorem spec_OffsetsAfter.cuts (k : Nat) : CutsOk Go.Proofs.Try.prog X (fun f => (spec_OffsetsAfter.E k).lookup f) Go.Proofs.Try.f26 [] (decN spec_OffsetsAfter.pr (fun (y : compT spec_OffsetsAfter.pr) => ((y.1.1, y.2.1.1) : spec_OffsetsAfter.N))) fun n => spec_OffsetsAfter.CC (spec_OffsetsAfter.cs k n) :=
  cutsOk_of (step := spec_OffsetsAfter.step k) rfl (fun _ => rfl) ⟨fun _ => rfl, fun _ => rfl, trivial⟩ (fun c => by kernel_rfl) fun c => ⟨fun x => by kernel_rfl, fun x => by kernel_rfl, trivial⟩
theorem spec_OffsetsAfter.ok (k : Nat) : FnOk Go.Proofs.Try.prog 26 (spec_OffsetsAfter.F k) :=
  fn_ok tab (spec_OffsetsAfter.env k) Go.Proofs.Try.func26 rfl (n := 4) (Nat.le_of_ble_eq_true rfl) (by kernel_rfl) (outs := []) (by kernel_rfl) (by kernel_rfl) (d := fun (y : compT spec_OffsetsAfter.pr) => ((y.1.1, y.2.1.1) : spec_OffsetsAfter.N)) (fun _ => rfl) (C := fun n => spec_OffsetsAfter.CC (spec_OffsetsAfter.cs k n)) (k := k) (spec_OffsetsAfter.cuts k) fun x => by kernel_rfl
/-! impl.within -/
@[reducible] def impl_within.pc : CutP := [(0, some false, [.fl (.int .i64)]), (1, some false, [.fl (.int .i64)]), (2, some false, [.fl (.int .i64)])]
@[reducible] def impl_within.pr : CompPs := [(false, [.fl .bool])]
abbrev impl_within.N := Bool
noncomputable def impl_within.E (k : Nat) : List (FuncId × Go.Rv.Fn) := []
noncomputable def impl_within.f (k : Nat) (a0 : Int) (a1 : Int) (a2 : Int) : Option impl_within.N := (if (decide (a1 ≤ a0)) = true then some (decide (a0 ≤ a2)) else some false)
noncomputable def impl_within.F (k : Nat) : Go.Rv.Fn := mkFn 3 impl_within.pc impl_within.pr (keepOf []) (fun (y : impl_within.N) => (((y, ()), ()) : compT impl_within.pr)) fun x => impl_within.f k x.1.1 x.2.1.1 x.2.2.1.1
theorem impl_within.env (k : Nat) : EnvOk Go.Proofs.Try.prog (fun f => (impl_within.E k).lookup f) := envOk_of trivial
theorem impl_within.ok (k : Nat) : FnOk Go.Proofs.Try.prog 34 (impl_within.F k) :=
  fn_ok tab (impl_within.env k) Go.Proofs.Try.func34 rfl (n := 3) (Nat.le_of_ble_eq_true rfl) (by kernel_rfl) (outs := []) (by kernel_rfl) (by kernel_rfl) (d := fun (y : compT impl_within.pr) => (y.1.1 : impl_within.N)) (fun _ => rfl) (C := fun _ => []) (k := k) noCuts fun x => by kernel_rfl
/-! impl.ValidLimits -/
@[reducible] def impl_ValidLimits.pc : CutP := [(0, some true, [.fl (.int .i64), .fl (.int .i64)])]
@[reducible] def impl_ValidLimits.pr : CompPs := [(false, [.fl .bool])]
abbrev impl_ValidLimits.N := Bool
noncomputable def impl_ValidLimits.E (k : Nat) : List (FuncId × Go.Rv.Fn) := [(34, impl_within.F k)]
noncomputable def impl_ValidLimits.f (k : Nat) (a0 : Int) (a1 : Int) : Option impl_ValidLimits.N := (impl_within.f k a0 1 3).bind fun t1 => (if t1 = true then (impl_within.f k a1 1 6).bind fun t2 => some t2 else some false)
noncomputable def impl_ValidLimits.F (k : Nat) : Go.Rv.Fn := mkFn 1 impl_ValidLimits.pc impl_ValidLimits.pr (keepOf []) (fun (y : impl_ValidLimits.N) => (((y, ()), ()) : compT impl_ValidLimits.pr)) fun x => impl_ValidLimits.f k x.1.1 x.1.2.1
theorem impl_ValidLimits.env (k : Nat) : EnvOk Go.Proofs.Try.prog (fun f => (impl_ValidLimits.E k).lookup f) := envOk_of ⟨entry Go.Proofs.Try.call34 rfl (impl_within.ok k), trivial⟩
theorem impl_ValidLimits.ok (k : Nat) : FnOk Go.Proofs.Try.prog 51 (impl_ValidLimits.F k) :=
  fn_ok tab (impl_ValidLimits.env k) Go.Proofs.Try.func51 rfl (n := 1) (Nat.le_of_ble_eq_true rfl) (by kernel_rfl) (outs := []) (by kernel_rfl) (by kernel_rfl) (d := fun (y : compT impl_ValidLimits.pr) => (y.1.1 : impl_ValidLimits.N)) (fun _ => rfl) (C := fun _ => []) (k := k) noCuts fun x => by kernel_rfl
/-! (impl.Limits).isCourse -/
@[reducible] def impl_Limits_isCourse.pc : CutP := [(0, some true, [.fl (.int .i64), .fl (.int .i64)]), (1, some true, [.fl (.int .i64), .fl (.int .i64), .fl (.int .i64)])]
@[reducible] def impl_Limits_isCourse.pr : CompPs := [(false, [.fl .bool])]
abbrev impl_Limits_isCourse.N := Bool
noncomputable def impl_Limits_isCourse.E (k : Nat) : List (FuncId × Go.Rv.Fn) := [(34, impl_within.F k)]
noncomputable def impl_Limits_isCourse.f (k : Nat) (a0 : Int) (a1 : Int) (a2 : Int) (a3 : Int) (a4 : Int) : Option impl_Limits_isCourse.N := (impl_within.f k a2 (-40) 40).bind fun t1 => (if t1 = true then (impl_within.f k a3 (-10) 10).bind fun t2 => (if t2 = true then (impl_within.f k a4 (wrap64 (0 - a0)) a0).bind fun t3 => some t3 else some false) else some false)
noncomputable def impl_Limits_isCourse.F (k : Nat) : Go.Rv.Fn := mkFn 2 impl_Limits_isCourse.pc impl_Limits_isCourse.pr (keepOf []) (fun (y : impl_Limits_isCourse.N) => (((y, ()), ()) : compT impl_Limits_isCourse.pr)) fun x => impl_Limits_isCourse.f k x.1.1 x.1.2.1 x.2.1.1 x.2.1.2.1 x.2.1.2.2.1
theorem impl_Limits_isCourse.env (k : Nat) : EnvOk Go.Proofs.Try.prog (fun f => (impl_Limits_isCourse.E k).lookup f) := envOk_of ⟨entry Go.Proofs.Try.call34 rfl (impl_within.ok k), trivial⟩
theorem impl_Limits_isCourse.ok (k : Nat) : FnOk Go.Proofs.Try.prog 52 (impl_Limits_isCourse.F k) :=
  fn_ok tab (impl_Limits_isCourse.env k) Go.Proofs.Try.func52 rfl (n := 2) (Nat.le_of_ble_eq_true rfl) (by kernel_rfl) (outs := []) (by kernel_rfl) (by kernel_rfl) (d := fun (y : compT impl_Limits_isCourse.pr) => (y.1.1 : impl_Limits_isCourse.N)) (fun _ => rfl) (C := fun _ => []) (k := k) noCuts fun x => by kernel_rfl
/-! impl.ValidCourse -/
@[reducible] def impl_ValidCourse.pc : CutP := [(0, some true, [.fl (.int .i64), .fl (.int .i64)]), (1, some true, [.fl (.int .i64), .fl (.int .i64), .fl (.int .i64)])]
@[reducible] def impl_ValidCourse.pr : CompPs := [(false, [.fl .bool])]
abbrev impl_ValidCourse.N := Bool
noncomputable def impl_ValidCourse.E (k : Nat) : List (FuncId × Go.Rv.Fn) := [(51, impl_ValidLimits.F k), (52, impl_Limits_isCourse.F k)]
noncomputable def impl_ValidCourse.f (k : Nat) (a0 : Int) (a1 : Int) (a2 : Int) (a3 : Int) (a4 : Int) : Option impl_ValidCourse.N := (impl_ValidLimits.f k a0 a1).bind fun t1 => (if t1 = true then (impl_Limits_isCourse.f k a0 a1 a2 a3 a4).bind fun t2 => some t2 else some false)
noncomputable def impl_ValidCourse.F (k : Nat) : Go.Rv.Fn := mkFn 2 impl_ValidCourse.pc impl_ValidCourse.pr (keepOf []) (fun (y : impl_ValidCourse.N) => (((y, ()), ()) : compT impl_ValidCourse.pr)) fun x => impl_ValidCourse.f k x.1.1 x.1.2.1 x.2.1.1 x.2.1.2.1 x.2.1.2.2.1
theorem impl_ValidCourse.env (k : Nat) : EnvOk Go.Proofs.Try.prog (fun f => (impl_ValidCourse.E k).lookup f) := envOk_of ⟨entry Go.Proofs.Try.call51 rfl (impl_ValidLimits.ok k), entry Go.Proofs.Try.call52 rfl (impl_Limits_isCourse.ok k), trivial⟩
theorem impl_ValidCourse.ok (k : Nat) : FnOk Go.Proofs.Try.prog 32 (impl_ValidCourse.F k) :=
  fn_ok tab (impl_ValidCourse.env k) Go.Proofs.Try.func32 rfl (n := 2) (Nat.le_of_ble_eq_true rfl) (by kernel_rfl) (outs := []) (by kernel_rfl) (by kernel_rfl) (d := fun (y : compT impl_ValidCourse.pr) => (y.1.1 : impl_ValidCourse.N)) (fun _ => rfl) (C := fun _ => []) (k := k) noCuts fun x => by kernel_rfl
/-! impl.abs -/
@[reducible] def impl_abs.pc : CutP := [(0, some false, [.fl (.int .i64)])]
@[reducible] def impl_abs.pr : CompPs := [(false, [.fl (.int .i64)])]
abbrev impl_abs.N := Int
noncomputable def impl_abs.E (k : Nat) : List (FuncId × Go.Rv.Fn) := []
noncomputable def impl_abs.f (k : Nat) (a0 : Int) : Option impl_abs.N := some (if a0 < (wrap64 (0 - a0)) then (wrap64 (0 - a0)) else a0)
noncomputable def impl_abs.F (k : Nat) : Go.Rv.Fn := mkFn 1 impl_abs.pc impl_abs.pr (keepOf []) (fun (y : impl_abs.N) => (((y, ()), ()) : compT impl_abs.pr)) fun x => impl_abs.f k x.1.1
theorem impl_abs.env (k : Nat) : EnvOk Go.Proofs.Try.prog (fun f => (impl_abs.E k).lookup f) := envOk_of trivial
theorem impl_abs.ok (k : Nat) : FnOk Go.Proofs.Try.prog 46 (impl_abs.F k) :=
  fn_ok tab (impl_abs.env k) Go.Proofs.Try.func46 rfl (n := 1) (Nat.le_of_ble_eq_true rfl) (by kernel_rfl) (outs := []) (by kernel_rfl) (by kernel_rfl) (d := fun (y : compT impl_abs.pr) => (y.1.1 : impl_abs.N)) (fun _ => rfl) (C := fun _ => []) (k := k) noCuts fun x => by kernel_rfl
/-! (impl.Limits).next -/
@[reducible] def impl_Limits_next.pc : CutP := [(0, some true, [.fl (.int .i64), .fl (.int .i64)]), (1, some true, [.fl (.int .i64), .fl (.int .i64), .fl (.int .i64)]), (2, some false, [.fl (.int .i64)])]
@[reducible] def impl_Limits_next.pr : CompPs := [(true, [.fl (.int .i64), .fl (.int .i64), .fl (.int .i64)]), (false, [.fl .bool])]
abbrev impl_Limits_next.N := Int × Int × Int × Bool
noncomputable def impl_Limits_next.E (k : Nat) : List (FuncId × Go.Rv.Fn) := [(34, impl_within.F k), (46, impl_abs.F k), (52, impl_Limits_isCourse.F k)]
abbrev impl_Limits_next.Cs := (Int → Int → Int → Int → Int → Int → Int → Int → Int → Option impl_Limits_next.N)
def impl_Limits_next.zero : impl_Limits_next.Cs := (fun _ _ _ _ _ _ _ _ _ => none)
noncomputable def impl_Limits_next.step (k : Nat) (c : impl_Limits_next.Cs) : impl_Limits_next.Cs := (fun (x0 : Int) (x1 : Int) (x2 : Int) (x3 : Int) (x4 : Int) (x5 : Int) (x6 : Int) (x7 : Int) (x8 : Int) => (impl_Limits_isCourse.f k x1 x2 (wrap64 (x3 + x4)) (wrap64 (x4 + x0)) x0).bind fun t3 => (if (!t3) = true then some (0, 0, 0, false) else some ((wrap64 (x3 + x4)), (wrap64 (x4 + x0)), x0, true)))
noncomputable def impl_Limits_next.cs (k : Nat) : Nat → impl_Limits_next.Cs
  | 0 => impl_Limits_next.zero
  | n + 1 => impl_Limits_next.step k (impl_Limits_next.cs k n)
def impl_Limits_next.CC (c : impl_Limits_next.Cs) : Cuts impl_Limits_next.N := [(2, ⟨[(2, some false, [.fl (.int .i64)]), (3, none, [.fl (.int .i64), .fl (.int .i64)]), (4, none, [.fl (.int .i64), .fl (.int .i64), .fl (.int .i64)]), (6, none, [.fl (.int .i64), .fl (.int .i64), .fl (.int .i64)])], fun x => c x.1.1 x.2.1.1 x.2.1.2.1 x.2.2.1.1 x.2.2.1.2.1 x.2.2.1.2.2.1 x.2.2.2.1.1 x.2.2.2.1.2.1 x.2.2.2.1.2.2.1⟩)]
noncomputable def impl_Limits_next.f (k : Nat) (a0 : Int) (a1 : Int) (a2 : Int) (a3 : Int) (a4 : Int) (a5 : Int) : Option impl_Limits_next.N := (impl_within.f k a5 (wrap64 (0 - a0)) a0).bind fun t1 => (if (!t1) = true then some (0, 0, 0, false) else (impl_abs.f k (wrap64 (a5 - a4))).bind fun (t2 : Int) => (if (decide (a1 < t2)) = true then some (0, 0, 0, false) else (impl_Limits_next.cs k k) a5 a0 a1 a2 a3 a4 0 0 0))
noncomputable def impl_Limits_next.F (k : Nat) : Go.Rv.Fn := mkFn 3 impl_Limits_next.pc impl_Limits_next.pr (keepOf []) (fun (y : impl_Limits_next.N) => (((y.1, y.2.1, y.2.2.1, ()), (y.2.2.2, ()), ()) : compT impl_Limits_next.pr)) fun x => impl_Limits_next.f k x.1.1 x.1.2.1 x.2.1.1 x.2.1.2.1 x.2.1.2.2.1 x.2.2.1.1
theorem impl_Limits_next.env (k : Nat) : EnvOk Go.Proofs.Try.prog (fun f => (impl_Limits_next.E k).lookup f) := envOk_of ⟨entry Go.Proofs.Try.call34 rfl (impl_within.ok k), entry Go.Proofs.Try.call46 rfl (impl_abs.ok k), entry Go.Proofs.Try.call52 rfl (impl_Limits_isCourse.ok k), trivial⟩
theorem impl_Limits_next.cuts (k : Nat) : CutsOk Go.Proofs.Try.prog X (fun f => (impl_Limits_next.E k).lookup f) Go.Proofs.Try.f33 [] (decN impl_Limits_next.pr (fun (y : compT impl_Limits_next.pr) => ((y.1.1, y.1.2.1, y.1.2.2.1, y.2.1.1) : impl_Limits_next.N))) fun n => impl_Limits_next.CC (impl_Limits_next.cs k n) :=
  cutsOk_of (step := impl_Limits_next.step k) rfl (fun _ => rfl) ⟨fun _ => rfl, trivial⟩ (fun c => by kernel_rfl) fun c => ⟨fun x => by kernel_rfl, trivial⟩
theorem impl_Limits_next.ok (k : Nat) : FnOk Go.Proofs.Try.prog 33 (impl_Limits_next.F k) :=
  fn_ok tab (impl_Limits_next.env k) Go.Proofs.Try.func33 rfl (n := 3) (Nat.le_of_ble_eq_true rfl) (by kernel_rfl) (outs := []) (by kernel_rfl) (by kernel_rfl) (d := fun (y : compT impl_Limits_next.pr) => ((y.1.1, y.1.2.1, y.1.2.2.1, y.2.1.1) : impl_Limits_next.N)) (fun _ => rfl) (C := fun n => impl_Limits_next.CC (impl_Limits_next.cs k n)) (k := k) (impl_Limits_next.cuts k) fun x => by kernel_rfl
/-! (impl.Limits).turns -/
@[reducible] def impl_Limits_turns.pc : CutP := [(0, some true, [.fl (.int .i64), .fl (.int .i64)]), (1, some true, [.fl (.int .i64), .fl (.int .i64), .fl (.int .i64)])]
@[reducible] def impl_Limits_turns.pr : CompPs := [(false, [.fl (.own (.int .i64))])]
abbrev impl_Limits_turns.N := List Int
noncomputable def impl_Limits_turns.E (k : Nat) : List (FuncId × Go.Rv.Fn) := [(33, impl_Limits_next.F k)]
abbrev impl_Limits_turns.Cs := (Int → Int → Int → Int → Int → List Int → Int → Option impl_Limits_turns.N)
def impl_Limits_turns.zero : impl_Limits_turns.Cs := (fun _ _ _ _ _ _ _ => none)
noncomputable def impl_Limits_turns.step (k : Nat) (c : impl_Limits_turns.Cs) : impl_Limits_turns.Cs := (fun (x0 : Int) (x1 : Int) (x2 : Int) (x3 : Int) (x4 : Int) (x5 : List Int) (x6 : Int) => (if (decide (x6 ≤ x0)) = true then (impl_Limits_next.f k x0 x1 x2 x3 x4 x6).bind fun t1 => (if t1.2.2.2 = true then if x5.length + [x6].length < 1099511627776 then c x0 x1 x2 x3 x4 (x5 ++ [x6]) (wrap64 (x6 + 1)) else none else c x0 x1 x2 x3 x4 x5 (wrap64 (x6 + 1))) else some x5))
noncomputable def impl_Limits_turns.cs (k : Nat) : Nat → impl_Limits_turns.Cs
  | 0 => impl_Limits_turns.zero
  | n + 1 => impl_Limits_turns.step k (impl_Limits_turns.cs k n)
def impl_Limits_turns.CC (c : impl_Limits_turns.Cs) : Cuts impl_Limits_turns.N := [(8, ⟨[(2, none, [.fl (.int .i64), .fl (.int .i64)]), (3, none, [.fl (.int .i64), .fl (.int .i64), .fl (.int .i64)]), (5, some false, [.fl (.own (.int .i64))]), (6, some false, [.fl (.int .i64)])], fun x => c x.1.1 x.1.2.1 x.2.1.1 x.2.1.2.1 x.2.1.2.2.1 x.2.2.1.1 x.2.2.2.1.1⟩)]
noncomputable def impl_Limits_turns.f (k : Nat) (a0 : Int) (a1 : Int) (a2 : Int) (a3 : Int) (a4 : Int) : Option impl_Limits_turns.N := (impl_Limits_turns.cs k k) a0 a1 a2 a3 a4 ([] : List Int) (wrap64 (0 - a0))
noncomputable def impl_Limits_turns.F (k : Nat) : Go.Rv.Fn := mkFn 2 impl_Limits_turns.pc impl_Limits_turns.pr (keepOf []) (fun (y : impl_Limits_turns.N) => (((y, ()), ()) : compT impl_Limits_turns.pr)) fun x => impl_Limits_turns.f k x.1.1 x.1.2.1 x.2.1.1 x.2.1.2.1 x.2.1.2.2.1
theorem impl_Limits_turns.env (k : Nat) : EnvOk Go.Proofs.Try.prog (fun f => (impl_Limits_turns.E k).lookup f) := envOk_of ⟨entry Go.Proofs.Try.call33 rfl (impl_Limits_next.ok k), trivial⟩
theorem impl_Limits_turns.cuts (k : Nat) : CutsOk Go.Proofs.Try.prog X (fun f => (impl_Limits_turns.E k).lookup f) Go.Proofs.Try.f35 [] (decN impl_Limits_turns.pr (fun (y : compT impl_Limits_turns.pr) => (y.1.1 : impl_Limits_turns.N))) fun n => impl_Limits_turns.CC (impl_Limits_turns.cs k n) :=
  cutsOk_of (step := impl_Limits_turns.step k) rfl (fun _ => rfl) ⟨fun _ => rfl, trivial⟩ (fun c => by kernel_rfl) fun c => ⟨fun x => by kernel_rfl, trivial⟩
theorem impl_Limits_turns.ok (k : Nat) : FnOk Go.Proofs.Try.prog 35 (impl_Limits_turns.F k) :=
  fn_ok tab (impl_Limits_turns.env k) Go.Proofs.Try.func35 rfl (n := 2) (Nat.le_of_ble_eq_true rfl) (by kernel_rfl) (outs := []) (by kernel_rfl) (by kernel_rfl) (d := fun (y : compT impl_Limits_turns.pr) => (y.1.1 : impl_Limits_turns.N)) (fun _ => rfl) (C := fun n => impl_Limits_turns.CC (impl_Limits_turns.cs k n)) (k := k) (impl_Limits_turns.cuts k) fun x => by kernel_rfl
/-! slices.Sort[[]int64,int64] -/
@[reducible] def slices_Sort_int64.pc : CutP := [(0, some false, [.fl (.own (.int .i64))])]
@[reducible] def slices_Sort_int64.pr : CompPs := [(false, [.fl (.own (.int .i64))])]
abbrev slices_Sort_int64.N := List Int
noncomputable def slices_Sort_int64.E (k : Nat) : List (FuncId × Go.Rv.Fn) := []
noncomputable def slices_Sort_int64.f (k : Nat) (a0 : List Int) : Option slices_Sort_int64.N := Go.Rv.sortF a0
noncomputable def slices_Sort_int64.F (k : Nat) : Go.Rv.Fn := mkFn 1 slices_Sort_int64.pc slices_Sort_int64.pr (keepOf [(0, 1)]) (fun (y : slices_Sort_int64.N) => (((y, ()), ()) : compT slices_Sort_int64.pr)) fun x => slices_Sort_int64.f k x.1.1
theorem slices_Sort_int64.ok (k : Nat) : FnOk Go.Proofs.Try.prog 36 (slices_Sort_int64.F k) := Go.Rv.sort_fn Sh.sort_36 Sh.sort0_36
/-! slices.Compact[[]int64,int64] -/
@[reducible] def slices_Compact_int64.pc : CutP := [(0, some false, [.fl (.own (.int .i64))])]
@[reducible] def slices_Compact_int64.pr : CompPs := [(false, [.fl (.own (.int .i64))]), (false, [.fl .dead])]
abbrev slices_Compact_int64.N := List Int
noncomputable def slices_Compact_int64.E (k : Nat) : List (FuncId × Go.Rv.Fn) := []
noncomputable def slices_Compact_int64.f (k : Nat) (a0 : List Int) : Option slices_Compact_int64.N := Go.Rv.compactF a0
noncomputable def slices_Compact_int64.F (k : Nat) : Go.Rv.Fn := mkFn 1 slices_Compact_int64.pc slices_Compact_int64.pr (keepOf [(0, 1)]) (fun (y : slices_Compact_int64.N) => (((y, ()), ((), ()), ()) : compT slices_Compact_int64.pr)) fun x => slices_Compact_int64.f k x.1.1
theorem slices_Compact_int64.ok (k : Nat) : FnOk Go.Proofs.Try.prog 37 (slices_Compact_int64.F k) := Go.Rv.compact_fn Sh.compact_37 Sh.compact0_37
/-! impl.OffsetsAfter -/
@[reducible] def impl_OffsetsAfter.pc : CutP := [(0, some true, [.fl (.int .i64), .fl (.int .i64)]), (1, some true, [.fl (.int .i64), .fl (.int .i64), .fl (.int .i64)]), (2, some false, [.fl (.int .i64)]), (3, some false, [.fl (.int .i64)])]
@[reducible] def impl_OffsetsAfter.pr : CompPs := [(false, [.fl (.own (.int .i64))]), (false, [.fl .bool])]
abbrev impl_OffsetsAfter.N := List Int × Bool
noncomputable def impl_OffsetsAfter.E (k : Nat) : List (FuncId × Go.Rv.Fn) := [(32, impl_ValidCourse.F k), (33, impl_Limits_next.F k), (34, impl_within.F k), (35, impl_Limits_turns.F k), (36, slices_Sort_int64.F k), (37, slices_Compact_int64.F k)]
abbrev impl_OffsetsAfter.Cs := (Int → Int → Int → Int → Int → Int → Int → Option impl_OffsetsAfter.N) × (Int → Int → Int → List ((Int × Int × Int) × Bool) → Int → Int → Option impl_OffsetsAfter.N) × (Int → Int → Int → List ((Int × Int × Int) × Bool) → Int → Int → List ((Int × Int × Int) × Bool) → Option impl_OffsetsAfter.N) × (Int → Int → Int → List ((Int × Int × Int) × Bool) → Int → Int → Int → Int → Int → List ((Int × Int × Int) × Bool) → List Int → Int → Int → Option impl_OffsetsAfter.N) × (Int → List Int → List ((Int × Int × Int) × Bool) → Option impl_OffsetsAfter.N)
def impl_OffsetsAfter.zero : impl_OffsetsAfter.Cs := (fun _ _ _ _ _ _ _ => none, fun _ _ _ _ _ _ => none, fun _ _ _ _ _ _ _ => none, fun _ _ _ _ _ _ _ _ _ _ _ _ _ => none, fun _ _ _ => none)
noncomputable def impl_OffsetsAfter.step (k : Nat) (c : impl_OffsetsAfter.Cs) : impl_OffsetsAfter.Cs := (fun (x0 : Int) (x1 : Int) (x2 : Int) (x3 : Int) (x4 : Int) (x5 : Int) (x6 : Int) => (if kwf (.pair (.int .i64) (.pair (.int .i64) (.int .i64))) (x4, (x5, x6)) = true then c.2.1 x1 x2 x3 (mput (x4, (x5, x6)) true ([] : List ((Int × Int × Int) × Bool))) x0 0 else none),
  fun (x0 : Int) (x1 : Int) (x2 : Int) (x3 : List ((Int × Int × Int) × Bool)) (x4 : Int) (x5 : Int) => (if (decide (x5 < x4)) = true then c.2.2.1 x0 x1 x2 ([] : List ((Int × Int × Int) × Bool)) x4 x5 x3 else c.2.2.2.2 x0 ([] : List Int) x3),
  fun (x0 : Int) (x1 : Int) (x2 : Int) (x3 : List ((Int × Int × Int) × Bool)) (x4 : Int) (x5 : Int) (x6 : List ((Int × Int × Int) × Bool)) => nextL x6 (c.2.1 x0 x1 x2 x3 x4 (wrap64 (x5 + 1))) (fun t3 => (impl_Limits_turns.f k x1 x2 t3.1.1.1 t3.1.1.2.1 t3.1.1.2.2).bind fun t4 => c.2.2.2.1 x0 x1 x2 x3 t3.1.1.1 t3.1.1.2.1 t3.1.1.2.2 x4 x5 t3.2 t4 (t4.length : Int) 0),
  fun (x0 : Int) (x1 : Int) (x2 : Int) (x3 : List ((Int × Int × Int) × Bool)) (x4 : Int) (x5 : Int) (x6 : Int) (x7 : Int) (x8 : Int) (x9 : List ((Int × Int × Int) × Bool)) (x10 : List Int) (x11 : Int) (x12 : Int) => (if (decide (x12 < x11)) = true then if 0 ≤ x12 then if x12 < (x10.length : Int) then (impl_Limits_next.f k x1 x2 x4 x5 x6 (rd 0 x10 x12)).bind fun t8 => (if kwf (.pair (.int .i64) (.pair (.int .i64) (.int .i64))) (t8.1, (t8.2.1, t8.2.2.1)) = true then c.2.2.2.1 x0 x1 x2 (mput (t8.1, (t8.2.1, t8.2.2.1)) true x3) x4 x5 x6 x7 x8 x9 x10 x11 (wrap64 (x12 + 1)) else none) else none else none else c.2.2.1 x0 x1 x2 x3 x7 x8 x9),
  fun (x0 : Int) (x1 : List Int) (x2 : List ((Int × Int × Int) × Bool)) => nextL x2 ((slices_Sort_int64.f k x1).bind fun t6 => (slices_Compact_int64.f k t6).bind fun t7 => some (t7, true)) (fun t5 => (if (decide (t5.1.1.2.1 = x0)) = true then if x1.length + [t5.1.1.1].length < 1099511627776 then c.2.2.2.2 x0 (x1 ++ [t5.1.1.1]) t5.2 else none else c.2.2.2.2 x0 x1 t5.2)))
noncomputable def impl_OffsetsAfter.cs (k : Nat) : Nat → impl_OffsetsAfter.Cs
  | 0 => impl_OffsetsAfter.zero
  | n + 1 => impl_OffsetsAfter.step k (impl_OffsetsAfter.cs k n)
def impl_OffsetsAfter.CC (c : impl_OffsetsAfter.Cs) : Cuts impl_OffsetsAfter.N := [(2, ⟨[(2, some false, [.fl (.int .i64)]), (3, some false, [.fl (.int .i64)]), (4, none, [.fl (.int .i64), .fl (.int .i64)]), (5, none, [.fl (.int .i64), .fl (.int .i64), .fl (.int .i64)])], fun x => c.1 x.1.1 x.2.1.1 x.2.2.1.1 x.2.2.1.2.1 x.2.2.2.1.1 x.2.2.2.1.2.1 x.2.2.2.1.2.2.1⟩),
  (16, ⟨[(3, some false, [.fl (.int .i64)]), (4, none, [.fl (.int .i64), .fl (.int .i64)]), (10, none, [.mp (.pair (.int .i64) (.pair (.int .i64) (.int .i64))) .bool]), (31, some false, [.fl (.int .i64)]), (32, some false, [.fl (.int .i64)])], fun x => c.2.1 x.1.1 x.2.1.1 x.2.1.2.1 x.2.2.1.1 x.2.2.2.1.1 x.2.2.2.2.1.1⟩),
  (31, ⟨[(3, some false, [.fl (.int .i64)]), (4, none, [.fl (.int .i64), .fl (.int .i64)]), (11, none, [.mp (.pair (.int .i64) (.pair (.int .i64) (.int .i64))) .bool]), (31, some false, [.fl (.int .i64)]), (32, some false, [.fl (.int .i64)]), (36, some true, [.mp (.pair (.int .i64) (.pair (.int .i64) (.int .i64))) .bool])], fun x => c.2.2.1 x.1.1 x.2.1.1 x.2.1.2.1 x.2.2.1.1 x.2.2.2.1.1 x.2.2.2.2.1.1 x.2.2.2.2.2.1.1⟩),
  (44, ⟨[(3, some false, [.fl (.int .i64)]), (4, none, [.fl (.int .i64), .fl (.int .i64)]), (11, none, [.mp (.pair (.int .i64) (.pair (.int .i64) (.int .i64))) .bool]), (12, none, [.fl (.int .i64), .fl (.int .i64), .fl (.int .i64)]), (31, some false, [.fl (.int .i64)]), (32, some false, [.fl (.int .i64)]), (36, some true, [.mp (.pair (.int .i64) (.pair (.int .i64) (.int .i64))) .bool]), (43, some false, [.fl (.own (.int .i64))]), (44, some false, [.fl (.int .i64)]), (45, some false, [.fl (.int .i64)])], fun x => c.2.2.2.1 x.1.1 x.2.1.1 x.2.1.2.1 x.2.2.1.1 x.2.2.2.1.1 x.2.2.2.1.2.1 x.2.2.2.1.2.2.1 x.2.2.2.2.1.1 x.2.2.2.2.2.1.1 x.2.2.2.2.2.2.1.1 x.2.2.2.2.2.2.2.1.1 x.2.2.2.2.2.2.2.2.1.1 x.2.2.2.2.2.2.2.2.2.1.1⟩),
  (67, ⟨[(3, some false, [.fl (.int .i64)]), (17, some false, [.fl (.own (.int .i64))]), (63, some true, [.mp (.pair (.int .i64) (.pair (.int .i64) (.int .i64))) .bool])], fun x => c.2.2.2.2 x.1.1 x.2.1.1 x.2.2.1.1⟩)]
noncomputable def impl_OffsetsAfter.f (k : Nat) (a0 : Int) (a1 : Int) (a2 : Int) (a3 : Int) (a4 : Int) (a5 : Int) (a6 : Int) : Option impl_OffsetsAfter.N := (impl_ValidCourse.f k a0 a1 a2 a3 a4).bind fun t1 => (if (!t1) = true then some ([], false) else (impl_within.f k a5 0 8).bind fun t2 => (if (!t2) = true then some ([], false) else (impl_OffsetsAfter.cs k k).1 a5 a6 a0 a1 a2 a3 a4))
noncomputable def impl_OffsetsAfter.F (k : Nat) : Go.Rv.Fn := mkFn 4 impl_OffsetsAfter.pc impl_OffsetsAfter.pr (keepOf []) (fun (y : impl_OffsetsAfter.N) => (((y.1, ()), (y.2, ()), ()) : compT impl_OffsetsAfter.pr)) fun x => impl_OffsetsAfter.f k x.1.1 x.1.2.1 x.2.1.1 x.2.1.2.1 x.2.1.2.2.1 x.2.2.1.1 x.2.2.2.1.1
theorem impl_OffsetsAfter.env (k : Nat) : EnvOk Go.Proofs.Try.prog (fun f => (impl_OffsetsAfter.E k).lookup f) := envOk_of ⟨entry Go.Proofs.Try.call32 rfl (impl_ValidCourse.ok k), entry Go.Proofs.Try.call33 rfl (impl_Limits_next.ok k), entry Go.Proofs.Try.call34 rfl (impl_within.ok k), entry Go.Proofs.Try.call35 rfl (impl_Limits_turns.ok k), entry Go.Proofs.Try.call36 rfl (slices_Sort_int64.ok k), entry Go.Proofs.Try.call37 rfl (slices_Compact_int64.ok k), trivial⟩
theorem impl_OffsetsAfter.cuts (k : Nat) : CutsOk Go.Proofs.Try.prog X (fun f => (impl_OffsetsAfter.E k).lookup f) Go.Proofs.Try.f11 [] (decN impl_OffsetsAfter.pr (fun (y : compT impl_OffsetsAfter.pr) => ((y.1.1, y.2.1.1) : impl_OffsetsAfter.N))) fun n => impl_OffsetsAfter.CC (impl_OffsetsAfter.cs k n) :=
  cutsOk_of (step := impl_OffsetsAfter.step k) rfl (fun _ => rfl) ⟨fun _ => rfl, fun _ => rfl, fun _ => rfl, fun _ => rfl, fun _ => rfl, trivial⟩ (fun c => by kernel_rfl) fun c => ⟨fun x => by kernel_rfl, fun x => by kernel_rfl, fun x => by kernel_rfl, fun x => by kernel_rfl, fun x => by kernel_rfl, trivial⟩
theorem impl_OffsetsAfter.ok (k : Nat) : FnOk Go.Proofs.Try.prog 11 (impl_OffsetsAfter.F k) :=
  fn_ok tab (impl_OffsetsAfter.env k) Go.Proofs.Try.func11 rfl (n := 4) (Nat.le_of_ble_eq_true rfl) (by kernel_rfl) (outs := []) (by kernel_rfl) (by kernel_rfl) (d := fun (y : compT impl_OffsetsAfter.pr) => ((y.1.1, y.2.1.1) : impl_OffsetsAfter.N)) (fun _ => rfl) (C := fun n => impl_OffsetsAfter.CC (impl_OffsetsAfter.cs k n)) (k := k) (impl_OffsetsAfter.cuts k) fun x => by kernel_rfl
/-! laws.eqInt64S -/
@[reducible] def laws_eqInt64S.pc : CutP := [(0, some false, [.fl (.lo (.int .i64))]), (1, some false, [.fl (.lo (.int .i64))])]
@[reducible] def laws_eqInt64S.pr : CompPs := [(false, [.fl .bool])]
abbrev laws_eqInt64S.N := Bool
noncomputable def laws_eqInt64S.E (k : Nat) : List (FuncId × Go.Rv.Fn) := []
abbrev laws_eqInt64S.Cs := (List Int → List Int → Int → Option laws_eqInt64S.N)
def laws_eqInt64S.zero : laws_eqInt64S.Cs := (fun _ _ _ => none)
noncomputable def laws_eqInt64S.step (k : Nat) (c : laws_eqInt64S.Cs) : laws_eqInt64S.Cs := (fun (x0 : List Int) (x1 : List Int) (x2 : Int) => (if (decide (x2 < (x0.length : Int))) = true then if 0 ≤ x2 then if x2 < (x0.length : Int) then if 0 ≤ x2 then if x2 < (x1.length : Int) then (if (!decide ((rd 0 x0 x2) = (rd 0 x1 x2))) = true then some false else c x0 x1 (wrap64 (x2 + 1))) else none else none else none else none else some true))
noncomputable def laws_eqInt64S.cs (k : Nat) : Nat → laws_eqInt64S.Cs
  | 0 => laws_eqInt64S.zero
  | n + 1 => laws_eqInt64S.step k (laws_eqInt64S.cs k n)
def laws_eqInt64S.CC (c : laws_eqInt64S.Cs) : Cuts laws_eqInt64S.N := [(14, ⟨[(0, some false, [.fl (.lo (.int .i64))]), (1, some false, [.fl (.lo (.int .i64))]), (5, some false, [.fl (.int .i64)])], fun x => c x.1.1 x.2.1.1 x.2.2.1.1⟩)]
noncomputable def laws_eqInt64S.f (k : Nat) (a0 : List Int) (a1 : List Int) : Option laws_eqInt64S.N := (if (!decide ((a0.length : Int) = (a1.length : Int))) = true then some false else (laws_eqInt64S.cs k k) a0 a1 0)
noncomputable def laws_eqInt64S.F (k : Nat) : Go.Rv.Fn := mkFn 2 laws_eqInt64S.pc laws_eqInt64S.pr (keepOf []) (fun (y : laws_eqInt64S.N) => (((y, ()), ()) : compT laws_eqInt64S.pr)) fun x => laws_eqInt64S.f k x.1.1 x.2.1.1
theorem laws_eqInt64S.env (k : Nat) : EnvOk Go.Proofs.Try.prog (fun f => (laws_eqInt64S.E k).lookup f) := envOk_of trivial
theorem laws_eqInt64S.cuts (k : Nat) : CutsOk Go.Proofs.Try.prog X (fun f => (laws_eqInt64S.E k).lookup f) Go.Proofs.Try.f27 [] (decN laws_eqInt64S.pr (fun (y : compT laws_eqInt64S.pr) => (y.1.1 : laws_eqInt64S.N))) fun n => laws_eqInt64S.CC (laws_eqInt64S.cs k n) :=
  cutsOk_of (step := laws_eqInt64S.step k) rfl (fun _ => rfl) ⟨fun _ => rfl, trivial⟩ (fun c => by kernel_rfl) fun c => ⟨fun x => by kernel_rfl, trivial⟩
theorem laws_eqInt64S.ok (k : Nat) : FnOk Go.Proofs.Try.prog 27 (laws_eqInt64S.F k) :=
  fn_ok tab (laws_eqInt64S.env k) Go.Proofs.Try.func27 rfl (n := 2) (Nat.le_of_ble_eq_true rfl) (by kernel_rfl) (outs := []) (by kernel_rfl) (by kernel_rfl) (d := fun (y : compT laws_eqInt64S.pr) => (y.1.1 : laws_eqInt64S.N)) (fun _ => rfl) (C := fun n => laws_eqInt64S.CC (laws_eqInt64S.cs k n)) (k := k) (laws_eqInt64S.cuts k) fun x => by kernel_rfl
/-! laws.markInt64S -/
@[reducible] def laws_markInt64S.pc : CutP := [(0, some false, [.fl (.own (.int .i64))]), (1, some false, [.fl (.int .i64)])]
@[reducible] def laws_markInt64S.pr : CompPs := [(false, [.fl (.int .i64)]), (false, [.fl (.own (.int .i64))])]
abbrev laws_markInt64S.N := Int × List Int
noncomputable def laws_markInt64S.E (k : Nat) : List (FuncId × Go.Rv.Fn) := []
abbrev laws_markInt64S.Cs := (List Int → Int → Int → Option laws_markInt64S.N)
def laws_markInt64S.zero : laws_markInt64S.Cs := (fun _ _ _ => none)
noncomputable def laws_markInt64S.step (k : Nat) (c : laws_markInt64S.Cs) : laws_markInt64S.Cs := (fun (x0 : List Int) (x1 : Int) (x2 : Int) => (if (decide (x2 < (x0.length : Int))) = true then if 0 ≤ x2 then if x2 < (x0.length : Int) then c (x0.set x2.toNat x1) (wrap64 (x1 + 1)) (wrap64 (x2 + 1)) else none else none else some (x1, x0)))
noncomputable def laws_markInt64S.cs (k : Nat) : Nat → laws_markInt64S.Cs
  | 0 => laws_markInt64S.zero
  | n + 1 => laws_markInt64S.step k (laws_markInt64S.cs k n)
def laws_markInt64S.CC (c : laws_markInt64S.Cs) : Cuts laws_markInt64S.N := [(6, ⟨[(0, some false, [.fl (.own (.int .i64))]), (1, some false, [.fl (.int .i64)]), (5, some false, [.fl (.int .i64)])], fun x => c x.1.1 x.2.1.1 x.2.2.1.1⟩)]
noncomputable def laws_markInt64S.f (k : Nat) (a0 : List Int) (a1 : Int) : Option laws_markInt64S.N := (laws_markInt64S.cs k k) a0 a1 0
noncomputable def laws_markInt64S.F (k : Nat) : Go.Rv.Fn := mkFn 2 laws_markInt64S.pc laws_markInt64S.pr (keepOf [(0, 1)]) (fun (y : laws_markInt64S.N) => (((y.1, ()), (y.2, ()), ()) : compT laws_markInt64S.pr)) fun x => laws_markInt64S.f k x.1.1 x.2.1.1
theorem laws_markInt64S.env (k : Nat) : EnvOk Go.Proofs.Try.prog (fun f => (laws_markInt64S.E k).lookup f) := envOk_of trivial
theorem laws_markInt64S.cuts (k : Nat) : CutsOk Go.Proofs.Try.prog X (fun f => (laws_markInt64S.E k).lookup f) Go.Proofs.Try.f28 [(0, 1)] (decN laws_markInt64S.pr (fun (y : compT laws_markInt64S.pr) => ((y.1.1, y.2.1.1) : laws_markInt64S.N))) fun n => laws_markInt64S.CC (laws_markInt64S.cs k n) :=
  cutsOk_of (step := laws_markInt64S.step k) rfl (fun _ => rfl) ⟨fun _ => rfl, trivial⟩ (fun c => by kernel_rfl) fun c => ⟨fun x => by kernel_rfl, trivial⟩
theorem laws_markInt64S.ok (k : Nat) : FnOk Go.Proofs.Try.prog 28 (laws_markInt64S.F k) :=
  fn_ok tab (laws_markInt64S.env k) Go.Proofs.Try.func28 rfl (n := 2) (Nat.le_of_ble_eq_true rfl) (by kernel_rfl) (outs := [(0, 1)]) (by kernel_rfl) (by kernel_rfl) (d := fun (y : compT laws_markInt64S.pr) => ((y.1.1, y.2.1.1) : laws_markInt64S.N)) (fun _ => rfl) (C := fun n => laws_markInt64S.CC (laws_markInt64S.cs k n)) (k := k) (laws_markInt64S.cuts k) fun x => by kernel_rfl
/-! laws.heldInt64S -/
@[reducible] def laws_heldInt64S.pc : CutP := [(0, some false, [.fl (.lo (.int .i64))]), (1, some false, [.fl (.int .i64)])]
@[reducible] def laws_heldInt64S.pr : CompPs := [(false, [.fl (.int .i64)])]
abbrev laws_heldInt64S.N := Int
noncomputable def laws_heldInt64S.E (k : Nat) : List (FuncId × Go.Rv.Fn) := []
abbrev laws_heldInt64S.Cs := (List Int → Int → Int → Option laws_heldInt64S.N)
def laws_heldInt64S.zero : laws_heldInt64S.Cs := (fun _ _ _ => none)
noncomputable def laws_heldInt64S.step (k : Nat) (c : laws_heldInt64S.Cs) : laws_heldInt64S.Cs := (fun (x0 : List Int) (x1 : Int) (x2 : Int) => (if (decide (x2 < (x0.length : Int))) = true then if 0 ≤ x2 then if x2 < (x0.length : Int) then (if (!decide ((rd 0 x0 x2) = x1)) = true then some (-1) else c x0 (wrap64 (x1 + 1)) (wrap64 (x2 + 1))) else none else none else some x1))
noncomputable def laws_heldInt64S.cs (k : Nat) : Nat → laws_heldInt64S.Cs
  | 0 => laws_heldInt64S.zero
  | n + 1 => laws_heldInt64S.step k (laws_heldInt64S.cs k n)
def laws_heldInt64S.CC (c : laws_heldInt64S.Cs) : Cuts laws_heldInt64S.N := [(6, ⟨[(0, some false, [.fl (.lo (.int .i64))]), (1, some false, [.fl (.int .i64)]), (5, some false, [.fl (.int .i64)])], fun x => c x.1.1 x.2.1.1 x.2.2.1.1⟩)]
noncomputable def laws_heldInt64S.f (k : Nat) (a0 : List Int) (a1 : Int) : Option laws_heldInt64S.N := (laws_heldInt64S.cs k k) a0 a1 0
noncomputable def laws_heldInt64S.F (k : Nat) : Go.Rv.Fn := mkFn 2 laws_heldInt64S.pc laws_heldInt64S.pr (keepOf []) (fun (y : laws_heldInt64S.N) => (((y, ()), ()) : compT laws_heldInt64S.pr)) fun x => laws_heldInt64S.f k x.1.1 x.2.1.1
theorem laws_heldInt64S.env (k : Nat) : EnvOk Go.Proofs.Try.prog (fun f => (laws_heldInt64S.E k).lookup f) := envOk_of trivial
theorem laws_heldInt64S.cuts (k : Nat) : CutsOk Go.Proofs.Try.prog X (fun f => (laws_heldInt64S.E k).lookup f) Go.Proofs.Try.f29 [] (decN laws_heldInt64S.pr (fun (y : compT laws_heldInt64S.pr) => (y.1.1 : laws_heldInt64S.N))) fun n => laws_heldInt64S.CC (laws_heldInt64S.cs k n) :=
  cutsOk_of (step := laws_heldInt64S.step k) rfl (fun _ => rfl) ⟨fun _ => rfl, trivial⟩ (fun c => by kernel_rfl) fun c => ⟨fun x => by kernel_rfl, trivial⟩
theorem laws_heldInt64S.ok (k : Nat) : FnOk Go.Proofs.Try.prog 29 (laws_heldInt64S.F k) :=
  fn_ok tab (laws_heldInt64S.env k) Go.Proofs.Try.func29 rfl (n := 2) (Nat.le_of_ble_eq_true rfl) (by kernel_rfl) (outs := []) (by kernel_rfl) (by kernel_rfl) (d := fun (y : compT laws_heldInt64S.pr) => (y.1.1 : laws_heldInt64S.N)) (fun _ => rfl) (C := fun n => laws_heldInt64S.CC (laws_heldInt64S.cs k n)) (k := k) (laws_heldInt64S.cuts k) fun x => by kernel_rfl
/-! laws.FnExactOffsetsAfter -/
@[reducible] def laws_FnExactOffsetsAfter.pc : CutP := [(0, some true, [.fl (.int .i64), .fl (.int .i64)]), (1, some true, [.fl (.int .i64), .fl (.int .i64), .fl (.int .i64)]), (2, some false, [.fl (.int .i64)]), (3, some false, [.fl (.int .i64)])]
@[reducible] def laws_FnExactOffsetsAfter.pr : CompPs := [(false, [.fl .bool])]
abbrev laws_FnExactOffsetsAfter.N := Bool
noncomputable def laws_FnExactOffsetsAfter.E (k : Nat) : List (FuncId × Go.Rv.Fn) := [(11, impl_OffsetsAfter.F k), (18, laws_toLimits.F k), (19, laws_toCourse.F k), (26, spec_OffsetsAfter.F k), (27, laws_eqInt64S.F k), (28, laws_markInt64S.F k), (29, laws_heldInt64S.F k)]
abbrev laws_FnExactOffsetsAfter.Cs := (Int → Int → Int → Int → Int → Int → Int → List Int → Bool → List Int → Option laws_FnExactOffsetsAfter.N)
def laws_FnExactOffsetsAfter.zero : laws_FnExactOffsetsAfter.Cs := (fun _ _ _ _ _ _ _ _ _ _ => none)
noncomputable def laws_FnExactOffsetsAfter.step (k : Nat) (c : laws_FnExactOffsetsAfter.Cs) : laws_FnExactOffsetsAfter.Cs := (fun (x0 : Int) (x1 : Int) (x2 : Int) (x3 : Int) (x4 : Int) (x5 : Int) (x6 : Int) (x7 : List Int) (x8 : Bool) (x9 : List Int) => (laws_markInt64S.f k x9 1).bind fun t8 => (laws_heldInt64S.f k t8.2 1).bind fun (t9 : Int) => (if (decide (t9 < 0)) = true then some false else (if (!decide (t9 = t8.1)) = true then some false else (laws_toLimits.f k x2 x3).bind fun t10 => (laws_toCourse.f k x4 x5 x6).bind fun t11 => (impl_OffsetsAfter.f k t10.1 t10.2 t11.1 t11.2.1 t11.2.2 x0 x1).bind fun t12 => (laws_eqInt64S.f k t12.1 x7).bind fun t13 => (if (!t13) = true then some false else (if (!(t12.2 == x8)) = true then some false else (laws_heldInt64S.f k t8.2 1).bind fun (t14 : Int) => (if (decide (t14 < 0)) = true then some false else (if (!decide (t14 = t8.1)) = true then some false else some true)))))))
noncomputable def laws_FnExactOffsetsAfter.cs (k : Nat) : Nat → laws_FnExactOffsetsAfter.Cs
  | 0 => laws_FnExactOffsetsAfter.zero
  | n + 1 => laws_FnExactOffsetsAfter.step k (laws_FnExactOffsetsAfter.cs k n)
def laws_FnExactOffsetsAfter.CC (c : laws_FnExactOffsetsAfter.Cs) : Cuts laws_FnExactOffsetsAfter.N := [(6, ⟨[(2, some false, [.fl (.int .i64)]), (3, some false, [.fl (.int .i64)]), (4, none, [.fl (.int .i64), .fl (.int .i64)]), (5, none, [.fl (.int .i64), .fl (.int .i64), .fl (.int .i64)]), (9, some false, [.fl (.own (.int .i64))]), (10, some false, [.fl .bool]), (11, some false, [.fl (.own (.int .i64))])], fun x => c x.1.1 x.2.1.1 x.2.2.1.1 x.2.2.1.2.1 x.2.2.2.1.1 x.2.2.2.1.2.1 x.2.2.2.1.2.2.1 x.2.2.2.2.1.1 x.2.2.2.2.2.1.1 x.2.2.2.2.2.2.1.1⟩)]
noncomputable def laws_FnExactOffsetsAfter.f (k : Nat) (a0 : Int) (a1 : Int) (a2 : Int) (a3 : Int) (a4 : Int) (a5 : Int) (a6 : Int) : Option laws_FnExactOffsetsAfter.N := (laws_toLimits.f k a0 a1).bind fun t1 => (laws_toCourse.f k a2 a3 a4).bind fun t2 => (spec_OffsetsAfter.f k t1.1 t1.2 t2.1 t2.2.1 t2.2.2 a5 a6).bind fun t3 => (laws_toLimits.f k a0 a1).bind fun t4 => (laws_toCourse.f k a2 a3 a4).bind fun t5 => (impl_OffsetsAfter.f k t4.1 t4.2 t5.1 t5.2.1 t5.2.2 a5 a6).bind fun t6 => (laws_eqInt64S.f k t6.1 t3.1).bind fun t7 => (if (!t7) = true then some false else (if (!(t6.2 == t3.2)) = true then some false else (laws_FnExactOffsetsAfter.cs k k) a5 a6 a0 a1 a2 a3 a4 t3.1 t3.2 t6.1))
noncomputable def laws_FnExactOffsetsAfter.F (k : Nat) : Go.Rv.Fn := mkFn 4 laws_FnExactOffsetsAfter.pc laws_FnExactOffsetsAfter.pr (keepOf []) (fun (y : laws_FnExactOffsetsAfter.N) => (((y, ()), ()) : compT laws_FnExactOffsetsAfter.pr)) fun x => laws_FnExactOffsetsAfter.f k x.1.1 x.1.2.1 x.2.1.1 x.2.1.2.1 x.2.1.2.2.1 x.2.2.1.1 x.2.2.2.1.1
theorem laws_FnExactOffsetsAfter.env (k : Nat) : EnvOk Go.Proofs.Try.prog (fun f => (laws_FnExactOffsetsAfter.E k).lookup f) := envOk_of ⟨entry Go.Proofs.Try.call11 rfl (impl_OffsetsAfter.ok k), entry Go.Proofs.Try.call18 rfl (laws_toLimits.ok k), entry Go.Proofs.Try.call19 rfl (laws_toCourse.ok k), entry Go.Proofs.Try.call26 rfl (spec_OffsetsAfter.ok k), entry Go.Proofs.Try.call27 rfl (laws_eqInt64S.ok k), entry Go.Proofs.Try.call28 rfl (laws_markInt64S.ok k), entry Go.Proofs.Try.call29 rfl (laws_heldInt64S.ok k), trivial⟩
theorem laws_FnExactOffsetsAfter.cuts (k : Nat) : CutsOk Go.Proofs.Try.prog X (fun f => (laws_FnExactOffsetsAfter.E k).lookup f) Go.Proofs.Try.f6 [] (decN laws_FnExactOffsetsAfter.pr (fun (y : compT laws_FnExactOffsetsAfter.pr) => (y.1.1 : laws_FnExactOffsetsAfter.N))) fun n => laws_FnExactOffsetsAfter.CC (laws_FnExactOffsetsAfter.cs k n) :=
  cutsOk_of (step := laws_FnExactOffsetsAfter.step k) rfl (fun _ => rfl) ⟨fun _ => rfl, trivial⟩ (fun c => by kernel_rfl) fun c => ⟨fun x => by kernel_rfl, trivial⟩
theorem laws_FnExactOffsetsAfter.ok (k : Nat) : FnOk Go.Proofs.Try.prog 6 (laws_FnExactOffsetsAfter.F k) :=
  fn_ok tab (laws_FnExactOffsetsAfter.env k) Go.Proofs.Try.func6 rfl (n := 4) (Nat.le_of_ble_eq_true rfl) (by kernel_rfl) (outs := []) (by kernel_rfl) (by kernel_rfl) (d := fun (y : compT laws_FnExactOffsetsAfter.pr) => (y.1.1 : laws_FnExactOffsetsAfter.N)) (fun _ => rfl) (C := fun n => laws_FnExactOffsetsAfter.CC (laws_FnExactOffsetsAfter.cs k n)) (k := k) (laws_FnExactOffsetsAfter.cuts k) fun x => by kernel_rfl
end Go.Proofs.Ytigkpbnhdkdliaa.R
