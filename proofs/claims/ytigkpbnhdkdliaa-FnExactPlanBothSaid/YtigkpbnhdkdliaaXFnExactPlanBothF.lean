-- written by wip/rev/gen2.py for this claim (out of the translation). Lean checks it.
import Derived.Test.YtigkpbnhdkdliaaRvM3
import Derived.Test.YtigkpbnhdkdliaaProg
import Derived.Test.YtigkpbnhdkdliaaRvMkS
namespace Go.Proofs.Ytigkpbnhdkdliaa.R
open Go.Rv
set_option linter.unusedVariables false
set_option maxRecDepth 100000
def X : Env := { n := 0, keep := [], tab := [(2, { ty := (.int .i64) }),
  (3, { ty := (.int .i64) }),
  (4, { ty := .bool }),
  (25, { ty := (.pair (.int .i64) (.int .i64)), agg := true, offs := [(0, 1, false), (1, 1, false)] }),
  (27, { ty := (.pair (.int .i64) (.pair (.int .i64) (.int .i64))), agg := true, offs := [(0, 1, false), (1, 1, false), (2, 1, false)], eq := true }),
  (33, { ty := (.sl (.int .i64)) }),
  (42, { ty := (.sl (.pair (.int .i64) (.pair (.int .i64) (.int .i64)))) }),
  (45, { ty := (.pair (.int .i64) (.int .i64)), agg := true, offs := [(0, 1, false), (1, 1, false)] }),
  (46, { ty := (.pair (.int .i64) (.pair (.int .i64) (.int .i64))), agg := true, offs := [(0, 1, false), (1, 1, false), (2, 1, false)] }),
  (50, { ty := (.sl (.sl (.int .i64))) })], mp := [(69, (.pair (.int .i64) (.pair (.int .i64) (.int .i64))), (.int .i64))] }
theorem laidOutT : laidOutB Go.Proofs.Try.prog = true := by kernel_rfl
theorem tab : TabOk Go.Proofs.Try.prog X := ⟨by kernel_rfl, by kernel_rfl, (maps_cons (mapTy3 laidOutT (t := 69) (kt := 27) (vt := 2) (by kernel_rfl) (by kernel_rfl) (v := (.int .i64)) (by kernel_rfl) (fun _ => by kernel_rfl)) maps_nil)⟩
/-! laws.toLimits -/
@[reducible] def laws_toLimits.pc : CutP := [(0, some true, [.fl (.int .i64), .fl (.int .i64)])]
@[reducible] def laws_toLimits.pr : CompPs := [(true, [.fl (.int .i64), .fl (.int .i64)])]
abbrev laws_toLimits.N := Int × Int
noncomputable def laws_toLimits.E (k : Nat) : List (FuncId × Go.Rv.Fn) := []
noncomputable def laws_toLimits.f (k : Nat) (a0 : Int) (a1 : Int) : Option laws_toLimits.N := some (a0, a1)
noncomputable def laws_toLimits.F (k : Nat) : Go.Rv.Fn := mkFn 1 laws_toLimits.pc laws_toLimits.pr (keepOf []) (fun (y : laws_toLimits.N) => (((y.1, y.2, ()), ()) : compT laws_toLimits.pr)) fun x => laws_toLimits.f k x.1.1 x.1.2.1
theorem laws_toLimits.env (k : Nat) : EnvOk Go.Proofs.Try.prog (fun f => (laws_toLimits.E k).lookup f) := envOk_of trivial
theorem laws_toLimits.ok (k : Nat) : FnOk Go.Proofs.Try.prog 18 (laws_toLimits.F k) :=
  fn_ok tab (laws_toLimits.env k) Go.Proofs.Try.func18 rfl (n := 1) (Nat.le_of_ble_eq_true rfl) (by kernel_rfl) (outs := []) (by kernel_rfl) (by kernel_rfl) (d := fun (y : compT laws_toLimits.pr) => ((y.1.1, y.1.2.1) : laws_toLimits.N)) (fun _ => rfl) (C := fun _ => []) (k := k) noCuts fun x => by kernel_rfl
/-! laws.toCourse -/
@[reducible] def laws_toCourse.pc : CutP := [(0, some true, [.fl (.int .i64), .fl (.int .i64), .fl (.int .i64)])]
@[reducible] def laws_toCourse.pr : CompPs := [(true, [.fl (.int .i64), .fl (.int .i64), .fl (.int .i64)])]
abbrev laws_toCourse.N := Int × Int × Int
noncomputable def laws_toCourse.E (k : Nat) : List (FuncId × Go.Rv.Fn) := []
noncomputable def laws_toCourse.f (k : Nat) (a0 : Int) (a1 : Int) (a2 : Int) : Option laws_toCourse.N := some (a0, a1, a2)
noncomputable def laws_toCourse.F (k : Nat) : Go.Rv.Fn := mkFn 1 laws_toCourse.pc laws_toCourse.pr (keepOf []) (fun (y : laws_toCourse.N) => (((y.1, y.2.1, y.2.2, ()), ()) : compT laws_toCourse.pr)) fun x => laws_toCourse.f k x.1.1 x.1.2.1 x.1.2.2.1
theorem laws_toCourse.env (k : Nat) : EnvOk Go.Proofs.Try.prog (fun f => (laws_toCourse.E k).lookup f) := envOk_of trivial
theorem laws_toCourse.ok (k : Nat) : FnOk Go.Proofs.Try.prog 19 (laws_toCourse.F k) :=
  fn_ok tab (laws_toCourse.env k) Go.Proofs.Try.func19 rfl (n := 1) (Nat.le_of_ble_eq_true rfl) (by kernel_rfl) (outs := []) (by kernel_rfl) (by kernel_rfl) (d := fun (y : compT laws_toCourse.pr) => ((y.1.1, y.1.2.1, y.1.2.2.1) : laws_toCourse.N)) (fun _ => rfl) (C := fun _ => []) (k := k) noCuts fun x => by kernel_rfl
/-! spec.l00In -/
@[reducible] def spec_l00In.pc : CutP := [(0, some false, [.fl (.int .i64)]), (1, some false, [.fl (.int .i64)]), (2, some false, [.fl (.int .i64)])]
@[reducible] def spec_l00In.pr : CompPs := [(false, [.fl .bool])]
abbrev spec_l00In.N := Bool
noncomputable def spec_l00In.E (k : Nat) : List (FuncId × Go.Rv.Fn) := []
noncomputable def spec_l00In.f (k : Nat) (a0 : Int) (a1 : Int) (a2 : Int) : Option spec_l00In.N := (if (decide (a1 ≤ a0)) = true then some (decide (a0 ≤ a2)) else some false)
noncomputable def spec_l00In.F (k : Nat) : Go.Rv.Fn := mkFn 3 spec_l00In.pc spec_l00In.pr (keepOf []) (fun (y : spec_l00In.N) => (((y, ()), ()) : compT spec_l00In.pr)) fun x => spec_l00In.f k x.1.1 x.2.1.1 x.2.2.1.1
theorem spec_l00In.env (k : Nat) : EnvOk Go.Proofs.Try.prog (fun f => (spec_l00In.E k).lookup f) := envOk_of trivial
theorem spec_l00In.ok (k : Nat) : FnOk Go.Proofs.Try.prog 47 (spec_l00In.F k) :=
  fn_ok tab (spec_l00In.env k) Go.Proofs.Try.func47 rfl (n := 3) (Nat.le_of_ble_eq_true rfl) (by kernel_rfl) (outs := []) (by kernel_rfl) (by kernel_rfl) (d := fun (y : compT spec_l00In.pr) => (y.1.1 : spec_l00In.N)) (fun _ => rfl) (C := fun _ => []) (k := k) noCuts fun x => by kernel_rfl
/-! spec.l05Limits -/
@[reducible] def spec_l05Limits.pc : CutP := [(0, some true, [.fl (.int .i64), .fl (.int .i64)])]
@[reducible] def spec_l05Limits.pr : CompPs := [(false, [.fl .bool])]
abbrev spec_l05Limits.N := Bool
noncomputable def spec_l05Limits.E (k : Nat) : List (FuncId × Go.Rv.Fn) := [(47, spec_l00In.F k)]
noncomputable def spec_l05Limits.f (k : Nat) (a0 : Int) (a1 : Int) : Option spec_l05Limits.N := (spec_l00In.f k a0 1 3).bind fun t1 => (if t1 = true then (spec_l00In.f k a1 1 6).bind fun t2 => some t2 else some false)
noncomputable def spec_l05Limits.F (k : Nat) : Go.Rv.Fn := mkFn 1 spec_l05Limits.pc spec_l05Limits.pr (keepOf []) (fun (y : spec_l05Limits.N) => (((y, ()), ()) : compT spec_l05Limits.pr)) fun x => spec_l05Limits.f k x.1.1 x.1.2.1
theorem spec_l05Limits.env (k : Nat) : EnvOk Go.Proofs.Try.prog (fun f => (spec_l05Limits.E k).lookup f) := envOk_of ⟨entry Go.Proofs.Try.call47 rfl (spec_l00In.ok k), trivial⟩
theorem spec_l05Limits.ok (k : Nat) : FnOk Go.Proofs.Try.prog 55 (spec_l05Limits.F k) :=
  fn_ok tab (spec_l05Limits.env k) Go.Proofs.Try.func55 rfl (n := 1) (Nat.le_of_ble_eq_true rfl) (by kernel_rfl) (outs := []) (by kernel_rfl) (by kernel_rfl) (d := fun (y : compT spec_l05Limits.pr) => (y.1.1 : spec_l05Limits.N)) (fun _ => rfl) (C := fun _ => []) (k := k) noCuts fun x => by kernel_rfl
/-! spec.l05Inside -/
@[reducible] def spec_l05Inside.pc : CutP := [(0, some false, [.fl (.int .i64)]), (1, some true, [.fl (.int .i64), .fl (.int .i64), .fl (.int .i64)])]
@[reducible] def spec_l05Inside.pr : CompPs := [(false, [.fl .bool])]
abbrev spec_l05Inside.N := Bool
noncomputable def spec_l05Inside.E (k : Nat) : List (FuncId × Go.Rv.Fn) := [(47, spec_l00In.F k)]
noncomputable def spec_l05Inside.f (k : Nat) (a0 : Int) (a1 : Int) (a2 : Int) (a3 : Int) : Option spec_l05Inside.N := (spec_l00In.f k a1 (-40) 40).bind fun t1 => (if t1 = true then (spec_l00In.f k a2 (-10) 10).bind fun t2 => (if t2 = true then (spec_l00In.f k a3 (wrap64 (0 - a0)) a0).bind fun t3 => some t3 else some false) else some false)
noncomputable def spec_l05Inside.F (k : Nat) : Go.Rv.Fn := mkFn 2 spec_l05Inside.pc spec_l05Inside.pr (keepOf []) (fun (y : spec_l05Inside.N) => (((y, ()), ()) : compT spec_l05Inside.pr)) fun x => spec_l05Inside.f k x.1.1 x.2.1.1 x.2.1.2.1 x.2.1.2.2.1
theorem spec_l05Inside.env (k : Nat) : EnvOk Go.Proofs.Try.prog (fun f => (spec_l05Inside.E k).lookup f) := envOk_of ⟨entry Go.Proofs.Try.call47 rfl (spec_l00In.ok k), trivial⟩
theorem spec_l05Inside.ok (k : Nat) : FnOk Go.Proofs.Try.prog 56 (spec_l05Inside.F k) :=
  fn_ok tab (spec_l05Inside.env k) Go.Proofs.Try.func56 rfl (n := 2) (Nat.le_of_ble_eq_true rfl) (by kernel_rfl) (outs := []) (by kernel_rfl) (by kernel_rfl) (d := fun (y : compT spec_l05Inside.pr) => (y.1.1 : spec_l05Inside.N)) (fun _ => rfl) (C := fun _ => []) (k := k) noCuts fun x => by kernel_rfl
/-! spec.l05Is -/
@[reducible] def spec_l05Is.pc : CutP := [(0, some true, [.fl (.int .i64), .fl (.int .i64)]), (1, some true, [.fl (.int .i64), .fl (.int .i64), .fl (.int .i64)])]
@[reducible] def spec_l05Is.pr : CompPs := [(false, [.fl .bool])]
abbrev spec_l05Is.N := Bool
noncomputable def spec_l05Is.E (k : Nat) : List (FuncId × Go.Rv.Fn) := [(55, spec_l05Limits.F k), (56, spec_l05Inside.F k)]
noncomputable def spec_l05Is.f (k : Nat) (a0 : Int) (a1 : Int) (a2 : Int) (a3 : Int) (a4 : Int) : Option spec_l05Is.N := (spec_l05Limits.f k a0 a1).bind fun t1 => (if t1 = true then (spec_l05Inside.f k a0 a2 a3 a4).bind fun t2 => some t2 else some false)
noncomputable def spec_l05Is.F (k : Nat) : Go.Rv.Fn := mkFn 2 spec_l05Is.pc spec_l05Is.pr (keepOf []) (fun (y : spec_l05Is.N) => (((y, ()), ()) : compT spec_l05Is.pr)) fun x => spec_l05Is.f k x.1.1 x.1.2.1 x.2.1.1 x.2.1.2.1 x.2.1.2.2.1
theorem spec_l05Is.env (k : Nat) : EnvOk Go.Proofs.Try.prog (fun f => (spec_l05Is.E k).lookup f) := envOk_of ⟨entry Go.Proofs.Try.call55 rfl (spec_l05Limits.ok k), entry Go.Proofs.Try.call56 rfl (spec_l05Inside.ok k), trivial⟩
theorem spec_l05Is.ok (k : Nat) : FnOk Go.Proofs.Try.prog 41 (spec_l05Is.F k) :=
  fn_ok tab (spec_l05Is.env k) Go.Proofs.Try.func41 rfl (n := 2) (Nat.le_of_ble_eq_true rfl) (by kernel_rfl) (outs := []) (by kernel_rfl) (by kernel_rfl) (d := fun (y : compT spec_l05Is.pr) => (y.1.1 : spec_l05Is.N)) (fun _ => rfl) (C := fun _ => []) (k := k) noCuts fun x => by kernel_rfl
/-! spec.l05Spot -/
@[reducible] def spec_l05Spot.pc : CutP := [(0, some true, [.fl (.int .i64), .fl (.int .i64), .fl (.int .i64)])]
@[reducible] def spec_l05Spot.pr : CompPs := [(false, [.fl (.int .i64)])]
abbrev spec_l05Spot.N := Int
noncomputable def spec_l05Spot.E (k : Nat) : List (FuncId × Go.Rv.Fn) := []
noncomputable def spec_l05Spot.f (k : Nat) (a0 : Int) (a1 : Int) (a2 : Int) : Option spec_l05Spot.N := some (wrap64 ((wrap64 ((wrap64 ((wrap64 ((wrap64 ((wrap64 ((wrap64 (a0 + 40)) * 21)) + a1)) + 10)) * 7)) + a2)) + 3))
noncomputable def spec_l05Spot.F (k : Nat) : Go.Rv.Fn := mkFn 1 spec_l05Spot.pc spec_l05Spot.pr (keepOf []) (fun (y : spec_l05Spot.N) => (((y, ()), ()) : compT spec_l05Spot.pr)) fun x => spec_l05Spot.f k x.1.1 x.1.2.1 x.1.2.2.1
theorem spec_l05Spot.env (k : Nat) : EnvOk Go.Proofs.Try.prog (fun f => (spec_l05Spot.E k).lookup f) := envOk_of trivial
theorem spec_l05Spot.ok (k : Nat) : FnOk Go.Proofs.Try.prog 58 (spec_l05Spot.F k) :=
  fn_ok tab (spec_l05Spot.env k) Go.Proofs.Try.func58 rfl (n := 1) (Nat.le_of_ble_eq_true rfl) (by kernel_rfl) (outs := []) (by kernel_rfl) (by kernel_rfl) (d := fun (y : compT spec_l05Spot.pr) => (y.1.1 : spec_l05Spot.N)) (fun _ => rfl) (C := fun _ => []) (k := k) noCuts fun x => by kernel_rfl
/-! spec.l05Home -/
@[reducible] def spec_l05Home.pc : CutP := [(0, some true, [.fl (.int .i64), .fl (.int .i64)])]
@[reducible] def spec_l05Home.pr : CompPs := [(false, [.fl (.own (.int .i64))])]
abbrev spec_l05Home.N := List Int
noncomputable def spec_l05Home.E (k : Nat) : List (FuncId × Go.Rv.Fn) := [(47, spec_l00In.F k), (56, spec_l05Inside.F k), (58, spec_l05Spot.F k)]
abbrev spec_l05Home.Cs := (Int → Int → List Int → List (Int × Int × Int) → Int → Option spec_l05Home.N) × (Int → Int → List Int → List (Int × Int × Int) → Int → Int → Int → Int → Int → Int → Option spec_l05Home.N)
def spec_l05Home.zero : spec_l05Home.Cs := (fun _ _ _ _ _ => none, fun _ _ _ _ _ _ _ _ _ _ => none)
noncomputable def spec_l05Home.step (k : Nat) (c : spec_l05Home.Cs) : spec_l05Home.Cs := (fun (x0 : Int) (x1 : Int) (x2 : List Int) (x3 : List (Int × Int × Int)) (x4 : Int) => (if (decide (x4 < (x3.length : Int))) = true then if 0 ≤ x4 then if x4 < (x3.length : Int) then (spec_l05Spot.f k ((rd (0, (0, 0)) x3 x4).1) (((rd (0, (0, 0)) x3 x4).2).1) (((rd (0, (0, 0)) x3 x4).2).2)).bind fun (t2 : Int) => if 0 ≤ t2 then if t2 < (x2.length : Int) then (if (decide (40 < (rd 0 x2 t2))) = true then some x2 else c.2 x0 x1 x2 x3 x4 ((rd (0, (0, 0)) x3 x4).1) (((rd (0, (0, 0)) x3 x4).2).1) (((rd (0, (0, 0)) x3 x4).2).2) (rd 0 x2 t2) (wrap64 (0 - x0))) else none else none else none else none else some x2),
  fun (x0 : Int) (x1 : Int) (x2 : List Int) (x3 : List (Int × Int × Int)) (x4 : Int) (x5 : Int) (x6 : Int) (x7 : Int) (x8 : Int) (x9 : Int) => (if (decide (x9 ≤ x0)) = true then (spec_l05Inside.f k x0 (wrap64 (x5 - (wrap64 (x6 - x7)))) (wrap64 (x6 - x7)) x9).bind fun t3 => (if (!t3) = true then c.2 x0 x1 x2 x3 x4 x5 x6 x7 x8 (wrap64 (x9 + 1)) else (spec_l00In.f k (wrap64 (x7 - x9)) (wrap64 (0 - x1)) x1).bind fun t4 => (if (!t4) = true then c.2 x0 x1 x2 x3 x4 x5 x6 x7 x8 (wrap64 (x9 + 1)) else (spec_l05Spot.f k (wrap64 (x5 - (wrap64 (x6 - x7)))) (wrap64 (x6 - x7)) x9).bind fun (t5 : Int) => if 0 ≤ t5 then if t5 < (x2.length : Int) then (if (decide (0 < (rd 0 x2 t5))) = true then c.2 x0 x1 x2 x3 x4 x5 x6 x7 x8 (wrap64 (x9 + 1)) else (spec_l05Spot.f k (wrap64 (x5 - (wrap64 (x6 - x7)))) (wrap64 (x6 - x7)) x9).bind fun (t6 : Int) => if 0 ≤ t6 then if t6 < (x2.length : Int) then if x3.length + [((wrap64 (x5 - (wrap64 (x6 - x7)))), ((wrap64 (x6 - x7)), x9))].length < 366503875925 then c.2 x0 x1 (x2.set t6.toNat (wrap64 (x8 + 1))) (x3 ++ [((wrap64 (x5 - (wrap64 (x6 - x7)))), ((wrap64 (x6 - x7)), x9))]) x4 x5 x6 x7 x8 (wrap64 (x9 + 1)) else none else none else none) else none else none)) else c.1 x0 x1 x2 x3 (wrap64 (x4 + 1))))
noncomputable def spec_l05Home.cs (k : Nat) : Nat → spec_l05Home.Cs
  | 0 => spec_l05Home.zero
  | n + 1 => spec_l05Home.step k (spec_l05Home.cs k n)
def spec_l05Home.CC (c : spec_l05Home.Cs) : Cuts spec_l05Home.N := [(12, ⟨[(1, none, [.fl (.int .i64), .fl (.int .i64)]), (3, some false, [.fl (.own (.int .i64))]), (4, some false, [.fl (.own (.pair (.int .i64) (.pair (.int .i64) (.int .i64))))]), (5, some false, [.fl (.int .i64)])], fun x => c.1 x.1.1 x.1.2.1 x.2.1.1 x.2.2.1.1 x.2.2.2.1.1⟩),
  (34, ⟨[(1, none, [.fl (.int .i64), .fl (.int .i64)]), (3, some false, [.fl (.own (.int .i64))]), (4, some false, [.fl (.own (.pair (.int .i64) (.pair (.int .i64) (.int .i64))))]), (5, some false, [.fl (.int .i64)]), (6, none, [.fl (.int .i64), .fl (.int .i64), .fl (.int .i64)]), (7, some false, [.fl (.int .i64)]), (8, some false, [.fl (.int .i64)])], fun x => c.2 x.1.1 x.1.2.1 x.2.1.1 x.2.2.1.1 x.2.2.2.1.1 x.2.2.2.2.1.1 x.2.2.2.2.1.2.1 x.2.2.2.2.1.2.2.1 x.2.2.2.2.2.1.1 x.2.2.2.2.2.2.1.1⟩)]
noncomputable def spec_l05Home.f (k : Nat) (a0 : Int) (a1 : Int) : Option spec_l05Home.N := if 0 ≤ 11907 then if 11907 ≤ 11907 then if 11907 < 1099511627776 then (spec_l05Spot.f k 0 0 0).bind fun (t1 : Int) => if 0 ≤ t1 then if t1 < ((List.replicate (11907 : Int).toNat 0).length : Int) then (spec_l05Home.cs k k).1 a0 a1 ((List.replicate (11907 : Int).toNat 0).set t1.toNat 1) [(0, (0, 0))] 0 else none else none else none else none else none
noncomputable def spec_l05Home.F (k : Nat) : Go.Rv.Fn := mkFn 1 spec_l05Home.pc spec_l05Home.pr (keepOf []) (fun (y : spec_l05Home.N) => (((y, ()), ()) : compT spec_l05Home.pr)) fun x => spec_l05Home.f k x.1.1 x.1.2.1
theorem spec_l05Home.env (k : Nat) : EnvOk Go.Proofs.Try.prog (fun f => (spec_l05Home.E k).lookup f) := envOk_of ⟨entry Go.Proofs.Try.call47 rfl (spec_l00In.ok k), entry Go.Proofs.Try.call56 rfl (spec_l05Inside.ok k), entry Go.Proofs.Try.call58 rfl (spec_l05Spot.ok k), trivial⟩
theorem spec_l05Home.cuts (k : Nat) : CutsOk Go.Proofs.Try.prog X (fun f => (spec_l05Home.E k).lookup f) Go.Proofs.Try.f57 [] (decN spec_l05Home.pr (fun (y : compT spec_l05Home.pr) => (y.1.1 : spec_l05Home.N))) fun n => spec_l05Home.CC (spec_l05Home.cs k n) :=
  cutsOk_of (step := spec_l05Home.step k) rfl (fun _ => rfl) ⟨fun _ => rfl, fun _ => rfl, trivial⟩ (fun c => by kernel_rfl) fun c => ⟨fun x => by kernel_rfl, fun x => by kernel_rfl, trivial⟩
theorem spec_l05Home.ok (k : Nat) : FnOk Go.Proofs.Try.prog 57 (spec_l05Home.F k) :=
  fn_ok tab (spec_l05Home.env k) Go.Proofs.Try.func57 rfl (n := 1) (Nat.le_of_ble_eq_true rfl) (by kernel_rfl) (outs := []) (by kernel_rfl) (by kernel_rfl) (d := fun (y : compT spec_l05Home.pr) => (y.1.1 : spec_l05Home.N)) (fun _ => rfl) (C := fun n => spec_l05Home.CC (spec_l05Home.cs k n)) (k := k) (spec_l05Home.cuts k) fun x => by kernel_rfl
/-! spec.l05Next -/
@[reducible] def spec_l05Next.pc : CutP := [(0, some true, [.fl (.int .i64), .fl (.int .i64)]), (1, some true, [.fl (.int .i64), .fl (.int .i64), .fl (.int .i64)]), (2, some false, [.fl (.int .i64)])]
@[reducible] def spec_l05Next.pr : CompPs := [(true, [.fl (.int .i64), .fl (.int .i64), .fl (.int .i64)]), (false, [.fl .bool])]
abbrev spec_l05Next.N := Int × Int × Int × Bool
noncomputable def spec_l05Next.E (k : Nat) : List (FuncId × Go.Rv.Fn) := [(47, spec_l00In.F k), (56, spec_l05Inside.F k)]
abbrev spec_l05Next.Cs := (Int → Int → Int → Int → Int → Int → Int → Int → Int → Option spec_l05Next.N)
def spec_l05Next.zero : spec_l05Next.Cs := (fun _ _ _ _ _ _ _ _ _ => none)
noncomputable def spec_l05Next.step (k : Nat) (c : spec_l05Next.Cs) : spec_l05Next.Cs := (fun (x0 : Int) (x1 : Int) (x2 : Int) (x3 : Int) (x4 : Int) (x5 : Int) (x6 : Int) (x7 : Int) (x8 : Int) => (spec_l05Inside.f k x1 (wrap64 (x3 + x4)) (wrap64 (x4 + x0)) x0).bind fun t3 => (if (!t3) = true then some (0, 0, 0, false) else some ((wrap64 (x3 + x4)), (wrap64 (x4 + x0)), x0, true)))
noncomputable def spec_l05Next.cs (k : Nat) : Nat → spec_l05Next.Cs
  | 0 => spec_l05Next.zero
  | n + 1 => spec_l05Next.step k (spec_l05Next.cs k n)
def spec_l05Next.CC (c : spec_l05Next.Cs) : Cuts spec_l05Next.N := [(2, ⟨[(2, some false, [.fl (.int .i64)]), (3, none, [.fl (.int .i64), .fl (.int .i64)]), (4, none, [.fl (.int .i64), .fl (.int .i64), .fl (.int .i64)]), (6, none, [.fl (.int .i64), .fl (.int .i64), .fl (.int .i64)])], fun x => c x.1.1 x.2.1.1 x.2.1.2.1 x.2.2.1.1 x.2.2.1.2.1 x.2.2.1.2.2.1 x.2.2.2.1.1 x.2.2.2.1.2.1 x.2.2.2.1.2.2.1⟩)]
noncomputable def spec_l05Next.f (k : Nat) (a0 : Int) (a1 : Int) (a2 : Int) (a3 : Int) (a4 : Int) (a5 : Int) : Option spec_l05Next.N := (spec_l00In.f k a5 (wrap64 (0 - a0)) a0).bind fun t1 => (if (!t1) = true then some (0, 0, 0, false) else (spec_l00In.f k (wrap64 (a5 - a4)) (wrap64 (0 - a1)) a1).bind fun t2 => (if (!t2) = true then some (0, 0, 0, false) else (spec_l05Next.cs k k) a5 a0 a1 a2 a3 a4 0 0 0))
noncomputable def spec_l05Next.F (k : Nat) : Go.Rv.Fn := mkFn 3 spec_l05Next.pc spec_l05Next.pr (keepOf []) (fun (y : spec_l05Next.N) => (((y.1, y.2.1, y.2.2.1, ()), (y.2.2.2, ()), ()) : compT spec_l05Next.pr)) fun x => spec_l05Next.f k x.1.1 x.1.2.1 x.2.1.1 x.2.1.2.1 x.2.1.2.2.1 x.2.2.1.1
theorem spec_l05Next.env (k : Nat) : EnvOk Go.Proofs.Try.prog (fun f => (spec_l05Next.E k).lookup f) := envOk_of ⟨entry Go.Proofs.Try.call47 rfl (spec_l00In.ok k), entry Go.Proofs.Try.call56 rfl (spec_l05Inside.ok k), trivial⟩
theorem spec_l05Next.cuts (k : Nat) : CutsOk Go.Proofs.Try.prog X (fun f => (spec_l05Next.E k).lookup f) Go.Proofs.Try.f59 [] (decN spec_l05Next.pr (fun (y : compT spec_l05Next.pr) => ((y.1.1, y.1.2.1, y.1.2.2.1, y.2.1.1) : spec_l05Next.N))) fun n => spec_l05Next.CC (spec_l05Next.cs k n) :=
  cutsOk_of (step := spec_l05Next.step k) rfl (fun _ => rfl) ⟨fun _ => rfl, trivial⟩ (fun c => by kernel_rfl) fun c => ⟨fun x => by kernel_rfl, trivial⟩
theorem spec_l05Next.ok (k : Nat) : FnOk Go.Proofs.Try.prog 59 (spec_l05Next.F k) :=
  fn_ok tab (spec_l05Next.env k) Go.Proofs.Try.func59 rfl (n := 3) (Nat.le_of_ble_eq_true rfl) (by kernel_rfl) (outs := []) (by kernel_rfl) (by kernel_rfl) (d := fun (y : compT spec_l05Next.pr) => ((y.1.1, y.1.2.1, y.1.2.2.1, y.2.1.1) : spec_l05Next.N)) (fun _ => rfl) (C := fun n => spec_l05Next.CC (spec_l05Next.cs k n)) (k := k) (spec_l05Next.cuts k) fun x => by kernel_rfl
/-! spec.l05Plan -/
@[reducible] def spec_l05Plan.pc : CutP := [(0, some true, [.fl (.int .i64), .fl (.int .i64)]), (1, some true, [.fl (.int .i64), .fl (.int .i64), .fl (.int .i64)])]
@[reducible] def spec_l05Plan.pr : CompPs := [(false, [.fl (.own (.int .i64))]), (false, [.fl .bool])]
abbrev spec_l05Plan.N := List Int × Bool
noncomputable def spec_l05Plan.E (k : Nat) : List (FuncId × Go.Rv.Fn) := [(57, spec_l05Home.F k), (58, spec_l05Spot.F k), (59, spec_l05Next.F k)]
abbrev spec_l05Plan.Cs := (Int → Int → Int → Int → Int → List Int → Int → List Int → Option spec_l05Plan.N) × (Int → Int → Int → Int → Int → List Int → Int → List Int → Int → Option spec_l05Plan.N)
def spec_l05Plan.zero : spec_l05Plan.Cs := (fun _ _ _ _ _ _ _ _ => none, fun _ _ _ _ _ _ _ _ _ => none)
noncomputable def spec_l05Plan.step (k : Nat) (c : spec_l05Plan.Cs) : spec_l05Plan.Cs := (fun (x0 : Int) (x1 : Int) (x2 : Int) (x3 : Int) (x4 : Int) (x5 : List Int) (x6 : Int) (x7 : List Int) => (if (decide (1 < x6)) = true then c.2 x0 x1 x2 x3 x4 x5 x6 x7 (wrap64 (0 - x0)) else some (x7, true)),
  fun (x0 : Int) (x1 : Int) (x2 : Int) (x3 : Int) (x4 : Int) (x5 : List Int) (x6 : Int) (x7 : List Int) (x8 : Int) => (if (decide (x8 ≤ x0)) = true then (spec_l05Next.f k x0 x1 x2 x3 x4 x8).bind fun t3 => (if t3.2.2.2 = true then (spec_l05Spot.f k t3.1 t3.2.1 t3.2.2.1).bind fun (t4 : Int) => if 0 ≤ t4 then if t4 < (x5.length : Int) then (if (decide ((rd 0 x5 t4) = (wrap64 (x6 - 1)))) = true then if x7.length + [x8].length < 1099511627776 then c.1 x0 x1 t3.1 t3.2.1 t3.2.2.1 x5 (wrap64 (x6 - 1)) (x7 ++ [x8]) else none else c.2 x0 x1 x2 x3 x4 x5 x6 x7 (wrap64 (x8 + 1))) else none else none else c.2 x0 x1 x2 x3 x4 x5 x6 x7 (wrap64 (x8 + 1))) else c.1 x0 x1 x2 x3 x4 x5 (wrap64 (x6 - 1)) x7))
noncomputable def spec_l05Plan.cs (k : Nat) : Nat → spec_l05Plan.Cs
  | 0 => spec_l05Plan.zero
  | n + 1 => spec_l05Plan.step k (spec_l05Plan.cs k n)
def spec_l05Plan.CC (c : spec_l05Plan.Cs) : Cuts spec_l05Plan.N := [(18, ⟨[(2, none, [.fl (.int .i64), .fl (.int .i64)]), (3, none, [.fl (.int .i64), .fl (.int .i64), .fl (.int .i64)]), (6, some false, [.fl (.own (.int .i64))]), (7, some false, [.fl (.int .i64)]), (8, some false, [.fl (.own (.int .i64))])], fun x => c.1 x.1.1 x.1.2.1 x.2.1.1 x.2.1.2.1 x.2.1.2.2.1 x.2.2.1.1 x.2.2.2.1.1 x.2.2.2.2.1.1⟩),
  (30, ⟨[(2, none, [.fl (.int .i64), .fl (.int .i64)]), (3, none, [.fl (.int .i64), .fl (.int .i64), .fl (.int .i64)]), (6, some false, [.fl (.own (.int .i64))]), (7, some false, [.fl (.int .i64)]), (8, some false, [.fl (.own (.int .i64))]), (9, some false, [.fl (.int .i64)])], fun x => c.2 x.1.1 x.1.2.1 x.2.1.1 x.2.1.2.1 x.2.1.2.2.1 x.2.2.1.1 x.2.2.2.1.1 x.2.2.2.2.1.1 x.2.2.2.2.2.1.1⟩)]
noncomputable def spec_l05Plan.f (k : Nat) (a0 : Int) (a1 : Int) (a2 : Int) (a3 : Int) (a4 : Int) : Option spec_l05Plan.N := (spec_l05Home.f k a0 a1).bind fun t1 => (spec_l05Spot.f k a2 a3 a4).bind fun (t2 : Int) => if 0 ≤ t2 then if t2 < (t1.length : Int) then (if (decide ((rd 0 t1 t2) = 0)) = true then some ([], false) else (spec_l05Plan.cs k k).1 a0 a1 a2 a3 a4 t1 (rd 0 t1 t2) ([] : List Int)) else none else none
noncomputable def spec_l05Plan.F (k : Nat) : Go.Rv.Fn := mkFn 2 spec_l05Plan.pc spec_l05Plan.pr (keepOf []) (fun (y : spec_l05Plan.N) => (((y.1, ()), (y.2, ()), ()) : compT spec_l05Plan.pr)) fun x => spec_l05Plan.f k x.1.1 x.1.2.1 x.2.1.1 x.2.1.2.1 x.2.1.2.2.1
theorem spec_l05Plan.env (k : Nat) : EnvOk Go.Proofs.Try.prog (fun f => (spec_l05Plan.E k).lookup f) := envOk_of ⟨entry Go.Proofs.Try.call57 rfl (spec_l05Home.ok k), entry Go.Proofs.Try.call58 rfl (spec_l05Spot.ok k), entry Go.Proofs.Try.call59 rfl (spec_l05Next.ok k), trivial⟩
theorem spec_l05Plan.cuts (k : Nat) : CutsOk Go.Proofs.Try.prog X (fun f => (spec_l05Plan.E k).lookup f) Go.Proofs.Try.f42 [] (decN spec_l05Plan.pr (fun (y : compT spec_l05Plan.pr) => ((y.1.1, y.2.1.1) : spec_l05Plan.N))) fun n => spec_l05Plan.CC (spec_l05Plan.cs k n) :=
  cutsOk_of (step := spec_l05Plan.step k) rfl (fun _ => rfl) ⟨fun _ => rfl, fun _ => rfl, trivial⟩ (fun c => by kernel_rfl) fun c => ⟨fun x => by kernel_rfl, fun x => by kernel_rfl, trivial⟩
theorem spec_l05Plan.ok (k : Nat) : FnOk Go.Proofs.Try.prog 42 (spec_l05Plan.F k) :=
  fn_ok tab (spec_l05Plan.env k) Go.Proofs.Try.func42 rfl (n := 2) (Nat.le_of_ble_eq_true rfl) (by kernel_rfl) (outs := []) (by kernel_rfl) (by kernel_rfl) (d := fun (y : compT spec_l05Plan.pr) => ((y.1.1, y.2.1.1) : spec_l05Plan.N)) (fun _ => rfl) (C := fun n => spec_l05Plan.CC (spec_l05Plan.cs k n)) (k := k) (spec_l05Plan.cuts k) fun x => by kernel_rfl
/-! spec.PlanBoth -/
@[reducible] def spec_PlanBoth.pc : CutP := [(0, some true, [.fl (.int .i64), .fl (.int .i64)]), (1, some true, [.fl (.int .i64), .fl (.int .i64), .fl (.int .i64)]), (2, some true, [.fl (.int .i64), .fl (.int .i64), .fl (.int .i64)])]
@[reducible] def spec_PlanBoth.pr : CompPs := [(false, [.fl (.own (.sl (.int .i64)))]), (false, [.fl .bool])]
abbrev spec_PlanBoth.N := List (List Int) × Bool
noncomputable def spec_PlanBoth.E (k : Nat) : List (FuncId × Go.Rv.Fn) := [(41, spec_l05Is.F k), (42, spec_l05Plan.F k)]
abbrev spec_PlanBoth.Cs := (Int → Int → Int → Int → Int → Int → Int → Int → Option spec_PlanBoth.N) × (List Int → List Int → Option spec_PlanBoth.N) × (List Int → List Int → List (List Int) → Int → Option spec_PlanBoth.N) × (List Int → List Int → List (List Int) → Int → Option spec_PlanBoth.N) × (List Int → List Int → List (List Int) → Int → List Int → Option spec_PlanBoth.N)
def spec_PlanBoth.zero : spec_PlanBoth.Cs := (fun _ _ _ _ _ _ _ _ => none, fun _ _ => none, fun _ _ _ _ => none, fun _ _ _ _ => none, fun _ _ _ _ _ => none)
noncomputable def spec_PlanBoth.step (k : Nat) (c : spec_PlanBoth.Cs) : spec_PlanBoth.Cs := (fun (x0 : Int) (x1 : Int) (x2 : Int) (x3 : Int) (x4 : Int) (x5 : Int) (x6 : Int) (x7 : Int) => (spec_l05Plan.f k x0 x1 x2 x3 x4).bind fun t3 => (spec_l05Plan.f k x0 x1 x5 x6 x7).bind fun t4 => (if (!t3.2) = true then some ([], false) else (if (!t4.2) = true then some ([], false) else c.2.1 t3.1 t4.1)),
  fun (x0 : List Int) (x1 : List Int) => c.2.2.1 x0 x1 ([] : List (List Int)) 0,
  fun (x0 : List Int) (x1 : List Int) (x2 : List (List Int)) (x3 : Int) => (if (decide (x3 < (x0.length : Int))) = true then c.2.2.2.1 x0 x1 x2 x3 else (if (decide (x3 < (x1.length : Int))) = true then c.2.2.2.1 x0 x1 x2 x3 else some (x2, true))),
  fun (x0 : List Int) (x1 : List Int) (x2 : List (List Int)) (x3 : Int) => (if (decide (x3 < (x0.length : Int))) = true then if 0 ≤ x3 then if x3 < (x0.length : Int) then if 0 ≤ 0 then if 0 < ([0, 0].length : Int) then c.2.2.2.2 x0 x1 x2 x3 ([0, 0].set (0 : Int).toNat (rd 0 x0 x3)) else none else none else none else none else c.2.2.2.2 x0 x1 x2 x3 [0, 0]),
  fun (x0 : List Int) (x1 : List Int) (x2 : List (List Int)) (x3 : Int) (x4 : List Int) => (if (decide (x3 < (x1.length : Int))) = true then if 0 ≤ x3 then if x3 < (x1.length : Int) then if 0 ≤ 1 then if 1 < (x4.length : Int) then if x2.length + [(x4.set (1 : Int).toNat (rd 0 x1 x3))].length < 1099511627776 then c.2.2.1 x0 x1 (x2 ++ [(x4.set (1 : Int).toNat (rd 0 x1 x3))]) (wrap64 (x3 + 1)) else none else none else none else none else none else if x2.length + [x4].length < 1099511627776 then c.2.2.1 x0 x1 (x2 ++ [x4]) (wrap64 (x3 + 1)) else none))
noncomputable def spec_PlanBoth.cs (k : Nat) : Nat → spec_PlanBoth.Cs
  | 0 => spec_PlanBoth.zero
  | n + 1 => spec_PlanBoth.step k (spec_PlanBoth.cs k n)
def spec_PlanBoth.CC (c : spec_PlanBoth.Cs) : Cuts spec_PlanBoth.N := [(2, ⟨[(3, none, [.fl (.int .i64), .fl (.int .i64)]), (4, none, [.fl (.int .i64), .fl (.int .i64), .fl (.int .i64)]), (5, none, [.fl (.int .i64), .fl (.int .i64), .fl (.int .i64)])], fun x => c.1 x.1.1 x.1.2.1 x.2.1.1 x.2.1.2.1 x.2.1.2.2.1 x.2.2.1.1 x.2.2.1.2.1 x.2.2.1.2.2.1⟩),
  (14, ⟨[(8, some false, [.fl (.own (.int .i64))]), (10, some false, [.fl (.own (.int .i64))])], fun x => c.2.1 x.1.1 x.2.1.1⟩),
  (28, ⟨[(8, some false, [.fl (.own (.int .i64))]), (10, some false, [.fl (.own (.int .i64))]), (12, some false, [.fl (.own (.sl (.int .i64)))]), (13, some false, [.fl (.int .i64)])], fun x => c.2.2.1 x.1.1 x.2.1.1 x.2.2.1.1 x.2.2.2.1.1⟩),
  (29, ⟨[(8, some false, [.fl (.own (.int .i64))]), (10, some false, [.fl (.own (.int .i64))]), (12, some false, [.fl (.own (.sl (.int .i64)))]), (13, some false, [.fl (.int .i64)])], fun x => c.2.2.2.1 x.1.1 x.2.1.1 x.2.2.1.1 x.2.2.2.1.1⟩),
  (39, ⟨[(8, some false, [.fl (.own (.int .i64))]), (10, some false, [.fl (.own (.int .i64))]), (12, some false, [.fl (.own (.sl (.int .i64)))]), (13, some false, [.fl (.int .i64)]), (14, some false, [.fl (.own (.int .i64))])], fun x => c.2.2.2.2 x.1.1 x.2.1.1 x.2.2.1.1 x.2.2.2.1.1 x.2.2.2.2.1.1⟩)]
noncomputable def spec_PlanBoth.f (k : Nat) (a0 : Int) (a1 : Int) (a2 : Int) (a3 : Int) (a4 : Int) (a5 : Int) (a6 : Int) (a7 : Int) : Option spec_PlanBoth.N := (spec_l05Is.f k a0 a1 a2 a3 a4).bind fun t1 => (if (!t1) = true then some ([], false) else (spec_l05Is.f k a0 a1 a5 a6 a7).bind fun t2 => (if (!t2) = true then some ([], false) else (spec_PlanBoth.cs k k).1 a0 a1 a2 a3 a4 a5 a6 a7))
noncomputable def spec_PlanBoth.F (k : Nat) : Go.Rv.Fn := mkFn 3 spec_PlanBoth.pc spec_PlanBoth.pr (keepOf []) (fun (y : spec_PlanBoth.N) => (((y.1, ()), (y.2, ()), ()) : compT spec_PlanBoth.pr)) fun x => spec_PlanBoth.f k x.1.1 x.1.2.1 x.2.1.1 x.2.1.2.1 x.2.1.2.2.1 x.2.2.1.1 x.2.2.1.2.1 x.2.2.1.2.2.1
theorem spec_PlanBoth.env (k : Nat) : EnvOk Go.Proofs.Try.prog (fun f => (spec_PlanBoth.E k).lookup f) := envOk_of ⟨entry Go.Proofs.Try.call41 rfl (spec_l05Is.ok k), entry Go.Proofs.Try.call42 rfl (spec_l05Plan.ok k), trivial⟩
theorem spec_PlanBoth.cuts (k : Nat) : CutsOk Go.Proofs.Try.prog X (fun f => (spec_PlanBoth.E k).lookup f) Go.Proofs.Try.f21 [] (decN spec_PlanBoth.pr (fun (y : compT spec_PlanBoth.pr) => ((y.1.1, y.2.1.1) : spec_PlanBoth.N))) fun n => spec_PlanBoth.CC (spec_PlanBoth.cs k n) :=
  cutsOk_of (step := spec_PlanBoth.step k) rfl (fun _ => rfl) ⟨fun _ => rfl, fun _ => rfl, fun _ => rfl, fun _ => rfl, fun _ => rfl, trivial⟩ (fun c => by kernel_rfl) fun c => ⟨fun x => by kernel_rfl, fun x => by kernel_rfl, fun x => by kernel_rfl, fun x => by kernel_rfl, fun x => by kernel_rfl, trivial⟩
theorem spec_PlanBoth.ok (k : Nat) : FnOk Go.Proofs.Try.prog 21 (spec_PlanBoth.F k) :=
  fn_ok tab (spec_PlanBoth.env k) Go.Proofs.Try.func21 rfl (n := 3) (Nat.le_of_ble_eq_true rfl) (by kernel_rfl) (outs := []) (by kernel_rfl) (by kernel_rfl) (d := fun (y : compT spec_PlanBoth.pr) => ((y.1.1, y.2.1.1) : spec_PlanBoth.N)) (fun _ => rfl) (C := fun n => spec_PlanBoth.CC (spec_PlanBoth.cs k n)) (k := k) (spec_PlanBoth.cuts k) fun x => by kernel_rfl
/-! impl.within -/
@[reducible] def impl_within.pc : CutP := [(0, some false, [.fl (.int .i64)]), (1, some false, [.fl (.int .i64)]), (2, some false, [.fl (.int .i64)])]
@[reducible] def impl_within.pr : CompPs := [(false, [.fl .bool])]
abbrev impl_within.N := Bool
noncomputable def impl_within.E (k : Nat) : List (FuncId × Go.Rv.Fn) := []
noncomputable def impl_within.f (k : Nat) (a0 : Int) (a1 : Int) (a2 : Int) : Option impl_within.N := (if (decide (a1 ≤ a0)) = true then some (decide (a0 ≤ a2)) else some false)
noncomputable def impl_within.F (k : Nat) : Go.Rv.Fn := mkFn 3 impl_within.pc impl_within.pr (keepOf []) (fun (y : impl_within.N) => (((y, ()), ()) : compT impl_within.pr)) fun x => impl_within.f k x.1.1 x.2.1.1 x.2.2.1.1
theorem impl_within.env (k : Nat) : EnvOk Go.Proofs.Try.prog (fun f => (impl_within.E k).lookup f) := envOk_of trivial
theorem impl_within.ok (k : Nat) : FnOk Go.Proofs.Try.prog 34 (impl_within.F k) :=
  fn_ok tab (impl_within.env k) Go.Proofs.Try.func34 rfl (n := 3) (Nat.le_of_ble_eq_true rfl) (by kernel_rfl) (outs := []) (by kernel_rfl) (by kernel_rfl) (d := fun (y : compT impl_within.pr) => (y.1.1 : impl_within.N)) (fun _ => rfl) (C := fun _ => []) (k := k) noCuts fun x => by kernel_rfl
/-! impl.ValidLimits -/
@[reducible] def impl_ValidLimits.pc : CutP := [(0, some true, [.fl (.int .i64), .fl (.int .i64)])]
@[reducible] def impl_ValidLimits.pr : CompPs := [(false, [.fl .bool])]
abbrev impl_ValidLimits.N := Bool
noncomputable def impl_ValidLimits.E (k : Nat) : List (FuncId × Go.Rv.Fn) := [(34, impl_within.F k)]
noncomputable def impl_ValidLimits.f (k : Nat) (a0 : Int) (a1 : Int) : Option impl_ValidLimits.N := (impl_within.f k a0 1 3).bind fun t1 => (if t1 = true then (impl_within.f k a1 1 6).bind fun t2 => some t2 else some false)
noncomputable def impl_ValidLimits.F (k : Nat) : Go.Rv.Fn := mkFn 1 impl_ValidLimits.pc impl_ValidLimits.pr (keepOf []) (fun (y : impl_ValidLimits.N) => (((y, ()), ()) : compT impl_ValidLimits.pr)) fun x => impl_ValidLimits.f k x.1.1 x.1.2.1
theorem impl_ValidLimits.env (k : Nat) : EnvOk Go.Proofs.Try.prog (fun f => (impl_ValidLimits.E k).lookup f) := envOk_of ⟨entry Go.Proofs.Try.call34 rfl (impl_within.ok k), trivial⟩
theorem impl_ValidLimits.ok (k : Nat) : FnOk Go.Proofs.Try.prog 51 (impl_ValidLimits.F k) :=
  fn_ok tab (impl_ValidLimits.env k) Go.Proofs.Try.func51 rfl (n := 1) (Nat.le_of_ble_eq_true rfl) (by kernel_rfl) (outs := []) (by kernel_rfl) (by kernel_rfl) (d := fun (y : compT impl_ValidLimits.pr) => (y.1.1 : impl_ValidLimits.N)) (fun _ => rfl) (C := fun _ => []) (k := k) noCuts fun x => by kernel_rfl
/-! (impl.Limits).isCourse -/
@[reducible] def impl_Limits_isCourse.pc : CutP := [(0, some true, [.fl (.int .i64), .fl (.int .i64)]), (1, some true, [.fl (.int .i64), .fl (.int .i64), .fl (.int .i64)])]
@[reducible] def impl_Limits_isCourse.pr : CompPs := [(false, [.fl .bool])]
abbrev impl_Limits_isCourse.N := Bool
noncomputable def impl_Limits_isCourse.E (k : Nat) : List (FuncId × Go.Rv.Fn) := [(34, impl_within.F k)]
noncomputable def impl_Limits_isCourse.f (k : Nat) (a0 : Int) (a1 : Int) (a2 : Int) (a3 : Int) (a4 : Int) : Option impl_Limits_isCourse.N := (impl_within.f k a2 (-40) 40).bind fun t1 => (if t1 = true then (impl_within.f k a3 (-10) 10).bind fun t2 => (if t2 = true then (impl_within.f k a4 (wrap64 (0 - a0)) a0).bind fun t3 => some t3 else some false) else some false)
noncomputable def impl_Limits_isCourse.F (k : Nat) : Go.Rv.Fn := mkFn 2 impl_Limits_isCourse.pc impl_Limits_isCourse.pr (keepOf []) (fun (y : impl_Limits_isCourse.N) => (((y, ()), ()) : compT impl_Limits_isCourse.pr)) fun x => impl_Limits_isCourse.f k x.1.1 x.1.2.1 x.2.1.1 x.2.1.2.1 x.2.1.2.2.1
theorem impl_Limits_isCourse.env (k : Nat) : EnvOk Go.Proofs.Try.prog (fun f => (impl_Limits_isCourse.E k).lookup f) := envOk_of ⟨entry Go.Proofs.Try.call34 rfl (impl_within.ok k), trivial⟩
theorem impl_Limits_isCourse.ok (k : Nat) : FnOk Go.Proofs.Try.prog 52 (impl_Limits_isCourse.F k) :=
  fn_ok tab (impl_Limits_isCourse.env k) Go.Proofs.Try.func52 rfl (n := 2) (Nat.le_of_ble_eq_true rfl) (by kernel_rfl) (outs := []) (by kernel_rfl) (by kernel_rfl) (d := fun (y : compT impl_Limits_isCourse.pr) => (y.1.1 : impl_Limits_isCourse.N)) (fun _ => rfl) (C := fun _ => []) (k := k) noCuts fun x => by kernel_rfl
/-! impl.ValidCourse -/
@[reducible] def impl_ValidCourse.pc : CutP := [(0, some true, [.fl (.int .i64), .fl (.int .i64)]), (1, some true, [.fl (.int .i64), .fl (.int .i64), .fl (.int .i64)])]
@[reducible] def impl_ValidCourse.pr : CompPs := [(false, [.fl .bool])]
abbrev impl_ValidCourse.N := Bool
noncomputable def impl_ValidCourse.E (k : Nat) : List (FuncId × Go.Rv.Fn) := [(51, impl_ValidLimits.F k), (52, impl_Limits_isCourse.F k)]
noncomputable def impl_ValidCourse.f (k : Nat) (a0 : Int) (a1 : Int) (a2 : Int) (a3 : Int) (a4 : Int) : Option impl_ValidCourse.N := (impl_ValidLimits.f k a0 a1).bind fun t1 => (if t1 = true then (impl_Limits_isCourse.f k a0 a1 a2 a3 a4).bind fun t2 => some t2 else some false)
noncomputable def impl_ValidCourse.F (k : Nat) : Go.Rv.Fn := mkFn 2 impl_ValidCourse.pc impl_ValidCourse.pr (keepOf []) (fun (y : impl_ValidCourse.N) => (((y, ()), ()) : compT impl_ValidCourse.pr)) fun x => impl_ValidCourse.f k x.1.1 x.1.2.1 x.2.1.1 x.2.1.2.1 x.2.1.2.2.1
theorem impl_ValidCourse.env (k : Nat) : EnvOk Go.Proofs.Try.prog (fun f => (impl_ValidCourse.E k).lookup f) := envOk_of ⟨entry Go.Proofs.Try.call51 rfl (impl_ValidLimits.ok k), entry Go.Proofs.Try.call52 rfl (impl_Limits_isCourse.ok k), trivial⟩
theorem impl_ValidCourse.ok (k : Nat) : FnOk Go.Proofs.Try.prog 32 (impl_ValidCourse.F k) :=
  fn_ok tab (impl_ValidCourse.env k) Go.Proofs.Try.func32 rfl (n := 2) (Nat.le_of_ble_eq_true rfl) (by kernel_rfl) (outs := []) (by kernel_rfl) (by kernel_rfl) (d := fun (y : compT impl_ValidCourse.pr) => (y.1.1 : impl_ValidCourse.N)) (fun _ => rfl) (C := fun _ => []) (k := k) noCuts fun x => by kernel_rfl
/-! impl.abs -/
@[reducible] def impl_abs.pc : CutP := [(0, some false, [.fl (.int .i64)])]
@[reducible] def impl_abs.pr : CompPs := [(false, [.fl (.int .i64)])]
abbrev impl_abs.N := Int
noncomputable def impl_abs.E (k : Nat) : List (FuncId × Go.Rv.Fn) := []
noncomputable def impl_abs.f (k : Nat) (a0 : Int) : Option impl_abs.N := some (if a0 < (wrap64 (0 - a0)) then (wrap64 (0 - a0)) else a0)
noncomputable def impl_abs.F (k : Nat) : Go.Rv.Fn := mkFn 1 impl_abs.pc impl_abs.pr (keepOf []) (fun (y : impl_abs.N) => (((y, ()), ()) : compT impl_abs.pr)) fun x => impl_abs.f k x.1.1
theorem impl_abs.env (k : Nat) : EnvOk Go.Proofs.Try.prog (fun f => (impl_abs.E k).lookup f) := envOk_of trivial
theorem impl_abs.ok (k : Nat) : FnOk Go.Proofs.Try.prog 46 (impl_abs.F k) :=
  fn_ok tab (impl_abs.env k) Go.Proofs.Try.func46 rfl (n := 1) (Nat.le_of_ble_eq_true rfl) (by kernel_rfl) (outs := []) (by kernel_rfl) (by kernel_rfl) (d := fun (y : compT impl_abs.pr) => (y.1.1 : impl_abs.N)) (fun _ => rfl) (C := fun _ => []) (k := k) noCuts fun x => by kernel_rfl
/-! (impl.Limits).next -/
@[reducible] def impl_Limits_next.pc : CutP := [(0, some true, [.fl (.int .i64), .fl (.int .i64)]), (1, some true, [.fl (.int .i64), .fl (.int .i64), .fl (.int .i64)]), (2, some false, [.fl (.int .i64)])]
@[reducible] def impl_Limits_next.pr : CompPs := [(true, [.fl (.int .i64), .fl (.int .i64), .fl (.int .i64)]), (false, [.fl .bool])]
abbrev impl_Limits_next.N := Int × Int × Int × Bool
noncomputable def impl_Limits_next.E (k : Nat) : List (FuncId × Go.Rv.Fn) := [(34, impl_within.F k), (46, impl_abs.F k), (52, impl_Limits_isCourse.F k)]
abbrev impl_Limits_next.Cs := (Int → Int → Int → Int → Int → Int → Int → Int → Int → Option impl_Limits_next.N)
def impl_Limits_next.zero : impl_Limits_next.Cs := (fun _ _ _ _ _ _ _ _ _ => none)
noncomputable def impl_Limits_next.step (k : Nat) (c : impl_Limits_next.Cs) : impl_Limits_next.Cs := (fun (x0 : Int) (x1 : Int) (x2 : Int) (x3 : Int) (x4 : Int) (x5 : Int) (x6 : Int) (x7 : Int) (x8 : Int) => (impl_Limits_isCourse.f k x1 x2 (wrap64 (x3 + x4)) (wrap64 (x4 + x0)) x0).bind fun t3 => (if (!t3) = true then some (0, 0, 0, false) else some ((wrap64 (x3 + x4)), (wrap64 (x4 + x0)), x0, true)))
noncomputable def impl_Limits_next.cs (k : Nat) : Nat → impl_Limits_next.Cs
  | 0 => impl_Limits_next.zero
  | n + 1 => impl_Limits_next.step k (impl_Limits_next.cs k n)
def impl_Limits_next.CC (c : impl_Limits_next.Cs) : Cuts impl_Limits_next.N := [(2, ⟨[(2, some false, [.fl (.int .i64)]), (3, none, [.fl (.int .i64), .fl (.int .i64)]), (4, none, [.fl (.int .i64), .fl (.int .i64), .fl (.int .i64)]), (6, none, [.fl (.int .i64), .fl (.int .i64), .fl (.int .i64)])], fun x => c x.1.1 x.2.1.1 x.2.1.2.1 x.2.2.1.1 x.2.2.1.2.1 x.2.2.1.2.2.1 x.2.2.2.1.1 x.2.2.2.1.2.1 x.2.2.2.1.2.2.1⟩)]
noncomputable def impl_Limits_next.f (k : Nat) (a0 : Int) (a1 : Int) (a2 : Int) (a3 : Int) (a4 : Int) (a5 : Int) : Option impl_Limits_next.N := (impl_within.f k a5 (wrap64 (0 - a0)) a0).bind fun t1 => (if (!t1) = true then some (0, 0, 0, false) else (impl_abs.f k (wrap64 (a5 - a4))).bind fun (t2 : Int) => (if (decide (a1 < t2)) = true then some (0, 0, 0, false) else (impl_Limits_next.cs k k) a5 a0 a1 a2 a3 a4 0 0 0))
noncomputable def impl_Limits_next.F (k : Nat) : Go.Rv.Fn := mkFn 3 impl_Limits_next.pc impl_Limits_next.pr (keepOf []) (fun (y : impl_Limits_next.N) => (((y.1, y.2.1, y.2.2.1, ()), (y.2.2.2, ()), ()) : compT impl_Limits_next.pr)) fun x => impl_Limits_next.f k x.1.1 x.1.2.1 x.2.1.1 x.2.1.2.1 x.2.1.2.2.1 x.2.2.1.1
theorem impl_Limits_next.env (k : Nat) : EnvOk Go.Proofs.Try.prog (fun f => (impl_Limits_next.E k).lookup f) := envOk_of ⟨entry Go.Proofs.Try.call34 rfl (impl_within.ok k), entry Go.Proofs.Try.call46 rfl (impl_abs.ok k), entry Go.Proofs.Try.call52 rfl (impl_Limits_isCourse.ok k), trivial⟩
theorem impl_Limits_next.cuts (k : Nat) : CutsOk Go.Proofs.Try.prog X (fun f => (impl_Limits_next.E k).lookup f) Go.Proofs.Try.f33 [] (decN impl_Limits_next.pr (fun (y : compT impl_Limits_next.pr) => ((y.1.1, y.1.2.1, y.1.2.2.1, y.2.1.1) : impl_Limits_next.N))) fun n => impl_Limits_next.CC (impl_Limits_next.cs k n) :=
  cutsOk_of (step := impl_Limits_next.step k) rfl (fun _ => rfl) ⟨fun _ => rfl, trivial⟩ (fun c => by kernel_rfl) fun c => ⟨fun x => by kernel_rfl, trivial⟩
theorem impl_Limits_next.ok (k : Nat) : FnOk Go.Proofs.Try.prog 33 (impl_Limits_next.F k) :=
  fn_ok tab (impl_Limits_next.env k) Go.Proofs.Try.func33 rfl (n := 3) (Nat.le_of_ble_eq_true rfl) (by kernel_rfl) (outs := []) (by kernel_rfl) (by kernel_rfl) (d := fun (y : compT impl_Limits_next.pr) => ((y.1.1, y.1.2.1, y.1.2.2.1, y.2.1.1) : impl_Limits_next.N)) (fun _ => rfl) (C := fun n => impl_Limits_next.CC (impl_Limits_next.cs k n)) (k := k) (impl_Limits_next.cuts k) fun x => by kernel_rfl
/-! (impl.Limits).distances -/
@[reducible] def impl_Limits_distances.pc : CutP := [(0, some true, [.fl (.int .i64), .fl (.int .i64)])]
@[reducible] def impl_Limits_distances.pr : CompPs := []
abbrev impl_Limits_distances.N := List ((Int × Int × Int) × Int)
noncomputable def impl_Limits_distances.E (k : Nat) : List (FuncId × Go.Rv.Fn) := [(33, impl_Limits_next.F k), (52, impl_Limits_isCourse.F k)]
abbrev impl_Limits_distances.Cs := (Int → Int → List (Int × Int × Int) → Int → List ((Int × Int × Int) × Int) → Option impl_Limits_distances.N) × (Int → Int → List (Int × Int × Int) → Int → List (Int × Int × Int) → List ((Int × Int × Int) × Int) → List (Int × Int × Int) → Int → Int → Option impl_Limits_distances.N) × (Int → Int → List (Int × Int × Int) → Int → List (Int × Int × Int) → Int → Int → Int → Int → List ((Int × Int × Int) × Int) → List (Int × Int × Int) → Int → Int → Option impl_Limits_distances.N) × (Int → Int → List (Int × Int × Int) → Int → List (Int × Int × Int) → Int → Int → Int → Int → Int → Int → Int → List ((Int × Int × Int) × Int) → List (Int × Int × Int) → Int → Int → Option impl_Limits_distances.N)
def impl_Limits_distances.zero : impl_Limits_distances.Cs := (fun _ _ _ _ _ => none, fun _ _ _ _ _ _ _ _ _ => none, fun _ _ _ _ _ _ _ _ _ _ _ _ _ => none, fun _ _ _ _ _ _ _ _ _ _ _ _ _ _ _ _ => none)
noncomputable def impl_Limits_distances.step (k : Nat) (c : impl_Limits_distances.Cs) : impl_Limits_distances.Cs := (fun (x0 : Int) (x1 : Int) (x2 : List (Int × Int × Int)) (x3 : Int) (x4 : List ((Int × Int × Int) × Int)) => (if (decide (x3 ≤ 40)) = true then c.2.1 x0 x1 x2 x3 ([] : List (Int × Int × Int)) x4 x2 (x2.length : Int) 0 else some x4),
  fun (x0 : Int) (x1 : Int) (x2 : List (Int × Int × Int)) (x3 : Int) (x4 : List (Int × Int × Int)) (x5 : List ((Int × Int × Int) × Int)) (x6 : List (Int × Int × Int)) (x7 : Int) (x8 : Int) => (if (decide (x8 < x7)) = true then if 0 ≤ x8 then if x8 < (x6.length : Int) then c.2.2.1 x0 x1 x2 x3 x4 ((rd (0, (0, 0)) x6 x8).1) (((rd (0, (0, 0)) x6 x8).2).1) (((rd (0, (0, 0)) x6 x8).2).2) (wrap64 (0 - x0)) x5 x6 x7 x8 else none else none else c.1 x0 x1 x4 (wrap64 (x3 + 1)) x5),
  fun (x0 : Int) (x1 : Int) (x2 : List (Int × Int × Int)) (x3 : Int) (x4 : List (Int × Int × Int)) (x5 : Int) (x6 : Int) (x7 : Int) (x8 : Int) (x9 : List ((Int × Int × Int) × Int)) (x10 : List (Int × Int × Int)) (x11 : Int) (x12 : Int) => (if (decide (x8 ≤ x0)) = true then (impl_Limits_next.f k x0 x1 (wrap64 (x5 - (wrap64 (x6 - x7)))) (wrap64 (x6 - x7)) x8 x7).bind fun t1 => (impl_Limits_isCourse.f k x0 x1 (wrap64 (x5 - (wrap64 (x6 - x7)))) (wrap64 (x6 - x7)) x8).bind fun t2 => (if (!t2) = true then c.2.2.1 x0 x1 x2 x3 x4 x5 x6 x7 (wrap64 (x8 + 1)) x9 x10 x11 x12 else (if (!t1.2.2.2) = true then c.2.2.1 x0 x1 x2 x3 x4 x5 x6 x7 (wrap64 (x8 + 1)) x9 x10 x11 x12 else (if (!(decide (t1.1 = x5) && (decide (t1.2.1 = x6) && (decide (t1.2.2.1 = x7) && true)))) = true then c.2.2.1 x0 x1 x2 x3 x4 x5 x6 x7 (wrap64 (x8 + 1)) x9 x10 x11 x12 else c.2.2.2 x0 x1 x2 x3 x4 x5 x6 x7 x8 (wrap64 (x5 - (wrap64 (x6 - x7)))) (wrap64 (x6 - x7)) x8 x9 x10 x11 x12))) else c.2.1 x0 x1 x2 x3 x4 x9 x10 x11 (wrap64 (x12 + 1))),
  fun (x0 : Int) (x1 : Int) (x2 : List (Int × Int × Int)) (x3 : Int) (x4 : List (Int × Int × Int)) (x5 : Int) (x6 : Int) (x7 : Int) (x8 : Int) (x9 : Int) (x10 : Int) (x11 : Int) (x12 : List ((Int × Int × Int) × Int)) (x13 : List (Int × Int × Int)) (x14 : Int) (x15 : Int) => (if kwf (.pair (.int .i64) (.pair (.int .i64) (.int .i64))) (x9, (x10, x11)) = true then (if (!((mget (x9, (x10, x11)) x12).isSome)) = true then (if kwf (.pair (.int .i64) (.pair (.int .i64) (.int .i64))) (x9, (x10, x11)) = true then if x4.length + [(x9, (x10, x11))].length < 366503875925 then c.2.2.1 x0 x1 x2 x3 (x4 ++ [(x9, (x10, x11))]) x5 x6 x7 (wrap64 (x8 + 1)) (mput (x9, (x10, x11)) x3 x12) x13 x14 x15 else none else none) else c.2.2.1 x0 x1 x2 x3 x4 x5 x6 x7 (wrap64 (x8 + 1)) x12 x13 x14 x15) else none))
noncomputable def impl_Limits_distances.cs (k : Nat) : Nat → impl_Limits_distances.Cs
  | 0 => impl_Limits_distances.zero
  | n + 1 => impl_Limits_distances.step k (impl_Limits_distances.cs k n)
def impl_Limits_distances.CC (c : impl_Limits_distances.Cs) : Cuts impl_Limits_distances.N := [(8, ⟨[(1, none, [.fl (.int .i64), .fl (.int .i64)]), (3, some false, [.fl (.mptr 15)]), (4, some false, [.fl (.own (.pair (.int .i64) (.pair (.int .i64) (.int .i64))))]), (5, some false, [.fl (.int .i64)]), (15, none, [.mp (.pair (.int .i64) (.pair (.int .i64) (.int .i64))) (.int .i64)])], fun x => c.1 x.1.1 x.1.2.1 x.2.2.1.1 x.2.2.2.1.1 x.2.2.2.2.1.1⟩),
  (23, ⟨[(1, none, [.fl (.int .i64), .fl (.int .i64)]), (3, some false, [.fl (.mptr 15)]), (4, some false, [.fl (.own (.pair (.int .i64) (.pair (.int .i64) (.int .i64))))]), (5, some false, [.fl (.int .i64)]), (6, some false, [.fl (.own (.pair (.int .i64) (.pair (.int .i64) (.int .i64))))]), (15, none, [.mp (.pair (.int .i64) (.pair (.int .i64) (.int .i64))) (.int .i64)]), (25, some false, [.fl (.ref 4 1 (.pair (.int .i64) (.pair (.int .i64) (.int .i64))))]), (26, some false, [.fl (.int .i64)]), (27, some false, [.fl (.int .i64)])], fun x => c.2.1 x.1.1 x.1.2.1 x.2.2.1.1 x.2.2.2.1.1 x.2.2.2.2.1.1 x.2.2.2.2.2.1.1 x.2.2.2.2.2.2.1.1 x.2.2.2.2.2.2.2.1.1 x.2.2.2.2.2.2.2.2.1.1⟩),
  (37, ⟨[(1, none, [.fl (.int .i64), .fl (.int .i64)]), (3, some false, [.fl (.mptr 15)]), (4, some false, [.fl (.own (.pair (.int .i64) (.pair (.int .i64) (.int .i64))))]), (5, some false, [.fl (.int .i64)]), (6, some false, [.fl (.own (.pair (.int .i64) (.pair (.int .i64) (.int .i64))))]), (8, none, [.fl (.int .i64), .fl (.int .i64), .fl (.int .i64)]), (9, some false, [.fl (.int .i64)]), (15, none, [.mp (.pair (.int .i64) (.pair (.int .i64) (.int .i64))) (.int .i64)]), (25, some false, [.fl (.ref 4 1 (.pair (.int .i64) (.pair (.int .i64) (.int .i64))))]), (26, some false, [.fl (.int .i64)]), (27, some false, [.fl (.int .i64)])], fun x => c.2.2.1 x.1.1 x.1.2.1 x.2.2.1.1 x.2.2.2.1.1 x.2.2.2.2.1.1 x.2.2.2.2.2.1.1 x.2.2.2.2.2.1.2.1 x.2.2.2.2.2.1.2.2.1 x.2.2.2.2.2.2.1.1 x.2.2.2.2.2.2.2.1.1 x.2.2.2.2.2.2.2.2.1.1 x.2.2.2.2.2.2.2.2.2.1.1 x.2.2.2.2.2.2.2.2.2.2.1.1⟩),
  (48, ⟨[(1, none, [.fl (.int .i64), .fl (.int .i64)]), (3, some false, [.fl (.mptr 15)]), (4, some false, [.fl (.own (.pair (.int .i64) (.pair (.int .i64) (.int .i64))))]), (5, some false, [.fl (.int .i64)]), (6, some false, [.fl (.own (.pair (.int .i64) (.pair (.int .i64) (.int .i64))))]), (8, none, [.fl (.int .i64), .fl (.int .i64), .fl (.int .i64)]), (9, some false, [.fl (.int .i64)]), (10, none, [.fl (.int .i64), .fl (.int .i64), .fl (.int .i64)]), (15, none, [.mp (.pair (.int .i64) (.pair (.int .i64) (.int .i64))) (.int .i64)]), (25, some false, [.fl (.ref 4 1 (.pair (.int .i64) (.pair (.int .i64) (.int .i64))))]), (26, some false, [.fl (.int .i64)]), (27, some false, [.fl (.int .i64)])], fun x => c.2.2.2 x.1.1 x.1.2.1 x.2.2.1.1 x.2.2.2.1.1 x.2.2.2.2.1.1 x.2.2.2.2.2.1.1 x.2.2.2.2.2.1.2.1 x.2.2.2.2.2.1.2.2.1 x.2.2.2.2.2.2.1.1 x.2.2.2.2.2.2.2.1.1 x.2.2.2.2.2.2.2.1.2.1 x.2.2.2.2.2.2.2.1.2.2.1 x.2.2.2.2.2.2.2.2.1.1 x.2.2.2.2.2.2.2.2.2.1.1 x.2.2.2.2.2.2.2.2.2.2.1.1 x.2.2.2.2.2.2.2.2.2.2.2.1.1⟩)]
noncomputable def impl_Limits_distances.f (k : Nat) (a0 : Int) (a1 : Int) : Option impl_Limits_distances.N := (if kwf (.pair (.int .i64) (.pair (.int .i64) (.int .i64))) (0, (0, 0)) = true then (impl_Limits_distances.cs k k).1 a0 a1 [(0, (0, 0))] 1 (mput (0, (0, 0)) 0 ([] : List ((Int × Int × Int) × Int))) else none)
noncomputable def impl_Limits_distances.F (k : Nat) : Go.Rv.Fn := mkFnM 1 impl_Limits_distances.pc (.pair (.int .i64) (.pair (.int .i64) (.int .i64))) (.int .i64) (fun (y : impl_Limits_distances.N) => (y : List (Den (.pair (.int .i64) (.pair (.int .i64) (.int .i64))) × Den (.int .i64)))) fun x => impl_Limits_distances.f k x.1.1 x.1.2.1
theorem impl_Limits_distances.env (k : Nat) : EnvOk Go.Proofs.Try.prog (fun f => (impl_Limits_distances.E k).lookup f) := envOk_of ⟨entry Go.Proofs.Try.call33 rfl (impl_Limits_next.ok k), entry Go.Proofs.Try.call52 rfl (impl_Limits_isCourse.ok k), trivial⟩
theorem impl_Limits_distances.cuts (k : Nat) : CutsOkG Go.Proofs.Try.prog { X with n := Go.Proofs.Try.f38.ntmps, keep := [] } (fun f => (impl_Limits_distances.E k).lookup f) Go.Proofs.Try.f38 (endM Go.Proofs.Try.f38 (.pair (.int .i64) (.pair (.int .i64) (.int .i64))) (.int .i64) (fun (y : List (Den (.pair (.int .i64) (.pair (.int .i64) (.int .i64))) × Den (.int .i64))) => (y : impl_Limits_distances.N))) fun n => impl_Limits_distances.CC (impl_Limits_distances.cs k n) :=
  cutsOkG_of (step := impl_Limits_distances.step k) rfl (fun _ => rfl) ⟨fun _ => rfl, fun _ => rfl, fun _ => rfl, fun _ => rfl, trivial⟩ (fun c => by kernel_rfl) fun c => ⟨fun x => by kernel_rfl, fun x => by kernel_rfl, fun x => by kernel_rfl, fun x => by kernel_rfl, trivial⟩
theorem impl_Limits_distances.ok (k : Nat) : FnOk Go.Proofs.Try.prog 38 (impl_Limits_distances.F k) :=
  fn_okM tab (impl_Limits_distances.env k) Go.Proofs.Try.func38 rfl (n := 1) (Nat.le_of_ble_eq_true rfl) (by kernel_rfl) (d := fun (y : List (Den (.pair (.int .i64) (.pair (.int .i64) (.int .i64))) × Den (.int .i64))) => (y : impl_Limits_distances.N)) (fun _ => rfl) (C := (fun n => impl_Limits_distances.CC (impl_Limits_distances.cs k n))) (m := k) (impl_Limits_distances.cuts k) fun x => by kernel_rfl
/-! (impl.Limits).turns -/
@[reducible] def impl_Limits_turns.pc : CutP := [(0, some true, [.fl (.int .i64), .fl (.int .i64)]), (1, some true, [.fl (.int .i64), .fl (.int .i64), .fl (.int .i64)])]
@[reducible] def impl_Limits_turns.pr : CompPs := [(false, [.fl (.own (.int .i64))])]
abbrev impl_Limits_turns.N := List Int
noncomputable def impl_Limits_turns.E (k : Nat) : List (FuncId × Go.Rv.Fn) := [(33, impl_Limits_next.F k)]
abbrev impl_Limits_turns.Cs := (Int → Int → Int → Int → Int → List Int → Int → Option impl_Limits_turns.N)
def impl_Limits_turns.zero : impl_Limits_turns.Cs := (fun _ _ _ _ _ _ _ => none)
noncomputable def impl_Limits_turns.step (k : Nat) (c : impl_Limits_turns.Cs) : impl_Limits_turns.Cs := (fun (x0 : Int) (x1 : Int) (x2 : Int) (x3 : Int) (x4 : Int) (x5 : List Int) (x6 : Int) => (if (decide (x6 ≤ x0)) = true then (impl_Limits_next.f k x0 x1 x2 x3 x4 x6).bind fun t1 => (if t1.2.2.2 = true then if x5.length + [x6].length < 1099511627776 then c x0 x1 x2 x3 x4 (x5 ++ [x6]) (wrap64 (x6 + 1)) else none else c x0 x1 x2 x3 x4 x5 (wrap64 (x6 + 1))) else some x5))
noncomputable def impl_Limits_turns.cs (k : Nat) : Nat → impl_Limits_turns.Cs
  | 0 => impl_Limits_turns.zero
  | n + 1 => impl_Limits_turns.step k (impl_Limits_turns.cs k n)
def impl_Limits_turns.CC (c : impl_Limits_turns.Cs) : Cuts impl_Limits_turns.N := [(8, ⟨[(2, none, [.fl (.int .i64), .fl (.int .i64)]), (3, none, [.fl (.int .i64), .fl (.int .i64), .fl (.int .i64)]), (5, some false, [.fl (.own (.int .i64))]), (6, some false, [.fl (.int .i64)])], fun x => c x.1.1 x.1.2.1 x.2.1.1 x.2.1.2.1 x.2.1.2.2.1 x.2.2.1.1 x.2.2.2.1.1⟩)]
noncomputable def impl_Limits_turns.f (k : Nat) (a0 : Int) (a1 : Int) (a2 : Int) (a3 : Int) (a4 : Int) : Option impl_Limits_turns.N := (impl_Limits_turns.cs k k) a0 a1 a2 a3 a4 ([] : List Int) (wrap64 (0 - a0))
noncomputable def impl_Limits_turns.F (k : Nat) : Go.Rv.Fn := mkFn 2 impl_Limits_turns.pc impl_Limits_turns.pr (keepOf []) (fun (y : impl_Limits_turns.N) => (((y, ()), ()) : compT impl_Limits_turns.pr)) fun x => impl_Limits_turns.f k x.1.1 x.1.2.1 x.2.1.1 x.2.1.2.1 x.2.1.2.2.1
theorem impl_Limits_turns.env (k : Nat) : EnvOk Go.Proofs.Try.prog (fun f => (impl_Limits_turns.E k).lookup f) := envOk_of ⟨entry Go.Proofs.Try.call33 rfl (impl_Limits_next.ok k), trivial⟩
theorem impl_Limits_turns.cuts (k : Nat) : CutsOk Go.Proofs.Try.prog X (fun f => (impl_Limits_turns.E k).lookup f) Go.Proofs.Try.f35 [] (decN impl_Limits_turns.pr (fun (y : compT impl_Limits_turns.pr) => (y.1.1 : impl_Limits_turns.N))) fun n => impl_Limits_turns.CC (impl_Limits_turns.cs k n) :=
  cutsOk_of (step := impl_Limits_turns.step k) rfl (fun _ => rfl) ⟨fun _ => rfl, trivial⟩ (fun c => by kernel_rfl) fun c => ⟨fun x => by kernel_rfl, trivial⟩
theorem impl_Limits_turns.ok (k : Nat) : FnOk Go.Proofs.Try.prog 35 (impl_Limits_turns.F k) :=
  fn_ok tab (impl_Limits_turns.env k) Go.Proofs.Try.func35 rfl (n := 2) (Nat.le_of_ble_eq_true rfl) (by kernel_rfl) (outs := []) (by kernel_rfl) (by kernel_rfl) (d := fun (y : compT impl_Limits_turns.pr) => (y.1.1 : impl_Limits_turns.N)) (fun _ => rfl) (C := fun n => impl_Limits_turns.CC (impl_Limits_turns.cs k n)) (k := k) (impl_Limits_turns.cuts k) fun x => by kernel_rfl
/-! (impl.Limits).plan -/
@[reducible] def impl_Limits_plan.pc : CutP := [(0, some true, [.fl (.int .i64), .fl (.int .i64)]), (1, some true, [.fl (.int .i64), .fl (.int .i64), .fl (.int .i64)])]
@[reducible] def impl_Limits_plan.pr : CompPs := [(false, [.fl (.own (.int .i64))]), (false, [.fl .bool])]
abbrev impl_Limits_plan.N := List Int × Bool
noncomputable def impl_Limits_plan.E (k : Nat) : List (FuncId × Go.Rv.Fn) := [(33, impl_Limits_next.F k), (35, impl_Limits_turns.F k), (38, impl_Limits_distances.F k)]
abbrev impl_Limits_plan.Cs := (Int → Int → Int → Int → Int → Int → List Int → List ((Int × Int × Int) × Int) → Option impl_Limits_plan.N) × (Int → Int → Int → Int → Int → Int → List Int → List ((Int × Int × Int) × Int) → List Int → Int → Int → Option impl_Limits_plan.N)
def impl_Limits_plan.zero : impl_Limits_plan.Cs := (fun _ _ _ _ _ _ _ _ => none, fun _ _ _ _ _ _ _ _ _ _ _ => none)
noncomputable def impl_Limits_plan.step (k : Nat) (c : impl_Limits_plan.Cs) : impl_Limits_plan.Cs := (fun (x0 : Int) (x1 : Int) (x2 : Int) (x3 : Int) (x4 : Int) (x5 : Int) (x6 : List Int) (x7 : List ((Int × Int × Int) × Int)) => (if (decide (0 < x5)) = true then (impl_Limits_turns.f k x0 x1 x2 x3 x4).bind fun t2 => c.2 x0 x1 x2 x3 x4 x5 x6 x7 t2 (t2.length : Int) 0 else some (x6, true)),
  fun (x0 : Int) (x1 : Int) (x2 : Int) (x3 : Int) (x4 : Int) (x5 : Int) (x6 : List Int) (x7 : List ((Int × Int × Int) × Int)) (x8 : List Int) (x9 : Int) (x10 : Int) => (if (decide (x10 < x9)) = true then if 0 ≤ x10 then if x10 < (x8.length : Int) then (impl_Limits_next.f k x0 x1 x2 x3 x4 (rd 0 x8 x10)).bind fun t3 => (if kwf (.pair (.int .i64) (.pair (.int .i64) (.int .i64))) (t3.1, (t3.2.1, t3.2.2.1)) = true then (if (mget (t3.1, (t3.2.1, t3.2.2.1)) x7).isSome = true then (if (decide (((mget (t3.1, (t3.2.1, t3.2.2.1)) x7).getD 0) = (wrap64 (x5 - 1)))) = true then if x6.length + [(rd 0 x8 x10)].length < 1099511627776 then c.1 x0 x1 t3.1 t3.2.1 t3.2.2.1 (wrap64 (x5 - 1)) (x6 ++ [(rd 0 x8 x10)]) x7 else none else c.2 x0 x1 x2 x3 x4 x5 x6 x7 x8 x9 (wrap64 (x10 + 1))) else c.2 x0 x1 x2 x3 x4 x5 x6 x7 x8 x9 (wrap64 (x10 + 1))) else none) else none else none else c.1 x0 x1 x2 x3 x4 (wrap64 (x5 - 1)) x6 x7))
noncomputable def impl_Limits_plan.cs (k : Nat) : Nat → impl_Limits_plan.Cs
  | 0 => impl_Limits_plan.zero
  | n + 1 => impl_Limits_plan.step k (impl_Limits_plan.cs k n)
def impl_Limits_plan.CC (c : impl_Limits_plan.Cs) : Cuts impl_Limits_plan.N := [(18, ⟨[(2, none, [.fl (.int .i64), .fl (.int .i64)]), (3, none, [.fl (.int .i64), .fl (.int .i64), .fl (.int .i64)]), (6, some false, [.fl (.mptr 17)]), (7, some false, [.fl (.int .i64)]), (9, some false, [.fl (.own (.int .i64))]), (17, none, [.mp (.pair (.int .i64) (.pair (.int .i64) (.int .i64))) (.int .i64)])], fun x => c.1 x.1.1 x.1.2.1 x.2.1.1 x.2.1.2.1 x.2.1.2.2.1 x.2.2.2.1.1 x.2.2.2.2.1.1 x.2.2.2.2.2.1.1⟩),
  (30, ⟨[(2, none, [.fl (.int .i64), .fl (.int .i64)]), (3, none, [.fl (.int .i64), .fl (.int .i64), .fl (.int .i64)]), (6, some false, [.fl (.mptr 17)]), (7, some false, [.fl (.int .i64)]), (9, some false, [.fl (.own (.int .i64))]), (17, none, [.mp (.pair (.int .i64) (.pair (.int .i64) (.int .i64))) (.int .i64)]), (33, some false, [.fl (.own (.int .i64))]), (34, some false, [.fl (.int .i64)]), (35, some false, [.fl (.int .i64)])], fun x => c.2 x.1.1 x.1.2.1 x.2.1.1 x.2.1.2.1 x.2.1.2.2.1 x.2.2.2.1.1 x.2.2.2.2.1.1 x.2.2.2.2.2.1.1 x.2.2.2.2.2.2.1.1 x.2.2.2.2.2.2.2.1.1 x.2.2.2.2.2.2.2.2.1.1⟩)]
noncomputable def impl_Limits_plan.f (k : Nat) (a0 : Int) (a1 : Int) (a2 : Int) (a3 : Int) (a4 : Int) : Option impl_Limits_plan.N := (impl_Limits_distances.f k a0 a1).bind fun t1 => (if kwf (.pair (.int .i64) (.pair (.int .i64) (.int .i64))) (a2, (a3, a4)) = true then (if (!((mget (a2, (a3, a4)) t1).isSome)) = true then some ([], false) else (impl_Limits_plan.cs k k).1 a0 a1 a2 a3 a4 ((mget (a2, (a3, a4)) t1).getD 0) ([] : List Int) t1) else none)
noncomputable def impl_Limits_plan.F (k : Nat) : Go.Rv.Fn := mkFn 2 impl_Limits_plan.pc impl_Limits_plan.pr (keepOf []) (fun (y : impl_Limits_plan.N) => (((y.1, ()), (y.2, ()), ()) : compT impl_Limits_plan.pr)) fun x => impl_Limits_plan.f k x.1.1 x.1.2.1 x.2.1.1 x.2.1.2.1 x.2.1.2.2.1
theorem impl_Limits_plan.env (k : Nat) : EnvOk Go.Proofs.Try.prog (fun f => (impl_Limits_plan.E k).lookup f) := envOk_of ⟨entry Go.Proofs.Try.call33 rfl (impl_Limits_next.ok k), entry Go.Proofs.Try.call35 rfl (impl_Limits_turns.ok k), entry Go.Proofs.Try.call38 rfl (impl_Limits_distances.ok k), trivial⟩
theorem impl_Limits_plan.cuts (k : Nat) : CutsOk Go.Proofs.Try.prog X (fun f => (impl_Limits_plan.E k).lookup f) Go.Proofs.Try.f40 [] (decN impl_Limits_plan.pr (fun (y : compT impl_Limits_plan.pr) => ((y.1.1, y.2.1.1) : impl_Limits_plan.N))) fun n => impl_Limits_plan.CC (impl_Limits_plan.cs k n) :=
  cutsOk_of (step := impl_Limits_plan.step k) rfl (fun _ => rfl) ⟨fun _ => rfl, fun _ => rfl, trivial⟩ (fun c => by kernel_rfl) fun c => ⟨fun x => by kernel_rfl, fun x => by kernel_rfl, trivial⟩
theorem impl_Limits_plan.ok (k : Nat) : FnOk Go.Proofs.Try.prog 40 (impl_Limits_plan.F k) :=
  fn_ok tab (impl_Limits_plan.env k) Go.Proofs.Try.func40 rfl (n := 2) (Nat.le_of_ble_eq_true rfl) (by kernel_rfl) (outs := []) (by kernel_rfl) (by kernel_rfl) (d := fun (y : compT impl_Limits_plan.pr) => ((y.1.1, y.2.1.1) : impl_Limits_plan.N)) (fun _ => rfl) (C := fun n => impl_Limits_plan.CC (impl_Limits_plan.cs k n)) (k := k) (impl_Limits_plan.cuts k) fun x => by kernel_rfl
/-! impl.PlanHome -/
@[reducible] def impl_PlanHome.pc : CutP := [(0, some true, [.fl (.int .i64), .fl (.int .i64)]), (1, some true, [.fl (.int .i64), .fl (.int .i64), .fl (.int .i64)])]
@[reducible] def impl_PlanHome.pr : CompPs := [(false, [.fl (.own (.int .i64))]), (false, [.fl .bool])]
abbrev impl_PlanHome.N := List Int × Bool
noncomputable def impl_PlanHome.E (k : Nat) : List (FuncId × Go.Rv.Fn) := [(32, impl_ValidCourse.F k), (40, impl_Limits_plan.F k)]
noncomputable def impl_PlanHome.f (k : Nat) (a0 : Int) (a1 : Int) (a2 : Int) (a3 : Int) (a4 : Int) : Option impl_PlanHome.N := (impl_ValidCourse.f k a0 a1 a2 a3 a4).bind fun t1 => (if (!t1) = true then some ([], false) else (impl_Limits_plan.f k a0 a1 a2 a3 a4).bind fun t2 => some (t2.1, t2.2))
noncomputable def impl_PlanHome.F (k : Nat) : Go.Rv.Fn := mkFn 2 impl_PlanHome.pc impl_PlanHome.pr (keepOf []) (fun (y : impl_PlanHome.N) => (((y.1, ()), (y.2, ()), ()) : compT impl_PlanHome.pr)) fun x => impl_PlanHome.f k x.1.1 x.1.2.1 x.2.1.1 x.2.1.2.1 x.2.1.2.2.1
theorem impl_PlanHome.env (k : Nat) : EnvOk Go.Proofs.Try.prog (fun f => (impl_PlanHome.E k).lookup f) := envOk_of ⟨entry Go.Proofs.Try.call32 rfl (impl_ValidCourse.ok k), entry Go.Proofs.Try.call40 rfl (impl_Limits_plan.ok k), trivial⟩
theorem impl_PlanHome.ok (k : Nat) : FnOk Go.Proofs.Try.prog 15 (impl_PlanHome.F k) :=
  fn_ok tab (impl_PlanHome.env k) Go.Proofs.Try.func15 rfl (n := 2) (Nat.le_of_ble_eq_true rfl) (by kernel_rfl) (outs := []) (by kernel_rfl) (by kernel_rfl) (d := fun (y : compT impl_PlanHome.pr) => ((y.1.1, y.2.1.1) : impl_PlanHome.N)) (fun _ => rfl) (C := fun _ => []) (k := k) noCuts fun x => by kernel_rfl
/-! impl.PlanBoth -/
@[reducible] def impl_PlanBoth.pc : CutP := [(0, some true, [.fl (.int .i64), .fl (.int .i64)]), (1, some true, [.fl (.int .i64), .fl (.int .i64), .fl (.int .i64)]), (2, some true, [.fl (.int .i64), .fl (.int .i64), .fl (.int .i64)])]
@[reducible] def impl_PlanBoth.pr : CompPs := [(false, [.fl (.own (.sl (.int .i64)))]), (false, [.fl .bool])]
abbrev impl_PlanBoth.N := List (List Int) × Bool
noncomputable def impl_PlanBoth.E (k : Nat) : List (FuncId × Go.Rv.Fn) := [(15, impl_PlanHome.F k)]
abbrev impl_PlanBoth.Cs := (List Int → List Int → Option impl_PlanBoth.N) × (List Int → List Int → List (List Int) → Int → Int → Option impl_PlanBoth.N) × (List Int → List Int → List (List Int) → Int → List Int → Int → Int → Option impl_PlanBoth.N)
def impl_PlanBoth.zero : impl_PlanBoth.Cs := (fun _ _ => none, fun _ _ _ _ _ => none, fun _ _ _ _ _ _ _ => none)
noncomputable def impl_PlanBoth.step (k : Nat) (c : impl_PlanBoth.Cs) : impl_PlanBoth.Cs := (fun (x0 : List Int) (x1 : List Int) => c.2.1 x0 x1 ([] : List (List Int)) (if (x0.length : Int) < (x1.length : Int) then (x1.length : Int) else (x0.length : Int)) 0,
  fun (x0 : List Int) (x1 : List Int) (x2 : List (List Int)) (x3 : Int) (x4 : Int) => (if (decide (x4 < x3)) = true then (if (decide (x4 < (x0.length : Int))) = true then if 0 ≤ x4 then if x4 < (x0.length : Int) then if 0 ≤ 0 then if 0 < ([0, 0].length : Int) then c.2.2 x0 x1 x2 x4 ([0, 0].set (0 : Int).toNat (rd 0 x0 x4)) x3 x4 else none else none else none else none else c.2.2 x0 x1 x2 x4 [0, 0] x3 x4) else some (x2, true)),
  fun (x0 : List Int) (x1 : List Int) (x2 : List (List Int)) (x3 : Int) (x4 : List Int) (x5 : Int) (x6 : Int) => (if (decide (x3 < (x1.length : Int))) = true then if 0 ≤ x3 then if x3 < (x1.length : Int) then if 0 ≤ 1 then if 1 < (x4.length : Int) then if x2.length + [(x4.set (1 : Int).toNat (rd 0 x1 x3))].length < 1099511627776 then c.2.1 x0 x1 (x2 ++ [(x4.set (1 : Int).toNat (rd 0 x1 x3))]) x5 (wrap64 (x6 + 1)) else none else none else none else none else none else if x2.length + [x4].length < 1099511627776 then c.2.1 x0 x1 (x2 ++ [x4]) x5 (wrap64 (x6 + 1)) else none))
noncomputable def impl_PlanBoth.cs (k : Nat) : Nat → impl_PlanBoth.Cs
  | 0 => impl_PlanBoth.zero
  | n + 1 => impl_PlanBoth.step k (impl_PlanBoth.cs k n)
def impl_PlanBoth.CC (c : impl_PlanBoth.Cs) : Cuts impl_PlanBoth.N := [(6, ⟨[(8, some false, [.fl (.own (.int .i64))]), (10, some false, [.fl (.own (.int .i64))])], fun x => c.1 x.1.1 x.2.1.1⟩),
  (20, ⟨[(8, some false, [.fl (.own (.int .i64))]), (10, some false, [.fl (.own (.int .i64))]), (12, some false, [.fl (.own (.sl (.int .i64)))]), (38, some false, [.fl (.int .i64)]), (39, some false, [.fl (.int .i64)])], fun x => c.2.1 x.1.1 x.2.1.1 x.2.2.1.1 x.2.2.2.1.1 x.2.2.2.2.1.1⟩),
  (33, ⟨[(8, some false, [.fl (.own (.int .i64))]), (10, some false, [.fl (.own (.int .i64))]), (12, some false, [.fl (.own (.sl (.int .i64)))]), (13, some false, [.fl (.int .i64)]), (14, some false, [.fl (.own (.int .i64))]), (38, some false, [.fl (.int .i64)]), (39, some false, [.fl (.int .i64)])], fun x => c.2.2 x.1.1 x.2.1.1 x.2.2.1.1 x.2.2.2.1.1 x.2.2.2.2.1.1 x.2.2.2.2.2.1.1 x.2.2.2.2.2.2.1.1⟩)]
noncomputable def impl_PlanBoth.f (k : Nat) (a0 : Int) (a1 : Int) (a2 : Int) (a3 : Int) (a4 : Int) (a5 : Int) (a6 : Int) (a7 : Int) : Option impl_PlanBoth.N := (impl_PlanHome.f k a0 a1 a2 a3 a4).bind fun t1 => (impl_PlanHome.f k a0 a1 a5 a6 a7).bind fun t2 => (if (!t1.2) = true then some ([], false) else (if (!t2.2) = true then some ([], false) else (impl_PlanBoth.cs k k).1 t1.1 t2.1))
noncomputable def impl_PlanBoth.F (k : Nat) : Go.Rv.Fn := mkFn 3 impl_PlanBoth.pc impl_PlanBoth.pr (keepOf []) (fun (y : impl_PlanBoth.N) => (((y.1, ()), (y.2, ()), ()) : compT impl_PlanBoth.pr)) fun x => impl_PlanBoth.f k x.1.1 x.1.2.1 x.2.1.1 x.2.1.2.1 x.2.1.2.2.1 x.2.2.1.1 x.2.2.1.2.1 x.2.2.1.2.2.1
theorem impl_PlanBoth.env (k : Nat) : EnvOk Go.Proofs.Try.prog (fun f => (impl_PlanBoth.E k).lookup f) := envOk_of ⟨entry Go.Proofs.Try.call15 rfl (impl_PlanHome.ok k), trivial⟩
theorem impl_PlanBoth.cuts (k : Nat) : CutsOk Go.Proofs.Try.prog X (fun f => (impl_PlanBoth.E k).lookup f) Go.Proofs.Try.f22 [] (decN impl_PlanBoth.pr (fun (y : compT impl_PlanBoth.pr) => ((y.1.1, y.2.1.1) : impl_PlanBoth.N))) fun n => impl_PlanBoth.CC (impl_PlanBoth.cs k n) :=
  cutsOk_of (step := impl_PlanBoth.step k) rfl (fun _ => rfl) ⟨fun _ => rfl, fun _ => rfl, fun _ => rfl, trivial⟩ (fun c => by kernel_rfl) fun c => ⟨fun x => by kernel_rfl, fun x => by kernel_rfl, fun x => by kernel_rfl, trivial⟩
theorem impl_PlanBoth.ok (k : Nat) : FnOk Go.Proofs.Try.prog 22 (impl_PlanBoth.F k) :=
  fn_ok tab (impl_PlanBoth.env k) Go.Proofs.Try.func22 rfl (n := 3) (Nat.le_of_ble_eq_true rfl) (by kernel_rfl) (outs := []) (by kernel_rfl) (by kernel_rfl) (d := fun (y : compT impl_PlanBoth.pr) => ((y.1.1, y.2.1.1) : impl_PlanBoth.N)) (fun _ => rfl) (C := fun n => impl_PlanBoth.CC (impl_PlanBoth.cs k n)) (k := k) (impl_PlanBoth.cuts k) fun x => by kernel_rfl
/-! laws.eqInt64S -/
@[reducible] def laws_eqInt64S.pc : CutP := [(0, some false, [.fl (.lo (.int .i64))]), (1, some false, [.fl (.lo (.int .i64))])]
@[reducible] def laws_eqInt64S.pr : CompPs := [(false, [.fl .bool])]
abbrev laws_eqInt64S.N := Bool
noncomputable def laws_eqInt64S.E (k : Nat) : List (FuncId × Go.Rv.Fn) := []
abbrev laws_eqInt64S.Cs := (List Int → List Int → Int → Option laws_eqInt64S.N)
def laws_eqInt64S.zero : laws_eqInt64S.Cs := (fun _ _ _ => none)
noncomputable def laws_eqInt64S.step (k : Nat) (c : laws_eqInt64S.Cs) : laws_eqInt64S.Cs := (fun (x0 : List Int) (x1 : List Int) (x2 : Int) => (if (decide (x2 < (x0.length : Int))) = true then if 0 ≤ x2 then if x2 < (x0.length : Int) then if 0 ≤ x2 then if x2 < (x1.length : Int) then (if (!decide ((rd 0 x0 x2) = (rd 0 x1 x2))) = true then some false else c x0 x1 (wrap64 (x2 + 1))) else none else none else none else none else some true))
noncomputable def laws_eqInt64S.cs (k : Nat) : Nat → laws_eqInt64S.Cs
  | 0 => laws_eqInt64S.zero
  | n + 1 => laws_eqInt64S.step k (laws_eqInt64S.cs k n)
def laws_eqInt64S.CC (c : laws_eqInt64S.Cs) : Cuts laws_eqInt64S.N := [(14, ⟨[(0, some false, [.fl (.lo (.int .i64))]), (1, some false, [.fl (.lo (.int .i64))]), (5, some false, [.fl (.int .i64)])], fun x => c x.1.1 x.2.1.1 x.2.2.1.1⟩)]
noncomputable def laws_eqInt64S.f (k : Nat) (a0 : List Int) (a1 : List Int) : Option laws_eqInt64S.N := (if (!decide ((a0.length : Int) = (a1.length : Int))) = true then some false else (laws_eqInt64S.cs k k) a0 a1 0)
noncomputable def laws_eqInt64S.F (k : Nat) : Go.Rv.Fn := mkFn 2 laws_eqInt64S.pc laws_eqInt64S.pr (keepOf []) (fun (y : laws_eqInt64S.N) => (((y, ()), ()) : compT laws_eqInt64S.pr)) fun x => laws_eqInt64S.f k x.1.1 x.2.1.1
theorem laws_eqInt64S.env (k : Nat) : EnvOk Go.Proofs.Try.prog (fun f => (laws_eqInt64S.E k).lookup f) := envOk_of trivial
theorem laws_eqInt64S.cuts (k : Nat) : CutsOk Go.Proofs.Try.prog X (fun f => (laws_eqInt64S.E k).lookup f) Go.Proofs.Try.f27 [] (decN laws_eqInt64S.pr (fun (y : compT laws_eqInt64S.pr) => (y.1.1 : laws_eqInt64S.N))) fun n => laws_eqInt64S.CC (laws_eqInt64S.cs k n) :=
  cutsOk_of (step := laws_eqInt64S.step k) rfl (fun _ => rfl) ⟨fun _ => rfl, trivial⟩ (fun c => by kernel_rfl) fun c => ⟨fun x => by kernel_rfl, trivial⟩
theorem laws_eqInt64S.ok (k : Nat) : FnOk Go.Proofs.Try.prog 27 (laws_eqInt64S.F k) :=
  fn_ok tab (laws_eqInt64S.env k) Go.Proofs.Try.func27 rfl (n := 2) (Nat.le_of_ble_eq_true rfl) (by kernel_rfl) (outs := []) (by kernel_rfl) (by kernel_rfl) (d := fun (y : compT laws_eqInt64S.pr) => (y.1.1 : laws_eqInt64S.N)) (fun _ => rfl) (C := fun n => laws_eqInt64S.CC (laws_eqInt64S.cs k n)) (k := k) (laws_eqInt64S.cuts k) fun x => by kernel_rfl
/-! laws.eqInt64SS -/
@[reducible] def laws_eqInt64SS.pc : CutP := [(0, some false, [.fl (.lo (.sl (.int .i64)))]), (1, some false, [.fl (.lo (.sl (.int .i64)))])]
@[reducible] def laws_eqInt64SS.pr : CompPs := [(false, [.fl .bool])]
abbrev laws_eqInt64SS.N := Bool
noncomputable def laws_eqInt64SS.E (k : Nat) : List (FuncId × Go.Rv.Fn) := [(27, laws_eqInt64S.F k)]
abbrev laws_eqInt64SS.Cs := (List (List Int) → List (List Int) → Int → Option laws_eqInt64SS.N)
def laws_eqInt64SS.zero : laws_eqInt64SS.Cs := (fun _ _ _ => none)
noncomputable def laws_eqInt64SS.step (k : Nat) (c : laws_eqInt64SS.Cs) : laws_eqInt64SS.Cs := (fun (x0 : List (List Int)) (x1 : List (List Int)) (x2 : Int) => (if (decide (x2 < (x0.length : Int))) = true then if 0 ≤ x2 then if x2 < (x0.length : Int) then if 0 ≤ x2 then if x2 < (x1.length : Int) then (laws_eqInt64S.f k (rd [] x0 x2) (rd [] x1 x2)).bind fun t1 => (if (!t1) = true then some false else c x0 x1 (wrap64 (x2 + 1))) else none else none else none else none else some true))
noncomputable def laws_eqInt64SS.cs (k : Nat) : Nat → laws_eqInt64SS.Cs
  | 0 => laws_eqInt64SS.zero
  | n + 1 => laws_eqInt64SS.step k (laws_eqInt64SS.cs k n)
def laws_eqInt64SS.CC (c : laws_eqInt64SS.Cs) : Cuts laws_eqInt64SS.N := [(14, ⟨[(0, some false, [.fl (.lo (.sl (.int .i64)))]), (1, some false, [.fl (.lo (.sl (.int .i64)))]), (5, some false, [.fl (.int .i64)])], fun x => c x.1.1 x.2.1.1 x.2.2.1.1⟩)]
noncomputable def laws_eqInt64SS.f (k : Nat) (a0 : List (List Int)) (a1 : List (List Int)) : Option laws_eqInt64SS.N := (if (!decide ((a0.length : Int) = (a1.length : Int))) = true then some false else (laws_eqInt64SS.cs k k) a0 a1 0)
noncomputable def laws_eqInt64SS.F (k : Nat) : Go.Rv.Fn := mkFn 2 laws_eqInt64SS.pc laws_eqInt64SS.pr (keepOf []) (fun (y : laws_eqInt64SS.N) => (((y, ()), ()) : compT laws_eqInt64SS.pr)) fun x => laws_eqInt64SS.f k x.1.1 x.2.1.1
theorem laws_eqInt64SS.env (k : Nat) : EnvOk Go.Proofs.Try.prog (fun f => (laws_eqInt64SS.E k).lookup f) := envOk_of ⟨entry Go.Proofs.Try.call27 rfl (laws_eqInt64S.ok k), trivial⟩
theorem laws_eqInt64SS.cuts (k : Nat) : CutsOk Go.Proofs.Try.prog X (fun f => (laws_eqInt64SS.E k).lookup f) Go.Proofs.Try.f23 [] (decN laws_eqInt64SS.pr (fun (y : compT laws_eqInt64SS.pr) => (y.1.1 : laws_eqInt64SS.N))) fun n => laws_eqInt64SS.CC (laws_eqInt64SS.cs k n) :=
  cutsOk_of (step := laws_eqInt64SS.step k) rfl (fun _ => rfl) ⟨fun _ => rfl, trivial⟩ (fun c => by kernel_rfl) fun c => ⟨fun x => by kernel_rfl, trivial⟩
theorem laws_eqInt64SS.ok (k : Nat) : FnOk Go.Proofs.Try.prog 23 (laws_eqInt64SS.F k) :=
  fn_ok tab (laws_eqInt64SS.env k) Go.Proofs.Try.func23 rfl (n := 2) (Nat.le_of_ble_eq_true rfl) (by kernel_rfl) (outs := []) (by kernel_rfl) (by kernel_rfl) (d := fun (y : compT laws_eqInt64SS.pr) => (y.1.1 : laws_eqInt64SS.N)) (fun _ => rfl) (C := fun n => laws_eqInt64SS.CC (laws_eqInt64SS.cs k n)) (k := k) (laws_eqInt64SS.cuts k) fun x => by kernel_rfl
/-! laws.markInt64SS -/
@[reducible] def laws_markInt64SS.pc : CutP := [(0, some false, [.fl (.own (.sl (.int .i64)))]), (1, some false, [.fl (.int .i64)])]
@[reducible] def laws_markInt64SS.pr : CompPs := [(false, [.fl (.int .i64)]), (false, [.fl (.own (.sl (.int .i64)))])]
abbrev laws_markInt64SS.N := Int × List (List Int)
noncomputable def laws_markInt64SS.E (k : Nat) : List (FuncId × Go.Rv.Fn) := []
noncomputable def laws_markInt64SS.f (k : Nat) (a0 : List (List Int)) (a1 : Int) : Option laws_markInt64SS.N := T.markSSF a0 a1
noncomputable def laws_markInt64SS.F (k : Nat) : Go.Rv.Fn := mkFn 2 laws_markInt64SS.pc laws_markInt64SS.pr (keepOf [(0, 1)]) (fun (y : laws_markInt64SS.N) => (((y.1, ()), (y.2, ()), ()) : compT laws_markInt64SS.pr)) fun x => laws_markInt64SS.f k x.1.1 x.2.1.1
theorem laws_markInt64SS.ok (k : Nat) : FnOk Go.Proofs.Try.prog 24 (laws_markInt64SS.F k) := T.markSS_fn
/-! laws.heldInt64S -/
@[reducible] def laws_heldInt64S.pc : CutP := [(0, some false, [.fl (.lo (.int .i64))]), (1, some false, [.fl (.int .i64)])]
@[reducible] def laws_heldInt64S.pr : CompPs := [(false, [.fl (.int .i64)])]
abbrev laws_heldInt64S.N := Int
noncomputable def laws_heldInt64S.E (k : Nat) : List (FuncId × Go.Rv.Fn) := []
abbrev laws_heldInt64S.Cs := (List Int → Int → Int → Option laws_heldInt64S.N)
def laws_heldInt64S.zero : laws_heldInt64S.Cs := (fun _ _ _ => none)
noncomputable def laws_heldInt64S.step (k : Nat) (c : laws_heldInt64S.Cs) : laws_heldInt64S.Cs := (fun (x0 : List Int) (x1 : Int) (x2 : Int) => (if (decide (x2 < (x0.length : Int))) = true then if 0 ≤ x2 then if x2 < (x0.length : Int) then (if (!decide ((rd 0 x0 x2) = x1)) = true then some (-1) else c x0 (wrap64 (x1 + 1)) (wrap64 (x2 + 1))) else none else none else some x1))
noncomputable def laws_heldInt64S.cs (k : Nat) : Nat → laws_heldInt64S.Cs
  | 0 => laws_heldInt64S.zero
  | n + 1 => laws_heldInt64S.step k (laws_heldInt64S.cs k n)
def laws_heldInt64S.CC (c : laws_heldInt64S.Cs) : Cuts laws_heldInt64S.N := [(6, ⟨[(0, some false, [.fl (.lo (.int .i64))]), (1, some false, [.fl (.int .i64)]), (5, some false, [.fl (.int .i64)])], fun x => c x.1.1 x.2.1.1 x.2.2.1.1⟩)]
noncomputable def laws_heldInt64S.f (k : Nat) (a0 : List Int) (a1 : Int) : Option laws_heldInt64S.N := (laws_heldInt64S.cs k k) a0 a1 0
noncomputable def laws_heldInt64S.F (k : Nat) : Go.Rv.Fn := mkFn 2 laws_heldInt64S.pc laws_heldInt64S.pr (keepOf []) (fun (y : laws_heldInt64S.N) => (((y, ()), ()) : compT laws_heldInt64S.pr)) fun x => laws_heldInt64S.f k x.1.1 x.2.1.1
theorem laws_heldInt64S.env (k : Nat) : EnvOk Go.Proofs.Try.prog (fun f => (laws_heldInt64S.E k).lookup f) := envOk_of trivial
theorem laws_heldInt64S.cuts (k : Nat) : CutsOk Go.Proofs.Try.prog X (fun f => (laws_heldInt64S.E k).lookup f) Go.Proofs.Try.f29 [] (decN laws_heldInt64S.pr (fun (y : compT laws_heldInt64S.pr) => (y.1.1 : laws_heldInt64S.N))) fun n => laws_heldInt64S.CC (laws_heldInt64S.cs k n) :=
  cutsOk_of (step := laws_heldInt64S.step k) rfl (fun _ => rfl) ⟨fun _ => rfl, trivial⟩ (fun c => by kernel_rfl) fun c => ⟨fun x => by kernel_rfl, trivial⟩
theorem laws_heldInt64S.ok (k : Nat) : FnOk Go.Proofs.Try.prog 29 (laws_heldInt64S.F k) :=
  fn_ok tab (laws_heldInt64S.env k) Go.Proofs.Try.func29 rfl (n := 2) (Nat.le_of_ble_eq_true rfl) (by kernel_rfl) (outs := []) (by kernel_rfl) (by kernel_rfl) (d := fun (y : compT laws_heldInt64S.pr) => (y.1.1 : laws_heldInt64S.N)) (fun _ => rfl) (C := fun n => laws_heldInt64S.CC (laws_heldInt64S.cs k n)) (k := k) (laws_heldInt64S.cuts k) fun x => by kernel_rfl
/-! laws.heldInt64SS -/
@[reducible] def laws_heldInt64SS.pc : CutP := [(0, some false, [.fl (.lo (.sl (.int .i64)))]), (1, some false, [.fl (.int .i64)])]
@[reducible] def laws_heldInt64SS.pr : CompPs := [(false, [.fl (.int .i64)])]
abbrev laws_heldInt64SS.N := Int
noncomputable def laws_heldInt64SS.E (k : Nat) : List (FuncId × Go.Rv.Fn) := [(29, laws_heldInt64S.F k)]
abbrev laws_heldInt64SS.Cs := (List (List Int) → Int → Int → Option laws_heldInt64SS.N)
def laws_heldInt64SS.zero : laws_heldInt64SS.Cs := (fun _ _ _ => none)
noncomputable def laws_heldInt64SS.step (k : Nat) (c : laws_heldInt64SS.Cs) : laws_heldInt64SS.Cs := (fun (x0 : List (List Int)) (x1 : Int) (x2 : Int) => (if (decide (x2 < (x0.length : Int))) = true then if 0 ≤ x2 then if x2 < (x0.length : Int) then (laws_heldInt64S.f k (rd [] x0 x2) x1).bind fun (t1 : Int) => (if (decide (t1 < 0)) = true then some (-1) else c x0 t1 (wrap64 (x2 + 1))) else none else none else some x1))
noncomputable def laws_heldInt64SS.cs (k : Nat) : Nat → laws_heldInt64SS.Cs
  | 0 => laws_heldInt64SS.zero
  | n + 1 => laws_heldInt64SS.step k (laws_heldInt64SS.cs k n)
def laws_heldInt64SS.CC (c : laws_heldInt64SS.Cs) : Cuts laws_heldInt64SS.N := [(6, ⟨[(0, some false, [.fl (.lo (.sl (.int .i64)))]), (1, some false, [.fl (.int .i64)]), (5, some false, [.fl (.int .i64)])], fun x => c x.1.1 x.2.1.1 x.2.2.1.1⟩)]
noncomputable def laws_heldInt64SS.f (k : Nat) (a0 : List (List Int)) (a1 : Int) : Option laws_heldInt64SS.N := (laws_heldInt64SS.cs k k) a0 a1 0
noncomputable def laws_heldInt64SS.F (k : Nat) : Go.Rv.Fn := mkFn 2 laws_heldInt64SS.pc laws_heldInt64SS.pr (keepOf []) (fun (y : laws_heldInt64SS.N) => (((y, ()), ()) : compT laws_heldInt64SS.pr)) fun x => laws_heldInt64SS.f k x.1.1 x.2.1.1
theorem laws_heldInt64SS.env (k : Nat) : EnvOk Go.Proofs.Try.prog (fun f => (laws_heldInt64SS.E k).lookup f) := envOk_of ⟨entry Go.Proofs.Try.call29 rfl (laws_heldInt64S.ok k), trivial⟩
theorem laws_heldInt64SS.cuts (k : Nat) : CutsOk Go.Proofs.Try.prog X (fun f => (laws_heldInt64SS.E k).lookup f) Go.Proofs.Try.f25 [] (decN laws_heldInt64SS.pr (fun (y : compT laws_heldInt64SS.pr) => (y.1.1 : laws_heldInt64SS.N))) fun n => laws_heldInt64SS.CC (laws_heldInt64SS.cs k n) :=
  cutsOk_of (step := laws_heldInt64SS.step k) rfl (fun _ => rfl) ⟨fun _ => rfl, trivial⟩ (fun c => by kernel_rfl) fun c => ⟨fun x => by kernel_rfl, trivial⟩
theorem laws_heldInt64SS.ok (k : Nat) : FnOk Go.Proofs.Try.prog 25 (laws_heldInt64SS.F k) :=
  fn_ok tab (laws_heldInt64SS.env k) Go.Proofs.Try.func25 rfl (n := 2) (Nat.le_of_ble_eq_true rfl) (by kernel_rfl) (outs := []) (by kernel_rfl) (by kernel_rfl) (d := fun (y : compT laws_heldInt64SS.pr) => (y.1.1 : laws_heldInt64SS.N)) (fun _ => rfl) (C := fun n => laws_heldInt64SS.CC (laws_heldInt64SS.cs k n)) (k := k) (laws_heldInt64SS.cuts k) fun x => by kernel_rfl
/-! laws.FnExactPlanBoth -/
@[reducible] def laws_FnExactPlanBoth.pc : CutP := [(0, some true, [.fl (.int .i64), .fl (.int .i64)]), (1, some true, [.fl (.int .i64), .fl (.int .i64), .fl (.int .i64)]), (2, some true, [.fl (.int .i64), .fl (.int .i64), .fl (.int .i64)])]
@[reducible] def laws_FnExactPlanBoth.pr : CompPs := [(false, [.fl .bool])]
abbrev laws_FnExactPlanBoth.N := Bool
noncomputable def laws_FnExactPlanBoth.E (k : Nat) : List (FuncId × Go.Rv.Fn) := [(18, laws_toLimits.F k), (19, laws_toCourse.F k), (21, spec_PlanBoth.F k), (22, impl_PlanBoth.F k), (23, laws_eqInt64SS.F k), (24, laws_markInt64SS.F k), (25, laws_heldInt64SS.F k)]
abbrev laws_FnExactPlanBoth.Cs := (Int → Int → Int → Int → Int → Int → Int → Int → List (List Int) → Bool → List (List Int) → Option laws_FnExactPlanBoth.N)
def laws_FnExactPlanBoth.zero : laws_FnExactPlanBoth.Cs := (fun _ _ _ _ _ _ _ _ _ _ _ => none)
noncomputable def laws_FnExactPlanBoth.step (k : Nat) (c : laws_FnExactPlanBoth.Cs) : laws_FnExactPlanBoth.Cs := (fun (x0 : Int) (x1 : Int) (x2 : Int) (x3 : Int) (x4 : Int) (x5 : Int) (x6 : Int) (x7 : Int) (x8 : List (List Int)) (x9 : Bool) (x10 : List (List Int)) => (laws_markInt64SS.f k x10 1).bind fun t10 => (laws_heldInt64SS.f k t10.2 1).bind fun (t11 : Int) => (if (decide (t11 < 0)) = true then some false else (if (!decide (t11 = t10.1)) = true then some false else (laws_toLimits.f k x0 x1).bind fun t12 => (laws_toCourse.f k x2 x3 x4).bind fun t13 => (laws_toCourse.f k x5 x6 x7).bind fun t14 => (impl_PlanBoth.f k t12.1 t12.2 t13.1 t13.2.1 t13.2.2 t14.1 t14.2.1 t14.2.2).bind fun t15 => (laws_eqInt64SS.f k t15.1 x8).bind fun t16 => (if (!t16) = true then some false else (if (!(t15.2 == x9)) = true then some false else (laws_heldInt64SS.f k t10.2 1).bind fun (t17 : Int) => (if (decide (t17 < 0)) = true then some false else (if (!decide (t17 = t10.1)) = true then some false else some true)))))))
noncomputable def laws_FnExactPlanBoth.cs (k : Nat) : Nat → laws_FnExactPlanBoth.Cs
  | 0 => laws_FnExactPlanBoth.zero
  | n + 1 => laws_FnExactPlanBoth.step k (laws_FnExactPlanBoth.cs k n)
def laws_FnExactPlanBoth.CC (c : laws_FnExactPlanBoth.Cs) : Cuts laws_FnExactPlanBoth.N := [(6, ⟨[(3, none, [.fl (.int .i64), .fl (.int .i64)]), (4, none, [.fl (.int .i64), .fl (.int .i64), .fl (.int .i64)]), (5, none, [.fl (.int .i64), .fl (.int .i64), .fl (.int .i64)]), (7, some false, [.fl (.own (.sl (.int .i64)))]), (8, some false, [.fl .bool]), (9, some false, [.fl (.own (.sl (.int .i64)))])], fun x => c x.1.1 x.1.2.1 x.2.1.1 x.2.1.2.1 x.2.1.2.2.1 x.2.2.1.1 x.2.2.1.2.1 x.2.2.1.2.2.1 x.2.2.2.1.1 x.2.2.2.2.1.1 x.2.2.2.2.2.1.1⟩)]
noncomputable def laws_FnExactPlanBoth.f (k : Nat) (a0 : Int) (a1 : Int) (a2 : Int) (a3 : Int) (a4 : Int) (a5 : Int) (a6 : Int) (a7 : Int) : Option laws_FnExactPlanBoth.N := (laws_toLimits.f k a0 a1).bind fun t1 => (laws_toCourse.f k a2 a3 a4).bind fun t2 => (laws_toCourse.f k a5 a6 a7).bind fun t3 => (spec_PlanBoth.f k t1.1 t1.2 t2.1 t2.2.1 t2.2.2 t3.1 t3.2.1 t3.2.2).bind fun t4 => (laws_toLimits.f k a0 a1).bind fun t5 => (laws_toCourse.f k a2 a3 a4).bind fun t6 => (laws_toCourse.f k a5 a6 a7).bind fun t7 => (impl_PlanBoth.f k t5.1 t5.2 t6.1 t6.2.1 t6.2.2 t7.1 t7.2.1 t7.2.2).bind fun t8 => (laws_eqInt64SS.f k t8.1 t4.1).bind fun t9 => (if (!t9) = true then some false else (if (!(t8.2 == t4.2)) = true then some false else (laws_FnExactPlanBoth.cs k k) a0 a1 a2 a3 a4 a5 a6 a7 t4.1 t4.2 t8.1))
noncomputable def laws_FnExactPlanBoth.F (k : Nat) : Go.Rv.Fn := mkFn 3 laws_FnExactPlanBoth.pc laws_FnExactPlanBoth.pr (keepOf []) (fun (y : laws_FnExactPlanBoth.N) => (((y, ()), ()) : compT laws_FnExactPlanBoth.pr)) fun x => laws_FnExactPlanBoth.f k x.1.1 x.1.2.1 x.2.1.1 x.2.1.2.1 x.2.1.2.2.1 x.2.2.1.1 x.2.2.1.2.1 x.2.2.1.2.2.1
theorem laws_FnExactPlanBoth.env (k : Nat) : EnvOk Go.Proofs.Try.prog (fun f => (laws_FnExactPlanBoth.E k).lookup f) := envOk_of ⟨entry Go.Proofs.Try.call18 rfl (laws_toLimits.ok k), entry Go.Proofs.Try.call19 rfl (laws_toCourse.ok k), entry Go.Proofs.Try.call21 rfl (spec_PlanBoth.ok k), entry Go.Proofs.Try.call22 rfl (impl_PlanBoth.ok k), entry Go.Proofs.Try.call23 rfl (laws_eqInt64SS.ok k), entry Go.Proofs.Try.call24 rfl (laws_markInt64SS.ok k), entry Go.Proofs.Try.call25 rfl (laws_heldInt64SS.ok k), trivial⟩
theorem laws_FnExactPlanBoth.cuts (k : Nat) : CutsOk Go.Proofs.Try.prog X (fun f => (laws_FnExactPlanBoth.E k).lookup f) Go.Proofs.Try.f5 [] (decN laws_FnExactPlanBoth.pr (fun (y : compT laws_FnExactPlanBoth.pr) => (y.1.1 : laws_FnExactPlanBoth.N))) fun n => laws_FnExactPlanBoth.CC (laws_FnExactPlanBoth.cs k n) :=
  cutsOk_of (step := laws_FnExactPlanBoth.step k) rfl (fun _ => rfl) ⟨fun _ => rfl, trivial⟩ (fun c => by kernel_rfl) fun c => ⟨fun x => by kernel_rfl, trivial⟩
theorem laws_FnExactPlanBoth.ok (k : Nat) : FnOk Go.Proofs.Try.prog 5 (laws_FnExactPlanBoth.F k) :=
  fn_ok tab (laws_FnExactPlanBoth.env k) Go.Proofs.Try.func5 rfl (n := 3) (Nat.le_of_ble_eq_true rfl) (by kernel_rfl) (outs := []) (by kernel_rfl) (by kernel_rfl) (d := fun (y : compT laws_FnExactPlanBoth.pr) => (y.1.1 : laws_FnExactPlanBoth.N)) (fun _ => rfl) (C := fun n => laws_FnExactPlanBoth.CC (laws_FnExactPlanBoth.cs k n)) (k := k) (laws_FnExactPlanBoth.cuts k) fun x => by kernel_rfl
end Go.Proofs.Ytigkpbnhdkdliaa.R
