-- written by wip/rev/gen2.py for this claim (out of the translation). Lean checks it.
import Derived.Test.YtigkpbnhdkdliaaRvM4
import Derived.Test.YtigkpbnhdkdliaaProg
namespace Go.Proofs.Ytigkpbnhdkdliaa.R0
open Go.Rv
set_option linter.unusedVariables false
set_option maxRecDepth 100000
def X : Env := { n := 0, keep := [], tab := [(2, { ty := (.int .i64) }),
  (25, { ty := (.pair (.int .i64) (.int .i64)), agg := true, offs := [(0, 1, false), (1, 1, false)] }),
  (27, { ty := (.pair (.int .i64) (.pair (.int .i64) (.int .i64))), agg := true, offs := [(0, 1, false), (1, 1, false), (2, 1, false)] }),
  (33, { ty := (.sl (.int .i64)) })] }
theorem tab : TabOk Go.Proofs.Try.prog X := ⟨by kernel_rfl, by kernel_rfl, maps_nil⟩
/-! impl.within -/
@[reducible] def impl_within.pc : CutP := [(0, some false, [.fl (.int .i64)]), (1, some false, [.fl (.int .i64)]), (2, some false, [.fl (.int .i64)])]
@[reducible] def impl_within.pr : CompPs := [(false, [.fl .bool])]
abbrev impl_within.N := Bool
noncomputable def impl_within.E (k : Nat) : List (FuncId × Go.Rv.Fn) := []
noncomputable def impl_within.f (k : Nat) (a0 : Int) (a1 : Int) (a2 : Int) : Option impl_within.N := (if (decide (a1 ≤ a0)) = true then some (decide (a0 ≤ a2)) else some false)
noncomputable def impl_within.F (k : Nat) : Go.Rv.Fn := mkFn 3 impl_within.pc impl_within.pr (keepOf []) (fun (y : impl_within.N) => (((y, ()), ()) : compT impl_within.pr)) fun x => impl_within.f k x.1.1 x.2.1.1 x.2.2.1.1
theorem impl_within.env (k : Nat) : EnvOk Go.Proofs.Try.prog (fun f => (impl_within.E k).lookup f) := envOk_of trivial
theorem impl_within.ok (k : Nat) : FnOk Go.Proofs.Try.prog 34 (impl_within.F k) :=
  fn_ok tab (impl_within.env k) Go.Proofs.Try.func34 rfl (n := 3) (Nat.le_of_ble_eq_true rfl) (by kernel_rfl) (outs := []) (by kernel_rfl) (by kernel_rfl) (d := fun (y : compT impl_within.pr) => (y.1.1 : impl_within.N)) (fun _ => rfl) (C := fun _ => []) (k := k) noCuts fun x => by kernel_rfl
/-! impl.ValidLimits -/
@[reducible] def impl_ValidLimits.pc : CutP := [(0, some true, [.fl (.int .i64), .fl (.int .i64)])]
@[reducible] def impl_ValidLimits.pr : CompPs := [(false, [.fl .bool])]
abbrev impl_ValidLimits.N := Bool
noncomputable def impl_ValidLimits.E (k : Nat) : List (FuncId × Go.Rv.Fn) := [(34, impl_within.F k)]
noncomputable def impl_ValidLimits.f (k : Nat) (a0 : Int) (a1 : Int) : Option impl_ValidLimits.N := (impl_within.f k a0 1 3).bind fun t1 => (if t1 = true then (impl_within.f k a1 1 6).bind fun t2 => some t2 else some false)
noncomputable def impl_ValidLimits.F (k : Nat) : Go.Rv.Fn := mkFn 1 impl_ValidLimits.pc impl_ValidLimits.pr (keepOf []) (fun (y : impl_ValidLimits.N) => (((y, ()), ()) : compT impl_ValidLimits.pr)) fun x => impl_ValidLimits.f k x.1.1 x.1.2.1
theorem impl_ValidLimits.env (k : Nat) : EnvOk Go.Proofs.Try.prog (fun f => (impl_ValidLimits.E k).lookup f) := envOk_of ⟨entry Go.Proofs.Try.call34 rfl (impl_within.ok k), trivial⟩
theorem impl_ValidLimits.ok (k : Nat) : FnOk Go.Proofs.Try.prog 51 (impl_ValidLimits.F k) :=
  fn_ok tab (impl_ValidLimits.env k) Go.Proofs.Try.func51 rfl (n := 1) (Nat.le_of_ble_eq_true rfl) (by kernel_rfl) (outs := []) (by kernel_rfl) (by kernel_rfl) (d := fun (y : compT impl_ValidLimits.pr) => (y.1.1 : impl_ValidLimits.N)) (fun _ => rfl) (C := fun _ => []) (k := k) noCuts fun x => by kernel_rfl
/-! (impl.Limits).isCourse -/
@[reducible] def impl_Limits_isCourse.pc : CutP := [(0, some true, [.fl (.int .i64), .fl (.int .i64)]), (1, some true, [.fl (.int .i64), .fl (.int .i64), .fl (.int .i64)])]
@[reducible] def impl_Limits_isCourse.pr : CompPs := [(false, [.fl .bool])]
abbrev impl_Limits_isCourse.N := Bool
noncomputable def impl_Limits_isCourse.E (k : Nat) : List (FuncId × Go.Rv.Fn) := [(34, impl_within.F k)]
noncomputable def impl_Limits_isCourse.f (k : Nat) (a0 : Int) (a1 : Int) (a2 : Int) (a3 : Int) (a4 : Int) : Option impl_Limits_isCourse.N := (impl_within.f k a2 (-40) 40).bind fun t1 => (if t1 = true then (impl_within.f k a3 (-10) 10).bind fun t2 => (if t2 = true then (impl_within.f k a4 (wrap64 (0 - a0)) a0).bind fun t3 => some t3 else some false) else some false)
noncomputable def impl_Limits_isCourse.F (k : Nat) : Go.Rv.Fn := mkFn 2 impl_Limits_isCourse.pc impl_Limits_isCourse.pr (keepOf []) (fun (y : impl_Limits_isCourse.N) => (((y, ()), ()) : compT impl_Limits_isCourse.pr)) fun x => impl_Limits_isCourse.f k x.1.1 x.1.2.1 x.2.1.1 x.2.1.2.1 x.2.1.2.2.1
theorem impl_Limits_isCourse.env (k : Nat) : EnvOk Go.Proofs.Try.prog (fun f => (impl_Limits_isCourse.E k).lookup f) := envOk_of ⟨entry Go.Proofs.Try.call34 rfl (impl_within.ok k), trivial⟩
theorem impl_Limits_isCourse.ok (k : Nat) : FnOk Go.Proofs.Try.prog 52 (impl_Limits_isCourse.F k) :=
  fn_ok tab (impl_Limits_isCourse.env k) Go.Proofs.Try.func52 rfl (n := 2) (Nat.le_of_ble_eq_true rfl) (by kernel_rfl) (outs := []) (by kernel_rfl) (by kernel_rfl) (d := fun (y : compT impl_Limits_isCourse.pr) => (y.1.1 : impl_Limits_isCourse.N)) (fun _ => rfl) (C := fun _ => []) (k := k) noCuts fun x => by kernel_rfl
/-! impl.ValidCourse -/
@[reducible] def impl_ValidCourse.pc : CutP := [(0, some true, [.fl (.int .i64), .fl (.int .i64)]), (1, some true, [.fl (.int .i64), .fl (.int .i64), .fl (.int .i64)])]
@[reducible] def impl_ValidCourse.pr : CompPs := [(false, [.fl .bool])]
abbrev impl_ValidCourse.N := Bool
noncomputable def impl_ValidCourse.E (k : Nat) : List (FuncId × Go.Rv.Fn) := [(51, impl_ValidLimits.F k), (52, impl_Limits_isCourse.F k)]
noncomputable def impl_ValidCourse.f (k : Nat) (a0 : Int) (a1 : Int) (a2 : Int) (a3 : Int) (a4 : Int) : Option impl_ValidCourse.N := (impl_ValidLimits.f k a0 a1).bind fun t1 => (if t1 = true then (impl_Limits_isCourse.f k a0 a1 a2 a3 a4).bind fun t2 => some t2 else some false)
noncomputable def impl_ValidCourse.F (k : Nat) : Go.Rv.Fn := mkFn 2 impl_ValidCourse.pc impl_ValidCourse.pr (keepOf []) (fun (y : impl_ValidCourse.N) => (((y, ()), ()) : compT impl_ValidCourse.pr)) fun x => impl_ValidCourse.f k x.1.1 x.1.2.1 x.2.1.1 x.2.1.2.1 x.2.1.2.2.1
theorem impl_ValidCourse.env (k : Nat) : EnvOk Go.Proofs.Try.prog (fun f => (impl_ValidCourse.E k).lookup f) := envOk_of ⟨entry Go.Proofs.Try.call51 rfl (impl_ValidLimits.ok k), entry Go.Proofs.Try.call52 rfl (impl_Limits_isCourse.ok k), trivial⟩
theorem impl_ValidCourse.ok (k : Nat) : FnOk Go.Proofs.Try.prog 32 (impl_ValidCourse.F k) :=
  fn_ok tab (impl_ValidCourse.env k) Go.Proofs.Try.func32 rfl (n := 2) (Nat.le_of_ble_eq_true rfl) (by kernel_rfl) (outs := []) (by kernel_rfl) (by kernel_rfl) (d := fun (y : compT impl_ValidCourse.pr) => (y.1.1 : impl_ValidCourse.N)) (fun _ => rfl) (C := fun _ => []) (k := k) noCuts fun x => by kernel_rfl
/-! impl.abs -/
@[reducible] def impl_abs.pc : CutP := [(0, some false, [.fl (.int .i64)])]
@[reducible] def impl_abs.pr : CompPs := [(false, [.fl (.int .i64)])]
abbrev impl_abs.N := Int
noncomputable def impl_abs.E (k : Nat) : List (FuncId × Go.Rv.Fn) := []
noncomputable def impl_abs.f (k : Nat) (a0 : Int) : Option impl_abs.N := some (if a0 < (wrap64 (0 - a0)) then (wrap64 (0 - a0)) else a0)
noncomputable def impl_abs.F (k : Nat) : Go.Rv.Fn := mkFn 1 impl_abs.pc impl_abs.pr (keepOf []) (fun (y : impl_abs.N) => (((y, ()), ()) : compT impl_abs.pr)) fun x => impl_abs.f k x.1.1
theorem impl_abs.env (k : Nat) : EnvOk Go.Proofs.Try.prog (fun f => (impl_abs.E k).lookup f) := envOk_of trivial
theorem impl_abs.ok (k : Nat) : FnOk Go.Proofs.Try.prog 46 (impl_abs.F k) :=
  fn_ok tab (impl_abs.env k) Go.Proofs.Try.func46 rfl (n := 1) (Nat.le_of_ble_eq_true rfl) (by kernel_rfl) (outs := []) (by kernel_rfl) (by kernel_rfl) (d := fun (y : compT impl_abs.pr) => (y.1.1 : impl_abs.N)) (fun _ => rfl) (C := fun _ => []) (k := k) noCuts fun x => by kernel_rfl
/-! (impl.Limits).next -/
@[reducible] def impl_Limits_next.pc : CutP := [(0, some true, [.fl (.int .i64), .fl (.int .i64)]), (1, some true, [.fl (.int .i64), .fl (.int .i64), .fl (.int .i64)]), (2, some false, [.fl (.int .i64)])]
@[reducible] def impl_Limits_next.pr : CompPs := [(true, [.fl (.int .i64), .fl (.int .i64), .fl (.int .i64)]), (false, [.fl .bool])]
abbrev impl_Limits_next.N := Int × Int × Int × Bool
noncomputable def impl_Limits_next.E (k : Nat) : List (FuncId × Go.Rv.Fn) := [(34, impl_within.F k), (46, impl_abs.F k), (52, impl_Limits_isCourse.F k)]
abbrev impl_Limits_next.Cs := (Int → Int → Int → Int → Int → Int → Int → Int → Int → Option impl_Limits_next.N)
def impl_Limits_next.zero : impl_Limits_next.Cs := (fun _ _ _ _ _ _ _ _ _ => none)
noncomputable def impl_Limits_next.step (k : Nat) (c : impl_Limits_next.Cs) : impl_Limits_next.Cs := (fun (x0 : Int) (x1 : Int) (x2 : Int) (x3 : Int) (x4 : Int) (x5 : Int) (x6 : Int) (x7 : Int) (x8 : Int) => (impl_Limits_isCourse.f k x1 x2 (wrap64 (x3 + x4)) (wrap64 (x4 + x0)) x0).bind fun t3 => (if (!t3) = true then some (0, 0, 0, false) else some ((wrap64 (x3 + x4)), (wrap64 (x4 + x0)), x0, true)))
noncomputable def impl_Limits_next.cs (k : Nat) : Nat → impl_Limits_next.Cs
  | 0 => impl_Limits_next.zero
  | n + 1 => impl_Limits_next.step k (impl_Limits_next.cs k n)
def impl_Limits_next.CC (c : impl_Limits_next.Cs) : Cuts impl_Limits_next.N := [(2, ⟨[(2, some false, [.fl (.int .i64)]), (3, none, [.fl (.int .i64), .fl (.int .i64)]), (4, none, [.fl (.int .i64), .fl (.int .i64), .fl (.int .i64)]), (6, none, [.fl (.int .i64), .fl (.int .i64), .fl (.int .i64)])], fun x => c x.1.1 x.2.1.1 x.2.1.2.1 x.2.2.1.1 x.2.2.1.2.1 x.2.2.1.2.2.1 x.2.2.2.1.1 x.2.2.2.1.2.1 x.2.2.2.1.2.2.1⟩)]
noncomputable def impl_Limits_next.f (k : Nat) (a0 : Int) (a1 : Int) (a2 : Int) (a3 : Int) (a4 : Int) (a5 : Int) : Option impl_Limits_next.N := (impl_within.f k a5 (wrap64 (0 - a0)) a0).bind fun t1 => (if (!t1) = true then some (0, 0, 0, false) else (impl_abs.f k (wrap64 (a5 - a4))).bind fun (t2 : Int) => (if (decide (a1 < t2)) = true then some (0, 0, 0, false) else (impl_Limits_next.cs k k) a5 a0 a1 a2 a3 a4 0 0 0))
noncomputable def impl_Limits_next.F (k : Nat) : Go.Rv.Fn := mkFn 3 impl_Limits_next.pc impl_Limits_next.pr (keepOf []) (fun (y : impl_Limits_next.N) => (((y.1, y.2.1, y.2.2.1, ()), (y.2.2.2, ()), ()) : compT impl_Limits_next.pr)) fun x => impl_Limits_next.f k x.1.1 x.1.2.1 x.2.1.1 x.2.1.2.1 x.2.1.2.2.1 x.2.2.1.1
theorem impl_Limits_next.env (k : Nat) : EnvOk Go.Proofs.Try.prog (fun f => (impl_Limits_next.E k).lookup f) := envOk_of ⟨entry Go.Proofs.Try.call34 rfl (impl_within.ok k), entry Go.Proofs.Try.call46 rfl (impl_abs.ok k), entry Go.Proofs.Try.call52 rfl (impl_Limits_isCourse.ok k), trivial⟩
theorem impl_Limits_next.cuts (k : Nat) : CutsOk Go.Proofs.Try.prog X (fun f => (impl_Limits_next.E k).lookup f) Go.Proofs.Try.f33 [] (decN impl_Limits_next.pr (fun (y : compT impl_Limits_next.pr) => ((y.1.1, y.1.2.1, y.1.2.2.1, y.2.1.1) : impl_Limits_next.N))) fun n => impl_Limits_next.CC (impl_Limits_next.cs k n) :=
  cutsOk_of (step := impl_Limits_next.step k) rfl (fun _ => rfl) ⟨fun _ => rfl, trivial⟩ (fun c => by kernel_rfl) fun c => ⟨fun x => by kernel_rfl, trivial⟩
theorem impl_Limits_next.ok (k : Nat) : FnOk Go.Proofs.Try.prog 33 (impl_Limits_next.F k) :=
  fn_ok tab (impl_Limits_next.env k) Go.Proofs.Try.func33 rfl (n := 3) (Nat.le_of_ble_eq_true rfl) (by kernel_rfl) (outs := []) (by kernel_rfl) (by kernel_rfl) (d := fun (y : compT impl_Limits_next.pr) => ((y.1.1, y.1.2.1, y.1.2.2.1, y.2.1.1) : impl_Limits_next.N)) (fun _ => rfl) (C := fun n => impl_Limits_next.CC (impl_Limits_next.cs k n)) (k := k) (impl_Limits_next.cuts k) fun x => by kernel_rfl
/-! (impl.Limits).turns -/
@[reducible] def impl_Limits_turns.pc : CutP := [(0, some true, [.fl (.int .i64), .fl (.int .i64)]), (1, some true, [.fl (.int .i64), .fl (.int .i64), .fl (.int .i64)])]
@[reducible] def impl_Limits_turns.pr : CompPs := [(false, [.fl (.own (.int .i64))])]
abbrev impl_Limits_turns.N := List Int
noncomputable def impl_Limits_turns.E (k : Nat) : List (FuncId × Go.Rv.Fn) := [(33, impl_Limits_next.F k)]
abbrev impl_Limits_turns.Cs := (Int → Int → Int → Int → Int → List Int → Int → Option impl_Limits_turns.N)
def impl_Limits_turns.zero : impl_Limits_turns.Cs := (fun _ _ _ _ _ _ _ => none)
noncomputable def impl_Limits_turns.step (k : Nat) (c : impl_Limits_turns.Cs) : impl_Limits_turns.Cs := (fun (x0 : Int) (x1 : Int) (x2 : Int) (x3 : Int) (x4 : Int) (x5 : List Int) (x6 : Int) => (if (decide (x6 ≤ x0)) = true then (impl_Limits_next.f k x0 x1 x2 x3 x4 x6).bind fun t1 => (if t1.2.2.2 = true then if x5.length + [x6].length < 1099511627776 then c x0 x1 x2 x3 x4 (x5 ++ [x6]) (wrap64 (x6 + 1)) else none else c x0 x1 x2 x3 x4 x5 (wrap64 (x6 + 1))) else some x5))
noncomputable def impl_Limits_turns.cs (k : Nat) : Nat → impl_Limits_turns.Cs
  | 0 => impl_Limits_turns.zero
  | n + 1 => impl_Limits_turns.step k (impl_Limits_turns.cs k n)
def impl_Limits_turns.CC (c : impl_Limits_turns.Cs) : Cuts impl_Limits_turns.N := [(8, ⟨[(2, none, [.fl (.int .i64), .fl (.int .i64)]), (3, none, [.fl (.int .i64), .fl (.int .i64), .fl (.int .i64)]), (5, some false, [.fl (.own (.int .i64))]), (6, some false, [.fl (.int .i64)])], fun x => c x.1.1 x.1.2.1 x.2.1.1 x.2.1.2.1 x.2.1.2.2.1 x.2.2.1.1 x.2.2.2.1.1⟩)]
noncomputable def impl_Limits_turns.f (k : Nat) (a0 : Int) (a1 : Int) (a2 : Int) (a3 : Int) (a4 : Int) : Option impl_Limits_turns.N := (impl_Limits_turns.cs k k) a0 a1 a2 a3 a4 ([] : List Int) (wrap64 (0 - a0))
noncomputable def impl_Limits_turns.F (k : Nat) : Go.Rv.Fn := mkFn 2 impl_Limits_turns.pc impl_Limits_turns.pr (keepOf []) (fun (y : impl_Limits_turns.N) => (((y, ()), ()) : compT impl_Limits_turns.pr)) fun x => impl_Limits_turns.f k x.1.1 x.1.2.1 x.2.1.1 x.2.1.2.1 x.2.1.2.2.1
theorem impl_Limits_turns.env (k : Nat) : EnvOk Go.Proofs.Try.prog (fun f => (impl_Limits_turns.E k).lookup f) := envOk_of ⟨entry Go.Proofs.Try.call33 rfl (impl_Limits_next.ok k), trivial⟩
theorem impl_Limits_turns.cuts (k : Nat) : CutsOk Go.Proofs.Try.prog X (fun f => (impl_Limits_turns.E k).lookup f) Go.Proofs.Try.f35 [] (decN impl_Limits_turns.pr (fun (y : compT impl_Limits_turns.pr) => (y.1.1 : impl_Limits_turns.N))) fun n => impl_Limits_turns.CC (impl_Limits_turns.cs k n) :=
  cutsOk_of (step := impl_Limits_turns.step k) rfl (fun _ => rfl) ⟨fun _ => rfl, trivial⟩ (fun c => by kernel_rfl) fun c => ⟨fun x => by kernel_rfl, trivial⟩
theorem impl_Limits_turns.ok (k : Nat) : FnOk Go.Proofs.Try.prog 35 (impl_Limits_turns.F k) :=
  fn_ok tab (impl_Limits_turns.env k) Go.Proofs.Try.func35 rfl (n := 2) (Nat.le_of_ble_eq_true rfl) (by kernel_rfl) (outs := []) (by kernel_rfl) (by kernel_rfl) (d := fun (y : compT impl_Limits_turns.pr) => (y.1.1 : impl_Limits_turns.N)) (fun _ => rfl) (C := fun n => impl_Limits_turns.CC (impl_Limits_turns.cs k n)) (k := k) (impl_Limits_turns.cuts k) fun x => by kernel_rfl
end Go.Proofs.Ytigkpbnhdkdliaa.R0
