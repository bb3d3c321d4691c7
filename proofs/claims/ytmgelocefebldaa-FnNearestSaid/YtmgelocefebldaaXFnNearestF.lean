-- written by wip/rev/gen2.py for this claim (out of the translation). Lean checks it.
import Derived.Test.YtmgelocefebldaaRvM3
import Derived.Test.YtmgelocefebldaaProg
import Derived.Test.YtmgelocefebldaaRvTurn
import Derived.Test.YtmgelocefebldaaRvSh
namespace Go.Proofs.Ytmgelocefebldaa.R
open Go.Rv
set_option linter.unusedVariables false
set_option maxRecDepth 100000
def X : Env := { n := 0, keep := [], tab := [(2, { ty := (.int .i64) }),
  (3, { ty := (.int .i64) }),
  (4, { ty := .bool }),
  (5, { ty := (.int .u8) }),
  (22, { ty := (.sl (.int .u8)) }),
  (25, { ty := (.pair (.int .i64) (.pair (.int .i64) (.pair (.int .i64) (.int .i64)))), agg := true, offs := [(0, 1, false), (1, 1, false), (2, 1, false), (3, 1, false)] }),
  (26, { ty := (.sl (.pair (.int .i64) (.pair (.int .i64) (.int .i64)))) }),
  (28, { ty := (.pair (.pair (.int .i64) (.pair (.int .i64) (.pair (.int .i64) (.int .i64)))) (.sl (.pair (.int .i64) (.pair (.int .i64) (.int .i64))))), agg := true, offs := [(0, 4, true), (4, 1, false)] }),
  (33, { ty := (.pair (.int .i64) (.int .i64)), agg := true, offs := [(0, 1, false), (1, 1, false)] }),
  (34, { ty := (.sl (.pair (.int .i64) (.int .i64))) }),
  (46, { ty := (.sl (.sl (.int .i64))) }),
  (49, { ty := (.sl (.pair (.int .i64) (.pair (.int .i64) (.pair (.int .i64) (.int .i64))))) }),
  (54, { ty := (.sl (.int .i64)) }),
  (56, { ty := (.pair (.int .i64) (.pair (.int .i64) (.int .i64))), agg := true, offs := [(0, 1, false), (1, 1, false), (2, 1, false)] }),
  (111, { ty := (.int .u64) }),
  (113, { ty := (.pair (.sl (.int .u8)) (.pair (.int .i64) (.int .u64))), agg := true, offs := [(0, 1, false), (1, 1, false), (2, 1, false)] }),
  (91, { ty := .bool, fn := true }),
  (123, { ty := .bool, fn := true })] }
theorem tab : TabOk Go.Proofs.Try.prog X := ⟨by kernel_rfl, by kernel_rfl, maps_nil⟩
/-! laws.b10Long -/
@[reducible] def laws_b10Long.pc : CutP := [(0, some false, [.fl (.lo (.int .u8))]), (1, some false, [.fl (.lo (.int .u8))])]
@[reducible] def laws_b10Long.pr : CompPs := [(false, [.fl .bool])]
abbrev laws_b10Long.N := Bool
noncomputable def laws_b10Long.E (k : Nat) : List (FuncId × Go.Rv.Fn) := []
noncomputable def laws_b10Long.f (k : Nat) (a0 : List Int) (a1 : List Int) : Option laws_b10Long.N := (if (decide (1048576 < (a0.length : Int))) = true then some true else some (decide (1048576 < (a1.length : Int))))
noncomputable def laws_b10Long.F (k : Nat) : Go.Rv.Fn := mkFn 2 laws_b10Long.pc laws_b10Long.pr (keepOf []) (fun (y : laws_b10Long.N) => (((y, ()), ()) : compT laws_b10Long.pr)) fun x => laws_b10Long.f k x.1.1 x.2.1.1
theorem laws_b10Long.env (k : Nat) : EnvOk Go.Proofs.Try.prog (fun f => (laws_b10Long.E k).lookup f) := envOk_of trivial
theorem laws_b10Long.ok (k : Nat) : FnOk Go.Proofs.Try.prog 10 (laws_b10Long.F k) :=
  fn_ok tab (laws_b10Long.env k) Go.Proofs.Try.func10 rfl (n := 2) (Nat.le_of_ble_eq_true rfl) (by kernel_rfl) (outs := []) (by kernel_rfl) (by kernel_rfl) (d := fun (y : compT laws_b10Long.pr) => (y.1.1 : laws_b10Long.N)) (fun _ => rfl) (C := fun _ => []) (k := k) noCuts fun x => by kernel_rfl
/-! laws.b10At -/
@[reducible] def laws_b10At.pc : CutP := [(0, some false, [.fl (.lo (.int .u8))]), (1, some false, [.fl (.int .i64)]), (2, some false, [.fl (.int .i64)])]
@[reducible] def laws_b10At.pr : CompPs := [(false, [.fl (.int .i64)])]
abbrev laws_b10At.N := Int
noncomputable def laws_b10At.E (k : Nat) : List (FuncId × Go.Rv.Fn) := []
noncomputable def laws_b10At.f (k : Nat) (a0 : List Int) (a1 : Int) (a2 : Int) : Option laws_b10At.N := (if (decide (a2 ≤ 1)) = true then some 0 else (if (decide (a1 < (a0.length : Int))) = true then if 0 ≤ a1 then if a1 < (a0.length : Int) then (if a2 = 0 then none else some ((wrap64 ((rd 0 a0 a1))).tmod a2)) else none else none else (if a2 = 0 then none else some ((wrap64 ((wrap64 (a1 * 37)) + 11)).tmod a2))))
noncomputable def laws_b10At.F (k : Nat) : Go.Rv.Fn := mkFn 3 laws_b10At.pc laws_b10At.pr (keepOf []) (fun (y : laws_b10At.N) => (((y, ()), ()) : compT laws_b10At.pr)) fun x => laws_b10At.f k x.1.1 x.2.1.1 x.2.2.1.1
theorem laws_b10At.env (k : Nat) : EnvOk Go.Proofs.Try.prog (fun f => (laws_b10At.E k).lookup f) := envOk_of trivial
theorem laws_b10At.ok (k : Nat) : FnOk Go.Proofs.Try.prog 12 (laws_b10At.F k) :=
  fn_ok tab (laws_b10At.env k) Go.Proofs.Try.func12 rfl (n := 3) (Nat.le_of_ble_eq_true rfl) (by kernel_rfl) (outs := []) (by kernel_rfl) (by kernel_rfl) (d := fun (y : compT laws_b10At.pr) => (y.1.1 : laws_b10At.N)) (fun _ => rfl) (C := fun _ => []) (k := k) noCuts fun x => by kernel_rfl
/-! impl.within -/
@[reducible] def impl_within.pc : CutP := [(0, some false, [.fl (.int .i64)]), (1, some false, [.fl (.int .i64)]), (2, some false, [.fl (.int .i64)])]
@[reducible] def impl_within.pr : CompPs := [(false, [.fl .bool])]
abbrev impl_within.N := Bool
noncomputable def impl_within.E (k : Nat) : List (FuncId × Go.Rv.Fn) := []
noncomputable def impl_within.f (k : Nat) (a0 : Int) (a1 : Int) (a2 : Int) : Option impl_within.N := (if (decide (a1 ≤ a0)) = true then some (decide (a0 ≤ a2)) else some false)
noncomputable def impl_within.F (k : Nat) : Go.Rv.Fn := mkFn 3 impl_within.pc impl_within.pr (keepOf []) (fun (y : impl_within.N) => (((y, ()), ()) : compT impl_within.pr)) fun x => impl_within.f k x.1.1 x.2.1.1 x.2.2.1.1
theorem impl_within.env (k : Nat) : EnvOk Go.Proofs.Try.prog (fun f => (impl_within.E k).lookup f) := envOk_of trivial
theorem impl_within.ok (k : Nat) : FnOk Go.Proofs.Try.prog 52 (impl_within.F k) :=
  fn_ok tab (impl_within.env k) Go.Proofs.Try.func52 rfl (n := 3) (Nat.le_of_ble_eq_true rfl) (by kernel_rfl) (outs := []) (by kernel_rfl) (by kernel_rfl) (d := fun (y : compT impl_within.pr) => (y.1.1 : impl_within.N)) (fun _ => rfl) (C := fun _ => []) (k := k) noCuts fun x => by kernel_rfl
/-! impl.areWithin$1 -/
@[reducible] def impl_areWithin_1.pc : CutP := [(0, some false, [.fl (.int .i64)]), (1, some false, [.rptr [(.int .i64)]]), (2, some false, [.rptr [(.int .i64)]])]
@[reducible] def impl_areWithin_1.pr : CompPs := [(false, [.fl .bool])]
abbrev impl_areWithin_1.N := Bool
noncomputable def impl_areWithin_1.E (k : Nat) : List (FuncId × Go.Rv.Fn) := [(52, impl_within.F k)]
noncomputable def impl_areWithin_1.f (k : Nat) (a0 : Int) (a1 : Int) (a2 : Int) : Option impl_areWithin_1.N := (impl_within.f k a0 a1 a2).bind fun t1 => some (!t1)
noncomputable def impl_areWithin_1.F (k : Nat) : Go.Rv.Fn := mkFn 3 impl_areWithin_1.pc impl_areWithin_1.pr (keepOf []) (fun (y : impl_areWithin_1.N) => (((y, ()), ()) : compT impl_areWithin_1.pr)) fun x => impl_areWithin_1.f k x.1.1 x.2.1.1.1 x.2.2.1.1.1
theorem impl_areWithin_1.env (k : Nat) : EnvOk Go.Proofs.Try.prog (fun f => (impl_areWithin_1.E k).lookup f) := envOk_of ⟨entry Go.Proofs.Try.call52 rfl (impl_within.ok k), trivial⟩
theorem impl_areWithin_1.ok (k : Nat) : FnOk Go.Proofs.Try.prog 103 (impl_areWithin_1.F k) :=
  fn_ok tab (impl_areWithin_1.env k) Go.Proofs.Try.func103 rfl (n := 3) (Nat.le_of_ble_eq_true rfl) (by kernel_rfl) (outs := []) (by kernel_rfl) (by kernel_rfl) (d := fun (y : compT impl_areWithin_1.pr) => (y.1.1 : impl_areWithin_1.N)) (fun _ => rfl) (C := fun _ => []) (k := k) noCuts fun x => by kernel_rfl
/-! slices.IndexFunc[[]int64,int64] -/
@[reducible] def slices_IndexFunc_int64_areWithin_1.pc : CutP := [(0, some false, [.fl (.lo (.int .i64))]), (1, some false, [.fn 103 [[(.int .i64)], [(.int .i64)]]])]
@[reducible] def slices_IndexFunc_int64_areWithin_1.pr : CompPs := [(false, [.fl (.int .i64)])]
abbrev slices_IndexFunc_int64_areWithin_1.N := Int
noncomputable def slices_IndexFunc_int64_areWithin_1.E (k : Nat) : List (FuncId × Go.Rv.Fn) := [(103, impl_areWithin_1.F k)]
abbrev slices_IndexFunc_int64_areWithin_1.Cs := (List Int → Int → Int → Int → Int → Option slices_IndexFunc_int64_areWithin_1.N)
def slices_IndexFunc_int64_areWithin_1.zero : slices_IndexFunc_int64_areWithin_1.Cs := (fun _ _ _ _ _ => none)
noncomputable def slices_IndexFunc_int64_areWithin_1.step (k : Nat) (c : slices_IndexFunc_int64_areWithin_1.Cs) : slices_IndexFunc_int64_areWithin_1.Cs := (fun (x0 : List Int) (x1 : Int) (x2 : Int) (x3 : Int) (x4 : Int) => (if (decide (x4 < x3)) = true then if 0 ≤ x4 then if x4 < (x0.length : Int) then (impl_areWithin_1.f k (rd 0 x0 x4) x1 x2).bind fun t1 => (if t1 = true then some x4 else c x0 x1 x2 x3 (wrap64 (x4 + 1))) else none else none else some (-1)))
noncomputable def slices_IndexFunc_int64_areWithin_1.cs (k : Nat) : Nat → slices_IndexFunc_int64_areWithin_1.Cs
  | 0 => slices_IndexFunc_int64_areWithin_1.zero
  | n + 1 => slices_IndexFunc_int64_areWithin_1.step k (slices_IndexFunc_int64_areWithin_1.cs k n)
def slices_IndexFunc_int64_areWithin_1.CC (c : slices_IndexFunc_int64_areWithin_1.Cs) : Cuts slices_IndexFunc_int64_areWithin_1.N := [(6, ⟨[(0, some false, [.fl (.lo (.int .i64))]), (1, some false, [.fn 103 [[(.int .i64)], [(.int .i64)]]]), (7, some false, [.fl (.int .i64)]), (8, some false, [.fl (.int .i64)])], fun x => c x.1.1 x.2.1.1.1.1 x.2.1.1.2.1.1 x.2.2.1.1 x.2.2.2.1.1⟩)]
noncomputable def slices_IndexFunc_int64_areWithin_1.f (k : Nat) (a0 : List Int) (a1 : Int) (a2 : Int) : Option slices_IndexFunc_int64_areWithin_1.N := (slices_IndexFunc_int64_areWithin_1.cs k k) a0 a1 a2 (a0.length : Int) 0
noncomputable def slices_IndexFunc_int64_areWithin_1.F (k : Nat) : Go.Rv.Fn := mkFn 2 slices_IndexFunc_int64_areWithin_1.pc slices_IndexFunc_int64_areWithin_1.pr (keepOf []) (fun (y : slices_IndexFunc_int64_areWithin_1.N) => (((y, ()), ()) : compT slices_IndexFunc_int64_areWithin_1.pr)) fun x => slices_IndexFunc_int64_areWithin_1.f k x.1.1 x.2.1.1.1.1 x.2.1.1.2.1.1
theorem slices_IndexFunc_int64_areWithin_1.env (k : Nat) : EnvOk Go.Proofs.Try.prog (fun f => (slices_IndexFunc_int64_areWithin_1.E k).lookup f) := envOk_of ⟨entry Go.Proofs.Try.call103 rfl (impl_areWithin_1.ok k), trivial⟩
theorem slices_IndexFunc_int64_areWithin_1.cuts (k : Nat) : CutsOk Go.Proofs.Try.prog X (fun f => (slices_IndexFunc_int64_areWithin_1.E k).lookup f) Go.Proofs.Try.f115 [] (decN slices_IndexFunc_int64_areWithin_1.pr (fun (y : compT slices_IndexFunc_int64_areWithin_1.pr) => (y.1.1 : slices_IndexFunc_int64_areWithin_1.N))) fun n => slices_IndexFunc_int64_areWithin_1.CC (slices_IndexFunc_int64_areWithin_1.cs k n) :=
  cutsOk_of (step := slices_IndexFunc_int64_areWithin_1.step k) rfl (fun _ => rfl) ⟨fun _ => rfl, trivial⟩ (fun c => by kernel_rfl) fun c => ⟨fun x => by kernel_rfl, trivial⟩
theorem slices_IndexFunc_int64_areWithin_1.ok (k : Nat) : FnOk Go.Proofs.Try.prog 115 (slices_IndexFunc_int64_areWithin_1.F k) :=
  fn_ok tab (slices_IndexFunc_int64_areWithin_1.env k) Go.Proofs.Try.func115 rfl (n := 2) (Nat.le_of_ble_eq_true rfl) (by kernel_rfl) (outs := []) (by kernel_rfl) (by kernel_rfl) (d := fun (y : compT slices_IndexFunc_int64_areWithin_1.pr) => (y.1.1 : slices_IndexFunc_int64_areWithin_1.N)) (fun _ => rfl) (C := fun n => slices_IndexFunc_int64_areWithin_1.CC (slices_IndexFunc_int64_areWithin_1.cs k n)) (k := k) (slices_IndexFunc_int64_areWithin_1.cuts k) fun x => by kernel_rfl
/-! slices.ContainsFunc[[]int64,int64] -/
@[reducible] def slices_ContainsFunc_int64_areWithin_1.pc : CutP := [(0, some false, [.fl (.lo (.int .i64))]), (1, some false, [.fn 103 [[(.int .i64)], [(.int .i64)]]])]
@[reducible] def slices_ContainsFunc_int64_areWithin_1.pr : CompPs := [(false, [.fl .bool])]
abbrev slices_ContainsFunc_int64_areWithin_1.N := Bool
noncomputable def slices_ContainsFunc_int64_areWithin_1.E (k : Nat) : List (FuncId × Go.Rv.Fn) := [(115, slices_IndexFunc_int64_areWithin_1.F k)]
noncomputable def slices_ContainsFunc_int64_areWithin_1.f (k : Nat) (a0 : List Int) (a1 : Int) (a2 : Int) : Option slices_ContainsFunc_int64_areWithin_1.N := (slices_IndexFunc_int64_areWithin_1.f k a0 a1 a2).bind fun (t1 : Int) => some (decide (0 ≤ t1))
noncomputable def slices_ContainsFunc_int64_areWithin_1.F (k : Nat) : Go.Rv.Fn := mkFn 2 slices_ContainsFunc_int64_areWithin_1.pc slices_ContainsFunc_int64_areWithin_1.pr (keepOf []) (fun (y : slices_ContainsFunc_int64_areWithin_1.N) => (((y, ()), ()) : compT slices_ContainsFunc_int64_areWithin_1.pr)) fun x => slices_ContainsFunc_int64_areWithin_1.f k x.1.1 x.2.1.1.1.1 x.2.1.1.2.1.1
theorem slices_ContainsFunc_int64_areWithin_1.env (k : Nat) : EnvOk Go.Proofs.Try.prog (fun f => (slices_ContainsFunc_int64_areWithin_1.E k).lookup f) := envOk_of ⟨entry Go.Proofs.Try.call115 rfl (slices_IndexFunc_int64_areWithin_1.ok k), trivial⟩
theorem slices_ContainsFunc_int64_areWithin_1.ok (k : Nat) : FnOk Go.Proofs.Try.prog 102 (slices_ContainsFunc_int64_areWithin_1.F k) :=
  fn_ok tab (slices_ContainsFunc_int64_areWithin_1.env k) Go.Proofs.Try.func102 rfl (n := 2) (Nat.le_of_ble_eq_true rfl) (by kernel_rfl) (outs := []) (by kernel_rfl) (by kernel_rfl) (d := fun (y : compT slices_ContainsFunc_int64_areWithin_1.pr) => (y.1.1 : slices_ContainsFunc_int64_areWithin_1.N)) (fun _ => rfl) (C := fun _ => []) (k := k) noCuts fun x => by kernel_rfl
/-! impl.areWithin -/
@[reducible] def impl_areWithin.pc : CutP := [(0, some false, [.fl (.lo (.int .i64))]), (1, some false, [.fl (.int .i64)]), (2, some false, [.fl (.int .i64)])]
@[reducible] def impl_areWithin.pr : CompPs := [(false, [.fl .bool])]
abbrev impl_areWithin.N := Bool
noncomputable def impl_areWithin.E (k : Nat) : List (FuncId × Go.Rv.Fn) := [(102, slices_ContainsFunc_int64_areWithin_1.F k)]
noncomputable def impl_areWithin.f (k : Nat) (a0 : List Int) (a1 : Int) (a2 : Int) : Option impl_areWithin.N := (slices_ContainsFunc_int64_areWithin_1.f k a0 a1 a2).bind fun t1 => some (!t1)
noncomputable def impl_areWithin.F (k : Nat) : Go.Rv.Fn := mkFn 3 impl_areWithin.pc impl_areWithin.pr (keepOf []) (fun (y : impl_areWithin.N) => (((y, ()), ()) : compT impl_areWithin.pr)) fun x => impl_areWithin.f k x.1.1 x.2.1.1 x.2.2.1.1
theorem impl_areWithin.env (k : Nat) : EnvOk Go.Proofs.Try.prog (fun f => (impl_areWithin.E k).lookup f) := envOk_of ⟨entry Go.Proofs.Try.call102 rfl (slices_ContainsFunc_int64_areWithin_1.ok k), trivial⟩
theorem impl_areWithin.ok (k : Nat) : FnOk Go.Proofs.Try.prog 65 (impl_areWithin.F k) :=
  fn_ok tab (impl_areWithin.env k) Go.Proofs.Try.func65 rfl (n := 3) (Nat.le_of_ble_eq_true rfl) (by kernel_rfl) (outs := []) (by kernel_rfl) (by kernel_rfl) (d := fun (y : compT impl_areWithin.pr) => (y.1.1 : impl_areWithin.N)) (fun _ => rfl) (C := fun _ => []) (k := k) noCuts fun x => by kernel_rfl
/-! impl.ValidRing -/
@[reducible] def impl_ValidRing.pc : CutP := [(0, some true, [.fl (.int .i64), .fl (.int .i64)])]
@[reducible] def impl_ValidRing.pr : CompPs := [(false, [.fl .bool])]
abbrev impl_ValidRing.N := Bool
noncomputable def impl_ValidRing.E (k : Nat) : List (FuncId × Go.Rv.Fn) := [(52, impl_within.F k)]
noncomputable def impl_ValidRing.f (k : Nat) (a0 : Int) (a1 : Int) : Option impl_ValidRing.N := (impl_within.f k a0 0 1).bind fun t1 => (if t1 = true then (impl_within.f k a1 0 15).bind fun t2 => some t2 else some false)
noncomputable def impl_ValidRing.F (k : Nat) : Go.Rv.Fn := mkFn 1 impl_ValidRing.pc impl_ValidRing.pr (keepOf []) (fun (y : impl_ValidRing.N) => (((y, ()), ()) : compT impl_ValidRing.pr)) fun x => impl_ValidRing.f k x.1.1 x.1.2.1
theorem impl_ValidRing.env (k : Nat) : EnvOk Go.Proofs.Try.prog (fun f => (impl_ValidRing.E k).lookup f) := envOk_of ⟨entry Go.Proofs.Try.call52 rfl (impl_within.ok k), trivial⟩
theorem impl_ValidRing.ok (k : Nat) : FnOk Go.Proofs.Try.prog 63 (impl_ValidRing.F k) :=
  fn_ok tab (impl_ValidRing.env k) Go.Proofs.Try.func63 rfl (n := 1) (Nat.le_of_ble_eq_true rfl) (by kernel_rfl) (outs := []) (by kernel_rfl) (by kernel_rfl) (d := fun (y : compT impl_ValidRing.pr) => (y.1.1 : impl_ValidRing.N)) (fun _ => rfl) (C := fun _ => []) (k := k) noCuts fun x => by kernel_rfl
/-! (impl.Ring).turn -/
@[reducible] def impl_Ring_turn.pc : CutP := [(0, some true, [.fl (.int .i64), .fl (.int .i64)])]
@[reducible] def impl_Ring_turn.pr : CompPs := [(false, [.fl (.int .i64)]), (false, [.fl (.int .i64)])]
abbrev impl_Ring_turn.N := Int × Int
noncomputable def impl_Ring_turn.E (k : Nat) : List (FuncId × Go.Rv.Fn) := []
noncomputable def impl_Ring_turn.f (k : Nat) (a0 : Int) (a1 : Int) : Option impl_Ring_turn.N := T.impl_Ring_turn.f a0 a1
noncomputable def impl_Ring_turn.F (k : Nat) : Go.Rv.Fn := mkFn 1 impl_Ring_turn.pc impl_Ring_turn.pr (keepOf []) (fun (y : impl_Ring_turn.N) => (((y.1, ()), (y.2, ()), ()) : compT impl_Ring_turn.pr)) fun x => impl_Ring_turn.f k x.1.1 x.1.2.1
theorem impl_Ring_turn.ok (k : Nat) : FnOk Go.Proofs.Try.prog 104 (impl_Ring_turn.F k) := T.pair_fn (f2 := T.impl_Ring_turn.f) fun a b r1 r2 w h => T.impl_Ring_turn.calls a b r1 r2 w h
/-! impl.totalTurn -/
@[reducible] def impl_totalTurn.pc : CutP := [(0, some false, [.fl (.lo (.pair (.int .i64) (.int .i64)))])]
@[reducible] def impl_totalTurn.pr : CompPs := [(false, [.fl (.int .i64)]), (false, [.fl (.int .i64)])]
abbrev impl_totalTurn.N := Int × Int
noncomputable def impl_totalTurn.E (k : Nat) : List (FuncId × Go.Rv.Fn) := [(104, impl_Ring_turn.F k)]
abbrev impl_totalTurn.Cs := (Int → Int → List (Int × Int) → Int → Int → Option impl_totalTurn.N)
def impl_totalTurn.zero : impl_totalTurn.Cs := (fun _ _ _ _ _ => none)
noncomputable def impl_totalTurn.step (k : Nat) (c : impl_totalTurn.Cs) : impl_totalTurn.Cs := (fun (x0 : Int) (x1 : Int) (x2 : List (Int × Int)) (x3 : Int) (x4 : Int) => (if (decide (x4 < x3)) = true then if 0 ≤ x4 then if x4 < (x2.length : Int) then (impl_Ring_turn.f k ((rd (0, 0) x2 x4).1) ((rd (0, 0) x2 x4).2)).bind fun t1 => c (wrap64 (x0 + t1.1)) (wrap64 (x1 + t1.2)) x2 x3 (wrap64 (x4 + 1)) else none else none else some (x0, x1)))
noncomputable def impl_totalTurn.cs (k : Nat) : Nat → impl_totalTurn.Cs
  | 0 => impl_totalTurn.zero
  | n + 1 => impl_totalTurn.step k (impl_totalTurn.cs k n)
def impl_totalTurn.CC (c : impl_totalTurn.Cs) : Cuts impl_totalTurn.N := [(8, ⟨[(4, some false, [.fl (.int .i64)]), (5, some false, [.fl (.int .i64)]), (10, some false, [.fl (.lo (.pair (.int .i64) (.int .i64)))]), (11, some false, [.fl (.int .i64)]), (12, some false, [.fl (.int .i64)])], fun x => c x.1.1 x.2.1.1 x.2.2.1.1 x.2.2.2.1.1 x.2.2.2.2.1.1⟩)]
noncomputable def impl_totalTurn.f (k : Nat) (a0 : List (Int × Int)) : Option impl_totalTurn.N := (impl_totalTurn.cs k k) 0 0 a0 (a0.length : Int) 0
noncomputable def impl_totalTurn.F (k : Nat) : Go.Rv.Fn := mkFn 1 impl_totalTurn.pc impl_totalTurn.pr (keepOf []) (fun (y : impl_totalTurn.N) => (((y.1, ()), (y.2, ()), ()) : compT impl_totalTurn.pr)) fun x => impl_totalTurn.f k x.1.1
theorem impl_totalTurn.env (k : Nat) : EnvOk Go.Proofs.Try.prog (fun f => (impl_totalTurn.E k).lookup f) := envOk_of ⟨entry Go.Proofs.Try.call104 rfl (impl_Ring_turn.ok k), trivial⟩
theorem impl_totalTurn.cuts (k : Nat) : CutsOk Go.Proofs.Try.prog X (fun f => (impl_totalTurn.E k).lookup f) Go.Proofs.Try.f67 [] (decN impl_totalTurn.pr (fun (y : compT impl_totalTurn.pr) => ((y.1.1, y.2.1.1) : impl_totalTurn.N))) fun n => impl_totalTurn.CC (impl_totalTurn.cs k n) :=
  cutsOk_of (step := impl_totalTurn.step k) rfl (fun _ => rfl) ⟨fun _ => rfl, trivial⟩ (fun c => by kernel_rfl) fun c => ⟨fun x => by kernel_rfl, trivial⟩
theorem impl_totalTurn.ok (k : Nat) : FnOk Go.Proofs.Try.prog 67 (impl_totalTurn.F k) :=
  fn_ok tab (impl_totalTurn.env k) Go.Proofs.Try.func67 rfl (n := 1) (Nat.le_of_ble_eq_true rfl) (by kernel_rfl) (outs := []) (by kernel_rfl) (by kernel_rfl) (d := fun (y : compT impl_totalTurn.pr) => ((y.1.1, y.2.1.1) : impl_totalTurn.N)) (fun _ => rfl) (C := fun n => impl_totalTurn.CC (impl_totalTurn.cs k n)) (k := k) (impl_totalTurn.cuts k) fun x => by kernel_rfl
/-! impl.abs -/
@[reducible] def impl_abs.pc : CutP := [(0, some false, [.fl (.int .i64)])]
@[reducible] def impl_abs.pr : CompPs := [(false, [.fl (.int .i64)])]
abbrev impl_abs.N := Int
noncomputable def impl_abs.E (k : Nat) : List (FuncId × Go.Rv.Fn) := []
noncomputable def impl_abs.f (k : Nat) (a0 : Int) : Option impl_abs.N := some (if a0 < (wrap64 (0 - a0)) then (wrap64 (0 - a0)) else a0)
noncomputable def impl_abs.F (k : Nat) : Go.Rv.Fn := mkFn 1 impl_abs.pc impl_abs.pr (keepOf []) (fun (y : impl_abs.N) => (((y, ()), ()) : compT impl_abs.pr)) fun x => impl_abs.f k x.1.1
theorem impl_abs.env (k : Nat) : EnvOk Go.Proofs.Try.prog (fun f => (impl_abs.E k).lookup f) := envOk_of trivial
theorem impl_abs.ok (k : Nat) : FnOk Go.Proofs.Try.prog 68 (impl_abs.F k) :=
  fn_ok tab (impl_abs.env k) Go.Proofs.Try.func68 rfl (n := 1) (Nat.le_of_ble_eq_true rfl) (by kernel_rfl) (outs := []) (by kernel_rfl) (by kernel_rfl) (d := fun (y : compT impl_abs.pr) => (y.1.1 : impl_abs.N)) (fun _ => rfl) (C := fun _ => []) (k := k) noCuts fun x => by kernel_rfl
/-! impl.NearestTurn$1 -/
@[reducible] def impl_NearestTurn_1.pc : CutP := [(0, some false, [.fl (.lo (.pair (.int .i64) (.int .i64)))]), (1, some false, [.rptr [(.int .i64)]]), (2, some false, [.rptr [(.int .i64)]])]
@[reducible] def impl_NearestTurn_1.pr : CompPs := [(false, [.fl (.int .i64)]), (false, [.fl .bool])]
abbrev impl_NearestTurn_1.N := Int × Bool
noncomputable def impl_NearestTurn_1.E (k : Nat) : List (FuncId × Go.Rv.Fn) := [(67, impl_totalTurn.F k), (68, impl_abs.F k)]
noncomputable def impl_NearestTurn_1.f (k : Nat) (a0 : List (Int × Int)) (a1 : Int) (a2 : Int) : Option impl_NearestTurn_1.N := (impl_totalTurn.f k a0).bind fun t1 => (impl_abs.f k (wrap64 (a1 - t1.1))).bind fun (t2 : Int) => (impl_abs.f k (wrap64 (a2 - t1.2))).bind fun (t3 : Int) => some ((wrap64 (t2 + t3)), true)
noncomputable def impl_NearestTurn_1.F (k : Nat) : Go.Rv.Fn := mkFn 3 impl_NearestTurn_1.pc impl_NearestTurn_1.pr (keepOf []) (fun (y : impl_NearestTurn_1.N) => (((y.1, ()), (y.2, ()), ()) : compT impl_NearestTurn_1.pr)) fun x => impl_NearestTurn_1.f k x.1.1 x.2.1.1.1 x.2.2.1.1.1
theorem impl_NearestTurn_1.env (k : Nat) : EnvOk Go.Proofs.Try.prog (fun f => (impl_NearestTurn_1.E k).lookup f) := envOk_of ⟨entry Go.Proofs.Try.call67 rfl (impl_totalTurn.ok k), entry Go.Proofs.Try.call68 rfl (impl_abs.ok k), trivial⟩
theorem impl_NearestTurn_1.ok (k : Nat) : FnOk Go.Proofs.Try.prog 66 (impl_NearestTurn_1.F k) :=
  fn_ok tab (impl_NearestTurn_1.env k) Go.Proofs.Try.func66 rfl (n := 3) (Nat.le_of_ble_eq_true rfl) (by kernel_rfl) (outs := []) (by kernel_rfl) (by kernel_rfl) (d := fun (y : compT impl_NearestTurn_1.pr) => ((y.1.1, y.2.1.1) : impl_NearestTurn_1.N)) (fun _ => rfl) (C := fun _ => []) (k := k) noCuts fun x => by kernel_rfl
/-! slices.Clone[[]impl.Ring,impl.Ring] -/
@[reducible] def slices_Clone_Ring.pc : CutP := [(0, some false, [.fl (.lo (.pair (.int .i64) (.int .i64)))])]
@[reducible] def slices_Clone_Ring.pr : CompPs := [(false, [.fl (.own (.pair (.int .i64) (.int .i64)))])]
abbrev slices_Clone_Ring.N := List (Int × Int)
noncomputable def slices_Clone_Ring.E (k : Nat) : List (FuncId × Go.Rv.Fn) := []
noncomputable def slices_Clone_Ring.f (k : Nat) (a0 : List (Int × Int)) : Option slices_Clone_Ring.N := (if 0 < a0.length then if ([] : List (Int × Int)).length + a0.length < 549755813888 then some (([] : List (Int × Int)) ++ a0) else none else allSame [true, false] (fun (t1 : Bool) => (if t1 = true then some [] else if ([] : List (Int × Int)).length + a0.length < 549755813888 then some (([] : List (Int × Int)) ++ a0) else none)))
noncomputable def slices_Clone_Ring.F (k : Nat) : Go.Rv.Fn := mkFn 1 slices_Clone_Ring.pc slices_Clone_Ring.pr (keepOf []) (fun (y : slices_Clone_Ring.N) => (((y, ()), ()) : compT slices_Clone_Ring.pr)) fun x => slices_Clone_Ring.f k x.1.1
theorem slices_Clone_Ring.env (k : Nat) : EnvOk Go.Proofs.Try.prog (fun f => (slices_Clone_Ring.E k).lookup f) := envOk_of trivial
theorem slices_Clone_Ring.ok (k : Nat) : FnOk Go.Proofs.Try.prog 92 (slices_Clone_Ring.F k) :=
  fn_ok tab (slices_Clone_Ring.env k) Go.Proofs.Try.func92 rfl (n := 1) (Nat.le_of_ble_eq_true rfl) (by kernel_rfl) (outs := []) (by kernel_rfl) (by kernel_rfl) (d := fun (y : compT slices_Clone_Ring.pr) => (y.1.1 : slices_Clone_Ring.N)) (fun _ => rfl) (C := fun _ => []) (k := k) noCuts fun x => by kernel_rfl
/-! slices.Sort[[]int64,int64] -/
@[reducible] def slices_Sort_int64.pc : CutP := [(0, some false, [.fl (.own (.int .i64))])]
@[reducible] def slices_Sort_int64.pr : CompPs := [(false, [.fl (.own (.int .i64))])]
abbrev slices_Sort_int64.N := List Int
noncomputable def slices_Sort_int64.E (k : Nat) : List (FuncId × Go.Rv.Fn) := []
noncomputable def slices_Sort_int64.f (k : Nat) (a0 : List Int) : Option slices_Sort_int64.N := Go.Rv.sortF a0
noncomputable def slices_Sort_int64.F (k : Nat) : Go.Rv.Fn := mkFn 1 slices_Sort_int64.pc slices_Sort_int64.pr (keepOf [(0, 1)]) (fun (y : slices_Sort_int64.N) => (((y, ()), ()) : compT slices_Sort_int64.pr)) fun x => slices_Sort_int64.f k x.1.1
theorem slices_Sort_int64.ok (k : Nat) : FnOk Go.Proofs.Try.prog 113 (slices_Sort_int64.F k) := Go.Rv.sort_fn Sh.sort_113 Sh.sort0_113
/-! (impl.Ring).joints -/
@[reducible] def impl_Ring_joints.pc : CutP := [(0, some true, [.fl (.int .i64), .fl (.int .i64)])]
@[reducible] def impl_Ring_joints.pr : CompPs := [(false, [.fl (.own (.int .i64))])]
abbrev impl_Ring_joints.N := List Int
noncomputable def impl_Ring_joints.E (k : Nat) : List (FuncId × Go.Rv.Fn) := [(113, slices_Sort_int64.F k)]
abbrev impl_Ring_joints.Cs := (Int → Int → List Int → List Int → Int → Int → Option impl_Ring_joints.N)
def impl_Ring_joints.zero : impl_Ring_joints.Cs := (fun _ _ _ _ _ _ => none)
noncomputable def impl_Ring_joints.step (k : Nat) (c : impl_Ring_joints.Cs) : impl_Ring_joints.Cs := (fun (x0 : Int) (x1 : Int) (x2 : List Int) (x3 : List Int) (x4 : Int) (x5 : Int) => (if (decide (x5 < x4)) = true then if 0 ≤ x5 then if x5 < (x3.length : Int) then (if 16 = 0 then none else if x2.length + [((wrap64 (x1 + (rd 0 x3 x5))).tmod 16)].length < 1099511627776 then c x0 x1 (x2 ++ [((wrap64 (x1 + (rd 0 x3 x5))).tmod 16)]) x3 x4 (wrap64 (x5 + 1)) else none) else none else none else (slices_Sort_int64.f k x2).bind fun t1 => some t1))
noncomputable def impl_Ring_joints.cs (k : Nat) : Nat → impl_Ring_joints.Cs
  | 0 => impl_Ring_joints.zero
  | n + 1 => impl_Ring_joints.step k (impl_Ring_joints.cs k n)
def impl_Ring_joints.CC (c : impl_Ring_joints.Cs) : Cuts impl_Ring_joints.N := [(8, ⟨[(1, none, [.fl (.int .i64), .fl (.int .i64)]), (3, some false, [.fl (.own (.int .i64))]), (7, some false, [.fl (.own (.int .i64))]), (8, some false, [.fl (.int .i64)]), (9, some false, [.fl (.int .i64)])], fun x => c x.1.1 x.1.2.1 x.2.1.1 x.2.2.1.1 x.2.2.2.1.1 x.2.2.2.2.1.1⟩)]
noncomputable def impl_Ring_joints.f (k : Nat) (a0 : Int) (a1 : Int) : Option impl_Ring_joints.N := (impl_Ring_joints.cs k k) a0 a1 ([] : List Int) [0, 1, 4, 7, 10, 13] ([0, 1, 4, 7, 10, 13].length : Int) 0
noncomputable def impl_Ring_joints.F (k : Nat) : Go.Rv.Fn := mkFn 1 impl_Ring_joints.pc impl_Ring_joints.pr (keepOf []) (fun (y : impl_Ring_joints.N) => (((y, ()), ()) : compT impl_Ring_joints.pr)) fun x => impl_Ring_joints.f k x.1.1 x.1.2.1
theorem impl_Ring_joints.env (k : Nat) : EnvOk Go.Proofs.Try.prog (fun f => (impl_Ring_joints.E k).lookup f) := envOk_of ⟨entry Go.Proofs.Try.call113 rfl (slices_Sort_int64.ok k), trivial⟩
theorem impl_Ring_joints.cuts (k : Nat) : CutsOk Go.Proofs.Try.prog X (fun f => (impl_Ring_joints.E k).lookup f) Go.Proofs.Try.f100 [] (decN impl_Ring_joints.pr (fun (y : compT impl_Ring_joints.pr) => (y.1.1 : impl_Ring_joints.N))) fun n => impl_Ring_joints.CC (impl_Ring_joints.cs k n) :=
  cutsOk_of (step := impl_Ring_joints.step k) rfl (fun _ => rfl) ⟨fun _ => rfl, trivial⟩ (fun c => by kernel_rfl) fun c => ⟨fun x => by kernel_rfl, trivial⟩
theorem impl_Ring_joints.ok (k : Nat) : FnOk Go.Proofs.Try.prog 100 (impl_Ring_joints.F k) :=
  fn_ok tab (impl_Ring_joints.env k) Go.Proofs.Try.func100 rfl (n := 1) (Nat.le_of_ble_eq_true rfl) (by kernel_rfl) (outs := []) (by kernel_rfl) (by kernel_rfl) (d := fun (y : compT impl_Ring_joints.pr) => (y.1.1 : impl_Ring_joints.N)) (fun _ => rfl) (C := fun n => impl_Ring_joints.CC (impl_Ring_joints.cs k n)) (k := k) (impl_Ring_joints.cuts k) fun x => by kernel_rfl
/-! slices.Index[[]int64,int64] -/
@[reducible] def slices_Index_int64.pc : CutP := [(0, some false, [.fl (.lo (.int .i64))]), (1, some false, [.fl (.int .i64)])]
@[reducible] def slices_Index_int64.pr : CompPs := [(false, [.fl (.int .i64)])]
abbrev slices_Index_int64.N := Int
noncomputable def slices_Index_int64.E (k : Nat) : List (FuncId × Go.Rv.Fn) := []
abbrev slices_Index_int64.Cs := (List Int → Int → Int → Int → Option slices_Index_int64.N)
def slices_Index_int64.zero : slices_Index_int64.Cs := (fun _ _ _ _ => none)
noncomputable def slices_Index_int64.step (k : Nat) (c : slices_Index_int64.Cs) : slices_Index_int64.Cs := (fun (x0 : List Int) (x1 : Int) (x2 : Int) (x3 : Int) => (if (decide (x3 < x2)) = true then if 0 ≤ x3 then if x3 < (x0.length : Int) then (if (decide (x1 = (rd 0 x0 x3))) = true then some x3 else c x0 x1 x2 (wrap64 (x3 + 1))) else none else none else some (-1)))
noncomputable def slices_Index_int64.cs (k : Nat) : Nat → slices_Index_int64.Cs
  | 0 => slices_Index_int64.zero
  | n + 1 => slices_Index_int64.step k (slices_Index_int64.cs k n)
def slices_Index_int64.CC (c : slices_Index_int64.Cs) : Cuts slices_Index_int64.N := [(6, ⟨[(0, some false, [.fl (.lo (.int .i64))]), (1, some false, [.fl (.int .i64)]), (7, some false, [.fl (.int .i64)]), (8, some false, [.fl (.int .i64)])], fun x => c x.1.1 x.2.1.1 x.2.2.1.1 x.2.2.2.1.1⟩)]
noncomputable def slices_Index_int64.f (k : Nat) (a0 : List Int) (a1 : Int) : Option slices_Index_int64.N := (slices_Index_int64.cs k k) a0 a1 (a0.length : Int) 0
noncomputable def slices_Index_int64.F (k : Nat) : Go.Rv.Fn := mkFn 2 slices_Index_int64.pc slices_Index_int64.pr (keepOf []) (fun (y : slices_Index_int64.N) => (((y, ()), ()) : compT slices_Index_int64.pr)) fun x => slices_Index_int64.f k x.1.1 x.2.1.1
theorem slices_Index_int64.env (k : Nat) : EnvOk Go.Proofs.Try.prog (fun f => (slices_Index_int64.E k).lookup f) := envOk_of trivial
theorem slices_Index_int64.cuts (k : Nat) : CutsOk Go.Proofs.Try.prog X (fun f => (slices_Index_int64.E k).lookup f) Go.Proofs.Try.f114 [] (decN slices_Index_int64.pr (fun (y : compT slices_Index_int64.pr) => (y.1.1 : slices_Index_int64.N))) fun n => slices_Index_int64.CC (slices_Index_int64.cs k n) :=
  cutsOk_of (step := slices_Index_int64.step k) rfl (fun _ => rfl) ⟨fun _ => rfl, trivial⟩ (fun c => by kernel_rfl) fun c => ⟨fun x => by kernel_rfl, trivial⟩
theorem slices_Index_int64.ok (k : Nat) : FnOk Go.Proofs.Try.prog 114 (slices_Index_int64.F k) :=
  fn_ok tab (slices_Index_int64.env k) Go.Proofs.Try.func114 rfl (n := 2) (Nat.le_of_ble_eq_true rfl) (by kernel_rfl) (outs := []) (by kernel_rfl) (by kernel_rfl) (d := fun (y : compT slices_Index_int64.pr) => (y.1.1 : slices_Index_int64.N)) (fun _ => rfl) (C := fun n => slices_Index_int64.CC (slices_Index_int64.cs k n)) (k := k) (slices_Index_int64.cuts k) fun x => by kernel_rfl
/-! slices.Contains[[]int64,int64] -/
@[reducible] def slices_Contains_int64.pc : CutP := [(0, some false, [.fl (.lo (.int .i64))]), (1, some false, [.fl (.int .i64)])]
@[reducible] def slices_Contains_int64.pr : CompPs := [(false, [.fl .bool])]
abbrev slices_Contains_int64.N := Bool
noncomputable def slices_Contains_int64.E (k : Nat) : List (FuncId × Go.Rv.Fn) := [(114, slices_Index_int64.F k)]
noncomputable def slices_Contains_int64.f (k : Nat) (a0 : List Int) (a1 : Int) : Option slices_Contains_int64.N := (slices_Index_int64.f k a0 a1).bind fun (t1 : Int) => some (decide (0 ≤ t1))
noncomputable def slices_Contains_int64.F (k : Nat) : Go.Rv.Fn := mkFn 2 slices_Contains_int64.pc slices_Contains_int64.pr (keepOf []) (fun (y : slices_Contains_int64.N) => (((y, ()), ()) : compT slices_Contains_int64.pr)) fun x => slices_Contains_int64.f k x.1.1 x.2.1.1
theorem slices_Contains_int64.env (k : Nat) : EnvOk Go.Proofs.Try.prog (fun f => (slices_Contains_int64.E k).lookup f) := envOk_of ⟨entry Go.Proofs.Try.call114 rfl (slices_Index_int64.ok k), trivial⟩
theorem slices_Contains_int64.ok (k : Nat) : FnOk Go.Proofs.Try.prog 101 (slices_Contains_int64.F k) :=
  fn_ok tab (slices_Contains_int64.env k) Go.Proofs.Try.func101 rfl (n := 2) (Nat.le_of_ble_eq_true rfl) (by kernel_rfl) (outs := []) (by kernel_rfl) (by kernel_rfl) (d := fun (y : compT slices_Contains_int64.pr) => (y.1.1 : slices_Contains_int64.N)) (fun _ => rfl) (C := fun _ => []) (k := k) noCuts fun x => by kernel_rfl
/-! impl.meeting -/
@[reducible] def impl_meeting.pc : CutP := [(0, some true, [.fl (.int .i64), .fl (.int .i64)]), (1, some true, [.fl (.int .i64), .fl (.int .i64)])]
@[reducible] def impl_meeting.pr : CompPs := [(false, [.fl (.own (.int .i64))])]
abbrev impl_meeting.N := List Int
noncomputable def impl_meeting.E (k : Nat) : List (FuncId × Go.Rv.Fn) := [(100, impl_Ring_joints.F k), (101, slices_Contains_int64.F k)]
abbrev impl_meeting.Cs := (Int → Int → List Int → List Int → Int → Int → Option impl_meeting.N)
def impl_meeting.zero : impl_meeting.Cs := (fun _ _ _ _ _ _ => none)
noncomputable def impl_meeting.step (k : Nat) (c : impl_meeting.Cs) : impl_meeting.Cs := (fun (x0 : Int) (x1 : Int) (x2 : List Int) (x3 : List Int) (x4 : Int) (x5 : Int) => (if (decide (x5 < x4)) = true then if 0 ≤ x5 then if x5 < (x3.length : Int) then (impl_Ring_joints.f k x0 x1).bind fun t2 => (slices_Contains_int64.f k t2 (rd 0 x3 x5)).bind fun t3 => (if t3 = true then if x2.length + [(rd 0 x3 x5)].length < 1099511627776 then c x0 x1 (x2 ++ [(rd 0 x3 x5)]) x3 x4 (wrap64 (x5 + 1)) else none else c x0 x1 x2 x3 x4 (wrap64 (x5 + 1))) else none else none else some x2))
noncomputable def impl_meeting.cs (k : Nat) : Nat → impl_meeting.Cs
  | 0 => impl_meeting.zero
  | n + 1 => impl_meeting.step k (impl_meeting.cs k n)
def impl_meeting.CC (c : impl_meeting.Cs) : Cuts impl_meeting.N := [(8, ⟨[(3, none, [.fl (.int .i64), .fl (.int .i64)]), (5, some false, [.fl (.own (.int .i64))]), (10, some false, [.fl (.own (.int .i64))]), (11, some false, [.fl (.int .i64)]), (12, some false, [.fl (.int .i64)])], fun x => c x.1.1 x.1.2.1 x.2.1.1 x.2.2.1.1 x.2.2.2.1.1 x.2.2.2.2.1.1⟩)]
noncomputable def impl_meeting.f (k : Nat) (a0 : Int) (a1 : Int) (a2 : Int) (a3 : Int) : Option impl_meeting.N := (impl_Ring_joints.f k a0 a1).bind fun t1 => (impl_meeting.cs k k) a2 a3 ([] : List Int) t1 (t1.length : Int) 0
noncomputable def impl_meeting.F (k : Nat) : Go.Rv.Fn := mkFn 2 impl_meeting.pc impl_meeting.pr (keepOf []) (fun (y : impl_meeting.N) => (((y, ()), ()) : compT impl_meeting.pr)) fun x => impl_meeting.f k x.1.1 x.1.2.1 x.2.1.1 x.2.1.2.1
theorem impl_meeting.env (k : Nat) : EnvOk Go.Proofs.Try.prog (fun f => (impl_meeting.E k).lookup f) := envOk_of ⟨entry Go.Proofs.Try.call100 rfl (impl_Ring_joints.ok k), entry Go.Proofs.Try.call101 rfl (slices_Contains_int64.ok k), trivial⟩
theorem impl_meeting.cuts (k : Nat) : CutsOk Go.Proofs.Try.prog X (fun f => (impl_meeting.E k).lookup f) Go.Proofs.Try.f64 [] (decN impl_meeting.pr (fun (y : compT impl_meeting.pr) => (y.1.1 : impl_meeting.N))) fun n => impl_meeting.CC (impl_meeting.cs k n) :=
  cutsOk_of (step := impl_meeting.step k) rfl (fun _ => rfl) ⟨fun _ => rfl, trivial⟩ (fun c => by kernel_rfl) fun c => ⟨fun x => by kernel_rfl, trivial⟩
theorem impl_meeting.ok (k : Nat) : FnOk Go.Proofs.Try.prog 64 (impl_meeting.F k) :=
  fn_ok tab (impl_meeting.env k) Go.Proofs.Try.func64 rfl (n := 2) (Nat.le_of_ble_eq_true rfl) (by kernel_rfl) (outs := []) (by kernel_rfl) (by kernel_rfl) (d := fun (y : compT impl_meeting.pr) => (y.1.1 : impl_meeting.N)) (fun _ => rfl) (C := fun n => impl_meeting.CC (impl_meeting.cs k n)) (k := k) (impl_meeting.cuts k) fun x => by kernel_rfl
/-! impl.search$1 -/
@[reducible] def impl_search_1_NearestTurn_1_search_1.bs : BoxPs := [(3, [.bool]), (4, [(.int .i64)]), (5, [(.own (.pair (.int .i64) (.int .i64)))])]
abbrev impl_search_1_NearestTurn_1_search_1.hand : List (Nat × Bool) := [(1, true), (2, true), (3, false), (4, false), (5, false), (6, true), (7, true)]
@[reducible] def impl_search_1_NearestTurn_1_search_1.pc : CutP := [(0, some false, [.fl (.lo (.pair (.int .i64) (.int .i64)))]), (1, none, [.fl (.int .i64)]), (2, none, [.fn 66 [[(.int .i64)], [(.int .i64)]]]), (3, none, [.fl .bool]), (4, none, [.fl (.int .i64)]), (5, none, [.fl (.own (.pair (.int .i64) (.int .i64)))]), (6, none, [.fl (.int .i64), .fl (.int .i64)]), (7, none, [.fn 91 [[(.ptr 1 0)], [(.ptr 2 0)], [(.ptr 3 0)], [(.ptr 4 0)], [(.ptr 5 0)], [(.ptr 6 0)], [(.ptr 7 0)]]])]
@[reducible] def impl_search_1_NearestTurn_1_search_1.pr : CompPs := []
abbrev impl_search_1_NearestTurn_1_search_1.N := Bool × Int × List (Int × Int)
noncomputable def impl_search_1_NearestTurn_1_search_1.G (rec : List (Int × Int) → Int → Int → Int → Bool → Int → List (Int × Int) → Int → Int → Option impl_search_1_NearestTurn_1_search_1.N) : Go.Rv.Fn := mkFnH 8 impl_search_1_NearestTurn_1_search_1.hand impl_search_1_NearestTurn_1_search_1.pc impl_search_1_NearestTurn_1_search_1.pr impl_search_1_NearestTurn_1_search_1.bs (fun (y : impl_search_1_NearestTurn_1_search_1.N) => (((()), ((y.1, ()), (y.2.1, ()), (y.2.2, ()), ())) : compT impl_search_1_NearestTurn_1_search_1.pr × boxPT impl_search_1_NearestTurn_1_search_1.bs)) fun x => rec x.1.1 x.2.1.1 x.2.2.1.1.1.1 x.2.2.1.1.2.1.1 x.2.2.2.1.1 x.2.2.2.2.1.1 x.2.2.2.2.2.1.1 x.2.2.2.2.2.2.1.1 x.2.2.2.2.2.2.1.2.1
noncomputable def impl_search_1_NearestTurn_1_search_1.E (k : Nat) (rec : List (Int × Int) → Int → Int → Int → Bool → Int → List (Int × Int) → Int → Int → Option impl_search_1_NearestTurn_1_search_1.N) : List (FuncId × Go.Rv.Fn) := [(64, impl_meeting.F k), (66, impl_NearestTurn_1.F k), (92, slices_Clone_Ring.F k), (91, impl_search_1_NearestTurn_1_search_1.G rec)]
abbrev impl_search_1_NearestTurn_1_search_1.Cs := (List (Int × Int) → Int → Int → Int → Bool → Int → List (Int × Int) → Int → Int → Int → Int → Option impl_search_1_NearestTurn_1_search_1.N) × (List (Int × Int) → Int → Int → Int → Bool → Int → List (Int × Int) → Int → Int → Int → Int → Int → Option impl_search_1_NearestTurn_1_search_1.N) × (List (Int × Int) → Int → Int → Int → Bool → Int → List (Int × Int) → Int → Int → Int → Int → Int → Int → Option impl_search_1_NearestTurn_1_search_1.N)
def impl_search_1_NearestTurn_1_search_1.zero : impl_search_1_NearestTurn_1_search_1.Cs := (fun _ _ _ _ _ _ _ _ _ _ _ => none, fun _ _ _ _ _ _ _ _ _ _ _ _ => none, fun _ _ _ _ _ _ _ _ _ _ _ _ _ => none)
noncomputable def impl_search_1_NearestTurn_1_search_1.step (k : Nat) (rec : List (Int × Int) → Int → Int → Int → Bool → Int → List (Int × Int) → Int → Int → Option impl_search_1_NearestTurn_1_search_1.N) (c : impl_search_1_NearestTurn_1_search_1.Cs) : impl_search_1_NearestTurn_1_search_1.Cs := (fun (x0 : List (Int × Int)) (x1 : Int) (x2 : Int) (x3 : Int) (x4 : Bool) (x5 : Int) (x6 : List (Int × Int)) (x7 : Int) (x8 : Int) (x9 : Int) (x10 : Int) => c.2.1 x0 x1 x2 x3 x4 x5 x6 x7 x8 x9 x10 0,
  fun (x0 : List (Int × Int)) (x1 : Int) (x2 : Int) (x3 : Int) (x4 : Bool) (x5 : Int) (x6 : List (Int × Int)) (x7 : Int) (x8 : Int) (x9 : Int) (x10 : Int) (x11 : Int) => (if (decide (x11 ≤ 1)) = true then c.2.2 x0 x1 x2 x3 x4 x5 x6 x7 x8 x9 x10 x11 0 else some (x4, x5, x6)),
  fun (x0 : List (Int × Int)) (x1 : Int) (x2 : Int) (x3 : Int) (x4 : Bool) (x5 : Int) (x6 : List (Int × Int)) (x7 : Int) (x8 : Int) (x9 : Int) (x10 : Int) (x11 : Int) (x12 : Int) => (if (decide (x12 < 16)) = true then (impl_meeting.f k x9 x10 x11 x12).bind fun t4 => (if (decide ((t4.length : Int) = 0)) = true then (slices_Clone_Ring.f k x0).bind fun t5 => if t5.length + [(x11, x12)].length < 549755813888 then (rec (t5 ++ [(x11, x12)]) x1 x2 x3 x4 x5 x6 x7 x8).bind fun t6 => c.2.2 x0 x1 x2 x3 t6.1 t6.2.1 t6.2.2 x7 x8 x9 x10 x11 (wrap64 (x12 + 1)) else none else c.2.2 x0 x1 x2 x3 x4 x5 x6 x7 x8 x9 x10 x11 (wrap64 (x12 + 1))) else c.2.1 x0 x1 x2 x3 x4 x5 x6 x7 x8 x9 x10 (wrap64 (x11 + 1))))
noncomputable def impl_search_1_NearestTurn_1_search_1.cs (k : Nat) (rec : List (Int × Int) → Int → Int → Int → Bool → Int → List (Int × Int) → Int → Int → Option impl_search_1_NearestTurn_1_search_1.N) : Nat → impl_search_1_NearestTurn_1_search_1.Cs
  | 0 => impl_search_1_NearestTurn_1_search_1.zero
  | n + 1 => impl_search_1_NearestTurn_1_search_1.step k rec (impl_search_1_NearestTurn_1_search_1.cs k rec n)
def impl_search_1_NearestTurn_1_search_1.CC (c : impl_search_1_NearestTurn_1_search_1.Cs) : Cuts impl_search_1_NearestTurn_1_search_1.N := [(16, ⟨[(0, some false, [.fl (.lo (.pair (.int .i64) (.int .i64)))]), (1, none, [.fl (.int .i64)]), (2, none, [.fn 66 [[(.int .i64)], [(.int .i64)]]]), (3, none, [.fl .bool]), (4, none, [.fl (.int .i64)]), (5, none, [.fl (.own (.pair (.int .i64) (.int .i64)))]), (6, none, [.fl (.int .i64), .fl (.int .i64)]), (7, none, [.fn 91 [[(.ptr 1 0)], [(.ptr 2 0)], [(.ptr 3 0)], [(.ptr 4 0)], [(.ptr 5 0)], [(.ptr 6 0)], [(.ptr 7 0)]]]), (11, none, [.fl (.int .i64), .fl (.int .i64)])], fun x => c.1 x.1.1 x.2.1.1 x.2.2.1.1.1.1 x.2.2.1.1.2.1.1 x.2.2.2.1.1 x.2.2.2.2.1.1 x.2.2.2.2.2.1.1 x.2.2.2.2.2.2.1.1 x.2.2.2.2.2.2.1.2.1 x.2.2.2.2.2.2.2.2.1.1 x.2.2.2.2.2.2.2.2.1.2.1⟩),
  (25, ⟨[(0, some false, [.fl (.lo (.pair (.int .i64) (.int .i64)))]), (1, none, [.fl (.int .i64)]), (2, none, [.fn 66 [[(.int .i64)], [(.int .i64)]]]), (3, none, [.fl .bool]), (4, none, [.fl (.int .i64)]), (5, none, [.fl (.own (.pair (.int .i64) (.int .i64)))]), (6, none, [.fl (.int .i64), .fl (.int .i64)]), (7, none, [.fn 91 [[(.ptr 1 0)], [(.ptr 2 0)], [(.ptr 3 0)], [(.ptr 4 0)], [(.ptr 5 0)], [(.ptr 6 0)], [(.ptr 7 0)]]]), (11, none, [.fl (.int .i64), .fl (.int .i64)]), (12, some false, [.fl (.int .i64)])], fun x => c.2.1 x.1.1 x.2.1.1 x.2.2.1.1.1.1 x.2.2.1.1.2.1.1 x.2.2.2.1.1 x.2.2.2.2.1.1 x.2.2.2.2.2.1.1 x.2.2.2.2.2.2.1.1 x.2.2.2.2.2.2.1.2.1 x.2.2.2.2.2.2.2.2.1.1 x.2.2.2.2.2.2.2.2.1.2.1 x.2.2.2.2.2.2.2.2.2.1.1⟩),
  (37, ⟨[(0, some false, [.fl (.lo (.pair (.int .i64) (.int .i64)))]), (1, none, [.fl (.int .i64)]), (2, none, [.fn 66 [[(.int .i64)], [(.int .i64)]]]), (3, none, [.fl .bool]), (4, none, [.fl (.int .i64)]), (5, none, [.fl (.own (.pair (.int .i64) (.int .i64)))]), (6, none, [.fl (.int .i64), .fl (.int .i64)]), (7, none, [.fn 91 [[(.ptr 1 0)], [(.ptr 2 0)], [(.ptr 3 0)], [(.ptr 4 0)], [(.ptr 5 0)], [(.ptr 6 0)], [(.ptr 7 0)]]]), (11, none, [.fl (.int .i64), .fl (.int .i64)]), (12, some false, [.fl (.int .i64)]), (52, some false, [.fl (.int .i64)])], fun x => c.2.2 x.1.1 x.2.1.1 x.2.2.1.1.1.1 x.2.2.1.1.2.1.1 x.2.2.2.1.1 x.2.2.2.2.1.1 x.2.2.2.2.2.1.1 x.2.2.2.2.2.2.1.1 x.2.2.2.2.2.2.1.2.1 x.2.2.2.2.2.2.2.2.1.1 x.2.2.2.2.2.2.2.2.1.2.1 x.2.2.2.2.2.2.2.2.2.1.1 x.2.2.2.2.2.2.2.2.2.2.1.1⟩)]
noncomputable def impl_search_1_NearestTurn_1_search_1.body (k : Nat) (rec : List (Int × Int) → Int → Int → Int → Bool → Int → List (Int × Int) → Int → Int → Option impl_search_1_NearestTurn_1_search_1.N) (a0 : List (Int × Int)) (a1 : Int) (a2 : Int) (a3 : Int) (a4 : Bool) (a5 : Int) (a6 : List (Int × Int)) (a7 : Int) (a8 : Int) : Option impl_search_1_NearestTurn_1_search_1.N := (if (decide ((a0.length : Int) = a1)) = true then (impl_NearestTurn_1.f k a0 a2 a3).bind fun t1 => (if t1.2 = true then (if (!a4) = true then (slices_Clone_Ring.f k a0).bind fun t2 => some (true, t1.1, t2) else (if (decide (t1.1 < a5)) = true then (slices_Clone_Ring.f k a0).bind fun t3 => some (true, t1.1, t3) else some (a4, a5, a6))) else some (a4, a5, a6)) else (if (decide (0 < (a0.length : Int))) = true then if 0 ≤ (wrap64 ((a0.length : Int) - 1)) then if (wrap64 ((a0.length : Int) - 1)) < (a0.length : Int) then (impl_search_1_NearestTurn_1_search_1.cs k rec k).1 a0 a1 a2 a3 a4 a5 a6 a7 a8 ((rd (0, 0) a0 (wrap64 ((a0.length : Int) - 1))).1) ((rd (0, 0) a0 (wrap64 ((a0.length : Int) - 1))).2) else none else none else (impl_search_1_NearestTurn_1_search_1.cs k rec k).1 a0 a1 a2 a3 a4 a5 a6 a7 a8 a7 a8))
noncomputable def impl_search_1_NearestTurn_1_search_1.fr (k : Nat) : Nat → List (Int × Int) → Int → Int → Int → Bool → Int → List (Int × Int) → Int → Int → Option impl_search_1_NearestTurn_1_search_1.N
  | 0 => fun _ _ _ _ _ _ _ _ _ => none
  | n + 1 => impl_search_1_NearestTurn_1_search_1.body k (impl_search_1_NearestTurn_1_search_1.fr k n)
noncomputable def impl_search_1_NearestTurn_1_search_1.f (k : Nat) (a0 : List (Int × Int)) (a1 : Int) (a2 : Int) (a3 : Int) (a4 : Bool) (a5 : Int) (a6 : List (Int × Int)) (a7 : Int) (a8 : Int) : Option impl_search_1_NearestTurn_1_search_1.N := impl_search_1_NearestTurn_1_search_1.fr k k a0 a1 a2 a3 a4 a5 a6 a7 a8
noncomputable def impl_search_1_NearestTurn_1_search_1.F (k : Nat) : Go.Rv.Fn := impl_search_1_NearestTurn_1_search_1.G (impl_search_1_NearestTurn_1_search_1.f k)
theorem impl_search_1_NearestTurn_1_search_1.cuts (k : Nat) (rec : List (Int × Int) → Int → Int → Int → Bool → Int → List (Int × Int) → Int → Int → Option impl_search_1_NearestTurn_1_search_1.N) : CutsOkG Go.Proofs.Try.prog { X with n := Go.Proofs.Try.f91.ntmps, keep := handN impl_search_1_NearestTurn_1_search_1.hand, ro := roOf impl_search_1_NearestTurn_1_search_1.hand } (fun f => (impl_search_1_NearestTurn_1_search_1.E k rec).lookup f) Go.Proofs.Try.f91 (endH { X with n := Go.Proofs.Try.f91.ntmps, keep := handN impl_search_1_NearestTurn_1_search_1.hand, ro := roOf impl_search_1_NearestTurn_1_search_1.hand } Go.Proofs.Try.f91 impl_search_1_NearestTurn_1_search_1.pr impl_search_1_NearestTurn_1_search_1.bs (fun (y : compT impl_search_1_NearestTurn_1_search_1.pr × boxPT impl_search_1_NearestTurn_1_search_1.bs) => ((y.2.1.1, y.2.2.1.1, y.2.2.2.1.1) : impl_search_1_NearestTurn_1_search_1.N))) fun n => impl_search_1_NearestTurn_1_search_1.CC (impl_search_1_NearestTurn_1_search_1.cs k rec n) :=
  cutsOkG_of (step := impl_search_1_NearestTurn_1_search_1.step k rec) rfl (fun _ => rfl) ⟨fun _ => rfl, fun _ => rfl, fun _ => rfl, trivial⟩ (fun c => by kernel_rfl) fun c => ⟨fun x => by kernel_rfl, fun x => by kernel_rfl, fun x => by kernel_rfl, trivial⟩
theorem impl_search_1_NearestTurn_1_search_1.okb (k : Nat) (rec : List (Int × Int) → Int → Int → Int → Bool → Int → List (Int × Int) → Int → Int → Option impl_search_1_NearestTurn_1_search_1.N) (hr : FnOkH Go.Proofs.Try.prog 91 (impl_search_1_NearestTurn_1_search_1.G rec)) : FnOkH Go.Proofs.Try.prog 91 (impl_search_1_NearestTurn_1_search_1.G (impl_search_1_NearestTurn_1_search_1.body k rec)) :=
  fn_okH (E := fun f => (impl_search_1_NearestTurn_1_search_1.E k rec).lookup f) tab (envOk_of ⟨entry Go.Proofs.Try.call64 rfl (impl_meeting.ok k), entry Go.Proofs.Try.call66 rfl (impl_NearestTurn_1.ok k), entry Go.Proofs.Try.call92 rfl (slices_Clone_Ring.ok k), entryH Go.Proofs.Try.call91 rfl hr, trivial⟩) Go.Proofs.Try.func91 rfl (n := 8) (Nat.le_of_ble_eq_true rfl) (by kernel_rfl) (by kernel_rfl) (by kernel_rfl) (by kernel_rfl) rfl (d := fun (y : compT impl_search_1_NearestTurn_1_search_1.pr × boxPT impl_search_1_NearestTurn_1_search_1.bs) => ((y.2.1.1, y.2.2.1.1, y.2.2.2.1.1) : impl_search_1_NearestTurn_1_search_1.N)) (fun _ => rfl) (C := fun n => impl_search_1_NearestTurn_1_search_1.CC (impl_search_1_NearestTurn_1_search_1.cs k rec n)) (k := k) (impl_search_1_NearestTurn_1_search_1.cuts k rec) fun x => by kernel_rfl
theorem impl_search_1_NearestTurn_1_search_1.okr (k : Nat) : ∀ n, FnOkH Go.Proofs.Try.prog 91 (impl_search_1_NearestTurn_1_search_1.G (impl_search_1_NearestTurn_1_search_1.fr k n))
  | 0 => fnOkH_none fun _ => rfl
  | n + 1 => impl_search_1_NearestTurn_1_search_1.okb k _ (impl_search_1_NearestTurn_1_search_1.okr k n)
theorem impl_search_1_NearestTurn_1_search_1.ok (k : Nat) : FnOkH Go.Proofs.Try.prog 91 (impl_search_1_NearestTurn_1_search_1.F k) := impl_search_1_NearestTurn_1_search_1.okr k k
/-! impl.search -/
@[reducible] def impl_search_NearestTurn_1.pc : CutP := [(0, some true, [.fl (.int .i64), .fl (.int .i64)]), (1, some false, [.fl (.int .i64)]), (2, some false, [.fn 66 [[(.int .i64)], [(.int .i64)]]])]
@[reducible] def impl_search_NearestTurn_1.pr : CompPs := [(false, [.fl (.own (.pair (.int .i64) (.int .i64)))]), (false, [.fl (.int .i64)]), (false, [.fl .bool])]
abbrev impl_search_NearestTurn_1.N := List (Int × Int) × Int × Bool
noncomputable def impl_search_NearestTurn_1.E (k : Nat) : List (FuncId × Go.Rv.Fn) := [(52, impl_within.F k), (63, impl_ValidRing.F k), (91, impl_search_1_NearestTurn_1_search_1.F k)]
abbrev impl_search_NearestTurn_1.Cs := (Int → Int → Int → Int → Int → Option impl_search_NearestTurn_1.N)
def impl_search_NearestTurn_1.zero : impl_search_NearestTurn_1.Cs := (fun _ _ _ _ _ => none)
noncomputable def impl_search_NearestTurn_1.step (k : Nat) (c : impl_search_NearestTurn_1.Cs) : impl_search_NearestTurn_1.Cs := (fun (x0 : Int) (x1 : Int) (x2 : Int) (x3 : Int) (x4 : Int) => (impl_search_1_NearestTurn_1_search_1.f k [] x2 x3 x4 false 0 ([] : List (Int × Int)) x0 x1).bind fun t3 => some (t3.2.2, t3.2.1, t3.1))
noncomputable def impl_search_NearestTurn_1.cs (k : Nat) : Nat → impl_search_NearestTurn_1.Cs
  | 0 => impl_search_NearestTurn_1.zero
  | n + 1 => impl_search_NearestTurn_1.step k (impl_search_NearestTurn_1.cs k n)
def impl_search_NearestTurn_1.CC (c : impl_search_NearestTurn_1.Cs) : Cuts impl_search_NearestTurn_1.N := [(2, ⟨[(3, none, [.fl (.int .i64), .fl (.int .i64)]), (4, none, [.fl (.int .i64)]), (5, none, [.fn 66 [[(.int .i64)], [(.int .i64)]]])], fun x => c x.1.1 x.1.2.1 x.2.1.1 x.2.2.1.1.1.1 x.2.2.1.1.2.1.1⟩)]
noncomputable def impl_search_NearestTurn_1.f (k : Nat) (a0 : Int) (a1 : Int) (a2 : Int) (a3 : Int) (a4 : Int) : Option impl_search_NearestTurn_1.N := (impl_ValidRing.f k a0 a1).bind fun t1 => (if (!t1) = true then some ([], 0, false) else (impl_within.f k a2 1 4).bind fun t2 => (if (!t2) = true then some ([], 0, false) else (impl_search_NearestTurn_1.cs k k) a0 a1 a2 a3 a4))
noncomputable def impl_search_NearestTurn_1.F (k : Nat) : Go.Rv.Fn := mkFn 3 impl_search_NearestTurn_1.pc impl_search_NearestTurn_1.pr (keepOf []) (fun (y : impl_search_NearestTurn_1.N) => (((y.1, ()), (y.2.1, ()), (y.2.2, ()), ()) : compT impl_search_NearestTurn_1.pr)) fun x => impl_search_NearestTurn_1.f k x.1.1 x.1.2.1 x.2.1.1 x.2.2.1.1.1.1 x.2.2.1.1.2.1.1
theorem impl_search_NearestTurn_1.env (k : Nat) : EnvOk Go.Proofs.Try.prog (fun f => (impl_search_NearestTurn_1.E k).lookup f) := envOk_of ⟨entry Go.Proofs.Try.call52 rfl (impl_within.ok k), entry Go.Proofs.Try.call63 rfl (impl_ValidRing.ok k), entryH Go.Proofs.Try.call91 rfl (impl_search_1_NearestTurn_1_search_1.ok k), trivial⟩
theorem impl_search_NearestTurn_1.cuts (k : Nat) : CutsOk Go.Proofs.Try.prog X (fun f => (impl_search_NearestTurn_1.E k).lookup f) Go.Proofs.Try.f55 [] (decN impl_search_NearestTurn_1.pr (fun (y : compT impl_search_NearestTurn_1.pr) => ((y.1.1, y.2.1.1, y.2.2.1.1) : impl_search_NearestTurn_1.N))) fun n => impl_search_NearestTurn_1.CC (impl_search_NearestTurn_1.cs k n) :=
  cutsOk_of (step := impl_search_NearestTurn_1.step k) rfl (fun _ => rfl) ⟨fun _ => rfl, trivial⟩ (fun c => by kernel_rfl) fun c => ⟨fun x => by kernel_rfl, trivial⟩
theorem impl_search_NearestTurn_1.ok (k : Nat) : FnOk Go.Proofs.Try.prog 55 (impl_search_NearestTurn_1.F k) :=
  fn_ok tab (impl_search_NearestTurn_1.env k) Go.Proofs.Try.func55 rfl (n := 3) (Nat.le_of_ble_eq_true rfl) (by kernel_rfl) (outs := []) (by kernel_rfl) (by kernel_rfl) (d := fun (y : compT impl_search_NearestTurn_1.pr) => ((y.1.1, y.2.1.1, y.2.2.1.1) : impl_search_NearestTurn_1.N)) (fun _ => rfl) (C := fun n => impl_search_NearestTurn_1.CC (impl_search_NearestTurn_1.cs k n)) (k := k) (impl_search_NearestTurn_1.cuts k) fun x => by kernel_rfl
/-! impl.found -/
@[reducible] def impl_found.pc : CutP := [(0, some false, [.fl (.lo (.pair (.int .i64) (.int .i64)))]), (1, some false, [.fl (.int .i64)]), (2, some false, [.fl .bool])]
@[reducible] def impl_found.pr : CompPs := [(false, [.fl (.lo (.pair (.int .i64) (.int .i64)))]), (false, [.fl (.int .i64)]), (false, [.fl .bool])]
abbrev impl_found.N := List (Int × Int) × Int × Bool
noncomputable def impl_found.E (k : Nat) : List (FuncId × Go.Rv.Fn) := []
noncomputable def impl_found.f (k : Nat) (a0 : List (Int × Int)) (a1 : Int) (a2 : Bool) : Option impl_found.N := (if (!a2) = true then some ([], 0, false) else some (a0, a1, true))
noncomputable def impl_found.F (k : Nat) : Go.Rv.Fn := mkFn 3 impl_found.pc impl_found.pr (keepOf []) (fun (y : impl_found.N) => (((y.1, ()), (y.2.1, ()), (y.2.2, ()), ()) : compT impl_found.pr)) fun x => impl_found.f k x.1.1 x.2.1.1 x.2.2.1.1
theorem impl_found.env (k : Nat) : EnvOk Go.Proofs.Try.prog (fun f => (impl_found.E k).lookup f) := envOk_of trivial
theorem impl_found.ok (k : Nat) : FnOk Go.Proofs.Try.prog 54 (impl_found.F k) :=
  fn_ok tab (impl_found.env k) Go.Proofs.Try.func54 rfl (n := 3) (Nat.le_of_ble_eq_true rfl) (by kernel_rfl) (outs := []) (by kernel_rfl) (by kernel_rfl) (d := fun (y : compT impl_found.pr) => ((y.1.1, y.2.1.1, y.2.2.1.1) : impl_found.N)) (fun _ => rfl) (C := fun _ => []) (k := k) noCuts fun x => by kernel_rfl
/-! impl.NearestTurn -/
@[reducible] def impl_NearestTurn.pc : CutP := [(0, some true, [.fl (.int .i64), .fl (.int .i64)]), (1, some false, [.fl (.int .i64)]), (2, some false, [.fl (.int .i64)]), (3, some false, [.fl (.int .i64)])]
@[reducible] def impl_NearestTurn.pr : CompPs := [(false, [.fl (.hi (.pair (.int .i64) (.int .i64)))]), (false, [.fl (.int .i64)]), (false, [.fl .bool])]
abbrev impl_NearestTurn.N := List (Int × Int) × Int × Bool
noncomputable def impl_NearestTurn.E (k : Nat) : List (FuncId × Go.Rv.Fn) := [(54, impl_found.F k), (55, impl_search_NearestTurn_1.F k), (65, impl_areWithin.F k)]
noncomputable def impl_NearestTurn.f (k : Nat) (a0 : Int) (a1 : Int) (a2 : Int) (a3 : Int) (a4 : Int) : Option impl_NearestTurn.N := (impl_areWithin.f k [a3, a4] (-100000) 100000).bind fun t1 => (if (!t1) = true then some (([] : List (Int × Int)), 0, false) else (impl_search_NearestTurn_1.f k a0 a1 a2 a3 a4).bind fun t2 => (impl_found.f k t2.1 t2.2.1 t2.2.2).bind fun t3 => some (t3.1, t3.2.1, t3.2.2))
noncomputable def impl_NearestTurn.F (k : Nat) : Go.Rv.Fn := mkFn 4 impl_NearestTurn.pc impl_NearestTurn.pr (keepOf []) (fun (y : impl_NearestTurn.N) => (((y.1, ()), (y.2.1, ()), (y.2.2, ()), ()) : compT impl_NearestTurn.pr)) fun x => impl_NearestTurn.f k x.1.1 x.1.2.1 x.2.1.1 x.2.2.1.1 x.2.2.2.1.1
theorem impl_NearestTurn.env (k : Nat) : EnvOk Go.Proofs.Try.prog (fun f => (impl_NearestTurn.E k).lookup f) := envOk_of ⟨entry Go.Proofs.Try.call54 rfl (impl_found.ok k), entry Go.Proofs.Try.call55 rfl (impl_search_NearestTurn_1.ok k), entry Go.Proofs.Try.call65 rfl (impl_areWithin.ok k), trivial⟩
theorem impl_NearestTurn.ok (k : Nat) : FnOk Go.Proofs.Try.prog 18 (impl_NearestTurn.F k) :=
  fn_ok tab (impl_NearestTurn.env k) Go.Proofs.Try.func18 rfl (n := 4) (Nat.le_of_ble_eq_true rfl) (by kernel_rfl) (outs := []) (by kernel_rfl) (by kernel_rfl) (d := fun (y : compT impl_NearestTurn.pr) => ((y.1.1, y.2.1.1, y.2.2.1.1) : impl_NearestTurn.N)) (fun _ => rfl) (C := fun _ => []) (k := k) noCuts fun x => by kernel_rfl
/-! spec.l00From -/
@[reducible] def spec_l00From.bp : List FPat := [(.lo (.int .u8)), (.int .i64), (.int .u64)]
@[reducible] def spec_l00From.pc : CutP := [(0, some false, [.fl (.lo (.int .u8))])]
@[reducible] def spec_l00From.pr : CompPs := []
abbrev spec_l00From.N := List Int × Int × Int
noncomputable def spec_l00From.E (k : Nat) : List (FuncId × Go.Rv.Fn) := []
noncomputable def spec_l00From.f (k : Nat) (a0 : List Int) : Option spec_l00From.N := some (a0, 0, 0)
noncomputable def spec_l00From.F (k : Nat) : Go.Rv.Fn := mkFnR 1 spec_l00From.pc spec_l00From.bp (fun (y : spec_l00From.N) => ((y.1, y.2.1, y.2.2, ()) : fpatsT spec_l00From.bp)) fun x => spec_l00From.f k x.1.1
theorem spec_l00From.env (k : Nat) : EnvOk Go.Proofs.Try.prog (fun f => (spec_l00From.E k).lookup f) := envOk_of trivial
theorem spec_l00From.ok (k : Nat) : FnOk Go.Proofs.Try.prog 45 (spec_l00From.F k) :=
  fn_okR tab (spec_l00From.env k) Go.Proofs.Try.func45 rfl (n := 1) (Nat.le_of_ble_eq_true rfl) (by kernel_rfl) (by kernel_rfl) (d := fun (y : fpatsT spec_l00From.bp) => ((y.1, y.2.1, y.2.2.1) : spec_l00From.N)) (fun _ => rfl) (C := (fun _ => [])) (k := k) noCutsG fun x => by kernel_rfl
/-! spec.l00Put -/
@[reducible] def spec_l00Put.pc : CutP := [(0, some false, [.fl (.lo (.int .i64))]), (1, some false, [.fl (.int .i64)])]
@[reducible] def spec_l00Put.pr : CompPs := [(false, [.fl (.own (.int .i64))])]
abbrev spec_l00Put.N := List Int
noncomputable def spec_l00Put.E (k : Nat) : List (FuncId × Go.Rv.Fn) := []
abbrev spec_l00Put.Cs := (List Int → Int → List Int → Bool → Int → Option spec_l00Put.N)
def spec_l00Put.zero : spec_l00Put.Cs := (fun _ _ _ _ _ => none)
noncomputable def spec_l00Put.step (k : Nat) (c : spec_l00Put.Cs) : spec_l00Put.Cs := (fun (x0 : List Int) (x1 : Int) (x2 : List Int) (x3 : Bool) (x4 : Int) => (if (decide (x4 < (x0.length : Int))) = true then (if (!x3) = true then if 0 ≤ x4 then if x4 < (x0.length : Int) then (if (decide (x1 ≤ (rd 0 x0 x4))) = true then if 0 ≤ x4 then if x4 < (x0.length : Int) then (if (decide (x1 < (rd 0 x0 x4))) = true then if x2.length + [x1].length < 1099511627776 then if 0 ≤ x4 then if x4 < (x0.length : Int) then if (x2 ++ [x1]).length + [(rd 0 x0 x4)].length < 1099511627776 then c x0 x1 ((x2 ++ [x1]) ++ [(rd 0 x0 x4)]) true (wrap64 (x4 + 1)) else none else none else none else none else if 0 ≤ x4 then if x4 < (x0.length : Int) then if x2.length + [(rd 0 x0 x4)].length < 1099511627776 then c x0 x1 (x2 ++ [(rd 0 x0 x4)]) true (wrap64 (x4 + 1)) else none else none else none) else none else none else if 0 ≤ x4 then if x4 < (x0.length : Int) then if x2.length + [(rd 0 x0 x4)].length < 1099511627776 then c x0 x1 (x2 ++ [(rd 0 x0 x4)]) x3 (wrap64 (x4 + 1)) else none else none else none) else none else none else if 0 ≤ x4 then if x4 < (x0.length : Int) then if x2.length + [(rd 0 x0 x4)].length < 1099511627776 then c x0 x1 (x2 ++ [(rd 0 x0 x4)]) x3 (wrap64 (x4 + 1)) else none else none else none) else (if (!x3) = true then if x2.length + [x1].length < 1099511627776 then some (x2 ++ [x1]) else none else some x2)))
noncomputable def spec_l00Put.cs (k : Nat) : Nat → spec_l00Put.Cs
  | 0 => spec_l00Put.zero
  | n + 1 => spec_l00Put.step k (spec_l00Put.cs k n)
def spec_l00Put.CC (c : spec_l00Put.Cs) : Cuts spec_l00Put.N := [(10, ⟨[(0, some false, [.fl (.lo (.int .i64))]), (1, some false, [.fl (.int .i64)]), (5, some false, [.fl (.own (.int .i64))]), (6, some false, [.fl .bool]), (7, some false, [.fl (.int .i64)])], fun x => c x.1.1 x.2.1.1 x.2.2.1.1 x.2.2.2.1.1 x.2.2.2.2.1.1⟩)]
noncomputable def spec_l00Put.f (k : Nat) (a0 : List Int) (a1 : Int) : Option spec_l00Put.N := (spec_l00Put.cs k k) a0 a1 ([] : List Int) false 0
noncomputable def spec_l00Put.F (k : Nat) : Go.Rv.Fn := mkFn 2 spec_l00Put.pc spec_l00Put.pr (keepOf []) (fun (y : spec_l00Put.N) => (((y, ()), ()) : compT spec_l00Put.pr)) fun x => spec_l00Put.f k x.1.1 x.2.1.1
theorem spec_l00Put.env (k : Nat) : EnvOk Go.Proofs.Try.prog (fun f => (spec_l00Put.E k).lookup f) := envOk_of trivial
theorem spec_l00Put.cuts (k : Nat) : CutsOk Go.Proofs.Try.prog X (fun f => (spec_l00Put.E k).lookup f) Go.Proofs.Try.f112 [] (decN spec_l00Put.pr (fun (y : compT spec_l00Put.pr) => (y.1.1 : spec_l00Put.N))) fun n => spec_l00Put.CC (spec_l00Put.cs k n) :=
  cutsOk_of (step := spec_l00Put.step k) rfl (fun _ => rfl) ⟨fun _ => rfl, trivial⟩ (fun c => by kernel_rfl) fun c => ⟨fun x => by kernel_rfl, trivial⟩
theorem spec_l00Put.ok (k : Nat) : FnOk Go.Proofs.Try.prog 112 (spec_l00Put.F k) :=
  fn_ok tab (spec_l00Put.env k) Go.Proofs.Try.func112 rfl (n := 2) (Nat.le_of_ble_eq_true rfl) (by kernel_rfl) (outs := []) (by kernel_rfl) (by kernel_rfl) (d := fun (y : compT spec_l00Put.pr) => (y.1.1 : spec_l00Put.N)) (fun _ => rfl) (C := fun n => spec_l00Put.CC (spec_l00Put.cs k n)) (k := k) (spec_l00Put.cuts k) fun x => by kernel_rfl
/-! spec.l03Next -/
@[reducible] def spec_l03Next.pc : CutP := [(0, some false, [.fl (.int .i64)])]
@[reducible] def spec_l03Next.pr : CompPs := [(false, [.fl (.own (.int .i64))])]
abbrev spec_l03Next.N := List Int
noncomputable def spec_l03Next.E (k : Nat) : List (FuncId × Go.Rv.Fn) := [(112, spec_l00Put.F k)]
abbrev spec_l03Next.Cs := (Int → List Int → List Int → Int → Option spec_l03Next.N)
def spec_l03Next.zero : spec_l03Next.Cs := (fun _ _ _ _ => none)
noncomputable def spec_l03Next.step (k : Nat) (c : spec_l03Next.Cs) : spec_l03Next.Cs := (fun (x0 : Int) (x1 : List Int) (x2 : List Int) (x3 : Int) => (if (decide (x3 < (x2.length : Int))) = true then if 0 ≤ x3 then if x3 < (x2.length : Int) then (if 16 = 0 then none else (spec_l00Put.f k x1 ((wrap64 (x0 + (rd 0 x2 x3))).tmod 16)).bind fun t1 => c x0 t1 x2 (wrap64 (x3 + 1))) else none else none else some x1))
noncomputable def spec_l03Next.cs (k : Nat) : Nat → spec_l03Next.Cs
  | 0 => spec_l03Next.zero
  | n + 1 => spec_l03Next.step k (spec_l03Next.cs k n)
def spec_l03Next.CC (c : spec_l03Next.Cs) : Cuts spec_l03Next.N := [(10, ⟨[(0, some false, [.fl (.int .i64)]), (3, some false, [.fl (.own (.int .i64))]), (4, some false, [.fl (.own (.int .i64))]), (5, some false, [.fl (.int .i64)])], fun x => c x.1.1 x.2.1.1 x.2.2.1.1 x.2.2.2.1.1⟩)]
noncomputable def spec_l03Next.f (k : Nat) (a0 : Int) : Option spec_l03Next.N := (spec_l03Next.cs k k) a0 ([] : List Int) [2, 5, 8, 11, 14] 0
noncomputable def spec_l03Next.F (k : Nat) : Go.Rv.Fn := mkFn 1 spec_l03Next.pc spec_l03Next.pr (keepOf []) (fun (y : spec_l03Next.N) => (((y, ()), ()) : compT spec_l03Next.pr)) fun x => spec_l03Next.f k x.1.1
theorem spec_l03Next.env (k : Nat) : EnvOk Go.Proofs.Try.prog (fun f => (spec_l03Next.E k).lookup f) := envOk_of ⟨entry Go.Proofs.Try.call112 rfl (spec_l00Put.ok k), trivial⟩
theorem spec_l03Next.cuts (k : Nat) : CutsOk Go.Proofs.Try.prog X (fun f => (spec_l03Next.E k).lookup f) Go.Proofs.Try.f93 [] (decN spec_l03Next.pr (fun (y : compT spec_l03Next.pr) => (y.1.1 : spec_l03Next.N))) fun n => spec_l03Next.CC (spec_l03Next.cs k n) :=
  cutsOk_of (step := spec_l03Next.step k) rfl (fun _ => rfl) ⟨fun _ => rfl, trivial⟩ (fun c => by kernel_rfl) fun c => ⟨fun x => by kernel_rfl, trivial⟩
theorem spec_l03Next.ok (k : Nat) : FnOk Go.Proofs.Try.prog 93 (spec_l03Next.F k) :=
  fn_ok tab (spec_l03Next.env k) Go.Proofs.Try.func93 rfl (n := 1) (Nat.le_of_ble_eq_true rfl) (by kernel_rfl) (outs := []) (by kernel_rfl) (by kernel_rfl) (d := fun (y : compT spec_l03Next.pr) => (y.1.1 : spec_l03Next.N)) (fun _ => rfl) (C := fun n => spec_l03Next.CC (spec_l03Next.cs k n)) (k := k) (spec_l03Next.cuts k) fun x => by kernel_rfl
/-! (*spec.l00Src).next -/
@[reducible] def spec_l00Src_next.bp : List FPat := [(.lo (.int .u8)), (.int .i64), (.int .u64)]
@[reducible] def spec_l00Src_next.pc : CutP := [(0, none, [.fl (.lo (.int .u8)), .fl (.int .i64), .fl (.int .u64)])]
@[reducible] def spec_l00Src_next.pr : CompPs := [(false, [.fl (.int .i64)])]
abbrev spec_l00Src_next.N := Int × List Int × Int × Int
noncomputable def spec_l00Src_next.E (k : Nat) : List (FuncId × Go.Rv.Fn) := []
abbrev spec_l00Src_next.Cs := (List Int → Int → Int → Int → Option spec_l00Src_next.N)
def spec_l00Src_next.zero : spec_l00Src_next.Cs := (fun _ _ _ _ => none)
noncomputable def spec_l00Src_next.step (k : Nat) (c : spec_l00Src_next.Cs) : spec_l00Src_next.Cs := (fun (x0 : List Int) (x1 : Int) (x2 : Int) (x3 : Int) => (if (decide ((wrap64 (x1 + 1)) ≤ (x0.length : Int))) = true then some (x3, x0, (wrap64 (x1 + 1)), (IntKind.u64.wrap ((IntKind.u64.wrap ((IntKind.u64.wrap (x2 * 6364136223846793005)) + (IntKind.u64.wrap (x3)))) + 1442695040888963407))) else (if 40 < 0 then none else some ((wrap64 ((IntKind.u64.wrap ((BitVec.ofInt IntKind.u64.bits ((IntKind.u64.wrap ((IntKind.u64.wrap ((IntKind.u64.wrap (x2 * 6364136223846793005)) + (IntKind.u64.wrap (x3)))) + 1442695040888963407)).fdiv (2 ^ min (40 : Int).toNat IntKind.u64.bits)) &&& BitVec.ofInt IntKind.u64.bits 255).toNat : Int)))), x0, (wrap64 (x1 + 1)), (IntKind.u64.wrap ((IntKind.u64.wrap ((IntKind.u64.wrap (x2 * 6364136223846793005)) + (IntKind.u64.wrap (x3)))) + 1442695040888963407))))))
noncomputable def spec_l00Src_next.cs (k : Nat) : Nat → spec_l00Src_next.Cs
  | 0 => spec_l00Src_next.zero
  | n + 1 => spec_l00Src_next.step k (spec_l00Src_next.cs k n)
def spec_l00Src_next.CC (c : spec_l00Src_next.Cs) : Cuts spec_l00Src_next.N := [(4, ⟨[(0, none, [.fl (.lo (.int .u8)), .fl (.int .i64), .fl (.int .u64)]), (3, some false, [.fl (.int .i64)])], fun x => c x.1.1 x.1.2.1 x.1.2.2.1 x.2.1.1⟩)]
noncomputable def spec_l00Src_next.f (k : Nat) (a0 : List Int) (a1 : Int) (a2 : Int) : Option spec_l00Src_next.N := (if (decide (a1 < (a0.length : Int))) = true then if 0 ≤ a1 then if a1 < (a0.length : Int) then (spec_l00Src_next.cs k k) a0 a1 a2 (wrap64 ((rd 0 a0 a1))) else none else none else (spec_l00Src_next.cs k k) a0 a1 a2 0)
noncomputable def spec_l00Src_next.F (k : Nat) : Go.Rv.Fn := mkFnB 0 spec_l00Src_next.pc spec_l00Src_next.pr spec_l00Src_next.bp (fun (y : spec_l00Src_next.N) => ((((y.1, ()), ()), (y.2.1, y.2.2.1, y.2.2.2, ())) : compT spec_l00Src_next.pr × fpatsT spec_l00Src_next.bp)) fun x => spec_l00Src_next.f k x.1.1 x.1.2.1 x.1.2.2.1
theorem spec_l00Src_next.env (k : Nat) : EnvOk Go.Proofs.Try.prog (fun f => (spec_l00Src_next.E k).lookup f) := envOk_of trivial
theorem spec_l00Src_next.cuts (k : Nat) : CutsOkG Go.Proofs.Try.prog { X with n := Go.Proofs.Try.f87.ntmps, keep := [0] } (fun f => (spec_l00Src_next.E k).lookup f) Go.Proofs.Try.f87 (endB { X with n := Go.Proofs.Try.f87.ntmps, keep := [0] } Go.Proofs.Try.f87 spec_l00Src_next.pr spec_l00Src_next.bp (fun (y : compT spec_l00Src_next.pr × fpatsT spec_l00Src_next.bp) => ((y.1.1.1, y.2.1, y.2.2.1, y.2.2.2.1) : spec_l00Src_next.N))) fun n => spec_l00Src_next.CC (spec_l00Src_next.cs k n) :=
  cutsOkG_of (step := spec_l00Src_next.step k) rfl (fun _ => rfl) ⟨fun _ => rfl, trivial⟩ (fun c => by kernel_rfl) fun c => ⟨fun x => by kernel_rfl, trivial⟩
theorem spec_l00Src_next.ok (k : Nat) : FnOkB Go.Proofs.Try.prog 87 (spec_l00Src_next.F k) :=
  fn_okB tab (spec_l00Src_next.env k) Go.Proofs.Try.func87 rfl (n := 0) (Nat.le_of_ble_eq_true rfl) (by kernel_rfl) (by kernel_rfl) (by kernel_rfl) (d := fun (y : compT spec_l00Src_next.pr × fpatsT spec_l00Src_next.bp) => ((y.1.1.1, y.2.1, y.2.2.1, y.2.2.2.1) : spec_l00Src_next.N)) (fun _ => rfl) (C := (fun n => spec_l00Src_next.CC (spec_l00Src_next.cs k n))) (k := k) (spec_l00Src_next.cuts k) fun x => by kernel_rfl
/-! (*spec.l00Src).pick -/
@[reducible] def spec_l00Src_pick.bp : List FPat := [(.lo (.int .u8)), (.int .i64), (.int .u64)]
@[reducible] def spec_l00Src_pick.pc : CutP := [(0, none, [.fl (.lo (.int .u8)), .fl (.int .i64), .fl (.int .u64)]), (1, some false, [.fl (.int .i64)])]
@[reducible] def spec_l00Src_pick.pr : CompPs := [(false, [.fl (.int .i64)])]
abbrev spec_l00Src_pick.N := Int × List Int × Int × Int
noncomputable def spec_l00Src_pick.E (k : Nat) : List (FuncId × Go.Rv.Fn) := [(87, spec_l00Src_next.F k)]
noncomputable def spec_l00Src_pick.f (k : Nat) (a0 : List Int) (a1 : Int) (a2 : Int) (a3 : Int) : Option spec_l00Src_pick.N := (if (decide (a3 ≤ 1)) = true then some (0, a0, a1, a2) else (spec_l00Src_next.f k a0 a1 a2).bind fun t1 => (if (decide (200 < a3)) = true then (spec_l00Src_next.f k t1.2.1 t1.2.2.1 t1.2.2.2).bind fun t2 => (if a3 = 0 then none else some (((wrap64 ((wrap64 (t1.1 * 256)) + t2.1)).tmod a3), t2.2.1, t2.2.2.1, t2.2.2.2)) else (if a3 = 0 then none else some ((t1.1.tmod a3), t1.2.1, t1.2.2.1, t1.2.2.2))))
noncomputable def spec_l00Src_pick.F (k : Nat) : Go.Rv.Fn := mkFnB 1 spec_l00Src_pick.pc spec_l00Src_pick.pr spec_l00Src_pick.bp (fun (y : spec_l00Src_pick.N) => ((((y.1, ()), ()), (y.2.1, y.2.2.1, y.2.2.2, ())) : compT spec_l00Src_pick.pr × fpatsT spec_l00Src_pick.bp)) fun x => spec_l00Src_pick.f k x.1.1 x.1.2.1 x.1.2.2.1 x.2.1.1
theorem spec_l00Src_pick.env (k : Nat) : EnvOk Go.Proofs.Try.prog (fun f => (spec_l00Src_pick.E k).lookup f) := envOk_of ⟨entryB Go.Proofs.Try.call87 rfl (spec_l00Src_next.ok k), trivial⟩
theorem spec_l00Src_pick.ok (k : Nat) : FnOkB Go.Proofs.Try.prog 48 (spec_l00Src_pick.F k) :=
  fn_okB tab (spec_l00Src_pick.env k) Go.Proofs.Try.func48 rfl (n := 1) (Nat.le_of_ble_eq_true rfl) (by kernel_rfl) (by kernel_rfl) (by kernel_rfl) (d := fun (y : compT spec_l00Src_pick.pr × fpatsT spec_l00Src_pick.bp) => ((y.1.1.1, y.2.1, y.2.2.1, y.2.2.2.1) : spec_l00Src_pick.N)) (fun _ => rfl) (C := (fun _ => [])) (k := k) noCutsG fun x => by kernel_rfl
/-! (*spec.l00Src).among -/
@[reducible] def spec_l00Src_among.bp : List FPat := [(.lo (.int .u8)), (.int .i64), (.int .u64)]
@[reducible] def spec_l00Src_among.pc : CutP := [(0, none, [.fl (.lo (.int .u8)), .fl (.int .i64), .fl (.int .u64)]), (1, some false, [.fl (.lo (.int .i64))])]
@[reducible] def spec_l00Src_among.pr : CompPs := [(false, [.fl (.int .i64)])]
abbrev spec_l00Src_among.N := Int × List Int × Int × Int
noncomputable def spec_l00Src_among.E (k : Nat) : List (FuncId × Go.Rv.Fn) := [(48, spec_l00Src_pick.F k)]
noncomputable def spec_l00Src_among.f (k : Nat) (a0 : List Int) (a1 : Int) (a2 : Int) (a3 : List Int) : Option spec_l00Src_among.N := (spec_l00Src_pick.f k a0 a1 a2 (a3.length : Int)).bind fun t1 => if 0 ≤ t1.1 then if t1.1 < (a3.length : Int) then some ((rd 0 a3 t1.1), t1.2.1, t1.2.2.1, t1.2.2.2) else none else none
noncomputable def spec_l00Src_among.F (k : Nat) : Go.Rv.Fn := mkFnB 1 spec_l00Src_among.pc spec_l00Src_among.pr spec_l00Src_among.bp (fun (y : spec_l00Src_among.N) => ((((y.1, ()), ()), (y.2.1, y.2.2.1, y.2.2.2, ())) : compT spec_l00Src_among.pr × fpatsT spec_l00Src_among.bp)) fun x => spec_l00Src_among.f k x.1.1 x.1.2.1 x.1.2.2.1 x.2.1.1
theorem spec_l00Src_among.env (k : Nat) : EnvOk Go.Proofs.Try.prog (fun f => (spec_l00Src_among.E k).lookup f) := envOk_of ⟨entryB Go.Proofs.Try.call48 rfl (spec_l00Src_pick.ok k), trivial⟩
theorem spec_l00Src_among.ok (k : Nat) : FnOkB Go.Proofs.Try.prog 84 (spec_l00Src_among.F k) :=
  fn_okB tab (spec_l00Src_among.env k) Go.Proofs.Try.func84 rfl (n := 1) (Nat.le_of_ble_eq_true rfl) (by kernel_rfl) (by kernel_rfl) (by kernel_rfl) (d := fun (y : compT spec_l00Src_among.pr × fpatsT spec_l00Src_among.bp) => ((y.1.1.1, y.2.1, y.2.2.1, y.2.2.2.1) : spec_l00Src_among.N)) (fun _ => rfl) (C := (fun _ => [])) (k := k) noCutsG fun x => by kernel_rfl
/-! spec.l00Min -/
@[reducible] def spec_l00Min.pc : CutP := [(0, some false, [.fl (.int .i64)]), (1, some false, [.fl (.int .i64)])]
@[reducible] def spec_l00Min.pr : CompPs := [(false, [.fl (.int .i64)])]
abbrev spec_l00Min.N := Int
noncomputable def spec_l00Min.E (k : Nat) : List (FuncId × Go.Rv.Fn) := []
noncomputable def spec_l00Min.f (k : Nat) (a0 : Int) (a1 : Int) : Option spec_l00Min.N := (if (decide (a0 < a1)) = true then some a0 else some a1)
noncomputable def spec_l00Min.F (k : Nat) : Go.Rv.Fn := mkFn 2 spec_l00Min.pc spec_l00Min.pr (keepOf []) (fun (y : spec_l00Min.N) => (((y, ()), ()) : compT spec_l00Min.pr)) fun x => spec_l00Min.f k x.1.1 x.2.1.1
theorem spec_l00Min.env (k : Nat) : EnvOk Go.Proofs.Try.prog (fun f => (spec_l00Min.E k).lookup f) := envOk_of trivial
theorem spec_l00Min.ok (k : Nat) : FnOk Go.Proofs.Try.prog 94 (spec_l00Min.F k) :=
  fn_ok tab (spec_l00Min.env k) Go.Proofs.Try.func94 rfl (n := 2) (Nat.le_of_ble_eq_true rfl) (by kernel_rfl) (outs := []) (by kernel_rfl) (by kernel_rfl) (d := fun (y : compT spec_l00Min.pr) => (y.1.1 : spec_l00Min.N)) (fun _ => rfl) (C := fun _ => []) (k := k) noCuts fun x => by kernel_rfl
/-! spec.l03DrawOk -/
@[reducible] def spec_l03DrawOk.bp : List FPat := [(.hi (.int .u8)), (.int .i64), (.int .u64)]
@[reducible] def spec_l03DrawOk.pc : CutP := [(0, none, [.fl (.lo (.int .u8)), .fl (.int .i64), .fl (.int .u64)]), (1, some false, [.fl (.int .i64)]), (2, some false, [.fl (.int .i64)])]
@[reducible] def spec_l03DrawOk.pr : CompPs := [(false, [.fl (.own (.pair (.int .i64) (.int .i64)))])]
abbrev spec_l03DrawOk.N := List (Int × Int) × List Int × Int × Int
noncomputable def spec_l03DrawOk.E (k : Nat) : List (FuncId × Go.Rv.Fn) := [(48, spec_l00Src_pick.F k), (84, spec_l00Src_among.F k), (93, spec_l03Next.F k), (94, spec_l00Min.F k)]
abbrev spec_l03DrawOk.Cs := (List Int → Int → Int → Int → Int → List (Int × Int) → Option spec_l03DrawOk.N)
def spec_l03DrawOk.zero : spec_l03DrawOk.Cs := (fun _ _ _ _ _ _ => none)
noncomputable def spec_l03DrawOk.step (k : Nat) (c : spec_l03DrawOk.Cs) : spec_l03DrawOk.Cs := (fun (x0 : List Int) (x1 : Int) (x2 : Int) (x3 : Int) (x4 : Int) (x5 : List (Int × Int)) => (if (decide (0 < x3)) = true then (spec_l03Next.f k x4).bind fun t1 => (spec_l00Src_among.f k x0 x1 x2 t1).bind fun t2 => (spec_l00Src_pick.f k t2.2.1 t2.2.2.1 t2.2.2.2 3).bind fun t3 => (spec_l00Min.f k 1 t3.1).bind fun (t4 : Int) => if x5.length + [(t4, t2.1)].length < 549755813888 then c t3.2.1 t3.2.2.1 t3.2.2.2 (wrap64 (x3 - 1)) t2.1 (x5 ++ [(t4, t2.1)]) else none else some (x5, x0, x1, x2)))
noncomputable def spec_l03DrawOk.cs (k : Nat) : Nat → spec_l03DrawOk.Cs
  | 0 => spec_l03DrawOk.zero
  | n + 1 => spec_l03DrawOk.step k (spec_l03DrawOk.cs k n)
def spec_l03DrawOk.CC (c : spec_l03DrawOk.Cs) : Cuts spec_l03DrawOk.N := [(6, ⟨[(0, none, [.fl (.hi (.int .u8)), .fl (.int .i64), .fl (.int .u64)]), (1, some false, [.fl (.int .i64)]), (2, some false, [.fl (.int .i64)]), (7, some false, [.fl (.own (.pair (.int .i64) (.int .i64)))])], fun x => c x.1.1 x.1.2.1 x.1.2.2.1 x.2.1.1 x.2.2.1.1 x.2.2.2.1.1⟩)]
noncomputable def spec_l03DrawOk.f (k : Nat) (a0 : List Int) (a1 : Int) (a2 : Int) (a3 : Int) (a4 : Int) : Option spec_l03DrawOk.N := (spec_l03DrawOk.cs k k) a0 a1 a2 a3 a4 ([] : List (Int × Int))
noncomputable def spec_l03DrawOk.F (k : Nat) : Go.Rv.Fn := mkFnB 2 spec_l03DrawOk.pc spec_l03DrawOk.pr spec_l03DrawOk.bp (fun (y : spec_l03DrawOk.N) => ((((y.1, ()), ()), (y.2.1, y.2.2.1, y.2.2.2, ())) : compT spec_l03DrawOk.pr × fpatsT spec_l03DrawOk.bp)) fun x => spec_l03DrawOk.f k x.1.1 x.1.2.1 x.1.2.2.1 x.2.1.1 x.2.2.1.1
theorem spec_l03DrawOk.env (k : Nat) : EnvOk Go.Proofs.Try.prog (fun f => (spec_l03DrawOk.E k).lookup f) := envOk_of ⟨entryB Go.Proofs.Try.call48 rfl (spec_l00Src_pick.ok k), entryB Go.Proofs.Try.call84 rfl (spec_l00Src_among.ok k), entry Go.Proofs.Try.call93 rfl (spec_l03Next.ok k), entry Go.Proofs.Try.call94 rfl (spec_l00Min.ok k), trivial⟩
theorem spec_l03DrawOk.cuts (k : Nat) : CutsOkG Go.Proofs.Try.prog { X with n := Go.Proofs.Try.f57.ntmps, keep := [0] } (fun f => (spec_l03DrawOk.E k).lookup f) Go.Proofs.Try.f57 (endB { X with n := Go.Proofs.Try.f57.ntmps, keep := [0] } Go.Proofs.Try.f57 spec_l03DrawOk.pr spec_l03DrawOk.bp (fun (y : compT spec_l03DrawOk.pr × fpatsT spec_l03DrawOk.bp) => ((y.1.1.1, y.2.1, y.2.2.1, y.2.2.2.1) : spec_l03DrawOk.N))) fun n => spec_l03DrawOk.CC (spec_l03DrawOk.cs k n) :=
  cutsOkG_of (step := spec_l03DrawOk.step k) rfl (fun _ => rfl) ⟨fun _ => rfl, trivial⟩ (fun c => by kernel_rfl) fun c => ⟨fun x => by kernel_rfl, trivial⟩
theorem spec_l03DrawOk.ok (k : Nat) : FnOkB Go.Proofs.Try.prog 57 (spec_l03DrawOk.F k) :=
  fn_okB tab (spec_l03DrawOk.env k) Go.Proofs.Try.func57 rfl (n := 2) (Nat.le_of_ble_eq_true rfl) (by kernel_rfl) (by kernel_rfl) (by kernel_rfl) (d := fun (y : compT spec_l03DrawOk.pr × fpatsT spec_l03DrawOk.bp) => ((y.1.1.1, y.2.1, y.2.2.1, y.2.2.2.1) : spec_l03DrawOk.N)) (fun _ => rfl) (C := (fun n => spec_l03DrawOk.CC (spec_l03DrawOk.cs k n))) (k := k) (spec_l03DrawOk.cuts k) fun x => by kernel_rfl
/-! spec.B10Follow -/
@[reducible] def spec_B10Follow.pc : CutP := [(0, some false, [.fl (.lo (.int .u8))]), (1, some false, [.fl (.int .i64)]), (2, some true, [.fl (.int .i64), .fl (.int .i64)])]
@[reducible] def spec_B10Follow.pr : CompPs := [(false, [.fl (.own (.pair (.int .i64) (.int .i64)))])]
abbrev spec_B10Follow.N := List (Int × Int)
noncomputable def spec_B10Follow.E (k : Nat) : List (FuncId × Go.Rv.Fn) := [(45, spec_l00From.F k), (57, spec_l03DrawOk.F k)]
noncomputable def spec_B10Follow.f (k : Nat) (a0 : List Int) (a1 : Int) (a2 : Int) (a3 : Int) : Option spec_B10Follow.N := (spec_l00From.f k a0).bind fun t1 => (spec_l03DrawOk.f k t1.1 t1.2.1 t1.2.2 a1 a3).bind fun t2 => some t2.1
noncomputable def spec_B10Follow.F (k : Nat) : Go.Rv.Fn := mkFn 3 spec_B10Follow.pc spec_B10Follow.pr (keepOf []) (fun (y : spec_B10Follow.N) => (((y, ()), ()) : compT spec_B10Follow.pr)) fun x => spec_B10Follow.f k x.1.1 x.2.1.1 x.2.2.1.1 x.2.2.1.2.1
theorem spec_B10Follow.env (k : Nat) : EnvOk Go.Proofs.Try.prog (fun f => (spec_B10Follow.E k).lookup f) := envOk_of ⟨entry Go.Proofs.Try.call45 rfl (spec_l00From.ok k), entryB Go.Proofs.Try.call57 rfl (spec_l03DrawOk.ok k), trivial⟩
theorem spec_B10Follow.ok (k : Nat) : FnOk Go.Proofs.Try.prog 14 (spec_B10Follow.F k) :=
  fn_ok tab (spec_B10Follow.env k) Go.Proofs.Try.func14 rfl (n := 3) (Nat.le_of_ble_eq_true rfl) (by kernel_rfl) (outs := []) (by kernel_rfl) (by kernel_rfl) (d := fun (y : compT spec_B10Follow.pr) => (y.1.1 : spec_B10Follow.N)) (fun _ => rfl) (C := fun _ => []) (k := k) noCuts fun x => by kernel_rfl
/-! impl.ValidTube -/
@[reducible] def impl_ValidTube.pc : CutP := [(0, some false, [.fl (.lo (.pair (.int .i64) (.int .i64)))])]
@[reducible] def impl_ValidTube.pr : CompPs := [(false, [.fl .bool])]
abbrev impl_ValidTube.N := Bool
noncomputable def impl_ValidTube.E (k : Nat) : List (FuncId × Go.Rv.Fn) := [(63, impl_ValidRing.F k), (64, impl_meeting.F k)]
abbrev impl_ValidTube.Cs := (List (Int × Int) → List (Int × Int) → Int → Int → Option impl_ValidTube.N)
def impl_ValidTube.zero : impl_ValidTube.Cs := (fun _ _ _ _ => none)
noncomputable def impl_ValidTube.step (k : Nat) (c : impl_ValidTube.Cs) : impl_ValidTube.Cs := (fun (x0 : List (Int × Int)) (x1 : List (Int × Int)) (x2 : Int) (x3 : Int) => (if (decide (x3 < x2)) = true then if 0 ≤ x3 then if x3 < (x1.length : Int) then (impl_ValidRing.f k ((rd (0, 0) x1 x3).1) ((rd (0, 0) x1 x3).2)).bind fun t1 => (if (!t1) = true then some false else (if (decide (0 < x3)) = true then if 0 ≤ (wrap64 (x3 - 1)) then if (wrap64 (x3 - 1)) < (x0.length : Int) then (impl_meeting.f k ((rd (0, 0) x0 (wrap64 (x3 - 1))).1) ((rd (0, 0) x0 (wrap64 (x3 - 1))).2) ((rd (0, 0) x1 x3).1) ((rd (0, 0) x1 x3).2)).bind fun t2 => (if (decide (0 < (t2.length : Int))) = true then some false else c x0 x1 x2 (wrap64 (x3 + 1))) else none else none else c x0 x1 x2 (wrap64 (x3 + 1)))) else none else none else some (decide ((x0.length : Int) ≤ 60))))
noncomputable def impl_ValidTube.cs (k : Nat) : Nat → impl_ValidTube.Cs
  | 0 => impl_ValidTube.zero
  | n + 1 => impl_ValidTube.step k (impl_ValidTube.cs k n)
def impl_ValidTube.CC (c : impl_ValidTube.Cs) : Cuts impl_ValidTube.N := [(6, ⟨[(0, some false, [.fl (.lo (.pair (.int .i64) (.int .i64)))]), (5, some false, [.fl (.lo (.pair (.int .i64) (.int .i64)))]), (6, some false, [.fl (.int .i64)]), (7, some false, [.fl (.int .i64)])], fun x => c x.1.1 x.2.1.1 x.2.2.1.1 x.2.2.2.1.1⟩)]
noncomputable def impl_ValidTube.f (k : Nat) (a0 : List (Int × Int)) : Option impl_ValidTube.N := (impl_ValidTube.cs k k) a0 a0 (a0.length : Int) 0
noncomputable def impl_ValidTube.F (k : Nat) : Go.Rv.Fn := mkFn 1 impl_ValidTube.pc impl_ValidTube.pr (keepOf []) (fun (y : impl_ValidTube.N) => (((y, ()), ()) : compT impl_ValidTube.pr)) fun x => impl_ValidTube.f k x.1.1
theorem impl_ValidTube.env (k : Nat) : EnvOk Go.Proofs.Try.prog (fun f => (impl_ValidTube.E k).lookup f) := envOk_of ⟨entry Go.Proofs.Try.call63 rfl (impl_ValidRing.ok k), entry Go.Proofs.Try.call64 rfl (impl_meeting.ok k), trivial⟩
theorem impl_ValidTube.cuts (k : Nat) : CutsOk Go.Proofs.Try.prog X (fun f => (impl_ValidTube.E k).lookup f) Go.Proofs.Try.f17 [] (decN impl_ValidTube.pr (fun (y : compT impl_ValidTube.pr) => (y.1.1 : impl_ValidTube.N))) fun n => impl_ValidTube.CC (impl_ValidTube.cs k n) :=
  cutsOk_of (step := impl_ValidTube.step k) rfl (fun _ => rfl) ⟨fun _ => rfl, trivial⟩ (fun c => by kernel_rfl) fun c => ⟨fun x => by kernel_rfl, trivial⟩
theorem impl_ValidTube.ok (k : Nat) : FnOk Go.Proofs.Try.prog 17 (impl_ValidTube.F k) :=
  fn_ok tab (impl_ValidTube.env k) Go.Proofs.Try.func17 rfl (n := 1) (Nat.le_of_ble_eq_true rfl) (by kernel_rfl) (outs := []) (by kernel_rfl) (by kernel_rfl) (d := fun (y : compT impl_ValidTube.pr) => (y.1.1 : impl_ValidTube.N)) (fun _ => rfl) (C := fun n => impl_ValidTube.CC (impl_ValidTube.cs k n)) (k := k) (impl_ValidTube.cuts k) fun x => by kernel_rfl
/-! impl.TotalTurn -/
@[reducible] def impl_TotalTurn.pc : CutP := [(0, some false, [.fl (.lo (.pair (.int .i64) (.int .i64)))])]
@[reducible] def impl_TotalTurn.pr : CompPs := [(false, [.fl (.int .i64)]), (false, [.fl (.int .i64)]), (false, [.fl .bool])]
abbrev impl_TotalTurn.N := Int × Int × Bool
noncomputable def impl_TotalTurn.E (k : Nat) : List (FuncId × Go.Rv.Fn) := [(17, impl_ValidTube.F k), (67, impl_totalTurn.F k)]
noncomputable def impl_TotalTurn.f (k : Nat) (a0 : List (Int × Int)) : Option impl_TotalTurn.N := (impl_ValidTube.f k a0).bind fun t1 => (if (!t1) = true then some (0, 0, false) else (impl_totalTurn.f k a0).bind fun t2 => some (t2.1, t2.2, true))
noncomputable def impl_TotalTurn.F (k : Nat) : Go.Rv.Fn := mkFn 1 impl_TotalTurn.pc impl_TotalTurn.pr (keepOf []) (fun (y : impl_TotalTurn.N) => (((y.1, ()), (y.2.1, ()), (y.2.2, ()), ()) : compT impl_TotalTurn.pr)) fun x => impl_TotalTurn.f k x.1.1
theorem impl_TotalTurn.env (k : Nat) : EnvOk Go.Proofs.Try.prog (fun f => (impl_TotalTurn.E k).lookup f) := envOk_of ⟨entry Go.Proofs.Try.call17 rfl (impl_ValidTube.ok k), entry Go.Proofs.Try.call67 rfl (impl_totalTurn.ok k), trivial⟩
theorem impl_TotalTurn.ok (k : Nat) : FnOk Go.Proofs.Try.prog 19 (impl_TotalTurn.F k) :=
  fn_ok tab (impl_TotalTurn.env k) Go.Proofs.Try.func19 rfl (n := 1) (Nat.le_of_ble_eq_true rfl) (by kernel_rfl) (outs := []) (by kernel_rfl) (by kernel_rfl) (d := fun (y : compT impl_TotalTurn.pr) => ((y.1.1, y.2.1.1, y.2.2.1.1) : impl_TotalTurn.N)) (fun _ => rfl) (C := fun _ => []) (k := k) noCuts fun x => by kernel_rfl
/-! laws.b10Abs -/
@[reducible] def laws_b10Abs.pc : CutP := [(0, some false, [.fl (.int .i64)])]
@[reducible] def laws_b10Abs.pr : CompPs := [(false, [.fl (.int .i64)])]
abbrev laws_b10Abs.N := Int
noncomputable def laws_b10Abs.E (k : Nat) : List (FuncId × Go.Rv.Fn) := []
noncomputable def laws_b10Abs.f (k : Nat) (a0 : Int) : Option laws_b10Abs.N := (if (decide (a0 < 0)) = true then some (wrap64 (0 - a0)) else some a0)
noncomputable def laws_b10Abs.F (k : Nat) : Go.Rv.Fn := mkFn 1 laws_b10Abs.pc laws_b10Abs.pr (keepOf []) (fun (y : laws_b10Abs.N) => (((y, ()), ()) : compT laws_b10Abs.pr)) fun x => laws_b10Abs.f k x.1.1
theorem laws_b10Abs.env (k : Nat) : EnvOk Go.Proofs.Try.prog (fun f => (laws_b10Abs.E k).lookup f) := envOk_of trivial
theorem laws_b10Abs.ok (k : Nat) : FnOk Go.Proofs.Try.prog 20 (laws_b10Abs.F k) :=
  fn_ok tab (laws_b10Abs.env k) Go.Proofs.Try.func20 rfl (n := 1) (Nat.le_of_ble_eq_true rfl) (by kernel_rfl) (outs := []) (by kernel_rfl) (by kernel_rfl) (d := fun (y : compT laws_b10Abs.pr) => (y.1.1 : laws_b10Abs.N)) (fun _ => rfl) (C := fun _ => []) (k := k) noCuts fun x => by kernel_rfl
/-! laws.FnNearest -/
@[reducible] def laws_FnNearest.pc : CutP := [(0, some false, [.fl (.lo (.int .u8))]), (1, some false, [.fl (.lo (.int .u8))])]
@[reducible] def laws_FnNearest.pr : CompPs := [(false, [.fl .bool])]
abbrev laws_FnNearest.N := Bool
noncomputable def laws_FnNearest.E (k : Nat) : List (FuncId × Go.Rv.Fn) := [(10, laws_b10Long.F k), (12, laws_b10At.F k), (14, spec_B10Follow.F k), (17, impl_ValidTube.F k), (18, impl_NearestTurn.F k), (19, impl_TotalTurn.F k), (20, laws_b10Abs.F k)]
abbrev laws_FnNearest.Cs := (Int → Int → Int → Int → Int → Int → Int → Option laws_FnNearest.N)
def laws_FnNearest.zero : laws_FnNearest.Cs := (fun _ _ _ _ _ _ _ => none)
noncomputable def laws_FnNearest.step (k : Nat) (c : laws_FnNearest.Cs) : laws_FnNearest.Cs := (fun (x0 : Int) (x1 : Int) (x2 : Int) (x3 : Int) (x4 : Int) (x5 : Int) (x6 : Int) => (laws_b10Abs.f k (wrap64 (x0 - x3))).bind fun (t12 : Int) => (laws_b10Abs.f k (wrap64 (x1 - x4))).bind fun (t13 : Int) => (if (decide ((wrap64 (t12 + t13)) = x2)) = true then (laws_b10Abs.f k (wrap64 (x0 - x5))).bind fun (t14 : Int) => (laws_b10Abs.f k (wrap64 (x1 - x6))).bind fun (t15 : Int) => some (decide (x2 ≤ (wrap64 (t14 + t15)))) else some false))
noncomputable def laws_FnNearest.cs (k : Nat) : Nat → laws_FnNearest.Cs
  | 0 => laws_FnNearest.zero
  | n + 1 => laws_FnNearest.step k (laws_FnNearest.cs k n)
def laws_FnNearest.CC (c : laws_FnNearest.Cs) : Cuts laws_FnNearest.N := [(26, ⟨[(7, some false, [.fl (.int .i64)]), (8, some false, [.fl (.int .i64)]), (10, some false, [.fl (.int .i64)]), (13, some false, [.fl (.int .i64)]), (14, some false, [.fl (.int .i64)]), (16, some false, [.fl (.int .i64)]), (17, some false, [.fl (.int .i64)])], fun x => c x.1.1 x.2.1.1 x.2.2.1.1 x.2.2.2.1.1 x.2.2.2.2.1.1 x.2.2.2.2.2.1.1 x.2.2.2.2.2.2.1.1⟩)]
noncomputable def laws_FnNearest.f (k : Nat) (a0 : List Int) (a1 : List Int) : Option laws_FnNearest.N := (laws_b10Long.f k a0 a1).bind fun t1 => (if t1 = true then some true else (laws_b10At.f k a0 0 2).bind fun (t2 : Int) => (laws_b10At.f k a0 1 16).bind fun (t3 : Int) => (laws_b10At.f k a0 2 3).bind fun (t4 : Int) => (laws_b10At.f k a0 3 61).bind fun (t5 : Int) => (laws_b10At.f k a0 4 61).bind fun (t6 : Int) => (impl_NearestTurn.f k t2 t3 (wrap64 (1 + t4)) (wrap64 (t5 - 30)) (wrap64 (t6 - 30))).bind fun t7 => (spec_B10Follow.f k a1 (wrap64 (1 + t4)) t2 t3).bind fun t8 => (impl_TotalTurn.f k t7.1).bind fun t9 => (impl_TotalTurn.f k t8).bind fun t10 => (if (!t7.2.2) = true then some false else (if (!t9.2.2) = true then some false else (if (!t10.2.2) = true then some false else (if (!decide ((t7.1.length : Int) = (wrap64 (1 + t4)))) = true then some false else if [(t2, t3)].length + t7.1.length < 549755813888 then (impl_ValidTube.f k ([(t2, t3)] ++ t7.1)).bind fun t11 => (if (!t11) = true then some false else (laws_FnNearest.cs k k) (wrap64 (t5 - 30)) (wrap64 (t6 - 30)) t7.2.1 t9.1 t9.2.1 t10.1 t10.2.1) else none)))))
noncomputable def laws_FnNearest.F (k : Nat) : Go.Rv.Fn := mkFn 2 laws_FnNearest.pc laws_FnNearest.pr (keepOf []) (fun (y : laws_FnNearest.N) => (((y, ()), ()) : compT laws_FnNearest.pr)) fun x => laws_FnNearest.f k x.1.1 x.2.1.1
theorem laws_FnNearest.env (k : Nat) : EnvOk Go.Proofs.Try.prog (fun f => (laws_FnNearest.E k).lookup f) := envOk_of ⟨entry Go.Proofs.Try.call10 rfl (laws_b10Long.ok k), entry Go.Proofs.Try.call12 rfl (laws_b10At.ok k), entry Go.Proofs.Try.call14 rfl (spec_B10Follow.ok k), entry Go.Proofs.Try.call17 rfl (impl_ValidTube.ok k), entry Go.Proofs.Try.call18 rfl (impl_NearestTurn.ok k), entry Go.Proofs.Try.call19 rfl (impl_TotalTurn.ok k), entry Go.Proofs.Try.call20 rfl (laws_b10Abs.ok k), trivial⟩
theorem laws_FnNearest.cuts (k : Nat) : CutsOk Go.Proofs.Try.prog X (fun f => (laws_FnNearest.E k).lookup f) Go.Proofs.Try.f4 [] (decN laws_FnNearest.pr (fun (y : compT laws_FnNearest.pr) => (y.1.1 : laws_FnNearest.N))) fun n => laws_FnNearest.CC (laws_FnNearest.cs k n) :=
  cutsOk_of (step := laws_FnNearest.step k) rfl (fun _ => rfl) ⟨fun _ => rfl, trivial⟩ (fun c => by kernel_rfl) fun c => ⟨fun x => by kernel_rfl, trivial⟩
theorem laws_FnNearest.ok (k : Nat) : FnOk Go.Proofs.Try.prog 4 (laws_FnNearest.F k) :=
  fn_ok tab (laws_FnNearest.env k) Go.Proofs.Try.func4 rfl (n := 2) (Nat.le_of_ble_eq_true rfl) (by kernel_rfl) (outs := []) (by kernel_rfl) (by kernel_rfl) (d := fun (y : compT laws_FnNearest.pr) => (y.1.1 : laws_FnNearest.N)) (fun _ => rfl) (C := fun n => laws_FnNearest.CC (laws_FnNearest.cs k n)) (k := k) (laws_FnNearest.cuts k) fun x => by kernel_rfl
/-! (*spec.l00Src).one -/
@[reducible] def spec_l00Src_one.bp : List FPat := [(.lo (.int .u8)), (.int .i64), (.int .u64)]
@[reducible] def spec_l00Src_one.pc : CutP := [(0, none, [.fl (.lo (.int .u8)), .fl (.int .i64), .fl (.int .u64)]), (1, some false, [.fl (.int .i64)])]
@[reducible] def spec_l00Src_one.pr : CompPs := [(false, [.fl .bool])]
abbrev spec_l00Src_one.N := Bool × List Int × Int × Int
noncomputable def spec_l00Src_one.E (k : Nat) : List (FuncId × Go.Rv.Fn) := [(48, spec_l00Src_pick.F k)]
noncomputable def spec_l00Src_one.f (k : Nat) (a0 : List Int) (a1 : Int) (a2 : Int) (a3 : Int) : Option spec_l00Src_one.N := (spec_l00Src_pick.f k a0 a1 a2 a3).bind fun t1 => some ((decide (t1.1 = 0)), t1.2.1, t1.2.2.1, t1.2.2.2)
noncomputable def spec_l00Src_one.F (k : Nat) : Go.Rv.Fn := mkFnB 1 spec_l00Src_one.pc spec_l00Src_one.pr spec_l00Src_one.bp (fun (y : spec_l00Src_one.N) => ((((y.1, ()), ()), (y.2.1, y.2.2.1, y.2.2.2, ())) : compT spec_l00Src_one.pr × fpatsT spec_l00Src_one.bp)) fun x => spec_l00Src_one.f k x.1.1 x.1.2.1 x.1.2.2.1 x.2.1.1
theorem spec_l00Src_one.env (k : Nat) : EnvOk Go.Proofs.Try.prog (fun f => (spec_l00Src_one.E k).lookup f) := envOk_of ⟨entryB Go.Proofs.Try.call48 rfl (spec_l00Src_pick.ok k), trivial⟩
theorem spec_l00Src_one.ok (k : Nat) : FnOkB Go.Proofs.Try.prog 83 (spec_l00Src_one.F k) :=
  fn_okB tab (spec_l00Src_one.env k) Go.Proofs.Try.func83 rfl (n := 1) (Nat.le_of_ble_eq_true rfl) (by kernel_rfl) (by kernel_rfl) (by kernel_rfl) (d := fun (y : compT spec_l00Src_one.pr × fpatsT spec_l00Src_one.bp) => ((y.1.1.1, y.2.1, y.2.2.1, y.2.2.2.1) : spec_l00Src_one.N)) (fun _ => rfl) (C := (fun _ => [])) (k := k) noCutsG fun x => by kernel_rfl
/-! spec.l02DrawPose -/
@[reducible] def spec_l02DrawPose.bp : List FPat := [(.hi (.int .u8)), (.int .i64), (.int .u64)]
@[reducible] def spec_l02DrawPose.pc : CutP := [(0, none, [.fl (.lo (.int .u8)), .fl (.int .i64), .fl (.int .u64)])]
@[reducible] def spec_l02DrawPose.pr : CompPs := [(true, [.fl (.int .i64), .fl (.int .i64), .fl (.int .i64), .fl (.int .i64)])]
abbrev spec_l02DrawPose.N := Int × Int × Int × Int × List Int × Int × Int
noncomputable def spec_l02DrawPose.E (k : Nat) : List (FuncId × Go.Rv.Fn) := [(48, spec_l00Src_pick.F k), (83, spec_l00Src_one.F k), (84, spec_l00Src_among.F k)]
noncomputable def spec_l02DrawPose.f (k : Nat) (a0 : List Int) (a1 : Int) (a2 : Int) : Option spec_l02DrawPose.N := (spec_l00Src_pick.f k a0 a1 a2 101).bind fun t1 => (spec_l00Src_pick.f k t1.2.1 t1.2.2.1 t1.2.2.2 101).bind fun t2 => (spec_l00Src_pick.f k t2.2.1 t2.2.2.1 t2.2.2.2 21).bind fun t3 => (spec_l00Src_pick.f k t3.2.1 t3.2.2.1 t3.2.2.2 21).bind fun t4 => (spec_l00Src_one.f k t4.2.1 t4.2.2.1 t4.2.2.2 12).bind fun t5 => (if t5.1 = true then (spec_l00Src_among.f k t5.2.1 t5.2.2.1 t5.2.2.2 [(-100000), 99990, 100000]).bind fun t6 => (spec_l00Src_one.f k t6.2.1 t6.2.2.1 t6.2.2.2 12).bind fun t7 => (if t7.1 = true then (spec_l00Src_among.f k t7.2.1 t7.2.2.1 t7.2.2.2 [(-400), 395, 400]).bind fun t8 => some (t6.1, (wrap64 (t2.1 - 50)), (wrap64 (t3.1 - 10)), t8.1, t8.2.1, t8.2.2.1, t8.2.2.2) else some (t6.1, (wrap64 (t2.1 - 50)), (wrap64 (t3.1 - 10)), (wrap64 (t4.1 - 10)), t7.2.1, t7.2.2.1, t7.2.2.2)) else (spec_l00Src_one.f k t5.2.1 t5.2.2.1 t5.2.2.2 12).bind fun t9 => (if t9.1 = true then (spec_l00Src_among.f k t9.2.1 t9.2.2.1 t9.2.2.2 [(-400), 395, 400]).bind fun t10 => some ((wrap64 (t1.1 - 50)), (wrap64 (t2.1 - 50)), (wrap64 (t3.1 - 10)), t10.1, t10.2.1, t10.2.2.1, t10.2.2.2) else some ((wrap64 (t1.1 - 50)), (wrap64 (t2.1 - 50)), (wrap64 (t3.1 - 10)), (wrap64 (t4.1 - 10)), t9.2.1, t9.2.2.1, t9.2.2.2)))
noncomputable def spec_l02DrawPose.F (k : Nat) : Go.Rv.Fn := mkFnB 0 spec_l02DrawPose.pc spec_l02DrawPose.pr spec_l02DrawPose.bp (fun (y : spec_l02DrawPose.N) => ((((y.1, y.2.1, y.2.2.1, y.2.2.2.1, ()), ()), (y.2.2.2.2.1, y.2.2.2.2.2.1, y.2.2.2.2.2.2, ())) : compT spec_l02DrawPose.pr × fpatsT spec_l02DrawPose.bp)) fun x => spec_l02DrawPose.f k x.1.1 x.1.2.1 x.1.2.2.1
theorem spec_l02DrawPose.env (k : Nat) : EnvOk Go.Proofs.Try.prog (fun f => (spec_l02DrawPose.E k).lookup f) := envOk_of ⟨entryB Go.Proofs.Try.call48 rfl (spec_l00Src_pick.ok k), entryB Go.Proofs.Try.call83 rfl (spec_l00Src_one.ok k), entryB Go.Proofs.Try.call84 rfl (spec_l00Src_among.ok k), trivial⟩
theorem spec_l02DrawPose.ok (k : Nat) : FnOkB Go.Proofs.Try.prog 82 (spec_l02DrawPose.F k) :=
  fn_okB tab (spec_l02DrawPose.env k) Go.Proofs.Try.func82 rfl (n := 0) (Nat.le_of_ble_eq_true rfl) (by kernel_rfl) (by kernel_rfl) (by kernel_rfl) (d := fun (y : compT spec_l02DrawPose.pr × fpatsT spec_l02DrawPose.bp) => ((y.1.1.1, y.1.1.2.1, y.1.1.2.2.1, y.1.1.2.2.2.1, y.2.1, y.2.2.1, y.2.2.2.1) : spec_l02DrawPose.N)) (fun _ => rfl) (C := (fun _ => [])) (k := k) noCutsG fun x => by kernel_rfl
/-! spec.l00In -/
@[reducible] def spec_l00In.pc : CutP := [(0, some false, [.fl (.int .i64)]), (1, some false, [.fl (.int .i64)]), (2, some false, [.fl (.int .i64)])]
@[reducible] def spec_l00In.pr : CompPs := [(false, [.fl .bool])]
abbrev spec_l00In.N := Bool
noncomputable def spec_l00In.E (k : Nat) : List (FuncId × Go.Rv.Fn) := []
noncomputable def spec_l00In.f (k : Nat) (a0 : Int) (a1 : Int) (a2 : Int) : Option spec_l00In.N := (if (decide (a1 ≤ a0)) = true then some (decide (a0 ≤ a2)) else some false)
noncomputable def spec_l00In.F (k : Nat) : Go.Rv.Fn := mkFn 3 spec_l00In.pc spec_l00In.pr (keepOf []) (fun (y : spec_l00In.N) => (((y, ()), ()) : compT spec_l00In.pr)) fun x => spec_l00In.f k x.1.1 x.2.1.1 x.2.2.1.1
theorem spec_l00In.env (k : Nat) : EnvOk Go.Proofs.Try.prog (fun f => (spec_l00In.E k).lookup f) := envOk_of trivial
theorem spec_l00In.ok (k : Nat) : FnOk Go.Proofs.Try.prog 60 (spec_l00In.F k) :=
  fn_ok tab (spec_l00In.env k) Go.Proofs.Try.func60 rfl (n := 3) (Nat.le_of_ble_eq_true rfl) (by kernel_rfl) (outs := []) (by kernel_rfl) (by kernel_rfl) (d := fun (y : compT spec_l00In.pr) => (y.1.1 : spec_l00In.N)) (fun _ => rfl) (C := fun _ => []) (k := k) noCuts fun x => by kernel_rfl
/-! spec.l02Pose -/
@[reducible] def spec_l02Pose.pc : CutP := [(0, some true, [.fl (.int .i64), .fl (.int .i64), .fl (.int .i64), .fl (.int .i64)])]
@[reducible] def spec_l02Pose.pr : CompPs := [(false, [.fl .bool])]
abbrev spec_l02Pose.N := Bool
noncomputable def spec_l02Pose.E (k : Nat) : List (FuncId × Go.Rv.Fn) := [(60, spec_l00In.F k)]
noncomputable def spec_l02Pose.f (k : Nat) (a0 : Int) (a1 : Int) (a2 : Int) (a3 : Int) : Option spec_l02Pose.N := (spec_l00In.f k a0 (-100000) 100000).bind fun t1 => (if t1 = true then (spec_l00In.f k a1 (-100000) 100000).bind fun t2 => (if t2 = true then (spec_l00In.f k a2 (-400) 400).bind fun t3 => (if t3 = true then (spec_l00In.f k a3 (-400) 400).bind fun t4 => some t4 else some false) else some false) else some false)
noncomputable def spec_l02Pose.F (k : Nat) : Go.Rv.Fn := mkFn 1 spec_l02Pose.pc spec_l02Pose.pr (keepOf []) (fun (y : spec_l02Pose.N) => (((y, ()), ()) : compT spec_l02Pose.pr)) fun x => spec_l02Pose.f k x.1.1 x.1.2.1 x.1.2.2.1 x.1.2.2.2.1
theorem spec_l02Pose.env (k : Nat) : EnvOk Go.Proofs.Try.prog (fun f => (spec_l02Pose.E k).lookup f) := envOk_of ⟨entry Go.Proofs.Try.call60 rfl (spec_l00In.ok k), trivial⟩
theorem spec_l02Pose.ok (k : Nat) : FnOk Go.Proofs.Try.prog 50 (spec_l02Pose.F k) :=
  fn_ok tab (spec_l02Pose.env k) Go.Proofs.Try.func50 rfl (n := 1) (Nat.le_of_ble_eq_true rfl) (by kernel_rfl) (outs := []) (by kernel_rfl) (by kernel_rfl) (d := fun (y : compT spec_l02Pose.pr) => (y.1.1 : spec_l02Pose.N)) (fun _ => rfl) (C := fun _ => []) (k := k) noCuts fun x => by kernel_rfl
/-! spec.l02Turn -/
@[reducible] def spec_l02Turn.pc : CutP := [(0, some false, [.fl (.int .i64)]), (1, some false, [.fl (.int .i64)])]
@[reducible] def spec_l02Turn.pr : CompPs := [(false, [.fl .bool])]
abbrev spec_l02Turn.N := Bool
noncomputable def spec_l02Turn.E (k : Nat) : List (FuncId × Go.Rv.Fn) := [(60, spec_l00In.F k)]
noncomputable def spec_l02Turn.f (k : Nat) (a0 : Int) (a1 : Int) : Option spec_l02Turn.N := (spec_l00In.f k a0 (-12) 12).bind fun t1 => (if t1 = true then (spec_l00In.f k a1 (-12) 12).bind fun t2 => some t2 else some false)
noncomputable def spec_l02Turn.F (k : Nat) : Go.Rv.Fn := mkFn 2 spec_l02Turn.pc spec_l02Turn.pr (keepOf []) (fun (y : spec_l02Turn.N) => (((y, ()), ()) : compT spec_l02Turn.pr)) fun x => spec_l02Turn.f k x.1.1 x.2.1.1
theorem spec_l02Turn.env (k : Nat) : EnvOk Go.Proofs.Try.prog (fun f => (spec_l02Turn.E k).lookup f) := envOk_of ⟨entry Go.Proofs.Try.call60 rfl (spec_l00In.ok k), trivial⟩
theorem spec_l02Turn.ok (k : Nat) : FnOk Go.Proofs.Try.prog 111 (spec_l02Turn.F k) :=
  fn_ok tab (spec_l02Turn.env k) Go.Proofs.Try.func111 rfl (n := 2) (Nat.le_of_ble_eq_true rfl) (by kernel_rfl) (outs := []) (by kernel_rfl) (by kernel_rfl) (d := fun (y : compT spec_l02Turn.pr) => (y.1.1 : spec_l02Turn.N)) (fun _ => rfl) (C := fun _ => []) (k := k) noCuts fun x => by kernel_rfl
/-! spec.l02Next -/
@[reducible] def spec_l02Next.pc : CutP := [(0, some true, [.fl (.int .i64), .fl (.int .i64), .fl (.int .i64), .fl (.int .i64)]), (1, some false, [.fl (.int .i64)]), (2, some false, [.fl (.int .i64)])]
@[reducible] def spec_l02Next.pr : CompPs := [(true, [.fl (.int .i64), .fl (.int .i64), .fl (.int .i64), .fl (.int .i64)])]
abbrev spec_l02Next.N := Int × Int × Int × Int
noncomputable def spec_l02Next.E (k : Nat) : List (FuncId × Go.Rv.Fn) := []
noncomputable def spec_l02Next.f (k : Nat) (a0 : Int) (a1 : Int) (a2 : Int) (a3 : Int) (a4 : Int) (a5 : Int) : Option spec_l02Next.N := some ((wrap64 (a0 + a2)), (wrap64 (a1 + a3)), (wrap64 (a2 + a4)), (wrap64 (a3 + a5)))
noncomputable def spec_l02Next.F (k : Nat) : Go.Rv.Fn := mkFn 3 spec_l02Next.pc spec_l02Next.pr (keepOf []) (fun (y : spec_l02Next.N) => (((y.1, y.2.1, y.2.2.1, y.2.2.2, ()), ()) : compT spec_l02Next.pr)) fun x => spec_l02Next.f k x.1.1 x.1.2.1 x.1.2.2.1 x.1.2.2.2.1 x.2.1.1 x.2.2.1.1
theorem spec_l02Next.env (k : Nat) : EnvOk Go.Proofs.Try.prog (fun f => (spec_l02Next.E k).lookup f) := envOk_of trivial
theorem spec_l02Next.ok (k : Nat) : FnOk Go.Proofs.Try.prog 88 (spec_l02Next.F k) :=
  fn_ok tab (spec_l02Next.env k) Go.Proofs.Try.func88 rfl (n := 3) (Nat.le_of_ble_eq_true rfl) (by kernel_rfl) (outs := []) (by kernel_rfl) (by kernel_rfl) (d := fun (y : compT spec_l02Next.pr) => ((y.1.1, y.1.2.1, y.1.2.2.1, y.1.2.2.2.1) : spec_l02Next.N)) (fun _ => rfl) (C := fun _ => []) (k := k) noCuts fun x => by kernel_rfl
/-! spec.l02Is -/
@[reducible] def spec_l02Is.pc : CutP := [(0, some false, [.rptr [(.int .i64), (.int .i64), (.int .i64), (.int .i64), (.lo (.pair (.int .i64) (.pair (.int .i64) (.int .i64))))]])]
@[reducible] def spec_l02Is.pr : CompPs := [(false, [.fl .bool])]
abbrev spec_l02Is.N := Bool
noncomputable def spec_l02Is.E (k : Nat) : List (FuncId × Go.Rv.Fn) := [(50, spec_l02Pose.F k), (60, spec_l00In.F k), (88, spec_l02Next.F k), (111, spec_l02Turn.F k)]
abbrev spec_l02Is.Cs := (Int → Int → Int → Int → List (Int × Int × Int) → Option spec_l02Is.N) × (Int → Int → Int → Int → List (Int × Int × Int) → Int → Int → Int → Int → Int → Int → Option spec_l02Is.N) × (Int → Int → Int → Int → List (Int × Int × Int) → Int → Int → Int → Int → Int → Int → Int → Int → Int → Option spec_l02Is.N) × (Int → Int → Int → Int → List (Int × Int × Int) → Int → Int → Int → Int → Int → Int → Int → Int → Int → Int → Option spec_l02Is.N)
def spec_l02Is.zero : spec_l02Is.Cs := (fun _ _ _ _ _ => none, fun _ _ _ _ _ _ _ _ _ _ _ => none, fun _ _ _ _ _ _ _ _ _ _ _ _ _ _ => none, fun _ _ _ _ _ _ _ _ _ _ _ _ _ _ _ => none)
noncomputable def spec_l02Is.step (k : Nat) (c : spec_l02Is.Cs) : spec_l02Is.Cs := (fun (x0 : Int) (x1 : Int) (x2 : Int) (x3 : Int) (x4 : List (Int × Int × Int)) => c.2.1 x0 x1 x2 x3 x4 0 x0 x1 x2 x3 0,
  fun (x0 : Int) (x1 : Int) (x2 : Int) (x3 : Int) (x4 : List (Int × Int × Int)) (x5 : Int) (x6 : Int) (x7 : Int) (x8 : Int) (x9 : Int) (x10 : Int) => (if (decide (x10 < (x4.length : Int))) = true then if 0 ≤ x10 then if x10 < (x4.length : Int) then (spec_l00In.f k ((rd (0, (0, 0)) x4 x10).1) 1 (wrap64 (60 - x5))).bind fun t3 => (if (!t3) = true then some false else (spec_l02Turn.f k (((rd (0, (0, 0)) x4 x10).2).1) (((rd (0, (0, 0)) x4 x10).2).2)).bind fun t4 => (if (!t4) = true then some false else c.2.2.1 x0 x1 x2 x3 x4 x5 x6 x7 x8 x9 x10 ((rd (0, (0, 0)) x4 x10).1) (((rd (0, (0, 0)) x4 x10).2).1) (((rd (0, (0, 0)) x4 x10).2).2))) else none else none else some true),
  fun (x0 : Int) (x1 : Int) (x2 : Int) (x3 : Int) (x4 : List (Int × Int × Int)) (x5 : Int) (x6 : Int) (x7 : Int) (x8 : Int) (x9 : Int) (x10 : Int) (x11 : Int) (x12 : Int) (x13 : Int) => c.2.2.2 x0 x1 x2 x3 x4 (wrap64 (x5 + x11)) x6 x7 x8 x9 x10 x11 x12 x13 0,
  fun (x0 : Int) (x1 : Int) (x2 : Int) (x3 : Int) (x4 : List (Int × Int × Int)) (x5 : Int) (x6 : Int) (x7 : Int) (x8 : Int) (x9 : Int) (x10 : Int) (x11 : Int) (x12 : Int) (x13 : Int) (x14 : Int) => (if (decide (x14 < x11)) = true then (spec_l02Next.f k x6 x7 x8 x9 x12 x13).bind fun t5 => (spec_l02Pose.f k t5.1 t5.2.1 t5.2.2.1 t5.2.2.2).bind fun t6 => (if (!t6) = true then some false else c.2.2.2 x0 x1 x2 x3 x4 x5 t5.1 t5.2.1 t5.2.2.1 t5.2.2.2 x10 x11 x12 x13 (wrap64 (x14 + 1))) else c.2.1 x0 x1 x2 x3 x4 x5 x6 x7 x8 x9 (wrap64 (x10 + 1))))
noncomputable def spec_l02Is.cs (k : Nat) : Nat → spec_l02Is.Cs
  | 0 => spec_l02Is.zero
  | n + 1 => spec_l02Is.step k (spec_l02Is.cs k n)
def spec_l02Is.CC (c : spec_l02Is.Cs) : Cuts spec_l02Is.N := [(2, ⟨[(0, some false, [.rptr [(.int .i64), (.int .i64), (.int .i64), (.int .i64), (.lo (.pair (.int .i64) (.pair (.int .i64) (.int .i64))))]])], fun x => c.1 x.1.1.1 x.1.1.2.1 x.1.1.2.2.1 x.1.1.2.2.2.1 x.1.1.2.2.2.2.1⟩),
  (18, ⟨[(0, some false, [.rptr [(.int .i64), (.int .i64), (.int .i64), (.int .i64), (.lo (.pair (.int .i64) (.pair (.int .i64) (.int .i64))))]]), (3, some false, [.fl (.int .i64)]), (4, none, [.fl (.int .i64), .fl (.int .i64), .fl (.int .i64), .fl (.int .i64)]), (5, some false, [.fl (.int .i64)])], fun x => c.2.1 x.1.1.1 x.1.1.2.1 x.1.1.2.2.1 x.1.1.2.2.2.1 x.1.1.2.2.2.2.1 x.2.1.1 x.2.2.1.1 x.2.2.1.2.1 x.2.2.1.2.2.1 x.2.2.1.2.2.2.1 x.2.2.2.1.1⟩),
  (29, ⟨[(0, some false, [.rptr [(.int .i64), (.int .i64), (.int .i64), (.int .i64), (.lo (.pair (.int .i64) (.pair (.int .i64) (.int .i64))))]]), (3, some false, [.fl (.int .i64)]), (4, none, [.fl (.int .i64), .fl (.int .i64), .fl (.int .i64), .fl (.int .i64)]), (5, some false, [.fl (.int .i64)]), (6, none, [.fl (.int .i64), .fl (.int .i64), .fl (.int .i64)])], fun x => c.2.2.1 x.1.1.1 x.1.1.2.1 x.1.1.2.2.1 x.1.1.2.2.2.1 x.1.1.2.2.2.2.1 x.2.1.1 x.2.2.1.1 x.2.2.1.2.1 x.2.2.1.2.2.1 x.2.2.1.2.2.2.1 x.2.2.2.1.1 x.2.2.2.2.1.1 x.2.2.2.2.1.2.1 x.2.2.2.2.1.2.2.1⟩),
  (42, ⟨[(0, some false, [.rptr [(.int .i64), (.int .i64), (.int .i64), (.int .i64), (.lo (.pair (.int .i64) (.pair (.int .i64) (.int .i64))))]]), (3, some false, [.fl (.int .i64)]), (4, none, [.fl (.int .i64), .fl (.int .i64), .fl (.int .i64), .fl (.int .i64)]), (5, some false, [.fl (.int .i64)]), (6, none, [.fl (.int .i64), .fl (.int .i64), .fl (.int .i64)]), (7, some false, [.fl (.int .i64)])], fun x => c.2.2.2 x.1.1.1 x.1.1.2.1 x.1.1.2.2.1 x.1.1.2.2.2.1 x.1.1.2.2.2.2.1 x.2.1.1 x.2.2.1.1 x.2.2.1.2.1 x.2.2.1.2.2.1 x.2.2.1.2.2.2.1 x.2.2.2.1.1 x.2.2.2.2.1.1 x.2.2.2.2.1.2.1 x.2.2.2.2.1.2.2.1 x.2.2.2.2.2.1.1⟩)]
noncomputable def spec_l02Is.f (k : Nat) (a0 : Int) (a1 : Int) (a2 : Int) (a3 : Int) (a4 : List (Int × Int × Int)) : Option spec_l02Is.N := (spec_l02Pose.f k a0 a1 a2 a3).bind fun t1 => (if (!t1) = true then some false else (spec_l00In.f k (a4.length : Int) 1 8).bind fun t2 => (if (!t2) = true then some false else (spec_l02Is.cs k k).1 a0 a1 a2 a3 a4))
noncomputable def spec_l02Is.F (k : Nat) : Go.Rv.Fn := mkFn 1 spec_l02Is.pc spec_l02Is.pr (keepOf []) (fun (y : spec_l02Is.N) => (((y, ()), ()) : compT spec_l02Is.pr)) fun x => spec_l02Is.f k x.1.1.1 x.1.1.2.1 x.1.1.2.2.1 x.1.1.2.2.2.1 x.1.1.2.2.2.2.1
theorem spec_l02Is.env (k : Nat) : EnvOk Go.Proofs.Try.prog (fun f => (spec_l02Is.E k).lookup f) := envOk_of ⟨entry Go.Proofs.Try.call50 rfl (spec_l02Pose.ok k), entry Go.Proofs.Try.call60 rfl (spec_l00In.ok k), entry Go.Proofs.Try.call88 rfl (spec_l02Next.ok k), entry Go.Proofs.Try.call111 rfl (spec_l02Turn.ok k), trivial⟩
theorem spec_l02Is.cuts (k : Nat) : CutsOk Go.Proofs.Try.prog X (fun f => (spec_l02Is.E k).lookup f) Go.Proofs.Try.f85 [] (decN spec_l02Is.pr (fun (y : compT spec_l02Is.pr) => (y.1.1 : spec_l02Is.N))) fun n => spec_l02Is.CC (spec_l02Is.cs k n) :=
  cutsOk_of (step := spec_l02Is.step k) rfl (fun _ => rfl) ⟨fun _ => rfl, fun _ => rfl, fun _ => rfl, fun _ => rfl, trivial⟩ (fun c => by kernel_rfl) fun c => ⟨fun x => by kernel_rfl, fun x => by kernel_rfl, fun x => by kernel_rfl, fun x => by kernel_rfl, trivial⟩
theorem spec_l02Is.ok (k : Nat) : FnOk Go.Proofs.Try.prog 85 (spec_l02Is.F k) :=
  fn_ok tab (spec_l02Is.env k) Go.Proofs.Try.func85 rfl (n := 1) (Nat.le_of_ble_eq_true rfl) (by kernel_rfl) (outs := []) (by kernel_rfl) (by kernel_rfl) (d := fun (y : compT spec_l02Is.pr) => (y.1.1 : spec_l02Is.N)) (fun _ => rfl) (C := fun n => spec_l02Is.CC (spec_l02Is.cs k n)) (k := k) (spec_l02Is.cuts k) fun x => by kernel_rfl
/-! spec.l02DrawOk -/
@[reducible] def spec_l02DrawOk.bp : List FPat := [(.hi (.int .u8)), (.int .i64), (.int .u64)]
@[reducible] def spec_l02DrawOk.pc : CutP := [(0, none, [.fl (.lo (.int .u8)), .fl (.int .i64), .fl (.int .u64)])]
@[reducible] def spec_l02DrawOk.pr : CompPs := [(true, [.fl (.int .i64), .fl (.int .i64), .fl (.int .i64), .fl (.int .i64), .fl (.own (.pair (.int .i64) (.pair (.int .i64) (.int .i64))))])]
abbrev spec_l02DrawOk.N := Int × Int × Int × Int × List (Int × Int × Int) × List Int × Int × Int
noncomputable def spec_l02DrawOk.E (k : Nat) : List (FuncId × Go.Rv.Fn) := [(48, spec_l00Src_pick.F k), (82, spec_l02DrawPose.F k), (83, spec_l00Src_one.F k), (84, spec_l00Src_among.F k), (85, spec_l02Is.F k)]
abbrev spec_l02DrawOk.Cs := (List Int → Int → Int → Int → Int → Int → Int → Int → Int → Int → Int → List (Int × Int × Int) → Int → Option spec_l02DrawOk.N) × (List Int → Int → Int → Int → Int → Int → Int → Int → Int → Int → Int → List (Int × Int × Int) → Option spec_l02DrawOk.N)
def spec_l02DrawOk.zero : spec_l02DrawOk.Cs := (fun _ _ _ _ _ _ _ _ _ _ _ _ _ => none, fun _ _ _ _ _ _ _ _ _ _ _ _ => none)
noncomputable def spec_l02DrawOk.step (k : Nat) (c : spec_l02DrawOk.Cs) : spec_l02DrawOk.Cs := (fun (x0 : List Int) (x1 : Int) (x2 : Int) (x3 : Int) (x4 : Int) (x5 : Int) (x6 : Int) (x7 : Int) (x8 : Int) (x9 : Int) (x10 : Int) (x11 : List (Int × Int × Int)) (x12 : Int) => (if (decide (0 < x12)) = true then (spec_l00Src_pick.f k x0 x1 x2 5).bind fun t3 => (spec_l00Src_pick.f k t3.2.1 t3.2.2.1 t3.2.2.2 5).bind fun t4 => (spec_l00Src_pick.f k t4.2.1 t4.2.2.1 t4.2.2.2 5).bind fun t5 => (spec_l00Src_one.f k t5.2.1 t5.2.2.1 t5.2.2.2 10).bind fun t6 => (if t6.1 = true then (spec_l00Src_among.f k t6.2.1 t6.2.2.1 t6.2.2.2 [(-12), 12]).bind fun t7 => if x11.length + [((wrap64 (1 + t3.1)), (t7.1, (wrap64 (t5.1 - 2))))].length < 366503875925 then c.1 t7.2.1 t7.2.2.1 t7.2.2.2 x3 x4 x5 x6 x7 x8 x9 x10 (x11 ++ [((wrap64 (1 + t3.1)), (t7.1, (wrap64 (t5.1 - 2))))]) (wrap64 (x12 - 1)) else none else if x11.length + [((wrap64 (1 + t3.1)), ((wrap64 (t4.1 - 2)), (wrap64 (t5.1 - 2))))].length < 366503875925 then c.1 t6.2.1 t6.2.2.1 t6.2.2.2 x3 x4 x5 x6 x7 x8 x9 x10 (x11 ++ [((wrap64 (1 + t3.1)), ((wrap64 (t4.1 - 2)), (wrap64 (t5.1 - 2))))]) (wrap64 (x12 - 1)) else none) else (spec_l00Src_one.f k x0 x1 x2 10).bind fun t8 => (if t8.1 = true then c.2 t8.2.1 t8.2.2.1 t8.2.2.2 x3 x4 x5 x6 x7 x8 x9 x10 x11 else (spec_l02Is.f k x7 x8 x9 x10 x11).bind fun t9 => (if (!t9) = true then some (0, 0, 0, 0, x11, t8.2.1, t8.2.2.1, t8.2.2.2) else some (x7, x8, x9, x10, x11, t8.2.1, t8.2.2.1, t8.2.2.2)))),
  fun (x0 : List Int) (x1 : Int) (x2 : Int) (x3 : Int) (x4 : Int) (x5 : Int) (x6 : Int) (x7 : Int) (x8 : Int) (x9 : Int) (x10 : Int) (x11 : List (Int × Int × Int)) => (if (decide ((x11.length : Int) < 8)) = true then (if 3 = 0 then none else if x11.length + [(1, (((x11.length : Int).tmod 3), 0))].length < 366503875925 then c.2 x0 x1 x2 x3 x4 x5 x6 x7 x8 x9 x10 (x11 ++ [(1, (((x11.length : Int).tmod 3), 0))]) else none) else (spec_l02Is.f k x7 x8 x9 x10 x11).bind fun t10 => (if (!t10) = true then some (0, 0, 0, 0, x11, x0, x1, x2) else some (x7, x8, x9, x10, x11, x0, x1, x2))))
noncomputable def spec_l02DrawOk.cs (k : Nat) : Nat → spec_l02DrawOk.Cs
  | 0 => spec_l02DrawOk.zero
  | n + 1 => spec_l02DrawOk.step k (spec_l02DrawOk.cs k n)
def spec_l02DrawOk.CC (c : spec_l02DrawOk.Cs) : Cuts spec_l02DrawOk.N := [(8, ⟨[(0, none, [.fl (.hi (.int .u8)), .fl (.int .i64), .fl (.int .u64)]), (2, none, [.fl (.int .i64), .fl (.int .i64), .fl (.int .i64), .fl (.int .i64), .fl .nils]), (3, none, [.fl (.int .i64), .fl (.int .i64), .fl (.int .i64), .fl (.int .i64), .fl (.own (.pair (.int .i64) (.pair (.int .i64) (.int .i64))))]), (4, some false, [.fl (.int .i64)])], fun x => c.1 x.1.1 x.1.2.1 x.1.2.2.1 x.2.1.1 x.2.1.2.1 x.2.1.2.2.1 x.2.1.2.2.2.1 x.2.2.1.1 x.2.2.1.2.1 x.2.2.1.2.2.1 x.2.2.1.2.2.2.1 x.2.2.1.2.2.2.2.1 x.2.2.2.1.1⟩),
  (36, ⟨[(0, none, [.fl (.hi (.int .u8)), .fl (.int .i64), .fl (.int .u64)]), (2, none, [.fl (.int .i64), .fl (.int .i64), .fl (.int .i64), .fl (.int .i64), .fl .nils]), (3, none, [.fl (.int .i64), .fl (.int .i64), .fl (.int .i64), .fl (.int .i64), .fl (.own (.pair (.int .i64) (.pair (.int .i64) (.int .i64))))])], fun x => c.2 x.1.1 x.1.2.1 x.1.2.2.1 x.2.1.1 x.2.1.2.1 x.2.1.2.2.1 x.2.1.2.2.2.1 x.2.2.1.1 x.2.2.1.2.1 x.2.2.1.2.2.1 x.2.2.1.2.2.2.1 x.2.2.1.2.2.2.2.1⟩)]
noncomputable def spec_l02DrawOk.f (k : Nat) (a0 : List Int) (a1 : Int) (a2 : Int) : Option spec_l02DrawOk.N := (spec_l02DrawPose.f k a0 a1 a2).bind fun t1 => (spec_l00Src_pick.f k t1.2.2.2.2.1 t1.2.2.2.2.2.1 t1.2.2.2.2.2.2 5).bind fun t2 => (spec_l02DrawOk.cs k k).1 t2.2.1 t2.2.2.1 t2.2.2.2 0 0 0 0 t1.1 t1.2.1 t1.2.2.1 t1.2.2.2.1 ([] : List (Int × Int × Int)) (wrap64 (1 + t2.1))
noncomputable def spec_l02DrawOk.F (k : Nat) : Go.Rv.Fn := mkFnB 0 spec_l02DrawOk.pc spec_l02DrawOk.pr spec_l02DrawOk.bp (fun (y : spec_l02DrawOk.N) => ((((y.1, y.2.1, y.2.2.1, y.2.2.2.1, y.2.2.2.2.1, ()), ()), (y.2.2.2.2.2.1, y.2.2.2.2.2.2.1, y.2.2.2.2.2.2.2, ())) : compT spec_l02DrawOk.pr × fpatsT spec_l02DrawOk.bp)) fun x => spec_l02DrawOk.f k x.1.1 x.1.2.1 x.1.2.2.1
theorem spec_l02DrawOk.env (k : Nat) : EnvOk Go.Proofs.Try.prog (fun f => (spec_l02DrawOk.E k).lookup f) := envOk_of ⟨entryB Go.Proofs.Try.call48 rfl (spec_l00Src_pick.ok k), entryB Go.Proofs.Try.call82 rfl (spec_l02DrawPose.ok k), entryB Go.Proofs.Try.call83 rfl (spec_l00Src_one.ok k), entryB Go.Proofs.Try.call84 rfl (spec_l00Src_among.ok k), entry Go.Proofs.Try.call85 rfl (spec_l02Is.ok k), trivial⟩
theorem spec_l02DrawOk.cuts (k : Nat) : CutsOkG Go.Proofs.Try.prog { X with n := Go.Proofs.Try.f46.ntmps, keep := [0] } (fun f => (spec_l02DrawOk.E k).lookup f) Go.Proofs.Try.f46 (endB { X with n := Go.Proofs.Try.f46.ntmps, keep := [0] } Go.Proofs.Try.f46 spec_l02DrawOk.pr spec_l02DrawOk.bp (fun (y : compT spec_l02DrawOk.pr × fpatsT spec_l02DrawOk.bp) => ((y.1.1.1, y.1.1.2.1, y.1.1.2.2.1, y.1.1.2.2.2.1, y.1.1.2.2.2.2.1, y.2.1, y.2.2.1, y.2.2.2.1) : spec_l02DrawOk.N))) fun n => spec_l02DrawOk.CC (spec_l02DrawOk.cs k n) :=
  cutsOkG_of (step := spec_l02DrawOk.step k) rfl (fun _ => rfl) ⟨fun _ => rfl, fun _ => rfl, trivial⟩ (fun c => by kernel_rfl) fun c => ⟨fun x => by kernel_rfl, fun x => by kernel_rfl, trivial⟩
theorem spec_l02DrawOk.ok (k : Nat) : FnOkB Go.Proofs.Try.prog 46 (spec_l02DrawOk.F k) :=
  fn_okB tab (spec_l02DrawOk.env k) Go.Proofs.Try.func46 rfl (n := 0) (Nat.le_of_ble_eq_true rfl) (by kernel_rfl) (by kernel_rfl) (by kernel_rfl) (d := fun (y : compT spec_l02DrawOk.pr × fpatsT spec_l02DrawOk.bp) => ((y.1.1.1, y.1.1.2.1, y.1.1.2.2.1, y.1.1.2.2.2.1, y.1.1.2.2.2.2.1, y.2.1, y.2.2.1, y.2.2.2.1) : spec_l02DrawOk.N)) (fun _ => rfl) (C := (fun n => spec_l02DrawOk.CC (spec_l02DrawOk.cs k n))) (k := k) (spec_l02DrawOk.cuts k) fun x => by kernel_rfl
/-! spec.l02Turns -/
@[reducible] def spec_l02Turns.pc : CutP := [(0, some false, [.rptr [(.int .i64), (.int .i64), (.int .i64), (.int .i64), (.lo (.pair (.int .i64) (.pair (.int .i64) (.int .i64))))]])]
@[reducible] def spec_l02Turns.pr : CompPs := [(false, [.fl (.own (.pair (.int .i64) (.pair (.int .i64) (.int .i64))))])]
abbrev spec_l02Turns.N := List (Int × Int × Int)
noncomputable def spec_l02Turns.E (k : Nat) : List (FuncId × Go.Rv.Fn) := []
abbrev spec_l02Turns.Cs := (Int → Int → Int → Int → List (Int × Int × Int) → List (Int × Int × Int) → Int → Option spec_l02Turns.N) × (Int → Int → Int → Int → List (Int × Int × Int) → List (Int × Int × Int) → Int → Int → Option spec_l02Turns.N)
def spec_l02Turns.zero : spec_l02Turns.Cs := (fun _ _ _ _ _ _ _ => none, fun _ _ _ _ _ _ _ _ => none)
noncomputable def spec_l02Turns.step (k : Nat) (c : spec_l02Turns.Cs) : spec_l02Turns.Cs := (fun (x0 : Int) (x1 : Int) (x2 : Int) (x3 : Int) (x4 : List (Int × Int × Int)) (x5 : List (Int × Int × Int)) (x6 : Int) => (if (decide (x6 < (x4.length : Int))) = true then c.2 x0 x1 x2 x3 x4 x5 x6 0 else some x5),
  fun (x0 : Int) (x1 : Int) (x2 : Int) (x3 : Int) (x4 : List (Int × Int × Int)) (x5 : List (Int × Int × Int)) (x6 : Int) (x7 : Int) => if 0 ≤ x6 then if x6 < (x4.length : Int) then (if (decide (x7 < (rd (0, (0, 0)) x4 x6).1)) = true then if 0 ≤ x6 then if x6 < (x4.length : Int) then if 0 ≤ x6 then if x6 < (x4.length : Int) then if x5.length + [(1, (((rd (0, (0, 0)) x4 x6).2).1, ((rd (0, (0, 0)) x4 x6).2).2))].length < 366503875925 then c.2 x0 x1 x2 x3 x4 (x5 ++ [(1, (((rd (0, (0, 0)) x4 x6).2).1, ((rd (0, (0, 0)) x4 x6).2).2))]) x6 (wrap64 (x7 + 1)) else none else none else none else none else none else c.1 x0 x1 x2 x3 x4 x5 (wrap64 (x6 + 1))) else none else none)
noncomputable def spec_l02Turns.cs (k : Nat) : Nat → spec_l02Turns.Cs
  | 0 => spec_l02Turns.zero
  | n + 1 => spec_l02Turns.step k (spec_l02Turns.cs k n)
def spec_l02Turns.CC (c : spec_l02Turns.Cs) : Cuts spec_l02Turns.N := [(8, ⟨[(0, some false, [.rptr [(.int .i64), (.int .i64), (.int .i64), (.int .i64), (.lo (.pair (.int .i64) (.pair (.int .i64) (.int .i64))))]]), (3, some false, [.fl (.own (.pair (.int .i64) (.pair (.int .i64) (.int .i64))))]), (4, some false, [.fl (.int .i64)])], fun x => c.1 x.1.1.1 x.1.1.2.1 x.1.1.2.2.1 x.1.1.2.2.2.1 x.1.1.2.2.2.2.1 x.2.1.1 x.2.2.1.1⟩),
  (20, ⟨[(0, some false, [.rptr [(.int .i64), (.int .i64), (.int .i64), (.int .i64), (.lo (.pair (.int .i64) (.pair (.int .i64) (.int .i64))))]]), (3, some false, [.fl (.own (.pair (.int .i64) (.pair (.int .i64) (.int .i64))))]), (4, some false, [.fl (.int .i64)]), (5, some false, [.fl (.int .i64)])], fun x => c.2 x.1.1.1 x.1.1.2.1 x.1.1.2.2.1 x.1.1.2.2.2.1 x.1.1.2.2.2.2.1 x.2.1.1 x.2.2.1.1 x.2.2.2.1.1⟩)]
noncomputable def spec_l02Turns.f (k : Nat) (a0 : Int) (a1 : Int) (a2 : Int) (a3 : Int) (a4 : List (Int × Int × Int)) : Option spec_l02Turns.N := (spec_l02Turns.cs k k).1 a0 a1 a2 a3 a4 ([] : List (Int × Int × Int)) 0
noncomputable def spec_l02Turns.F (k : Nat) : Go.Rv.Fn := mkFn 1 spec_l02Turns.pc spec_l02Turns.pr (keepOf []) (fun (y : spec_l02Turns.N) => (((y, ()), ()) : compT spec_l02Turns.pr)) fun x => spec_l02Turns.f k x.1.1.1 x.1.1.2.1 x.1.1.2.2.1 x.1.1.2.2.2.1 x.1.1.2.2.2.2.1
theorem spec_l02Turns.env (k : Nat) : EnvOk Go.Proofs.Try.prog (fun f => (spec_l02Turns.E k).lookup f) := envOk_of trivial
theorem spec_l02Turns.cuts (k : Nat) : CutsOk Go.Proofs.Try.prog X (fun f => (spec_l02Turns.E k).lookup f) Go.Proofs.Try.f86 [] (decN spec_l02Turns.pr (fun (y : compT spec_l02Turns.pr) => (y.1.1 : spec_l02Turns.N))) fun n => spec_l02Turns.CC (spec_l02Turns.cs k n) :=
  cutsOk_of (step := spec_l02Turns.step k) rfl (fun _ => rfl) ⟨fun _ => rfl, fun _ => rfl, trivial⟩ (fun c => by kernel_rfl) fun c => ⟨fun x => by kernel_rfl, fun x => by kernel_rfl, trivial⟩
theorem spec_l02Turns.ok (k : Nat) : FnOk Go.Proofs.Try.prog 86 (spec_l02Turns.F k) :=
  fn_ok tab (spec_l02Turns.env k) Go.Proofs.Try.func86 rfl (n := 1) (Nat.le_of_ble_eq_true rfl) (by kernel_rfl) (outs := []) (by kernel_rfl) (by kernel_rfl) (d := fun (y : compT spec_l02Turns.pr) => (y.1.1 : spec_l02Turns.N)) (fun _ => rfl) (C := fun n => spec_l02Turns.CC (spec_l02Turns.cs k n)) (k := k) (spec_l02Turns.cuts k) fun x => by kernel_rfl
/-! spec.l02Rings -/
@[reducible] def spec_l02Rings.pc : CutP := [(0, some false, [.rptr [(.int .i64), (.int .i64), (.int .i64), (.int .i64), (.lo (.pair (.int .i64) (.pair (.int .i64) (.int .i64))))]])]
@[reducible] def spec_l02Rings.pr : CompPs := [(false, [.fl (.int .i64)])]
abbrev spec_l02Rings.N := Int
noncomputable def spec_l02Rings.E (k : Nat) : List (FuncId × Go.Rv.Fn) := [(86, spec_l02Turns.F k)]
noncomputable def spec_l02Rings.f (k : Nat) (a0 : Int) (a1 : Int) (a2 : Int) (a3 : Int) (a4 : List (Int × Int × Int)) : Option spec_l02Rings.N := (spec_l02Turns.f k a0 a1 a2 a3 a4).bind fun t1 => some (t1.length : Int)
noncomputable def spec_l02Rings.F (k : Nat) : Go.Rv.Fn := mkFn 1 spec_l02Rings.pc spec_l02Rings.pr (keepOf []) (fun (y : spec_l02Rings.N) => (((y, ()), ()) : compT spec_l02Rings.pr)) fun x => spec_l02Rings.f k x.1.1.1 x.1.1.2.1 x.1.1.2.2.1 x.1.1.2.2.2.1 x.1.1.2.2.2.2.1
theorem spec_l02Rings.env (k : Nat) : EnvOk Go.Proofs.Try.prog (fun f => (spec_l02Rings.E k).lookup f) := envOk_of ⟨entry Go.Proofs.Try.call86 rfl (spec_l02Turns.ok k), trivial⟩
theorem spec_l02Rings.ok (k : Nat) : FnOk Go.Proofs.Try.prog 47 (spec_l02Rings.F k) :=
  fn_ok tab (spec_l02Rings.env k) Go.Proofs.Try.func47 rfl (n := 1) (Nat.le_of_ble_eq_true rfl) (by kernel_rfl) (outs := []) (by kernel_rfl) (by kernel_rfl) (d := fun (y : compT spec_l02Rings.pr) => (y.1.1 : spec_l02Rings.N)) (fun _ => rfl) (C := fun _ => []) (k := k) noCuts fun x => by kernel_rfl
/-! spec.l02Poses -/
@[reducible] def spec_l02Poses.pc : CutP := [(0, some false, [.rptr [(.int .i64), (.int .i64), (.int .i64), (.int .i64), (.lo (.pair (.int .i64) (.pair (.int .i64) (.int .i64))))]])]
@[reducible] def spec_l02Poses.pr : CompPs := [(false, [.fl (.own (.pair (.int .i64) (.pair (.int .i64) (.pair (.int .i64) (.int .i64)))))])]
abbrev spec_l02Poses.N := List (Int × Int × Int × Int)
noncomputable def spec_l02Poses.E (k : Nat) : List (FuncId × Go.Rv.Fn) := [(86, spec_l02Turns.F k), (88, spec_l02Next.F k)]
abbrev spec_l02Poses.Cs := (List (Int × Int × Int × Int) → List (Int × Int × Int) → Int → Option spec_l02Poses.N)
def spec_l02Poses.zero : spec_l02Poses.Cs := (fun _ _ _ => none)
noncomputable def spec_l02Poses.step (k : Nat) (c : spec_l02Poses.Cs) : spec_l02Poses.Cs := (fun (x0 : List (Int × Int × Int × Int)) (x1 : List (Int × Int × Int)) (x2 : Int) => (if (decide (x2 < (x1.length : Int))) = true then if 0 ≤ x2 then if x2 < (x0.length : Int) then if 0 ≤ x2 then if x2 < (x1.length : Int) then if 0 ≤ x2 then if x2 < (x1.length : Int) then (spec_l02Next.f k ((rd (0, (0, (0, 0))) x0 x2).1) (((rd (0, (0, (0, 0))) x0 x2).2).1) ((((rd (0, (0, (0, 0))) x0 x2).2).2).1) ((((rd (0, (0, (0, 0))) x0 x2).2).2).2) (((rd (0, (0, 0)) x1 x2).2).1) (((rd (0, (0, 0)) x1 x2).2).2)).bind fun t2 => if x0.length + [t2].length < 274877906944 then c (x0 ++ [t2]) x1 (wrap64 (x2 + 1)) else none else none else none else none else none else none else none else some x0))
noncomputable def spec_l02Poses.cs (k : Nat) : Nat → spec_l02Poses.Cs
  | 0 => spec_l02Poses.zero
  | n + 1 => spec_l02Poses.step k (spec_l02Poses.cs k n)
def spec_l02Poses.CC (c : spec_l02Poses.Cs) : Cuts spec_l02Poses.N := [(10, ⟨[(3, some false, [.fl (.own (.pair (.int .i64) (.pair (.int .i64) (.pair (.int .i64) (.int .i64)))))]), (4, some false, [.fl (.own (.pair (.int .i64) (.pair (.int .i64) (.int .i64))))]), (5, some false, [.fl (.int .i64)])], fun x => c x.1.1 x.2.1.1 x.2.2.1.1⟩)]
noncomputable def spec_l02Poses.f (k : Nat) (a0 : Int) (a1 : Int) (a2 : Int) (a3 : Int) (a4 : List (Int × Int × Int)) : Option spec_l02Poses.N := (spec_l02Turns.f k a0 a1 a2 a3 a4).bind fun t1 => (spec_l02Poses.cs k k) [(a0, (a1, (a2, a3)))] t1 0
noncomputable def spec_l02Poses.F (k : Nat) : Go.Rv.Fn := mkFn 1 spec_l02Poses.pc spec_l02Poses.pr (keepOf []) (fun (y : spec_l02Poses.N) => (((y, ()), ()) : compT spec_l02Poses.pr)) fun x => spec_l02Poses.f k x.1.1.1 x.1.1.2.1 x.1.1.2.2.1 x.1.1.2.2.2.1 x.1.1.2.2.2.2.1
theorem spec_l02Poses.env (k : Nat) : EnvOk Go.Proofs.Try.prog (fun f => (spec_l02Poses.E k).lookup f) := envOk_of ⟨entry Go.Proofs.Try.call86 rfl (spec_l02Turns.ok k), entry Go.Proofs.Try.call88 rfl (spec_l02Next.ok k), trivial⟩
theorem spec_l02Poses.cuts (k : Nat) : CutsOk Go.Proofs.Try.prog X (fun f => (spec_l02Poses.E k).lookup f) Go.Proofs.Try.f49 [] (decN spec_l02Poses.pr (fun (y : compT spec_l02Poses.pr) => (y.1.1 : spec_l02Poses.N))) fun n => spec_l02Poses.CC (spec_l02Poses.cs k n) :=
  cutsOk_of (step := spec_l02Poses.step k) rfl (fun _ => rfl) ⟨fun _ => rfl, trivial⟩ (fun c => by kernel_rfl) fun c => ⟨fun x => by kernel_rfl, trivial⟩
theorem spec_l02Poses.ok (k : Nat) : FnOk Go.Proofs.Try.prog 49 (spec_l02Poses.F k) :=
  fn_ok tab (spec_l02Poses.env k) Go.Proofs.Try.func49 rfl (n := 1) (Nat.le_of_ble_eq_true rfl) (by kernel_rfl) (outs := []) (by kernel_rfl) (by kernel_rfl) (d := fun (y : compT spec_l02Poses.pr) => (y.1.1 : spec_l02Poses.N)) (fun _ => rfl) (C := fun n => spec_l02Poses.CC (spec_l02Poses.cs k n)) (k := k) (spec_l02Poses.cuts k) fun x => by kernel_rfl
/-! spec.B10Axis -/
@[reducible] def spec_B10Axis.pc : CutP := [(0, some false, [.fl (.lo (.int .u8))])]
@[reducible] def spec_B10Axis.pr : CompPs := [(true, [.fl (.int .i64), .fl (.int .i64), .fl (.int .i64), .fl (.int .i64), .fl (.own (.pair (.int .i64) (.pair (.int .i64) (.int .i64))))]), (false, [.fl (.int .i64)]), (true, [.fl (.int .i64), .fl (.int .i64), .fl (.int .i64), .fl (.int .i64)])]
abbrev spec_B10Axis.N := Int × Int × Int × Int × List (Int × Int × Int) × Int × Int × Int × Int × Int
noncomputable def spec_B10Axis.E (k : Nat) : List (FuncId × Go.Rv.Fn) := [(45, spec_l00From.F k), (46, spec_l02DrawOk.F k), (47, spec_l02Rings.F k), (48, spec_l00Src_pick.F k), (49, spec_l02Poses.F k), (50, spec_l02Pose.F k)]
abbrev spec_B10Axis.Cs := (Int → Int → Int → Int → Int → Int → Int → Int → Int → Int → Int → Int → List (Int × Int × Int) → Int → List Int → Int → Int → Option spec_B10Axis.N)
def spec_B10Axis.zero : spec_B10Axis.Cs := (fun _ _ _ _ _ _ _ _ _ _ _ _ _ _ _ _ _ => none)
noncomputable def spec_B10Axis.step (k : Nat) (c : spec_B10Axis.Cs) : spec_B10Axis.Cs := (fun (x0 : Int) (x1 : Int) (x2 : Int) (x3 : Int) (x4 : Int) (x5 : Int) (x6 : Int) (x7 : Int) (x8 : Int) (x9 : Int) (x10 : Int) (x11 : Int) (x12 : List (Int × Int × Int)) (x13 : Int) (x14 : List Int) (x15 : Int) (x16 : Int) => (spec_l00Src_pick.f k x14 x15 x16 (wrap64 (x13 - 2))).bind fun t6 => (spec_l02Poses.f k x8 x9 x10 x11 x12).bind fun t7 => if 0 ≤ t6.1 then if t6.1 < (t7.length : Int) then (spec_l00Src_pick.f k t6.2.1 t6.2.2.1 t6.2.2.2 25).bind fun t8 => (spec_l00Src_pick.f k t8.2.1 t8.2.2.1 t8.2.2.2 25).bind fun t9 => (spec_l00Src_pick.f k t9.2.1 t9.2.2.1 t9.2.2.2 9).bind fun t10 => (spec_l00Src_pick.f k t10.2.1 t10.2.2.1 t10.2.2.2 9).bind fun t11 => (spec_l02Pose.f k (wrap64 ((wrap64 ((rd (0, (0, (0, 0))) t7 t6.1).1 + t8.1)) - 12)) (wrap64 ((wrap64 (((rd (0, (0, (0, 0))) t7 t6.1).2).1 + t9.1)) - 12)) (wrap64 ((wrap64 ((((rd (0, (0, (0, 0))) t7 t6.1).2).2).1 + t10.1)) - 4)) (wrap64 ((wrap64 ((((rd (0, (0, (0, 0))) t7 t6.1).2).2).2 + t11.1)) - 4))).bind fun t12 => (if (!t12) = true then some (x8, x9, x10, x11, x12, t6.1, (rd (0, (0, (0, 0))) t7 t6.1).1, ((rd (0, (0, (0, 0))) t7 t6.1).2).1, (((rd (0, (0, (0, 0))) t7 t6.1).2).2).1, (((rd (0, (0, (0, 0))) t7 t6.1).2).2).2) else some (x8, x9, x10, x11, x12, t6.1, (wrap64 ((wrap64 ((rd (0, (0, (0, 0))) t7 t6.1).1 + t8.1)) - 12)), (wrap64 ((wrap64 (((rd (0, (0, (0, 0))) t7 t6.1).2).1 + t9.1)) - 12)), (wrap64 ((wrap64 ((((rd (0, (0, (0, 0))) t7 t6.1).2).2).1 + t10.1)) - 4)), (wrap64 ((wrap64 ((((rd (0, (0, (0, 0))) t7 t6.1).2).2).2 + t11.1)) - 4)))) else none else none)
noncomputable def spec_B10Axis.cs (k : Nat) : Nat → spec_B10Axis.Cs
  | 0 => spec_B10Axis.zero
  | n + 1 => spec_B10Axis.step k (spec_B10Axis.cs k n)
def spec_B10Axis.CC (c : spec_B10Axis.Cs) : Cuts spec_B10Axis.N := [(8, ⟨[(2, none, [.fl (.int .i64), .fl (.int .i64), .fl (.int .i64), .fl (.int .i64), .fl .nils]), (4, none, [.fl (.int .i64), .fl (.int .i64), .fl (.int .i64), .fl (.int .i64)]), (5, some false, [.fl (.ptr 12 0)]), (6, none, [.fl (.int .i64), .fl (.int .i64), .fl (.int .i64), .fl (.int .i64), .fl (.own (.pair (.int .i64) (.pair (.int .i64) (.int .i64))))]), (7, some false, [.fl (.int .i64)]), (12, none, [.fl (.hi (.int .u8)), .fl (.int .i64), .fl (.int .u64)])], fun x => c x.1.1 x.1.2.1 x.1.2.2.1 x.1.2.2.2.1 x.2.1.1 x.2.1.2.1 x.2.1.2.2.1 x.2.1.2.2.2.1 x.2.2.2.1.1 x.2.2.2.1.2.1 x.2.2.2.1.2.2.1 x.2.2.2.1.2.2.2.1 x.2.2.2.1.2.2.2.2.1 x.2.2.2.2.1.1 x.2.2.2.2.2.1.1 x.2.2.2.2.2.1.2.1 x.2.2.2.2.2.1.2.2.1⟩)]
noncomputable def spec_B10Axis.f (k : Nat) (a0 : List Int) : Option spec_B10Axis.N := (spec_l00From.f k a0).bind fun t1 => (spec_l02DrawOk.f k t1.1 t1.2.1 t1.2.2).bind fun t2 => (spec_l02Rings.f k t2.1 t2.2.1 t2.2.2.1 t2.2.2.2.1 t2.2.2.2.2.1).bind fun (t3 : Int) => (if (decide (t3 < 3)) = true then (spec_l00Src_pick.f k t2.2.2.2.2.2.1 t2.2.2.2.2.2.2.1 t2.2.2.2.2.2.2.2 7).bind fun t4 => (spec_l00Src_pick.f k t4.2.1 t4.2.2.1 t4.2.2.2 7).bind fun t5 => (spec_B10Axis.cs k k) 0 0 0 0 0 0 0 0 0 0 0 0 [(5, ((wrap64 (t4.1 - 3)), (wrap64 (t5.1 - 3))))] 5 t5.2.1 t5.2.2.1 t5.2.2.2 else (spec_B10Axis.cs k k) 0 0 0 0 0 0 0 0 t2.1 t2.2.1 t2.2.2.1 t2.2.2.2.1 t2.2.2.2.2.1 t3 t2.2.2.2.2.2.1 t2.2.2.2.2.2.2.1 t2.2.2.2.2.2.2.2)
noncomputable def spec_B10Axis.F (k : Nat) : Go.Rv.Fn := mkFn 1 spec_B10Axis.pc spec_B10Axis.pr (keepOf []) (fun (y : spec_B10Axis.N) => (((y.1, y.2.1, y.2.2.1, y.2.2.2.1, y.2.2.2.2.1, ()), (y.2.2.2.2.2.1, ()), (y.2.2.2.2.2.2.1, y.2.2.2.2.2.2.2.1, y.2.2.2.2.2.2.2.2.1, y.2.2.2.2.2.2.2.2.2, ()), ()) : compT spec_B10Axis.pr)) fun x => spec_B10Axis.f k x.1.1
theorem spec_B10Axis.env (k : Nat) : EnvOk Go.Proofs.Try.prog (fun f => (spec_B10Axis.E k).lookup f) := envOk_of ⟨entry Go.Proofs.Try.call45 rfl (spec_l00From.ok k), entryB Go.Proofs.Try.call46 rfl (spec_l02DrawOk.ok k), entry Go.Proofs.Try.call47 rfl (spec_l02Rings.ok k), entryB Go.Proofs.Try.call48 rfl (spec_l00Src_pick.ok k), entry Go.Proofs.Try.call49 rfl (spec_l02Poses.ok k), entry Go.Proofs.Try.call50 rfl (spec_l02Pose.ok k), trivial⟩
theorem spec_B10Axis.cuts (k : Nat) : CutsOk Go.Proofs.Try.prog X (fun f => (spec_B10Axis.E k).lookup f) Go.Proofs.Try.f11 [] (decN spec_B10Axis.pr (fun (y : compT spec_B10Axis.pr) => ((y.1.1, y.1.2.1, y.1.2.2.1, y.1.2.2.2.1, y.1.2.2.2.2.1, y.2.1.1, y.2.2.1.1, y.2.2.1.2.1, y.2.2.1.2.2.1, y.2.2.1.2.2.2.1) : spec_B10Axis.N))) fun n => spec_B10Axis.CC (spec_B10Axis.cs k n) :=
  cutsOk_of (step := spec_B10Axis.step k) rfl (fun _ => rfl) ⟨fun _ => rfl, trivial⟩ (fun c => by kernel_rfl) fun c => ⟨fun x => by kernel_rfl, trivial⟩
theorem spec_B10Axis.ok (k : Nat) : FnOk Go.Proofs.Try.prog 11 (spec_B10Axis.F k) :=
  fn_ok tab (spec_B10Axis.env k) Go.Proofs.Try.func11 rfl (n := 1) (Nat.le_of_ble_eq_true rfl) (by kernel_rfl) (outs := []) (by kernel_rfl) (by kernel_rfl) (d := fun (y : compT spec_B10Axis.pr) => ((y.1.1, y.1.2.1, y.1.2.2.1, y.1.2.2.2.1, y.1.2.2.2.2.1, y.2.1.1, y.2.2.1.1, y.2.2.1.2.1, y.2.2.1.2.2.1, y.2.2.1.2.2.2.1) : spec_B10Axis.N)) (fun _ => rfl) (C := fun n => spec_B10Axis.CC (spec_B10Axis.cs k n)) (k := k) (spec_B10Axis.cuts k) fun x => by kernel_rfl
/-! spec.B10Tube -/
@[reducible] def spec_B10Tube.pc : CutP := [(0, some false, [.fl (.lo (.int .u8))])]
@[reducible] def spec_B10Tube.pr : CompPs := [(false, [.fl (.own (.pair (.int .i64) (.int .i64)))])]
abbrev spec_B10Tube.N := List (Int × Int)
noncomputable def spec_B10Tube.E (k : Nat) : List (FuncId × Go.Rv.Fn) := [(45, spec_l00From.F k), (48, spec_l00Src_pick.F k), (57, spec_l03DrawOk.F k)]
noncomputable def spec_B10Tube.f (k : Nat) (a0 : List Int) : Option spec_B10Tube.N := (spec_l00From.f k a0).bind fun t1 => (spec_l00Src_pick.f k t1.1 t1.2.1 t1.2.2 6).bind fun t2 => (spec_l00Src_pick.f k t2.2.1 t2.2.2.1 t2.2.2.2 16).bind fun t3 => (spec_l03DrawOk.f k t3.2.1 t3.2.2.1 t3.2.2.2 (wrap64 (1 + t2.1)) t3.1).bind fun t4 => some t4.1
noncomputable def spec_B10Tube.F (k : Nat) : Go.Rv.Fn := mkFn 1 spec_B10Tube.pc spec_B10Tube.pr (keepOf []) (fun (y : spec_B10Tube.N) => (((y, ()), ()) : compT spec_B10Tube.pr)) fun x => spec_B10Tube.f k x.1.1
theorem spec_B10Tube.env (k : Nat) : EnvOk Go.Proofs.Try.prog (fun f => (spec_B10Tube.E k).lookup f) := envOk_of ⟨entry Go.Proofs.Try.call45 rfl (spec_l00From.ok k), entryB Go.Proofs.Try.call48 rfl (spec_l00Src_pick.ok k), entryB Go.Proofs.Try.call57 rfl (spec_l03DrawOk.ok k), trivial⟩
theorem spec_B10Tube.ok (k : Nat) : FnOk Go.Proofs.Try.prog 21 (spec_B10Tube.F k) :=
  fn_ok tab (spec_B10Tube.env k) Go.Proofs.Try.func21 rfl (n := 1) (Nat.le_of_ble_eq_true rfl) (by kernel_rfl) (outs := []) (by kernel_rfl) (by kernel_rfl) (d := fun (y : compT spec_B10Tube.pr) => (y.1.1 : spec_B10Tube.N)) (fun _ => rfl) (C := fun _ => []) (k := k) noCuts fun x => by kernel_rfl
/-! impl.ValidPose -/
@[reducible] def impl_ValidPose.pc : CutP := [(0, some true, [.fl (.int .i64), .fl (.int .i64), .fl (.int .i64), .fl (.int .i64)])]
@[reducible] def impl_ValidPose.pr : CompPs := [(false, [.fl .bool])]
abbrev impl_ValidPose.N := Bool
noncomputable def impl_ValidPose.E (k : Nat) : List (FuncId × Go.Rv.Fn) := [(65, impl_areWithin.F k)]
noncomputable def impl_ValidPose.f (k : Nat) (a0 : Int) (a1 : Int) (a2 : Int) (a3 : Int) : Option impl_ValidPose.N := (impl_areWithin.f k [a0, a1] (-100000) 100000).bind fun t1 => (if t1 = true then (impl_areWithin.f k [a2, a3] (-400) 400).bind fun t2 => some t2 else some false)
noncomputable def impl_ValidPose.F (k : Nat) : Go.Rv.Fn := mkFn 1 impl_ValidPose.pc impl_ValidPose.pr (keepOf []) (fun (y : impl_ValidPose.N) => (((y, ()), ()) : compT impl_ValidPose.pr)) fun x => impl_ValidPose.f k x.1.1 x.1.2.1 x.1.2.2.1 x.1.2.2.2.1
theorem impl_ValidPose.env (k : Nat) : EnvOk Go.Proofs.Try.prog (fun f => (impl_ValidPose.E k).lookup f) := envOk_of ⟨entry Go.Proofs.Try.call65 rfl (impl_areWithin.ok k), trivial⟩
theorem impl_ValidPose.ok (k : Nat) : FnOk Go.Proofs.Try.prog 53 (impl_ValidPose.F k) :=
  fn_ok tab (impl_ValidPose.env k) Go.Proofs.Try.func53 rfl (n := 1) (Nat.le_of_ble_eq_true rfl) (by kernel_rfl) (outs := []) (by kernel_rfl) (by kernel_rfl) (d := fun (y : compT impl_ValidPose.pr) => (y.1.1 : impl_ValidPose.N)) (fun _ => rfl) (C := fun _ => []) (k := k) noCuts fun x => by kernel_rfl
/-! impl.isTurn -/
@[reducible] def impl_isTurn.pc : CutP := [(0, some false, [.fl (.int .i64)]), (1, some false, [.fl (.int .i64)])]
@[reducible] def impl_isTurn.pr : CompPs := [(false, [.fl .bool])]
abbrev impl_isTurn.N := Bool
noncomputable def impl_isTurn.E (k : Nat) : List (FuncId × Go.Rv.Fn) := [(65, impl_areWithin.F k)]
noncomputable def impl_isTurn.f (k : Nat) (a0 : Int) (a1 : Int) : Option impl_isTurn.N := (impl_areWithin.f k [a0, a1] (-12) 12).bind fun t1 => some t1
noncomputable def impl_isTurn.F (k : Nat) : Go.Rv.Fn := mkFn 2 impl_isTurn.pc impl_isTurn.pr (keepOf []) (fun (y : impl_isTurn.N) => (((y, ()), ()) : compT impl_isTurn.pr)) fun x => impl_isTurn.f k x.1.1 x.2.1.1
theorem impl_isTurn.env (k : Nat) : EnvOk Go.Proofs.Try.prog (fun f => (impl_isTurn.E k).lookup f) := envOk_of ⟨entry Go.Proofs.Try.call65 rfl (impl_areWithin.ok k), trivial⟩
theorem impl_isTurn.ok (k : Nat) : FnOk Go.Proofs.Try.prog 89 (impl_isTurn.F k) :=
  fn_ok tab (impl_isTurn.env k) Go.Proofs.Try.func89 rfl (n := 2) (Nat.le_of_ble_eq_true rfl) (by kernel_rfl) (outs := []) (by kernel_rfl) (by kernel_rfl) (d := fun (y : compT impl_isTurn.pr) => (y.1.1 : impl_isTurn.N)) (fun _ => rfl) (C := fun _ => []) (k := k) noCuts fun x => by kernel_rfl
/-! (impl.Pose).next -/
@[reducible] def impl_Pose_next.pc : CutP := [(0, some true, [.fl (.int .i64), .fl (.int .i64), .fl (.int .i64), .fl (.int .i64)]), (1, some false, [.fl (.int .i64)]), (2, some false, [.fl (.int .i64)])]
@[reducible] def impl_Pose_next.pr : CompPs := [(true, [.fl (.int .i64), .fl (.int .i64), .fl (.int .i64), .fl (.int .i64)])]
abbrev impl_Pose_next.N := Int × Int × Int × Int
noncomputable def impl_Pose_next.E (k : Nat) : List (FuncId × Go.Rv.Fn) := []
noncomputable def impl_Pose_next.f (k : Nat) (a0 : Int) (a1 : Int) (a2 : Int) (a3 : Int) (a4 : Int) (a5 : Int) : Option impl_Pose_next.N := some ((wrap64 (a0 + a2)), (wrap64 (a1 + a3)), (wrap64 (a2 + a4)), (wrap64 (a3 + a5)))
noncomputable def impl_Pose_next.F (k : Nat) : Go.Rv.Fn := mkFn 3 impl_Pose_next.pc impl_Pose_next.pr (keepOf []) (fun (y : impl_Pose_next.N) => (((y.1, y.2.1, y.2.2.1, y.2.2.2, ()), ()) : compT impl_Pose_next.pr)) fun x => impl_Pose_next.f k x.1.1 x.1.2.1 x.1.2.2.1 x.1.2.2.2.1 x.2.1.1 x.2.2.1.1
theorem impl_Pose_next.env (k : Nat) : EnvOk Go.Proofs.Try.prog (fun f => (impl_Pose_next.E k).lookup f) := envOk_of trivial
theorem impl_Pose_next.ok (k : Nat) : FnOk Go.Proofs.Try.prog 90 (impl_Pose_next.F k) :=
  fn_ok tab (impl_Pose_next.env k) Go.Proofs.Try.func90 rfl (n := 3) (Nat.le_of_ble_eq_true rfl) (by kernel_rfl) (outs := []) (by kernel_rfl) (by kernel_rfl) (d := fun (y : compT impl_Pose_next.pr) => ((y.1.1, y.1.2.1, y.1.2.2.1, y.1.2.2.2.1) : impl_Pose_next.N)) (fun _ => rfl) (C := fun _ => []) (k := k) noCuts fun x => by kernel_rfl
/-! (impl.Axis).poses -/
@[reducible] def impl_Axis_poses.pc : CutP := [(0, some true, [.fl (.int .i64), .fl (.int .i64), .fl (.int .i64), .fl (.int .i64), .fl (.lo (.pair (.int .i64) (.pair (.int .i64) (.int .i64))))])]
@[reducible] def impl_Axis_poses.pr : CompPs := [(false, [.fl (.own (.pair (.int .i64) (.pair (.int .i64) (.pair (.int .i64) (.int .i64)))))]), (false, [.fl .bool])]
abbrev impl_Axis_poses.N := List (Int × Int × Int × Int) × Bool
noncomputable def impl_Axis_poses.E (k : Nat) : List (FuncId × Go.Rv.Fn) := [(52, impl_within.F k), (53, impl_ValidPose.F k), (89, impl_isTurn.F k), (90, impl_Pose_next.F k)]
abbrev impl_Axis_poses.Cs := (Int → Int → Int → Int → List (Int × Int × Int) → List (Int × Int × Int × Int) → Option impl_Axis_poses.N) × (List (Int × Int × Int × Int) → List (Int × Int × Int) → Int → Int → Option impl_Axis_poses.N) × (List (Int × Int × Int × Int) → Int → Int → Int → List (Int × Int × Int) → Int → Int → Option impl_Axis_poses.N) × (List (Int × Int × Int × Int) → Int → Int → Int → List (Int × Int × Int) → Int → Int → Int → Int → Option impl_Axis_poses.N)
def impl_Axis_poses.zero : impl_Axis_poses.Cs := (fun _ _ _ _ _ _ => none, fun _ _ _ _ => none, fun _ _ _ _ _ _ _ => none, fun _ _ _ _ _ _ _ _ _ => none)
noncomputable def impl_Axis_poses.step (k : Nat) (c : impl_Axis_poses.Cs) : impl_Axis_poses.Cs := (fun (x0 : Int) (x1 : Int) (x2 : Int) (x3 : Int) (x4 : List (Int × Int × Int)) (x5 : List (Int × Int × Int × Int)) => c.2.1 x5 x4 (x4.length : Int) 0,
  fun (x0 : List (Int × Int × Int × Int)) (x1 : List (Int × Int × Int)) (x2 : Int) (x3 : Int) => (if (decide (x3 < x2)) = true then if 0 ≤ x3 then if x3 < (x1.length : Int) then (impl_within.f k ((rd (0, (0, 0)) x1 x3).1) 1 60).bind fun t3 => (if (!t3) = true then some ([], false) else (impl_isTurn.f k (((rd (0, (0, 0)) x1 x3).2).1) (((rd (0, (0, 0)) x1 x3).2).2)).bind fun t4 => (if (!t4) = true then some ([], false) else (if (decide (61 < (wrap64 ((x0.length : Int) + (rd (0, (0, 0)) x1 x3).1)))) = true then some ([], false) else c.2.2.1 x0 ((rd (0, (0, 0)) x1 x3).1) (((rd (0, (0, 0)) x1 x3).2).1) (((rd (0, (0, 0)) x1 x3).2).2) x1 x2 x3))) else none else none else some (x0, true)),
  fun (x0 : List (Int × Int × Int × Int)) (x1 : Int) (x2 : Int) (x3 : Int) (x4 : List (Int × Int × Int)) (x5 : Int) (x6 : Int) => c.2.2.2 x0 x1 x2 x3 x4 x5 x6 x1 0,
  fun (x0 : List (Int × Int × Int × Int)) (x1 : Int) (x2 : Int) (x3 : Int) (x4 : List (Int × Int × Int)) (x5 : Int) (x6 : Int) (x7 : Int) (x8 : Int) => (if (decide (x8 < x7)) = true then if 0 ≤ (wrap64 ((x0.length : Int) - 1)) then if (wrap64 ((x0.length : Int) - 1)) < (x0.length : Int) then (impl_Pose_next.f k ((rd (0, (0, (0, 0))) x0 (wrap64 ((x0.length : Int) - 1))).1) (((rd (0, (0, (0, 0))) x0 (wrap64 ((x0.length : Int) - 1))).2).1) ((((rd (0, (0, (0, 0))) x0 (wrap64 ((x0.length : Int) - 1))).2).2).1) ((((rd (0, (0, (0, 0))) x0 (wrap64 ((x0.length : Int) - 1))).2).2).2) x2 x3).bind fun t5 => (impl_ValidPose.f k t5.1 t5.2.1 t5.2.2.1 t5.2.2.2).bind fun t6 => (if (!t6) = true then some ([], false) else if x0.length + [t5].length < 274877906944 then c.2.2.2 (x0 ++ [t5]) x1 x2 x3 x4 x5 x6 x7 (wrap64 (x8 + 1)) else none) else none else none else c.2.1 x0 x4 x5 (wrap64 (x6 + 1))))
noncomputable def impl_Axis_poses.cs (k : Nat) : Nat → impl_Axis_poses.Cs
  | 0 => impl_Axis_poses.zero
  | n + 1 => impl_Axis_poses.step k (impl_Axis_poses.cs k n)
def impl_Axis_poses.CC (c : impl_Axis_poses.Cs) : Cuts impl_Axis_poses.N := [(4, ⟨[(1, none, [.fl (.int .i64), .fl (.int .i64), .fl (.int .i64), .fl (.int .i64), .fl (.lo (.pair (.int .i64) (.pair (.int .i64) (.int .i64))))]), (4, some false, [.fl (.own (.pair (.int .i64) (.pair (.int .i64) (.pair (.int .i64) (.int .i64)))))])], fun x => c.1 x.1.1 x.1.2.1 x.1.2.2.1 x.1.2.2.2.1 x.1.2.2.2.2.1 x.2.1.1⟩),
  (16, ⟨[(4, some false, [.fl (.own (.pair (.int .i64) (.pair (.int .i64) (.pair (.int .i64) (.int .i64)))))]), (23, some false, [.fl (.lo (.pair (.int .i64) (.pair (.int .i64) (.int .i64))))]), (24, some false, [.fl (.int .i64)]), (25, some false, [.fl (.int .i64)])], fun x => c.2.1 x.1.1 x.2.1.1 x.2.2.1.1 x.2.2.2.1.1⟩),
  (27, ⟨[(4, some false, [.fl (.own (.pair (.int .i64) (.pair (.int .i64) (.pair (.int .i64) (.int .i64)))))]), (6, none, [.fl (.int .i64), .fl (.int .i64), .fl (.int .i64)]), (23, some false, [.fl (.lo (.pair (.int .i64) (.pair (.int .i64) (.int .i64))))]), (24, some false, [.fl (.int .i64)]), (25, some false, [.fl (.int .i64)])], fun x => c.2.2.1 x.1.1 x.2.1.1 x.2.1.2.1 x.2.1.2.2.1 x.2.2.1.1 x.2.2.2.1.1 x.2.2.2.2.1.1⟩),
  (38, ⟨[(4, some false, [.fl (.own (.pair (.int .i64) (.pair (.int .i64) (.pair (.int .i64) (.int .i64)))))]), (6, none, [.fl (.int .i64), .fl (.int .i64), .fl (.int .i64)]), (23, some false, [.fl (.lo (.pair (.int .i64) (.pair (.int .i64) (.int .i64))))]), (24, some false, [.fl (.int .i64)]), (25, some false, [.fl (.int .i64)]), (50, some false, [.fl (.int .i64)]), (51, some false, [.fl (.int .i64)])], fun x => c.2.2.2 x.1.1 x.2.1.1 x.2.1.2.1 x.2.1.2.2.1 x.2.2.1.1 x.2.2.2.1.1 x.2.2.2.2.1.1 x.2.2.2.2.2.1.1 x.2.2.2.2.2.2.1.1⟩)]
noncomputable def impl_Axis_poses.f (k : Nat) (a0 : Int) (a1 : Int) (a2 : Int) (a3 : Int) (a4 : List (Int × Int × Int)) : Option impl_Axis_poses.N := (impl_ValidPose.f k a0 a1 a2 a3).bind fun t1 => (if (!t1) = true then some ([], false) else (impl_within.f k (a4.length : Int) 1 8).bind fun t2 => (if (!t2) = true then some ([], false) else (impl_Axis_poses.cs k k).1 a0 a1 a2 a3 a4 [(a0, (a1, (a2, a3)))]))
noncomputable def impl_Axis_poses.F (k : Nat) : Go.Rv.Fn := mkFn 1 impl_Axis_poses.pc impl_Axis_poses.pr (keepOf []) (fun (y : impl_Axis_poses.N) => (((y.1, ()), (y.2, ()), ()) : compT impl_Axis_poses.pr)) fun x => impl_Axis_poses.f k x.1.1 x.1.2.1 x.1.2.2.1 x.1.2.2.2.1 x.1.2.2.2.2.1
theorem impl_Axis_poses.env (k : Nat) : EnvOk Go.Proofs.Try.prog (fun f => (impl_Axis_poses.E k).lookup f) := envOk_of ⟨entry Go.Proofs.Try.call52 rfl (impl_within.ok k), entry Go.Proofs.Try.call53 rfl (impl_ValidPose.ok k), entry Go.Proofs.Try.call89 rfl (impl_isTurn.ok k), entry Go.Proofs.Try.call90 rfl (impl_Pose_next.ok k), trivial⟩
theorem impl_Axis_poses.cuts (k : Nat) : CutsOk Go.Proofs.Try.prog X (fun f => (impl_Axis_poses.E k).lookup f) Go.Proofs.Try.f51 [] (decN impl_Axis_poses.pr (fun (y : compT impl_Axis_poses.pr) => ((y.1.1, y.2.1.1) : impl_Axis_poses.N))) fun n => impl_Axis_poses.CC (impl_Axis_poses.cs k n) :=
  cutsOk_of (step := impl_Axis_poses.step k) rfl (fun _ => rfl) ⟨fun _ => rfl, fun _ => rfl, fun _ => rfl, fun _ => rfl, trivial⟩ (fun c => by kernel_rfl) fun c => ⟨fun x => by kernel_rfl, fun x => by kernel_rfl, fun x => by kernel_rfl, fun x => by kernel_rfl, trivial⟩
theorem impl_Axis_poses.ok (k : Nat) : FnOk Go.Proofs.Try.prog 51 (impl_Axis_poses.F k) :=
  fn_ok tab (impl_Axis_poses.env k) Go.Proofs.Try.func51 rfl (n := 1) (Nat.le_of_ble_eq_true rfl) (by kernel_rfl) (outs := []) (by kernel_rfl) (by kernel_rfl) (d := fun (y : compT impl_Axis_poses.pr) => ((y.1.1, y.2.1.1) : impl_Axis_poses.N)) (fun _ => rfl) (C := fun n => impl_Axis_poses.CC (impl_Axis_poses.cs k n)) (k := k) (impl_Axis_poses.cuts k) fun x => by kernel_rfl
/-! impl.first -/
@[reducible] def impl_first.pc : CutP := [(0, some false, [.fl (.int .i64)]), (1, some false, [.fl (.int .i64)])]
@[reducible] def impl_first.pr : CompPs := [(false, [.fl (.int .i64)])]
abbrev impl_first.N := Int
noncomputable def impl_first.E (k : Nat) : List (FuncId × Go.Rv.Fn) := []
noncomputable def impl_first.f (k : Nat) (a0 : Int) (a1 : Int) : Option impl_first.N := some a0
noncomputable def impl_first.F (k : Nat) : Go.Rv.Fn := mkFn 2 impl_first.pc impl_first.pr (keepOf []) (fun (y : impl_first.N) => (((y, ()), ()) : compT impl_first.pr)) fun x => impl_first.f k x.1.1 x.2.1.1
theorem impl_first.env (k : Nat) : EnvOk Go.Proofs.Try.prog (fun f => (impl_first.E k).lookup f) := envOk_of trivial
theorem impl_first.ok (k : Nat) : FnOk Go.Proofs.Try.prog 106 (impl_first.F k) :=
  fn_ok tab (impl_first.env k) Go.Proofs.Try.func106 rfl (n := 2) (Nat.le_of_ble_eq_true rfl) (by kernel_rfl) (outs := []) (by kernel_rfl) (by kernel_rfl) (d := fun (y : compT impl_first.pr) => (y.1.1 : impl_first.N)) (fun _ => rfl) (C := fun _ => []) (k := k) noCuts fun x => by kernel_rfl
/-! impl.second -/
@[reducible] def impl_second.pc : CutP := [(0, some false, [.fl (.int .i64)]), (1, some false, [.fl (.int .i64)])]
@[reducible] def impl_second.pr : CompPs := [(false, [.fl (.int .i64)])]
abbrev impl_second.N := Int
noncomputable def impl_second.E (k : Nat) : List (FuncId × Go.Rv.Fn) := []
noncomputable def impl_second.f (k : Nat) (a0 : Int) (a1 : Int) : Option impl_second.N := some a1
noncomputable def impl_second.F (k : Nat) : Go.Rv.Fn := mkFn 2 impl_second.pc impl_second.pr (keepOf []) (fun (y : impl_second.N) => (((y, ()), ()) : compT impl_second.pr)) fun x => impl_second.f k x.1.1 x.2.1.1
theorem impl_second.env (k : Nat) : EnvOk Go.Proofs.Try.prog (fun f => (impl_second.E k).lookup f) := envOk_of trivial
theorem impl_second.ok (k : Nat) : FnOk Go.Proofs.Try.prog 107 (impl_second.F k) :=
  fn_ok tab (impl_second.env k) Go.Proofs.Try.func107 rfl (n := 2) (Nat.le_of_ble_eq_true rfl) (by kernel_rfl) (outs := []) (by kernel_rfl) (by kernel_rfl) (d := fun (y : compT impl_second.pr) => (y.1.1 : impl_second.N)) (fun _ => rfl) (C := fun _ => []) (k := k) noCuts fun x => by kernel_rfl
/-! impl.NextPose -/
@[reducible] def impl_NextPose.pc : CutP := [(0, some true, [.fl (.int .i64), .fl (.int .i64), .fl (.int .i64), .fl (.int .i64)]), (1, some false, [.fl (.int .i64)]), (2, some false, [.fl (.int .i64)])]
@[reducible] def impl_NextPose.pr : CompPs := [(true, [.fl (.int .i64), .fl (.int .i64), .fl (.int .i64), .fl (.int .i64)]), (false, [.fl .bool])]
abbrev impl_NextPose.N := Int × Int × Int × Int × Bool
noncomputable def impl_NextPose.E (k : Nat) : List (FuncId × Go.Rv.Fn) := [(53, impl_ValidPose.F k), (89, impl_isTurn.F k), (90, impl_Pose_next.F k)]
noncomputable def impl_NextPose.f (k : Nat) (a0 : Int) (a1 : Int) (a2 : Int) (a3 : Int) (a4 : Int) (a5 : Int) : Option impl_NextPose.N := (impl_ValidPose.f k a0 a1 a2 a3).bind fun t1 => (if (!t1) = true then some (0, 0, 0, 0, false) else (impl_isTurn.f k a4 a5).bind fun t2 => (if (!t2) = true then some (0, 0, 0, 0, false) else (impl_Pose_next.f k a0 a1 a2 a3 a4 a5).bind fun t3 => (impl_ValidPose.f k t3.1 t3.2.1 t3.2.2.1 t3.2.2.2).bind fun t4 => (if (!t4) = true then some (0, 0, 0, 0, false) else (impl_Pose_next.f k a0 a1 a2 a3 a4 a5).bind fun t5 => some (t5.1, t5.2.1, t5.2.2.1, t5.2.2.2, true))))
noncomputable def impl_NextPose.F (k : Nat) : Go.Rv.Fn := mkFn 3 impl_NextPose.pc impl_NextPose.pr (keepOf []) (fun (y : impl_NextPose.N) => (((y.1, y.2.1, y.2.2.1, y.2.2.2.1, ()), (y.2.2.2.2, ()), ()) : compT impl_NextPose.pr)) fun x => impl_NextPose.f k x.1.1 x.1.2.1 x.1.2.2.1 x.1.2.2.2.1 x.2.1.1 x.2.2.1.1
theorem impl_NextPose.env (k : Nat) : EnvOk Go.Proofs.Try.prog (fun f => (impl_NextPose.E k).lookup f) := envOk_of ⟨entry Go.Proofs.Try.call53 rfl (impl_ValidPose.ok k), entry Go.Proofs.Try.call89 rfl (impl_isTurn.ok k), entry Go.Proofs.Try.call90 rfl (impl_Pose_next.ok k), trivial⟩
theorem impl_NextPose.ok (k : Nat) : FnOk Go.Proofs.Try.prog 105 (impl_NextPose.F k) :=
  fn_ok tab (impl_NextPose.env k) Go.Proofs.Try.func105 rfl (n := 3) (Nat.le_of_ble_eq_true rfl) (by kernel_rfl) (outs := []) (by kernel_rfl) (by kernel_rfl) (d := fun (y : compT impl_NextPose.pr) => ((y.1.1, y.1.2.1, y.1.2.2.1, y.1.2.2.2.1, y.2.1.1) : impl_NextPose.N)) (fun _ => rfl) (C := fun _ => []) (k := k) noCuts fun x => by kernel_rfl
/-! impl.tubePoses -/
@[reducible] def impl_tubePoses.pc : CutP := [(0, some true, [.fl (.int .i64), .fl (.int .i64), .fl (.int .i64), .fl (.int .i64)]), (1, some false, [.fl (.lo (.pair (.int .i64) (.int .i64)))])]
@[reducible] def impl_tubePoses.pr : CompPs := [(false, [.fl (.own (.pair (.int .i64) (.pair (.int .i64) (.pair (.int .i64) (.int .i64)))))]), (false, [.fl .bool])]
abbrev impl_tubePoses.N := List (Int × Int × Int × Int) × Bool
noncomputable def impl_tubePoses.E (k : Nat) : List (FuncId × Go.Rv.Fn) := [(53, impl_ValidPose.F k), (104, impl_Ring_turn.F k), (105, impl_NextPose.F k), (106, impl_first.F k), (107, impl_second.F k)]
abbrev impl_tubePoses.Cs := (List (Int × Int × Int × Int) → List (Int × Int) → Int → Int → Option impl_tubePoses.N)
def impl_tubePoses.zero : impl_tubePoses.Cs := (fun _ _ _ _ => none)
noncomputable def impl_tubePoses.step (k : Nat) (c : impl_tubePoses.Cs) : impl_tubePoses.Cs := (fun (x0 : List (Int × Int × Int × Int)) (x1 : List (Int × Int)) (x2 : Int) (x3 : Int) => (if (decide (x3 < x2)) = true then if 0 ≤ x3 then if x3 < (x1.length : Int) then if 0 ≤ (wrap64 ((x0.length : Int) - 1)) then if (wrap64 ((x0.length : Int) - 1)) < (x0.length : Int) then (impl_Ring_turn.f k ((rd (0, 0) x1 x3).1) ((rd (0, 0) x1 x3).2)).bind fun t2 => (impl_first.f k t2.1 t2.2).bind fun (t3 : Int) => (impl_Ring_turn.f k ((rd (0, 0) x1 x3).1) ((rd (0, 0) x1 x3).2)).bind fun t4 => (impl_second.f k t4.1 t4.2).bind fun (t5 : Int) => (impl_NextPose.f k ((rd (0, (0, (0, 0))) x0 (wrap64 ((x0.length : Int) - 1))).1) (((rd (0, (0, (0, 0))) x0 (wrap64 ((x0.length : Int) - 1))).2).1) ((((rd (0, (0, (0, 0))) x0 (wrap64 ((x0.length : Int) - 1))).2).2).1) ((((rd (0, (0, (0, 0))) x0 (wrap64 ((x0.length : Int) - 1))).2).2).2) t3 t5).bind fun t6 => (if (!t6.2.2.2.2) = true then some ([], false) else if x0.length + [(t6.1, (t6.2.1, (t6.2.2.1, t6.2.2.2.1)))].length < 274877906944 then c (x0 ++ [(t6.1, (t6.2.1, (t6.2.2.1, t6.2.2.2.1)))]) x1 x2 (wrap64 (x3 + 1)) else none) else none else none else none else none else some (x0, true)))
noncomputable def impl_tubePoses.cs (k : Nat) : Nat → impl_tubePoses.Cs
  | 0 => impl_tubePoses.zero
  | n + 1 => impl_tubePoses.step k (impl_tubePoses.cs k n)
def impl_tubePoses.CC (c : impl_tubePoses.Cs) : Cuts impl_tubePoses.N := [(16, ⟨[(6, some false, [.fl (.own (.pair (.int .i64) (.pair (.int .i64) (.pair (.int .i64) (.int .i64)))))]), (16, some false, [.fl (.lo (.pair (.int .i64) (.int .i64)))]), (17, some false, [.fl (.int .i64)]), (18, some false, [.fl (.int .i64)])], fun x => c x.1.1 x.2.1.1 x.2.2.1.1 x.2.2.2.1.1⟩)]
noncomputable def impl_tubePoses.f (k : Nat) (a0 : Int) (a1 : Int) (a2 : Int) (a3 : Int) (a4 : List (Int × Int)) : Option impl_tubePoses.N := (impl_ValidPose.f k a0 a1 a2 a3).bind fun t1 => (if (!t1) = true then some ([], false) else (impl_tubePoses.cs k k) [(a0, (a1, (a2, a3)))] a4 (a4.length : Int) 0)
noncomputable def impl_tubePoses.F (k : Nat) : Go.Rv.Fn := mkFn 2 impl_tubePoses.pc impl_tubePoses.pr (keepOf []) (fun (y : impl_tubePoses.N) => (((y.1, ()), (y.2, ()), ()) : compT impl_tubePoses.pr)) fun x => impl_tubePoses.f k x.1.1 x.1.2.1 x.1.2.2.1 x.1.2.2.2.1 x.2.1.1
theorem impl_tubePoses.env (k : Nat) : EnvOk Go.Proofs.Try.prog (fun f => (impl_tubePoses.E k).lookup f) := envOk_of ⟨entry Go.Proofs.Try.call53 rfl (impl_ValidPose.ok k), entry Go.Proofs.Try.call104 rfl (impl_Ring_turn.ok k), entry Go.Proofs.Try.call105 rfl (impl_NextPose.ok k), entry Go.Proofs.Try.call106 rfl (impl_first.ok k), entry Go.Proofs.Try.call107 rfl (impl_second.ok k), trivial⟩
theorem impl_tubePoses.cuts (k : Nat) : CutsOk Go.Proofs.Try.prog X (fun f => (impl_tubePoses.E k).lookup f) Go.Proofs.Try.f69 [] (decN impl_tubePoses.pr (fun (y : compT impl_tubePoses.pr) => ((y.1.1, y.2.1.1) : impl_tubePoses.N))) fun n => impl_tubePoses.CC (impl_tubePoses.cs k n) :=
  cutsOk_of (step := impl_tubePoses.step k) rfl (fun _ => rfl) ⟨fun _ => rfl, trivial⟩ (fun c => by kernel_rfl) fun c => ⟨fun x => by kernel_rfl, trivial⟩
theorem impl_tubePoses.ok (k : Nat) : FnOk Go.Proofs.Try.prog 69 (impl_tubePoses.F k) :=
  fn_ok tab (impl_tubePoses.env k) Go.Proofs.Try.func69 rfl (n := 2) (Nat.le_of_ble_eq_true rfl) (by kernel_rfl) (outs := []) (by kernel_rfl) (by kernel_rfl) (d := fun (y : compT impl_tubePoses.pr) => ((y.1.1, y.2.1.1) : impl_tubePoses.N)) (fun _ => rfl) (C := fun n => impl_tubePoses.CC (impl_tubePoses.cs k n)) (k := k) (impl_tubePoses.cuts k) fun x => by kernel_rfl
/-! impl.TubePoses -/
@[reducible] def impl_TubePoses.pc : CutP := [(0, some true, [.fl (.int .i64), .fl (.int .i64), .fl (.int .i64), .fl (.int .i64)]), (1, some false, [.fl (.lo (.pair (.int .i64) (.int .i64)))])]
@[reducible] def impl_TubePoses.pr : CompPs := [(false, [.fl (.own (.pair (.int .i64) (.pair (.int .i64) (.pair (.int .i64) (.int .i64)))))]), (false, [.fl .bool])]
abbrev impl_TubePoses.N := List (Int × Int × Int × Int) × Bool
noncomputable def impl_TubePoses.E (k : Nat) : List (FuncId × Go.Rv.Fn) := [(17, impl_ValidTube.F k), (69, impl_tubePoses.F k)]
noncomputable def impl_TubePoses.f (k : Nat) (a0 : Int) (a1 : Int) (a2 : Int) (a3 : Int) (a4 : List (Int × Int)) : Option impl_TubePoses.N := (impl_ValidTube.f k a4).bind fun t1 => (if (!t1) = true then some ([], false) else (impl_tubePoses.f k a0 a1 a2 a3 a4).bind fun t2 => some (t2.1, t2.2))
noncomputable def impl_TubePoses.F (k : Nat) : Go.Rv.Fn := mkFn 2 impl_TubePoses.pc impl_TubePoses.pr (keepOf []) (fun (y : impl_TubePoses.N) => (((y.1, ()), (y.2, ()), ()) : compT impl_TubePoses.pr)) fun x => impl_TubePoses.f k x.1.1 x.1.2.1 x.1.2.2.1 x.1.2.2.2.1 x.2.1.1
theorem impl_TubePoses.env (k : Nat) : EnvOk Go.Proofs.Try.prog (fun f => (impl_TubePoses.E k).lookup f) := envOk_of ⟨entry Go.Proofs.Try.call17 rfl (impl_ValidTube.ok k), entry Go.Proofs.Try.call69 rfl (impl_tubePoses.ok k), trivial⟩
theorem impl_TubePoses.ok (k : Nat) : FnOk Go.Proofs.Try.prog 23 (impl_TubePoses.F k) :=
  fn_ok tab (impl_TubePoses.env k) Go.Proofs.Try.func23 rfl (n := 2) (Nat.le_of_ble_eq_true rfl) (by kernel_rfl) (outs := []) (by kernel_rfl) (by kernel_rfl) (d := fun (y : compT impl_TubePoses.pr) => ((y.1.1, y.2.1.1) : impl_TubePoses.N)) (fun _ => rfl) (C := fun _ => []) (k := k) noCuts fun x => by kernel_rfl
/-! impl.OffsetsBehind -/
@[reducible] def impl_OffsetsBehind.pc : CutP := [(0, some true, [.fl (.int .i64), .fl (.int .i64), .fl (.int .i64), .fl (.int .i64), .fl (.lo (.pair (.int .i64) (.pair (.int .i64) (.int .i64))))]), (1, some false, [.fl (.int .i64)]), (2, some true, [.fl (.int .i64), .fl (.int .i64), .fl (.int .i64), .fl (.int .i64)]), (3, some false, [.fl (.lo (.pair (.int .i64) (.int .i64)))])]
@[reducible] def impl_OffsetsBehind.pr : CompPs := [(false, [.fl (.own (.sl (.int .i64)))]), (false, [.fl .bool])]
abbrev impl_OffsetsBehind.N := List (List Int) × Bool
noncomputable def impl_OffsetsBehind.E (k : Nat) : List (FuncId × Go.Rv.Fn) := [(23, impl_TubePoses.F k), (51, impl_Axis_poses.F k), (52, impl_within.F k)]
abbrev impl_OffsetsBehind.Cs := (Int → List (Int × Int) → List (Int × Int × Int × Int) → List (Int × Int × Int × Int) → Option impl_OffsetsBehind.N) × (Int → List (Int × Int × Int × Int) → List (Int × Int × Int × Int) → List (List Int) → Int → Int → Option impl_OffsetsBehind.N)
def impl_OffsetsBehind.zero : impl_OffsetsBehind.Cs := (fun _ _ _ _ => none, fun _ _ _ _ _ _ => none)
noncomputable def impl_OffsetsBehind.step (k : Nat) (c : impl_OffsetsBehind.Cs) : impl_OffsetsBehind.Cs := (fun (x0 : Int) (x1 : List (Int × Int)) (x2 : List (Int × Int × Int × Int)) (x3 : List (Int × Int × Int × Int)) => c.2 x0 x2 x3 ([] : List (List Int)) (x1.length : Int) 0,
  fun (x0 : Int) (x1 : List (Int × Int × Int × Int)) (x2 : List (Int × Int × Int × Int)) (x3 : List (List Int)) (x4 : Int) (x5 : Int) => (if (decide (x5 < x4)) = true then if 0 ≤ (wrap64 (x5 + 1)) then if (wrap64 (x5 + 1)) < (x2.length : Int) then if 0 ≤ (wrap64 ((wrap64 (x0 + x5)) + 1)) then if (wrap64 ((wrap64 (x0 + x5)) + 1)) < (x1.length : Int) then if x3.length + [[(wrap64 ((rd (0, (0, (0, 0))) x2 (wrap64 (x5 + 1))).1 - (rd (0, (0, (0, 0))) x1 (wrap64 ((wrap64 (x0 + x5)) + 1))).1)), (wrap64 (((rd (0, (0, (0, 0))) x2 (wrap64 (x5 + 1))).2).1 - ((rd (0, (0, (0, 0))) x1 (wrap64 ((wrap64 (x0 + x5)) + 1))).2).1))]].length < 1099511627776 then c.2 x0 x1 x2 (x3 ++ [[(wrap64 ((rd (0, (0, (0, 0))) x2 (wrap64 (x5 + 1))).1 - (rd (0, (0, (0, 0))) x1 (wrap64 ((wrap64 (x0 + x5)) + 1))).1)), (wrap64 (((rd (0, (0, (0, 0))) x2 (wrap64 (x5 + 1))).2).1 - ((rd (0, (0, (0, 0))) x1 (wrap64 ((wrap64 (x0 + x5)) + 1))).2).1))]]) x4 (wrap64 (x5 + 1)) else none else none else none else none else none else some (x3, true)))
noncomputable def impl_OffsetsBehind.cs (k : Nat) : Nat → impl_OffsetsBehind.Cs
  | 0 => impl_OffsetsBehind.zero
  | n + 1 => impl_OffsetsBehind.step k (impl_OffsetsBehind.cs k n)
def impl_OffsetsBehind.CC (c : impl_OffsetsBehind.Cs) : Cuts impl_OffsetsBehind.N := [(6, ⟨[(1, some false, [.fl (.int .i64)]), (3, some false, [.fl (.lo (.pair (.int .i64) (.int .i64)))]), (10, some false, [.fl (.own (.pair (.int .i64) (.pair (.int .i64) (.pair (.int .i64) (.int .i64)))))]), (12, some false, [.fl (.own (.pair (.int .i64) (.pair (.int .i64) (.pair (.int .i64) (.int .i64)))))])], fun x => c.1 x.1.1 x.2.1.1 x.2.2.1.1 x.2.2.2.1.1⟩),
  (20, ⟨[(1, some false, [.fl (.int .i64)]), (10, some false, [.fl (.own (.pair (.int .i64) (.pair (.int .i64) (.pair (.int .i64) (.int .i64)))))]), (12, some false, [.fl (.own (.pair (.int .i64) (.pair (.int .i64) (.pair (.int .i64) (.int .i64)))))]), (14, some false, [.fl (.own (.sl (.int .i64)))]), (54, some false, [.fl (.int .i64)]), (55, some false, [.fl (.int .i64)])], fun x => c.2 x.1.1 x.2.1.1 x.2.2.1.1 x.2.2.2.1.1 x.2.2.2.2.1.1 x.2.2.2.2.2.1.1⟩)]
noncomputable def impl_OffsetsBehind.f (k : Nat) (a0 : Int) (a1 : Int) (a2 : Int) (a3 : Int) (a4 : List (Int × Int × Int)) (a5 : Int) (a6 : Int) (a7 : Int) (a8 : Int) (a9 : Int) (a10 : List (Int × Int)) : Option impl_OffsetsBehind.N := (impl_Axis_poses.f k a0 a1 a2 a3 a4).bind fun t1 => (impl_TubePoses.f k a6 a7 a8 a9 a10).bind fun t2 => (if (!t1.2) = true then some ([], false) else (if (!t2.2) = true then some ([], false) else (impl_within.f k a5 0 (wrap64 ((t1.1.length : Int) - 1))).bind fun t3 => (if (!t3) = true then some ([], false) else (if (decide ((t1.1.length : Int) ≤ (wrap64 (a5 + (a10.length : Int))))) = true then some ([], false) else (impl_OffsetsBehind.cs k k).1 a5 a10 t1.1 t2.1))))
noncomputable def impl_OffsetsBehind.F (k : Nat) : Go.Rv.Fn := mkFn 4 impl_OffsetsBehind.pc impl_OffsetsBehind.pr (keepOf []) (fun (y : impl_OffsetsBehind.N) => (((y.1, ()), (y.2, ()), ()) : compT impl_OffsetsBehind.pr)) fun x => impl_OffsetsBehind.f k x.1.1 x.1.2.1 x.1.2.2.1 x.1.2.2.2.1 x.1.2.2.2.2.1 x.2.1.1 x.2.2.1.1 x.2.2.1.2.1 x.2.2.1.2.2.1 x.2.2.1.2.2.2.1 x.2.2.2.1.1
theorem impl_OffsetsBehind.env (k : Nat) : EnvOk Go.Proofs.Try.prog (fun f => (impl_OffsetsBehind.E k).lookup f) := envOk_of ⟨entry Go.Proofs.Try.call23 rfl (impl_TubePoses.ok k), entry Go.Proofs.Try.call51 rfl (impl_Axis_poses.ok k), entry Go.Proofs.Try.call52 rfl (impl_within.ok k), trivial⟩
theorem impl_OffsetsBehind.cuts (k : Nat) : CutsOk Go.Proofs.Try.prog X (fun f => (impl_OffsetsBehind.E k).lookup f) Go.Proofs.Try.f22 [] (decN impl_OffsetsBehind.pr (fun (y : compT impl_OffsetsBehind.pr) => ((y.1.1, y.2.1.1) : impl_OffsetsBehind.N))) fun n => impl_OffsetsBehind.CC (impl_OffsetsBehind.cs k n) :=
  cutsOk_of (step := impl_OffsetsBehind.step k) rfl (fun _ => rfl) ⟨fun _ => rfl, fun _ => rfl, trivial⟩ (fun c => by kernel_rfl) fun c => ⟨fun x => by kernel_rfl, fun x => by kernel_rfl, trivial⟩
theorem impl_OffsetsBehind.ok (k : Nat) : FnOk Go.Proofs.Try.prog 22 (impl_OffsetsBehind.F k) :=
  fn_ok tab (impl_OffsetsBehind.env k) Go.Proofs.Try.func22 rfl (n := 4) (Nat.le_of_ble_eq_true rfl) (by kernel_rfl) (outs := []) (by kernel_rfl) (by kernel_rfl) (d := fun (y : compT impl_OffsetsBehind.pr) => ((y.1.1, y.2.1.1) : impl_OffsetsBehind.N)) (fun _ => rfl) (C := fun n => impl_OffsetsBehind.CC (impl_OffsetsBehind.cs k n)) (k := k) (impl_OffsetsBehind.cuts k) fun x => by kernel_rfl
/-! impl.SquaresOf -/
@[reducible] def impl_SquaresOf.pc : CutP := [(0, some true, [.fl (.int .i64), .fl (.int .i64), .fl (.int .i64), .fl (.int .i64), .fl (.lo (.pair (.int .i64) (.pair (.int .i64) (.int .i64))))]), (1, some false, [.fl (.int .i64)]), (2, some true, [.fl (.int .i64), .fl (.int .i64), .fl (.int .i64), .fl (.int .i64)]), (3, some false, [.fl (.lo (.pair (.int .i64) (.int .i64)))])]
@[reducible] def impl_SquaresOf.pr : CompPs := [(false, [.fl (.int .i64)]), (false, [.fl .bool])]
abbrev impl_SquaresOf.N := Int × Bool
noncomputable def impl_SquaresOf.E (k : Nat) : List (FuncId × Go.Rv.Fn) := [(22, impl_OffsetsBehind.F k)]
abbrev impl_SquaresOf.Cs := (List (List Int) → Int → List (List Int) → Int → Int → Option impl_SquaresOf.N)
def impl_SquaresOf.zero : impl_SquaresOf.Cs := (fun _ _ _ _ _ => none)
noncomputable def impl_SquaresOf.step (k : Nat) (c : impl_SquaresOf.Cs) : impl_SquaresOf.Cs := (fun (x0 : List (List Int)) (x1 : Int) (x2 : List (List Int)) (x3 : Int) (x4 : Int) => (if (decide (x4 < x3)) = true then if 0 ≤ x4 then if x4 < (x2.length : Int) then if 0 ≤ 0 then if 0 < ((rd [] x2 x4).length : Int) then if 0 ≤ 0 then if 0 < ((rd [] x2 x4).length : Int) then if 0 ≤ 1 then if 1 < ((rd [] x2 x4).length : Int) then if 0 ≤ 1 then if 1 < ((rd [] x2 x4).length : Int) then c x0 (wrap64 (x1 + (wrap64 ((wrap64 ((rd 0 (rd [] x2 x4) 0) * (rd 0 (rd [] x2 x4) 0))) + (wrap64 ((rd 0 (rd [] x2 x4) 1) * (rd 0 (rd [] x2 x4) 1))))))) x2 x3 (wrap64 (x4 + 1)) else none else none else none else none else none else none else none else none else none else none else some (x1, true)))
noncomputable def impl_SquaresOf.cs (k : Nat) : Nat → impl_SquaresOf.Cs
  | 0 => impl_SquaresOf.zero
  | n + 1 => impl_SquaresOf.step k (impl_SquaresOf.cs k n)
def impl_SquaresOf.CC (c : impl_SquaresOf.Cs) : Cuts impl_SquaresOf.N := [(18, ⟨[(10, some false, [.fl (.own (.sl (.int .i64)))]), (12, some false, [.fl (.int .i64)]), (25, some false, [.fl (.ref 10 1 (.sl (.int .i64)))]), (26, some false, [.fl (.int .i64)]), (27, some false, [.fl (.int .i64)])], fun x => c x.1.1 x.2.1.1 x.2.2.1.1 x.2.2.2.1.1 x.2.2.2.2.1.1⟩)]
noncomputable def impl_SquaresOf.f (k : Nat) (a0 : Int) (a1 : Int) (a2 : Int) (a3 : Int) (a4 : List (Int × Int × Int)) (a5 : Int) (a6 : Int) (a7 : Int) (a8 : Int) (a9 : Int) (a10 : List (Int × Int)) : Option impl_SquaresOf.N := (impl_OffsetsBehind.f k a0 a1 a2 a3 a4 a5 a6 a7 a8 a9 a10).bind fun t1 => (if (!t1.2) = true then some (0, false) else (impl_SquaresOf.cs k k) t1.1 0 t1.1 (t1.1.length : Int) 0)
noncomputable def impl_SquaresOf.F (k : Nat) : Go.Rv.Fn := mkFn 4 impl_SquaresOf.pc impl_SquaresOf.pr (keepOf []) (fun (y : impl_SquaresOf.N) => (((y.1, ()), (y.2, ()), ()) : compT impl_SquaresOf.pr)) fun x => impl_SquaresOf.f k x.1.1 x.1.2.1 x.1.2.2.1 x.1.2.2.2.1 x.1.2.2.2.2.1 x.2.1.1 x.2.2.1.1 x.2.2.1.2.1 x.2.2.1.2.2.1 x.2.2.1.2.2.2.1 x.2.2.2.1.1
theorem impl_SquaresOf.env (k : Nat) : EnvOk Go.Proofs.Try.prog (fun f => (impl_SquaresOf.E k).lookup f) := envOk_of ⟨entry Go.Proofs.Try.call22 rfl (impl_OffsetsBehind.ok k), trivial⟩
theorem impl_SquaresOf.cuts (k : Nat) : CutsOk Go.Proofs.Try.prog X (fun f => (impl_SquaresOf.E k).lookup f) Go.Proofs.Try.f15 [] (decN impl_SquaresOf.pr (fun (y : compT impl_SquaresOf.pr) => ((y.1.1, y.2.1.1) : impl_SquaresOf.N))) fun n => impl_SquaresOf.CC (impl_SquaresOf.cs k n) :=
  cutsOk_of (step := impl_SquaresOf.step k) rfl (fun _ => rfl) ⟨fun _ => rfl, trivial⟩ (fun c => by kernel_rfl) fun c => ⟨fun x => by kernel_rfl, trivial⟩
theorem impl_SquaresOf.ok (k : Nat) : FnOk Go.Proofs.Try.prog 15 (impl_SquaresOf.F k) :=
  fn_ok tab (impl_SquaresOf.env k) Go.Proofs.Try.func15 rfl (n := 4) (Nat.le_of_ble_eq_true rfl) (by kernel_rfl) (outs := []) (by kernel_rfl) (by kernel_rfl) (d := fun (y : compT impl_SquaresOf.pr) => ((y.1.1, y.2.1.1) : impl_SquaresOf.N)) (fun _ => rfl) (C := fun n => impl_SquaresOf.CC (impl_SquaresOf.cs k n)) (k := k) (impl_SquaresOf.cuts k) fun x => by kernel_rfl
/-! impl.PoseAt -/
@[reducible] def impl_PoseAt.pc : CutP := [(0, some true, [.fl (.int .i64), .fl (.int .i64), .fl (.int .i64), .fl (.int .i64), .fl (.lo (.pair (.int .i64) (.pair (.int .i64) (.int .i64))))]), (1, some false, [.fl (.int .i64)])]
@[reducible] def impl_PoseAt.pr : CompPs := [(true, [.fl (.int .i64), .fl (.int .i64), .fl (.int .i64), .fl (.int .i64)]), (false, [.fl .bool])]
abbrev impl_PoseAt.N := Int × Int × Int × Int × Bool
noncomputable def impl_PoseAt.E (k : Nat) : List (FuncId × Go.Rv.Fn) := [(51, impl_Axis_poses.F k), (52, impl_within.F k)]
noncomputable def impl_PoseAt.f (k : Nat) (a0 : Int) (a1 : Int) (a2 : Int) (a3 : Int) (a4 : List (Int × Int × Int)) (a5 : Int) : Option impl_PoseAt.N := (impl_Axis_poses.f k a0 a1 a2 a3 a4).bind fun t1 => (if (!t1.2) = true then some (0, 0, 0, 0, false) else (impl_within.f k a5 0 (wrap64 ((t1.1.length : Int) - 1))).bind fun t2 => (if (!t2) = true then some (0, 0, 0, 0, false) else if 0 ≤ a5 then if a5 < (t1.1.length : Int) then some ((rd (0, (0, (0, 0))) t1.1 a5).1, ((rd (0, (0, (0, 0))) t1.1 a5).2).1, (((rd (0, (0, (0, 0))) t1.1 a5).2).2).1, (((rd (0, (0, (0, 0))) t1.1 a5).2).2).2, true) else none else none))
noncomputable def impl_PoseAt.F (k : Nat) : Go.Rv.Fn := mkFn 2 impl_PoseAt.pc impl_PoseAt.pr (keepOf []) (fun (y : impl_PoseAt.N) => (((y.1, y.2.1, y.2.2.1, y.2.2.2.1, ()), (y.2.2.2.2, ()), ()) : compT impl_PoseAt.pr)) fun x => impl_PoseAt.f k x.1.1 x.1.2.1 x.1.2.2.1 x.1.2.2.2.1 x.1.2.2.2.2.1 x.2.1.1
theorem impl_PoseAt.env (k : Nat) : EnvOk Go.Proofs.Try.prog (fun f => (impl_PoseAt.E k).lookup f) := envOk_of ⟨entry Go.Proofs.Try.call51 rfl (impl_Axis_poses.ok k), entry Go.Proofs.Try.call52 rfl (impl_within.ok k), trivial⟩
theorem impl_PoseAt.ok (k : Nat) : FnOk Go.Proofs.Try.prog 24 (impl_PoseAt.F k) :=
  fn_ok tab (impl_PoseAt.env k) Go.Proofs.Try.func24 rfl (n := 2) (Nat.le_of_ble_eq_true rfl) (by kernel_rfl) (outs := []) (by kernel_rfl) (by kernel_rfl) (d := fun (y : compT impl_PoseAt.pr) => ((y.1.1, y.1.2.1, y.1.2.2.1, y.1.2.2.2.1, y.2.1.1) : impl_PoseAt.N)) (fun _ => rfl) (C := fun _ => []) (k := k) noCuts fun x => by kernel_rfl
/-! laws.FnOffsets -/
@[reducible] def laws_FnOffsets.pc : CutP := [(0, some false, [.fl (.lo (.int .u8))]), (1, some false, [.fl (.lo (.int .u8))])]
@[reducible] def laws_FnOffsets.pr : CompPs := [(false, [.fl .bool])]
abbrev laws_FnOffsets.N := Bool
noncomputable def laws_FnOffsets.E (k : Nat) : List (FuncId × Go.Rv.Fn) := [(10, laws_b10Long.F k), (11, spec_B10Axis.F k), (15, impl_SquaresOf.F k), (21, spec_B10Tube.F k), (22, impl_OffsetsBehind.F k), (23, impl_TubePoses.F k), (24, impl_PoseAt.F k)]
abbrev laws_FnOffsets.Cs := (Int → Int → Int → Int → List (Int × Int × Int) → Int → Int → Int → Int → Int → List (Int × Int) → Option laws_FnOffsets.N) × (Int → Int → Int → Int → List (Int × Int × Int) → Int → List (Int × Int) → List (List Int) → Bool → Int → List (Int × Int × Int × Int) → Option laws_FnOffsets.N) × (Int → Option laws_FnOffsets.N) × (Int → Int → Int → Int → List (Int × Int × Int) → Int → List (List Int) → Int → List (Int × Int × Int × Int) → Option laws_FnOffsets.N) × (Int → Int → Int → Int → List (Int × Int × Int) → Int → List (List Int) → Int → List (Int × Int × Int × Int) → Int → Option laws_FnOffsets.N) × (Int → Int → Int → Int → List (Int × Int × Int) → Int → List (List Int) → Int → List (Int × Int × Int × Int) → Int → Option laws_FnOffsets.N)
def laws_FnOffsets.zero : laws_FnOffsets.Cs := (fun _ _ _ _ _ _ _ _ _ _ _ => none, fun _ _ _ _ _ _ _ _ _ _ _ => none, fun _ => none, fun _ _ _ _ _ _ _ _ _ => none, fun _ _ _ _ _ _ _ _ _ _ => none, fun _ _ _ _ _ _ _ _ _ _ => none)
noncomputable def laws_FnOffsets.step (k : Nat) (c : laws_FnOffsets.Cs) : laws_FnOffsets.Cs := (fun (x0 : Int) (x1 : Int) (x2 : Int) (x3 : Int) (x4 : List (Int × Int × Int)) (x5 : Int) (x6 : Int) (x7 : Int) (x8 : Int) (x9 : Int) (x10 : List (Int × Int)) => (impl_OffsetsBehind.f k x0 x1 x2 x3 x4 x5 x6 x7 x8 x9 x10).bind fun t4 => (impl_SquaresOf.f k x0 x1 x2 x3 x4 x5 x6 x7 x8 x9 x10).bind fun t5 => (impl_TubePoses.f k x6 x7 x8 x9 x10).bind fun t6 => (if (!(t4.2 == t5.2)) = true then some false else (if (!(t4.2 == t6.2)) = true then some false else c.2.1 x0 x1 x2 x3 x4 x5 x10 t4.1 t4.2 t5.1 t6.1)),
  fun (x0 : Int) (x1 : Int) (x2 : Int) (x3 : Int) (x4 : List (Int × Int × Int)) (x5 : Int) (x6 : List (Int × Int)) (x7 : List (List Int)) (x8 : Bool) (x9 : Int) (x10 : List (Int × Int × Int × Int)) => (if x8 = true then (if (!decide ((x7.length : Int) = (x6.length : Int))) = true then some false else (if (!decide ((x10.length : Int) = (wrap64 ((x6.length : Int) + 1)))) = true then some false else c.2.2.2.1 x0 x1 x2 x3 x4 x5 x7 x9 x10)) else c.2.2.1 x9),
  fun (x0 : Int) => (impl_SquaresOf.f k 0 0 0 0 [(2, (0, 0))] 0 0 0 0 0 [(0, 0), (0, 2)]).bind fun t7 => (if (decide (x0 = 0)) = true then (if t7.2 = true then some (decide (t7.1 = 0)) else some false) else some false),
  fun (x0 : Int) (x1 : Int) (x2 : Int) (x3 : Int) (x4 : List (Int × Int × Int)) (x5 : Int) (x6 : List (List Int)) (x7 : Int) (x8 : List (Int × Int × Int × Int)) => c.2.2.2.2.1 x0 x1 x2 x3 x4 x5 x6 x7 x8 0,
  fun (x0 : Int) (x1 : Int) (x2 : Int) (x3 : Int) (x4 : List (Int × Int × Int)) (x5 : Int) (x6 : List (List Int)) (x7 : Int) (x8 : List (Int × Int × Int × Int)) (x9 : Int) => (if (decide (x9 < (x6.length : Int))) = true then (impl_PoseAt.f k x0 x1 x2 x3 x4 (wrap64 ((wrap64 (x5 + x9)) + 1))).bind fun t8 => (if (!t8.2.2.2.2) = true then some false else if 0 ≤ x9 then if x9 < (x6.length : Int) then (if (!decide (((rd [] x6 x9).length : Int) = 2)) = true then some false else if 0 ≤ x9 then if x9 < (x6.length : Int) then if 0 ≤ 0 then if 0 < ((rd [] x6 x9).length : Int) then if 0 ≤ (wrap64 (x9 + 1)) then if (wrap64 (x9 + 1)) < (x8.length : Int) then (if (!decide ((rd 0 (rd [] x6 x9) 0) = (wrap64 ((rd (0, (0, (0, 0))) x8 (wrap64 (x9 + 1))).1 - t8.1)))) = true then some false else if 0 ≤ x9 then if x9 < (x6.length : Int) then if 0 ≤ 1 then if 1 < ((rd [] x6 x9).length : Int) then if 0 ≤ (wrap64 (x9 + 1)) then if (wrap64 (x9 + 1)) < (x8.length : Int) then (if (!decide ((rd 0 (rd [] x6 x9) 1) = (wrap64 (((rd (0, (0, (0, 0))) x8 (wrap64 (x9 + 1))).2).1 - t8.2.1)))) = true then some false else c.2.2.2.2.2 x0 x1 x2 x3 x4 x5 x6 x7 x8 x9) else none else none else none else none else none else none) else none else none else none else none else none else none) else none else none) else c.2.2.1 x7),
  fun (x0 : Int) (x1 : Int) (x2 : Int) (x3 : Int) (x4 : List (Int × Int × Int)) (x5 : Int) (x6 : List (List Int)) (x7 : Int) (x8 : List (Int × Int × Int × Int)) (x9 : Int) => if 0 ≤ x9 then if x9 < (x6.length : Int) then if 0 ≤ 0 then if 0 < ((rd [] x6 x9).length : Int) then if 0 ≤ x9 then if x9 < (x6.length : Int) then if 0 ≤ 0 then if 0 < ((rd [] x6 x9).length : Int) then if 0 ≤ x9 then if x9 < (x6.length : Int) then if 0 ≤ 1 then if 1 < ((rd [] x6 x9).length : Int) then if 0 ≤ x9 then if x9 < (x6.length : Int) then if 0 ≤ 1 then if 1 < ((rd [] x6 x9).length : Int) then c.2.2.2.2.1 x0 x1 x2 x3 x4 x5 x6 (wrap64 (x7 - (wrap64 ((wrap64 ((rd 0 (rd [] x6 x9) 0) * (rd 0 (rd [] x6 x9) 0))) + (wrap64 ((rd 0 (rd [] x6 x9) 1) * (rd 0 (rd [] x6 x9) 1))))))) x8 (wrap64 (x9 + 1)) else none else none else none else none else none else none else none else none else none else none else none else none else none else none else none else none)
noncomputable def laws_FnOffsets.cs (k : Nat) : Nat → laws_FnOffsets.Cs
  | 0 => laws_FnOffsets.zero
  | n + 1 => laws_FnOffsets.step k (laws_FnOffsets.cs k n)
def laws_FnOffsets.CC (c : laws_FnOffsets.Cs) : Cuts laws_FnOffsets.N := [(14, ⟨[(5, none, [.fl (.int .i64), .fl (.int .i64), .fl (.int .i64), .fl (.int .i64), .fl (.own (.pair (.int .i64) (.pair (.int .i64) (.int .i64))))]), (6, some false, [.fl (.int .i64)]), (7, none, [.fl (.int .i64), .fl (.int .i64), .fl (.int .i64), .fl (.int .i64)]), (8, some false, [.fl (.hi (.pair (.int .i64) (.int .i64)))])], fun x => c.1 x.1.1 x.1.2.1 x.1.2.2.1 x.1.2.2.2.1 x.1.2.2.2.2.1 x.2.1.1 x.2.2.1.1 x.2.2.1.2.1 x.2.2.1.2.2.1 x.2.2.1.2.2.2.1 x.2.2.2.1.1⟩),
  (26, ⟨[(5, none, [.fl (.int .i64), .fl (.int .i64), .fl (.int .i64), .fl (.int .i64), .fl (.own (.pair (.int .i64) (.pair (.int .i64) (.int .i64))))]), (6, some false, [.fl (.int .i64)]), (8, some false, [.fl (.hi (.pair (.int .i64) (.int .i64)))]), (9, some false, [.fl (.own (.sl (.int .i64)))]), (10, some false, [.fl .bool]), (11, some false, [.fl (.int .i64)]), (13, some false, [.fl (.own (.pair (.int .i64) (.pair (.int .i64) (.pair (.int .i64) (.int .i64)))))])], fun x => c.2.1 x.1.1 x.1.2.1 x.1.2.2.1 x.1.2.2.2.1 x.1.2.2.2.2.1 x.2.1.1 x.2.2.1.1 x.2.2.2.1.1 x.2.2.2.2.1.1 x.2.2.2.2.2.1.1 x.2.2.2.2.2.2.1.1⟩),
  (34, ⟨[(11, some false, [.fl (.int .i64)])], fun x => c.2.2.1 x.1.1⟩),
  (38, ⟨[(5, none, [.fl (.int .i64), .fl (.int .i64), .fl (.int .i64), .fl (.int .i64), .fl (.own (.pair (.int .i64) (.pair (.int .i64) (.int .i64))))]), (6, some false, [.fl (.int .i64)]), (9, some false, [.fl (.own (.sl (.int .i64)))]), (11, some false, [.fl (.int .i64)]), (13, some false, [.fl (.own (.pair (.int .i64) (.pair (.int .i64) (.pair (.int .i64) (.int .i64)))))])], fun x => c.2.2.2.1 x.1.1 x.1.2.1 x.1.2.2.1 x.1.2.2.2.1 x.1.2.2.2.2.1 x.2.1.1 x.2.2.1.1 x.2.2.2.1.1 x.2.2.2.2.1.1⟩),
  (49, ⟨[(5, none, [.fl (.int .i64), .fl (.int .i64), .fl (.int .i64), .fl (.int .i64), .fl (.own (.pair (.int .i64) (.pair (.int .i64) (.int .i64))))]), (6, some false, [.fl (.int .i64)]), (9, some false, [.fl (.own (.sl (.int .i64)))]), (11, some false, [.fl (.int .i64)]), (13, some false, [.fl (.own (.pair (.int .i64) (.pair (.int .i64) (.pair (.int .i64) (.int .i64)))))]), (15, some false, [.fl (.int .i64)])], fun x => c.2.2.2.2.1 x.1.1 x.1.2.1 x.1.2.2.1 x.1.2.2.2.1 x.1.2.2.2.2.1 x.2.1.1 x.2.2.1.1 x.2.2.2.1.1 x.2.2.2.2.1.1 x.2.2.2.2.2.1.1⟩),
  (60, ⟨[(5, none, [.fl (.int .i64), .fl (.int .i64), .fl (.int .i64), .fl (.int .i64), .fl (.own (.pair (.int .i64) (.pair (.int .i64) (.int .i64))))]), (6, some false, [.fl (.int .i64)]), (9, some false, [.fl (.own (.sl (.int .i64)))]), (11, some false, [.fl (.int .i64)]), (13, some false, [.fl (.own (.pair (.int .i64) (.pair (.int .i64) (.pair (.int .i64) (.int .i64)))))]), (15, some false, [.fl (.int .i64)])], fun x => c.2.2.2.2.2 x.1.1 x.1.2.1 x.1.2.2.1 x.1.2.2.2.1 x.1.2.2.2.2.1 x.2.1.1 x.2.2.1.1 x.2.2.2.1.1 x.2.2.2.2.1.1 x.2.2.2.2.2.1.1⟩)]
noncomputable def laws_FnOffsets.f (k : Nat) (a0 : List Int) (a1 : List Int) : Option laws_FnOffsets.N := (laws_b10Long.f k a0 a1).bind fun t1 => (if t1 = true then some true else (spec_B10Axis.f k a0).bind fun t2 => (spec_B10Tube.f k a1).bind fun t3 => (if (decide (2 < (t3.length : Int))) = true then if 0 ≤ 0 then if 0 ≤ 2 then if 2 ≤ (t3.length : Int) then (laws_FnOffsets.cs k k).1 t2.1 t2.2.1 t2.2.2.1 t2.2.2.2.1 t2.2.2.2.2.1 t2.2.2.2.2.2.1 t2.2.2.2.2.2.2.1 t2.2.2.2.2.2.2.2.1 t2.2.2.2.2.2.2.2.2.1 t2.2.2.2.2.2.2.2.2.2 ((t3.take (2 : Int).toNat).drop (0 : Int).toNat) else none else none else none else (laws_FnOffsets.cs k k).1 t2.1 t2.2.1 t2.2.2.1 t2.2.2.2.1 t2.2.2.2.2.1 t2.2.2.2.2.2.1 t2.2.2.2.2.2.2.1 t2.2.2.2.2.2.2.2.1 t2.2.2.2.2.2.2.2.2.1 t2.2.2.2.2.2.2.2.2.2 t3))
noncomputable def laws_FnOffsets.F (k : Nat) : Go.Rv.Fn := mkFn 2 laws_FnOffsets.pc laws_FnOffsets.pr (keepOf []) (fun (y : laws_FnOffsets.N) => (((y, ()), ()) : compT laws_FnOffsets.pr)) fun x => laws_FnOffsets.f k x.1.1 x.2.1.1
theorem laws_FnOffsets.env (k : Nat) : EnvOk Go.Proofs.Try.prog (fun f => (laws_FnOffsets.E k).lookup f) := envOk_of ⟨entry Go.Proofs.Try.call10 rfl (laws_b10Long.ok k), entry Go.Proofs.Try.call11 rfl (spec_B10Axis.ok k), entry Go.Proofs.Try.call15 rfl (impl_SquaresOf.ok k), entry Go.Proofs.Try.call21 rfl (spec_B10Tube.ok k), entry Go.Proofs.Try.call22 rfl (impl_OffsetsBehind.ok k), entry Go.Proofs.Try.call23 rfl (impl_TubePoses.ok k), entry Go.Proofs.Try.call24 rfl (impl_PoseAt.ok k), trivial⟩
theorem laws_FnOffsets.cuts (k : Nat) : CutsOk Go.Proofs.Try.prog X (fun f => (laws_FnOffsets.E k).lookup f) Go.Proofs.Try.f5 [] (decN laws_FnOffsets.pr (fun (y : compT laws_FnOffsets.pr) => (y.1.1 : laws_FnOffsets.N))) fun n => laws_FnOffsets.CC (laws_FnOffsets.cs k n) :=
  cutsOk_of (step := laws_FnOffsets.step k) rfl (fun _ => rfl) ⟨fun _ => rfl, fun _ => rfl, fun _ => rfl, fun _ => rfl, fun _ => rfl, fun _ => rfl, trivial⟩ (fun c => by kernel_rfl) fun c => ⟨fun x => by kernel_rfl, fun x => by kernel_rfl, fun x => by kernel_rfl, fun x => by kernel_rfl, fun x => by kernel_rfl, fun x => by kernel_rfl, trivial⟩
theorem laws_FnOffsets.ok (k : Nat) : FnOk Go.Proofs.Try.prog 5 (laws_FnOffsets.F k) :=
  fn_ok tab (laws_FnOffsets.env k) Go.Proofs.Try.func5 rfl (n := 2) (Nat.le_of_ble_eq_true rfl) (by kernel_rfl) (outs := []) (by kernel_rfl) (by kernel_rfl) (d := fun (y : compT laws_FnOffsets.pr) => (y.1.1 : laws_FnOffsets.N)) (fun _ => rfl) (C := fun n => laws_FnOffsets.CC (laws_FnOffsets.cs k n)) (k := k) (laws_FnOffsets.cuts k) fun x => by kernel_rfl
end Go.Proofs.Ytmgelocefebldaa.R
