-- written by wip/rev/gen2.py for this claim (out of the translation). Lean checks it.
import Derived.Test.YtlkmjldhhoopcaaRvM2
import Derived.Test.YtlkmjldhhoopcaaProg
namespace Go.Proofs.Ytlkmjldhhoopcaa.R
open Go.Rv
set_option linter.unusedVariables false
set_option maxRecDepth 100000
def X : Env := { n := 0, keep := [], tab := [(2, { ty := (.int .i64) }),
  (3, { ty := (.int .i64) }),
  (5, { ty := (.int .u8) }),
  (22, { ty := (.sl (.int .i64)) }),
  (28, { ty := (.sl (.pair (.int .i64) (.sl (.int .i64)))) }),
  (30, { ty := (.pair (.sl (.int .i64)) (.sl (.pair (.int .i64) (.sl (.int .i64))))), agg := true, offs := [(0, 1, false), (1, 1, false)] }),
  (34, { ty := (.sl (.int .u8)) }),
  (40, { ty := (.pair (.int .i64) (.sl (.int .i64))), agg := true, offs := [(0, 1, false), (1, 1, false)] }),
  (56, { ty := (.pair (.int .i64) (.pair (.int .i64) (.pair (.int .i64) (.int .i64)))), agg := true, offs := [(0, 1, false), (1, 1, false), (2, 1, false), (3, 1, false)] }),
  (57, { ty := (.sl (.pair (.int .i64) (.pair (.int .i64) (.int .i64)))) }),
  (59, { ty := (.pair (.pair (.int .i64) (.pair (.int .i64) (.pair (.int .i64) (.int .i64)))) (.sl (.pair (.int .i64) (.pair (.int .i64) (.int .i64))))), agg := true, offs := [(0, 4, true), (4, 1, false)] }),
  (87, { ty := (.sl (.pair (.int .i64) (.pair (.int .i64) (.pair (.int .i64) (.int .i64))))) }),
  (102, { ty := (.int .u64) }),
  (104, { ty := (.pair (.sl (.int .u8)) (.pair (.int .i64) (.int .u64))), agg := true, offs := [(0, 1, false), (1, 1, false), (2, 1, false)] }),
  (109, { ty := (.pair (.int .i64) (.pair (.int .i64) (.int .i64))), agg := true, offs := [(0, 1, false), (1, 1, false), (2, 1, false)] })] }
theorem tab : TabOk Go.Proofs.Try.prog X := ⟨by kernel_rfl, by kernel_rfl⟩
/-! laws.r8Long -/
@[reducible] def laws_r8Long.pc : CutP := [(0, some false, [.fl (.lo (.int .u8))]), (1, some false, [.fl (.lo (.int .u8))])]
@[reducible] def laws_r8Long.pr : CompPs := [(false, [.fl .bool])]
abbrev laws_r8Long.N := Bool
noncomputable def laws_r8Long.E (k : Nat) : List (FuncId × Go.Rv.Fn) := []
noncomputable def laws_r8Long.f (k : Nat) (a0 : List Int) (a1 : List Int) : Option laws_r8Long.N := (if (decide (48 < (a0.length : Int))) = true then some true else some (decide (48 < (a1.length : Int))))
noncomputable def laws_r8Long.F (k : Nat) : Go.Rv.Fn := mkFn 2 laws_r8Long.pc laws_r8Long.pr (keepOf []) (fun (y : laws_r8Long.N) => (((y, ()), ()) : compT laws_r8Long.pr)) fun x => laws_r8Long.f k x.1.1 x.2.1.1
theorem laws_r8Long.env (k : Nat) : EnvOk Go.Proofs.Try.prog (fun f => (laws_r8Long.E k).lookup f) := envOk_of trivial
theorem laws_r8Long.ok (k : Nat) : FnOk Go.Proofs.Try.prog 16 (laws_r8Long.F k) :=
  fn_ok tab (laws_r8Long.env k) Go.Proofs.Try.func16 rfl (n := 2) (Nat.le_of_ble_eq_true rfl) (by kernel_rfl) (outs := []) (by kernel_rfl) (by kernel_rfl) (d := fun (y : compT laws_r8Long.pr) => (y.1.1 : laws_r8Long.N)) (fun _ => rfl) (C := fun _ => []) (k := k) noCuts fun x => by kernel_rfl
/-! spec.l00From -/
@[reducible] def spec_l00From.bp : List FPat := [(.lo (.int .u8)), (.int .i64), (.int .u64)]
@[reducible] def spec_l00From.pc : CutP := [(0, some false, [.fl (.lo (.int .u8))])]
@[reducible] def spec_l00From.pr : CompPs := []
abbrev spec_l00From.N := List Int × Int × Int
noncomputable def spec_l00From.E (k : Nat) : List (FuncId × Go.Rv.Fn) := []
noncomputable def spec_l00From.f (k : Nat) (a0 : List Int) : Option spec_l00From.N := some (a0, 0, 0)
noncomputable def spec_l00From.F (k : Nat) : Go.Rv.Fn := mkFnR 1 spec_l00From.pc spec_l00From.bp (fun (y : spec_l00From.N) => ((y.1, y.2.1, y.2.2, ()) : fpatsT spec_l00From.bp)) fun x => spec_l00From.f k x.1.1
theorem spec_l00From.env (k : Nat) : EnvOk Go.Proofs.Try.prog (fun f => (spec_l00From.E k).lookup f) := envOk_of trivial
theorem spec_l00From.ok (k : Nat) : FnOk Go.Proofs.Try.prog 51 (spec_l00From.F k) :=
  fn_okR tab (spec_l00From.env k) Go.Proofs.Try.func51 rfl (n := 1) (Nat.le_of_ble_eq_true rfl) (by kernel_rfl) (by kernel_rfl) (d := fun (y : fpatsT spec_l00From.bp) => ((y.1, y.2.1, y.2.2.1) : spec_l00From.N)) (fun _ => rfl) (C := (fun _ => [])) (k := k) noCutsG fun x => by kernel_rfl
/-! (*spec.l00Src).next -/
@[reducible] def spec_l00Src_next.bp : List FPat := [(.lo (.int .u8)), (.int .i64), (.int .u64)]
@[reducible] def spec_l00Src_next.pc : CutP := [(0, none, [.fl (.lo (.int .u8)), .fl (.int .i64), .fl (.int .u64)])]
@[reducible] def spec_l00Src_next.pr : CompPs := [(false, [.fl (.int .i64)])]
abbrev spec_l00Src_next.N := Int × List Int × Int × Int
noncomputable def spec_l00Src_next.E (k : Nat) : List (FuncId × Go.Rv.Fn) := []
abbrev spec_l00Src_next.Cs := (List Int → Int → Int → Int → Option spec_l00Src_next.N)
def spec_l00Src_next.zero : spec_l00Src_next.Cs := (fun _ _ _ _ => none)
noncomputable def spec_l00Src_next.step (k : Nat) (c : spec_l00Src_next.Cs) : spec_l00Src_next.Cs := (fun (x0 : List Int) (x1 : Int) (x2 : Int) (x3 : Int) => (if (decide ((wrap64 (x1 + 1)) ≤ (x0.length : Int))) = true then some (x3, x0, (wrap64 (x1 + 1)), (IntKind.u64.wrap ((IntKind.u64.wrap ((IntKind.u64.wrap (x2 * 6364136223846793005)) + (IntKind.u64.wrap (x3)))) + 1442695040888963407))) else (if 40 < 0 then none else some ((wrap64 ((IntKind.u64.wrap ((BitVec.ofInt IntKind.u64.bits ((IntKind.u64.wrap ((IntKind.u64.wrap ((IntKind.u64.wrap (x2 * 6364136223846793005)) + (IntKind.u64.wrap (x3)))) + 1442695040888963407)).fdiv (2 ^ min (40 : Int).toNat IntKind.u64.bits)) &&& BitVec.ofInt IntKind.u64.bits 255).toNat : Int)))), x0, (wrap64 (x1 + 1)), (IntKind.u64.wrap ((IntKind.u64.wrap ((IntKind.u64.wrap (x2 * 6364136223846793005)) + (IntKind.u64.wrap (x3)))) + 1442695040888963407))))))
noncomputable def spec_l00Src_next.cs (k : Nat) : Nat → spec_l00Src_next.Cs
  | 0 => spec_l00Src_next.zero
  | n + 1 => spec_l00Src_next.step k (spec_l00Src_next.cs k n)
def spec_l00Src_next.CC (c : spec_l00Src_next.Cs) : Cuts spec_l00Src_next.N := [(4, ⟨[(0, none, [.fl (.lo (.int .u8)), .fl (.int .i64), .fl (.int .u64)]), (3, some false, [.fl (.int .i64)])], fun x => c x.1.1 x.1.2.1 x.1.2.2.1 x.2.1.1⟩)]
noncomputable def spec_l00Src_next.f (k : Nat) (a0 : List Int) (a1 : Int) (a2 : Int) : Option spec_l00Src_next.N := (if (decide (a1 < (a0.length : Int))) = true then if 0 ≤ a1 then if a1 < (a0.length : Int) then (spec_l00Src_next.cs k k) a0 a1 a2 (wrap64 ((rd 0 a0 a1))) else none else none else (spec_l00Src_next.cs k k) a0 a1 a2 0)
noncomputable def spec_l00Src_next.F (k : Nat) : Go.Rv.Fn := mkFnB 0 spec_l00Src_next.pc spec_l00Src_next.pr spec_l00Src_next.bp (fun (y : spec_l00Src_next.N) => ((((y.1, ()), ()), (y.2.1, y.2.2.1, y.2.2.2, ())) : compT spec_l00Src_next.pr × fpatsT spec_l00Src_next.bp)) fun x => spec_l00Src_next.f k x.1.1 x.1.2.1 x.1.2.2.1
theorem spec_l00Src_next.env (k : Nat) : EnvOk Go.Proofs.Try.prog (fun f => (spec_l00Src_next.E k).lookup f) := envOk_of trivial
theorem spec_l00Src_next.cuts (k : Nat) : CutsOkG Go.Proofs.Try.prog { X with n := Go.Proofs.Try.f96.ntmps, keep := [0] } (fun f => (spec_l00Src_next.E k).lookup f) Go.Proofs.Try.f96 (endB { X with n := Go.Proofs.Try.f96.ntmps, keep := [0] } Go.Proofs.Try.f96 spec_l00Src_next.pr spec_l00Src_next.bp (fun (y : compT spec_l00Src_next.pr × fpatsT spec_l00Src_next.bp) => ((y.1.1.1, y.2.1, y.2.2.1, y.2.2.2.1) : spec_l00Src_next.N))) fun n => spec_l00Src_next.CC (spec_l00Src_next.cs k n) :=
  cutsOkG_of (step := spec_l00Src_next.step k) rfl (fun _ => rfl) ⟨fun _ => rfl, trivial⟩ (fun c => by kernel_rfl) fun c => ⟨fun x => by kernel_rfl, trivial⟩
theorem spec_l00Src_next.ok (k : Nat) : FnOkB Go.Proofs.Try.prog 96 (spec_l00Src_next.F k) :=
  fn_okB tab (spec_l00Src_next.env k) Go.Proofs.Try.func96 rfl (n := 0) (Nat.le_of_ble_eq_true rfl) (by kernel_rfl) (by kernel_rfl) (by kernel_rfl) (d := fun (y : compT spec_l00Src_next.pr × fpatsT spec_l00Src_next.bp) => ((y.1.1.1, y.2.1, y.2.2.1, y.2.2.2.1) : spec_l00Src_next.N)) (fun _ => rfl) (C := (fun n => spec_l00Src_next.CC (spec_l00Src_next.cs k n))) (k := k) (spec_l00Src_next.cuts k) fun x => by kernel_rfl
/-! (*spec.l00Src).pick -/
@[reducible] def spec_l00Src_pick.bp : List FPat := [(.lo (.int .u8)), (.int .i64), (.int .u64)]
@[reducible] def spec_l00Src_pick.pc : CutP := [(0, none, [.fl (.lo (.int .u8)), .fl (.int .i64), .fl (.int .u64)]), (1, some false, [.fl (.int .i64)])]
@[reducible] def spec_l00Src_pick.pr : CompPs := [(false, [.fl (.int .i64)])]
abbrev spec_l00Src_pick.N := Int × List Int × Int × Int
noncomputable def spec_l00Src_pick.E (k : Nat) : List (FuncId × Go.Rv.Fn) := [(96, spec_l00Src_next.F k)]
noncomputable def spec_l00Src_pick.f (k : Nat) (a0 : List Int) (a1 : Int) (a2 : Int) (a3 : Int) : Option spec_l00Src_pick.N := (if (decide (a3 ≤ 1)) = true then some (0, a0, a1, a2) else (spec_l00Src_next.f k a0 a1 a2).bind fun t1 => (if (decide (200 < a3)) = true then (spec_l00Src_next.f k t1.2.1 t1.2.2.1 t1.2.2.2).bind fun t2 => (if a3 = 0 then none else some (((wrap64 ((wrap64 (t1.1 * 256)) + t2.1)).tmod a3), t2.2.1, t2.2.2.1, t2.2.2.2)) else (if a3 = 0 then none else some ((t1.1.tmod a3), t1.2.1, t1.2.2.1, t1.2.2.2))))
noncomputable def spec_l00Src_pick.F (k : Nat) : Go.Rv.Fn := mkFnB 1 spec_l00Src_pick.pc spec_l00Src_pick.pr spec_l00Src_pick.bp (fun (y : spec_l00Src_pick.N) => ((((y.1, ()), ()), (y.2.1, y.2.2.1, y.2.2.2, ())) : compT spec_l00Src_pick.pr × fpatsT spec_l00Src_pick.bp)) fun x => spec_l00Src_pick.f k x.1.1 x.1.2.1 x.1.2.2.1 x.2.1.1
theorem spec_l00Src_pick.env (k : Nat) : EnvOk Go.Proofs.Try.prog (fun f => (spec_l00Src_pick.E k).lookup f) := envOk_of ⟨entryB Go.Proofs.Try.call96 rfl (spec_l00Src_next.ok k), trivial⟩
theorem spec_l00Src_pick.ok (k : Nat) : FnOkB Go.Proofs.Try.prog 82 (spec_l00Src_pick.F k) :=
  fn_okB tab (spec_l00Src_pick.env k) Go.Proofs.Try.func82 rfl (n := 1) (Nat.le_of_ble_eq_true rfl) (by kernel_rfl) (by kernel_rfl) (by kernel_rfl) (d := fun (y : compT spec_l00Src_pick.pr × fpatsT spec_l00Src_pick.bp) => ((y.1.1.1, y.2.1, y.2.2.1, y.2.2.2.1) : spec_l00Src_pick.N)) (fun _ => rfl) (C := (fun _ => [])) (k := k) noCutsG fun x => by kernel_rfl
/-! (*spec.l00Src).one -/
@[reducible] def spec_l00Src_one.bp : List FPat := [(.lo (.int .u8)), (.int .i64), (.int .u64)]
@[reducible] def spec_l00Src_one.pc : CutP := [(0, none, [.fl (.lo (.int .u8)), .fl (.int .i64), .fl (.int .u64)]), (1, some false, [.fl (.int .i64)])]
@[reducible] def spec_l00Src_one.pr : CompPs := [(false, [.fl .bool])]
abbrev spec_l00Src_one.N := Bool × List Int × Int × Int
noncomputable def spec_l00Src_one.E (k : Nat) : List (FuncId × Go.Rv.Fn) := [(82, spec_l00Src_pick.F k)]
noncomputable def spec_l00Src_one.f (k : Nat) (a0 : List Int) (a1 : Int) (a2 : Int) (a3 : Int) : Option spec_l00Src_one.N := (spec_l00Src_pick.f k a0 a1 a2 a3).bind fun t1 => some ((decide (t1.1 = 0)), t1.2.1, t1.2.2.1, t1.2.2.2)
noncomputable def spec_l00Src_one.F (k : Nat) : Go.Rv.Fn := mkFnB 1 spec_l00Src_one.pc spec_l00Src_one.pr spec_l00Src_one.bp (fun (y : spec_l00Src_one.N) => ((((y.1, ()), ()), (y.2.1, y.2.2.1, y.2.2.2, ())) : compT spec_l00Src_one.pr × fpatsT spec_l00Src_one.bp)) fun x => spec_l00Src_one.f k x.1.1 x.1.2.1 x.1.2.2.1 x.2.1.1
theorem spec_l00Src_one.env (k : Nat) : EnvOk Go.Proofs.Try.prog (fun f => (spec_l00Src_one.E k).lookup f) := envOk_of ⟨entryB Go.Proofs.Try.call82 rfl (spec_l00Src_pick.ok k), trivial⟩
theorem spec_l00Src_one.ok (k : Nat) : FnOkB Go.Proofs.Try.prog 90 (spec_l00Src_one.F k) :=
  fn_okB tab (spec_l00Src_one.env k) Go.Proofs.Try.func90 rfl (n := 1) (Nat.le_of_ble_eq_true rfl) (by kernel_rfl) (by kernel_rfl) (by kernel_rfl) (d := fun (y : compT spec_l00Src_one.pr × fpatsT spec_l00Src_one.bp) => ((y.1.1.1, y.2.1, y.2.2.1, y.2.2.2.1) : spec_l00Src_one.N)) (fun _ => rfl) (C := (fun _ => [])) (k := k) noCutsG fun x => by kernel_rfl
/-! spec.l06DrawHole -/
@[reducible] def spec_l06DrawHole.bp : List FPat := [(.lo (.int .u8)), (.int .i64), (.int .u64)]
@[reducible] def spec_l06DrawHole.pc : CutP := [(0, none, [.fl (.lo (.int .u8)), .fl (.int .i64), .fl (.int .u64)]), (1, some false, [.fl (.int .i64)]), (2, some false, [.fl (.int .i64)])]
@[reducible] def spec_l06DrawHole.pr : CompPs := [(true, [.fl (.int .i64), .fl (.own (.int .i64))])]
abbrev spec_l06DrawHole.N := Int × List Int × List Int × Int × Int
noncomputable def spec_l06DrawHole.E (k : Nat) : List (FuncId × Go.Rv.Fn) := [(82, spec_l00Src_pick.F k), (90, spec_l00Src_one.F k)]
abbrev spec_l06DrawHole.Cs := (List Int → Int → Int → Int → Int → Int → List Int → Int → Int → Option spec_l06DrawHole.N)
def spec_l06DrawHole.zero : spec_l06DrawHole.Cs := (fun _ _ _ _ _ _ _ _ _ => none)
noncomputable def spec_l06DrawHole.step (k : Nat) (c : spec_l06DrawHole.Cs) : spec_l06DrawHole.Cs := (fun (x0 : List Int) (x1 : Int) (x2 : Int) (x3 : Int) (x4 : Int) (x5 : Int) (x6 : List Int) (x7 : Int) (x8 : Int) => (if (decide (x8 < x3)) = true then if x6.length + [x7].length < 1099511627776 then (spec_l00Src_pick.f k x0 x1 x2 40).bind fun t2 => (spec_l00Src_one.f k t2.2.1 t2.2.2.1 t2.2.2.2 6).bind fun t3 => (if t3.1 = true then (spec_l00Src_pick.f k t3.2.1 t3.2.2.1 t3.2.2.2 3).bind fun t4 => c t4.2.1 t4.2.2.1 t4.2.2.2 x3 x4 x5 (x6 ++ [x7]) (wrap64 ((wrap64 (x7 - (wrap64 (100 * t2.1)))) - t4.1)) (wrap64 (x8 + 1)) else c t3.2.1 t3.2.2.1 t3.2.2.2 x3 x4 x5 (x6 ++ [x7]) (wrap64 (x7 - (wrap64 (100 * t2.1)))) (wrap64 (x8 + 1))) else none else some (x5, x6, x0, x1, x2)))
noncomputable def spec_l06DrawHole.cs (k : Nat) : Nat → spec_l06DrawHole.Cs
  | 0 => spec_l06DrawHole.zero
  | n + 1 => spec_l06DrawHole.step k (spec_l06DrawHole.cs k n)
def spec_l06DrawHole.CC (c : spec_l06DrawHole.Cs) : Cuts spec_l06DrawHole.N := [(10, ⟨[(0, none, [.fl (.lo (.int .u8)), .fl (.int .i64), .fl (.int .u64)]), (2, some false, [.fl (.int .i64)]), (6, none, [.fl (.int .i64), .fl .nils]), (7, none, [.fl (.int .i64), .fl (.own (.int .i64))]), (8, some false, [.fl (.int .i64)]), (9, some false, [.fl (.int .i64)])], fun x => c x.1.1 x.1.2.1 x.1.2.2.1 x.2.1.1 x.2.2.1.1 x.2.2.2.1.1 x.2.2.2.1.2.1 x.2.2.2.2.1.1 x.2.2.2.2.2.1.1⟩)]
noncomputable def spec_l06DrawHole.f (k : Nat) (a0 : List Int) (a1 : Int) (a2 : Int) (a3 : Int) (a4 : Int) : Option spec_l06DrawHole.N := (spec_l00Src_pick.f k a0 a1 a2 40).bind fun t1 => (spec_l06DrawHole.cs k k) t1.2.1 t1.2.2.1 t1.2.2.2 a4 0 a3 ([] : List Int) (wrap64 (4000 + (wrap64 (100 * t1.1)))) 0
noncomputable def spec_l06DrawHole.F (k : Nat) : Go.Rv.Fn := mkFnB 2 spec_l06DrawHole.pc spec_l06DrawHole.pr spec_l06DrawHole.bp (fun (y : spec_l06DrawHole.N) => ((((y.1, y.2.1, ()), ()), (y.2.2.1, y.2.2.2.1, y.2.2.2.2, ())) : compT spec_l06DrawHole.pr × fpatsT spec_l06DrawHole.bp)) fun x => spec_l06DrawHole.f k x.1.1 x.1.2.1 x.1.2.2.1 x.2.1.1 x.2.2.1.1
theorem spec_l06DrawHole.env (k : Nat) : EnvOk Go.Proofs.Try.prog (fun f => (spec_l06DrawHole.E k).lookup f) := envOk_of ⟨entryB Go.Proofs.Try.call82 rfl (spec_l00Src_pick.ok k), entryB Go.Proofs.Try.call90 rfl (spec_l00Src_one.ok k), trivial⟩
theorem spec_l06DrawHole.cuts (k : Nat) : CutsOkG Go.Proofs.Try.prog { X with n := Go.Proofs.Try.f72.ntmps, keep := [0] } (fun f => (spec_l06DrawHole.E k).lookup f) Go.Proofs.Try.f72 (endB { X with n := Go.Proofs.Try.f72.ntmps, keep := [0] } Go.Proofs.Try.f72 spec_l06DrawHole.pr spec_l06DrawHole.bp (fun (y : compT spec_l06DrawHole.pr × fpatsT spec_l06DrawHole.bp) => ((y.1.1.1, y.1.1.2.1, y.2.1, y.2.2.1, y.2.2.2.1) : spec_l06DrawHole.N))) fun n => spec_l06DrawHole.CC (spec_l06DrawHole.cs k n) :=
  cutsOkG_of (step := spec_l06DrawHole.step k) rfl (fun _ => rfl) ⟨fun _ => rfl, trivial⟩ (fun c => by kernel_rfl) fun c => ⟨fun x => by kernel_rfl, trivial⟩
theorem spec_l06DrawHole.ok (k : Nat) : FnOkB Go.Proofs.Try.prog 72 (spec_l06DrawHole.F k) :=
  fn_okB tab (spec_l06DrawHole.env k) Go.Proofs.Try.func72 rfl (n := 2) (Nat.le_of_ble_eq_true rfl) (by kernel_rfl) (by kernel_rfl) (by kernel_rfl) (d := fun (y : compT spec_l06DrawHole.pr × fpatsT spec_l06DrawHole.bp) => ((y.1.1.1, y.1.1.2.1, y.2.1, y.2.2.1, y.2.2.2.1) : spec_l06DrawHole.N)) (fun _ => rfl) (C := (fun n => spec_l06DrawHole.CC (spec_l06DrawHole.cs k n))) (k := k) (spec_l06DrawHole.cuts k) fun x => by kernel_rfl
/-! spec.l06DrawOk -/
@[reducible] def spec_l06DrawOk.bp : List FPat := [(.lo (.int .u8)), (.int .i64), (.int .u64)]
@[reducible] def spec_l06DrawOk.pc : CutP := [(0, none, [.fl (.lo (.int .u8)), .fl (.int .i64), .fl (.int .u64)])]
@[reducible] def spec_l06DrawOk.pr : CompPs := [(true, [.fl (.own (.int .i64)), .fl (.own (.pair (.int .i64) (.sl (.int .i64))))])]
abbrev spec_l06DrawOk.N := List Int × List (Int × List Int) × List Int × Int × Int
noncomputable def spec_l06DrawOk.E (k : Nat) : List (FuncId × Go.Rv.Fn) := [(72, spec_l06DrawHole.F k), (82, spec_l00Src_pick.F k)]
abbrev spec_l06DrawOk.Cs := (List Int → Int → Int → List Int → List (Int × List Int) → Int → Option spec_l06DrawOk.N) × (List Int → Int → Int → List Int → List (Int × List Int) → Int → Int → Option spec_l06DrawOk.N)
def spec_l06DrawOk.zero : spec_l06DrawOk.Cs := (fun _ _ _ _ _ _ => none, fun _ _ _ _ _ _ _ => none)
noncomputable def spec_l06DrawOk.step (k : Nat) (c : spec_l06DrawOk.Cs) : spec_l06DrawOk.Cs := (fun (x0 : List Int) (x1 : Int) (x2 : Int) (x3 : List Int) (x4 : List (Int × List Int)) (x5 : Int) => (if (decide (0 < x5)) = true then (spec_l00Src_pick.f k x0 x1 x2 900).bind fun t2 => if x3.length + [(wrap64 (1500 + t2.1))].length < 1099511627776 then c.1 t2.2.1 t2.2.2.1 t2.2.2.2 (x3 ++ [(wrap64 (1500 + t2.1))]) x4 (wrap64 (x5 - 1)) else none else (spec_l00Src_pick.f k x0 x1 x2 4).bind fun t3 => (spec_l00Src_pick.f k t3.2.1 t3.2.2.1 t3.2.2.2 4).bind fun t4 => c.2 t4.2.1 t4.2.2.1 t4.2.2.2 x3 x4 t3.1 (wrap64 (1 + t4.1))),
  fun (x0 : List Int) (x1 : Int) (x2 : Int) (x3 : List Int) (x4 : List (Int × List Int)) (x5 : Int) (x6 : Int) => (if (decide (0 < x6)) = true then (spec_l06DrawHole.f k x0 x1 x2 x5 (x3.length : Int)).bind fun t5 => if x4.length + [(t5.1, t5.2.1)].length < 549755813888 then (spec_l00Src_pick.f k t5.2.2.1 t5.2.2.2.1 t5.2.2.2.2 12).bind fun t6 => c.2 t6.2.1 t6.2.2.1 t6.2.2.2 x3 (x4 ++ [(t5.1, t5.2.1)]) (wrap64 (x5 + (wrap64 (1 + t6.1)))) (wrap64 (x6 - 1)) else none else some (x3, x4, x0, x1, x2)))
noncomputable def spec_l06DrawOk.cs (k : Nat) : Nat → spec_l06DrawOk.Cs
  | 0 => spec_l06DrawOk.zero
  | n + 1 => spec_l06DrawOk.step k (spec_l06DrawOk.cs k n)
def spec_l06DrawOk.CC (c : spec_l06DrawOk.Cs) : Cuts spec_l06DrawOk.N := [(8, ⟨[(0, none, [.fl (.lo (.int .u8)), .fl (.int .i64), .fl (.int .u64)]), (2, none, [.fl .nils, .fl .nils]), (3, none, [.fl (.own (.int .i64)), .fl (.own (.pair (.int .i64) (.sl (.int .i64))))]), (4, some false, [.fl (.int .i64)])], fun x => c.1 x.1.1 x.1.2.1 x.1.2.2.1 x.2.2.1.1 x.2.2.1.2.1 x.2.2.2.1.1⟩),
  (25, ⟨[(0, none, [.fl (.lo (.int .u8)), .fl (.int .i64), .fl (.int .u64)]), (2, none, [.fl .nils, .fl .nils]), (3, none, [.fl (.own (.int .i64)), .fl (.own (.pair (.int .i64) (.sl (.int .i64))))]), (5, some false, [.fl (.int .i64)]), (6, some false, [.fl (.int .i64)])], fun x => c.2 x.1.1 x.1.2.1 x.1.2.2.1 x.2.2.1.1 x.2.2.1.2.1 x.2.2.2.1.1 x.2.2.2.2.1.1⟩)]
noncomputable def spec_l06DrawOk.f (k : Nat) (a0 : List Int) (a1 : Int) (a2 : Int) : Option spec_l06DrawOk.N := (spec_l00Src_pick.f k a0 a1 a2 4).bind fun t1 => (spec_l06DrawOk.cs k k).1 t1.2.1 t1.2.2.1 t1.2.2.2 ([] : List Int) ([] : List (Int × List Int)) (wrap64 (1 + t1.1))
noncomputable def spec_l06DrawOk.F (k : Nat) : Go.Rv.Fn := mkFnB 0 spec_l06DrawOk.pc spec_l06DrawOk.pr spec_l06DrawOk.bp (fun (y : spec_l06DrawOk.N) => ((((y.1, y.2.1, ()), ()), (y.2.2.1, y.2.2.2.1, y.2.2.2.2, ())) : compT spec_l06DrawOk.pr × fpatsT spec_l06DrawOk.bp)) fun x => spec_l06DrawOk.f k x.1.1 x.1.2.1 x.1.2.2.1
theorem spec_l06DrawOk.env (k : Nat) : EnvOk Go.Proofs.Try.prog (fun f => (spec_l06DrawOk.E k).lookup f) := envOk_of ⟨entryB Go.Proofs.Try.call72 rfl (spec_l06DrawHole.ok k), entryB Go.Proofs.Try.call82 rfl (spec_l00Src_pick.ok k), trivial⟩
theorem spec_l06DrawOk.cuts (k : Nat) : CutsOkG Go.Proofs.Try.prog { X with n := Go.Proofs.Try.f52.ntmps, keep := [0] } (fun f => (spec_l06DrawOk.E k).lookup f) Go.Proofs.Try.f52 (endB { X with n := Go.Proofs.Try.f52.ntmps, keep := [0] } Go.Proofs.Try.f52 spec_l06DrawOk.pr spec_l06DrawOk.bp (fun (y : compT spec_l06DrawOk.pr × fpatsT spec_l06DrawOk.bp) => ((y.1.1.1, y.1.1.2.1, y.2.1, y.2.2.1, y.2.2.2.1) : spec_l06DrawOk.N))) fun n => spec_l06DrawOk.CC (spec_l06DrawOk.cs k n) :=
  cutsOkG_of (step := spec_l06DrawOk.step k) rfl (fun _ => rfl) ⟨fun _ => rfl, fun _ => rfl, trivial⟩ (fun c => by kernel_rfl) fun c => ⟨fun x => by kernel_rfl, fun x => by kernel_rfl, trivial⟩
theorem spec_l06DrawOk.ok (k : Nat) : FnOkB Go.Proofs.Try.prog 52 (spec_l06DrawOk.F k) :=
  fn_okB tab (spec_l06DrawOk.env k) Go.Proofs.Try.func52 rfl (n := 0) (Nat.le_of_ble_eq_true rfl) (by kernel_rfl) (by kernel_rfl) (by kernel_rfl) (d := fun (y : compT spec_l06DrawOk.pr × fpatsT spec_l06DrawOk.bp) => ((y.1.1.1, y.1.1.2.1, y.2.1, y.2.2.1, y.2.2.2.1) : spec_l06DrawOk.N)) (fun _ => rfl) (C := (fun n => spec_l06DrawOk.CC (spec_l06DrawOk.cs k n))) (k := k) (spec_l06DrawOk.cuts k) fun x => by kernel_rfl
/-! spec.R8Ground -/
@[reducible] def spec_R8Ground.pc : CutP := [(0, some false, [.fl (.lo (.int .u8))])]
@[reducible] def spec_R8Ground.pr : CompPs := [(true, [.fl (.own (.int .i64)), .fl (.own (.pair (.int .i64) (.sl (.int .i64))))])]
abbrev spec_R8Ground.N := List Int × List (Int × List Int)
noncomputable def spec_R8Ground.E (k : Nat) : List (FuncId × Go.Rv.Fn) := [(51, spec_l00From.F k), (52, spec_l06DrawOk.F k)]
noncomputable def spec_R8Ground.f (k : Nat) (a0 : List Int) : Option spec_R8Ground.N := (spec_l00From.f k a0).bind fun t1 => (spec_l06DrawOk.f k t1.1 t1.2.1 t1.2.2).bind fun t2 => some (t2.1, t2.2.1)
noncomputable def spec_R8Ground.F (k : Nat) : Go.Rv.Fn := mkFn 1 spec_R8Ground.pc spec_R8Ground.pr (keepOf []) (fun (y : spec_R8Ground.N) => (((y.1, y.2, ()), ()) : compT spec_R8Ground.pr)) fun x => spec_R8Ground.f k x.1.1
theorem spec_R8Ground.env (k : Nat) : EnvOk Go.Proofs.Try.prog (fun f => (spec_R8Ground.E k).lookup f) := envOk_of ⟨entry Go.Proofs.Try.call51 rfl (spec_l00From.ok k), entryB Go.Proofs.Try.call52 rfl (spec_l06DrawOk.ok k), trivial⟩
theorem spec_R8Ground.ok (k : Nat) : FnOk Go.Proofs.Try.prog 17 (spec_R8Ground.F k) :=
  fn_ok tab (spec_R8Ground.env k) Go.Proofs.Try.func17 rfl (n := 1) (Nat.le_of_ble_eq_true rfl) (by kernel_rfl) (outs := []) (by kernel_rfl) (by kernel_rfl) (d := fun (y : compT spec_R8Ground.pr) => ((y.1.1, y.1.2.1) : spec_R8Ground.N)) (fun _ => rfl) (C := fun _ => []) (k := k) noCuts fun x => by kernel_rfl
/-! (*spec.l00Src).among -/
@[reducible] def spec_l00Src_among.bp : List FPat := [(.lo (.int .u8)), (.int .i64), (.int .u64)]
@[reducible] def spec_l00Src_among.pc : CutP := [(0, none, [.fl (.lo (.int .u8)), .fl (.int .i64), .fl (.int .u64)]), (1, some false, [.fl (.lo (.int .i64))])]
@[reducible] def spec_l00Src_among.pr : CompPs := [(false, [.fl (.int .i64)])]
abbrev spec_l00Src_among.N := Int × List Int × Int × Int
noncomputable def spec_l00Src_among.E (k : Nat) : List (FuncId × Go.Rv.Fn) := [(82, spec_l00Src_pick.F k)]
noncomputable def spec_l00Src_among.f (k : Nat) (a0 : List Int) (a1 : Int) (a2 : Int) (a3 : List Int) : Option spec_l00Src_among.N := (spec_l00Src_pick.f k a0 a1 a2 (a3.length : Int)).bind fun t1 => if 0 ≤ t1.1 then if t1.1 < (a3.length : Int) then some ((rd 0 a3 t1.1), t1.2.1, t1.2.2.1, t1.2.2.2) else none else none
noncomputable def spec_l00Src_among.F (k : Nat) : Go.Rv.Fn := mkFnB 1 spec_l00Src_among.pc spec_l00Src_among.pr spec_l00Src_among.bp (fun (y : spec_l00Src_among.N) => ((((y.1, ()), ()), (y.2.1, y.2.2.1, y.2.2.2, ())) : compT spec_l00Src_among.pr × fpatsT spec_l00Src_among.bp)) fun x => spec_l00Src_among.f k x.1.1 x.1.2.1 x.1.2.2.1 x.2.1.1
theorem spec_l00Src_among.env (k : Nat) : EnvOk Go.Proofs.Try.prog (fun f => (spec_l00Src_among.E k).lookup f) := envOk_of ⟨entryB Go.Proofs.Try.call82 rfl (spec_l00Src_pick.ok k), trivial⟩
theorem spec_l00Src_among.ok (k : Nat) : FnOkB Go.Proofs.Try.prog 91 (spec_l00Src_among.F k) :=
  fn_okB tab (spec_l00Src_among.env k) Go.Proofs.Try.func91 rfl (n := 1) (Nat.le_of_ble_eq_true rfl) (by kernel_rfl) (by kernel_rfl) (by kernel_rfl) (d := fun (y : compT spec_l00Src_among.pr × fpatsT spec_l00Src_among.bp) => ((y.1.1.1, y.2.1, y.2.2.1, y.2.2.2.1) : spec_l00Src_among.N)) (fun _ => rfl) (C := (fun _ => [])) (k := k) noCutsG fun x => by kernel_rfl
/-! spec.l02DrawPose -/
@[reducible] def spec_l02DrawPose.bp : List FPat := [(.hi (.int .u8)), (.int .i64), (.int .u64)]
@[reducible] def spec_l02DrawPose.pc : CutP := [(0, none, [.fl (.lo (.int .u8)), .fl (.int .i64), .fl (.int .u64)])]
@[reducible] def spec_l02DrawPose.pr : CompPs := [(true, [.fl (.int .i64), .fl (.int .i64), .fl (.int .i64), .fl (.int .i64)])]
abbrev spec_l02DrawPose.N := Int × Int × Int × Int × List Int × Int × Int
noncomputable def spec_l02DrawPose.E (k : Nat) : List (FuncId × Go.Rv.Fn) := [(82, spec_l00Src_pick.F k), (90, spec_l00Src_one.F k), (91, spec_l00Src_among.F k)]
noncomputable def spec_l02DrawPose.f (k : Nat) (a0 : List Int) (a1 : Int) (a2 : Int) : Option spec_l02DrawPose.N := (spec_l00Src_pick.f k a0 a1 a2 101).bind fun t1 => (spec_l00Src_pick.f k t1.2.1 t1.2.2.1 t1.2.2.2 101).bind fun t2 => (spec_l00Src_pick.f k t2.2.1 t2.2.2.1 t2.2.2.2 21).bind fun t3 => (spec_l00Src_pick.f k t3.2.1 t3.2.2.1 t3.2.2.2 21).bind fun t4 => (spec_l00Src_one.f k t4.2.1 t4.2.2.1 t4.2.2.2 12).bind fun t5 => (if t5.1 = true then (spec_l00Src_among.f k t5.2.1 t5.2.2.1 t5.2.2.2 [(-100000), 99990, 100000]).bind fun t6 => (spec_l00Src_one.f k t6.2.1 t6.2.2.1 t6.2.2.2 12).bind fun t7 => (if t7.1 = true then (spec_l00Src_among.f k t7.2.1 t7.2.2.1 t7.2.2.2 [(-400), 395, 400]).bind fun t8 => some (t6.1, (wrap64 (t2.1 - 50)), (wrap64 (t3.1 - 10)), t8.1, t8.2.1, t8.2.2.1, t8.2.2.2) else some (t6.1, (wrap64 (t2.1 - 50)), (wrap64 (t3.1 - 10)), (wrap64 (t4.1 - 10)), t7.2.1, t7.2.2.1, t7.2.2.2)) else (spec_l00Src_one.f k t5.2.1 t5.2.2.1 t5.2.2.2 12).bind fun t9 => (if t9.1 = true then (spec_l00Src_among.f k t9.2.1 t9.2.2.1 t9.2.2.2 [(-400), 395, 400]).bind fun t10 => some ((wrap64 (t1.1 - 50)), (wrap64 (t2.1 - 50)), (wrap64 (t3.1 - 10)), t10.1, t10.2.1, t10.2.2.1, t10.2.2.2) else some ((wrap64 (t1.1 - 50)), (wrap64 (t2.1 - 50)), (wrap64 (t3.1 - 10)), (wrap64 (t4.1 - 10)), t9.2.1, t9.2.2.1, t9.2.2.2)))
noncomputable def spec_l02DrawPose.F (k : Nat) : Go.Rv.Fn := mkFnB 0 spec_l02DrawPose.pc spec_l02DrawPose.pr spec_l02DrawPose.bp (fun (y : spec_l02DrawPose.N) => ((((y.1, y.2.1, y.2.2.1, y.2.2.2.1, ()), ()), (y.2.2.2.2.1, y.2.2.2.2.2.1, y.2.2.2.2.2.2, ())) : compT spec_l02DrawPose.pr × fpatsT spec_l02DrawPose.bp)) fun x => spec_l02DrawPose.f k x.1.1 x.1.2.1 x.1.2.2.1
theorem spec_l02DrawPose.env (k : Nat) : EnvOk Go.Proofs.Try.prog (fun f => (spec_l02DrawPose.E k).lookup f) := envOk_of ⟨entryB Go.Proofs.Try.call82 rfl (spec_l00Src_pick.ok k), entryB Go.Proofs.Try.call90 rfl (spec_l00Src_one.ok k), entryB Go.Proofs.Try.call91 rfl (spec_l00Src_among.ok k), trivial⟩
theorem spec_l02DrawPose.ok (k : Nat) : FnOkB Go.Proofs.Try.prog 89 (spec_l02DrawPose.F k) :=
  fn_okB tab (spec_l02DrawPose.env k) Go.Proofs.Try.func89 rfl (n := 0) (Nat.le_of_ble_eq_true rfl) (by kernel_rfl) (by kernel_rfl) (by kernel_rfl) (d := fun (y : compT spec_l02DrawPose.pr × fpatsT spec_l02DrawPose.bp) => ((y.1.1.1, y.1.1.2.1, y.1.1.2.2.1, y.1.1.2.2.2.1, y.2.1, y.2.2.1, y.2.2.2.1) : spec_l02DrawPose.N)) (fun _ => rfl) (C := (fun _ => [])) (k := k) noCutsG fun x => by kernel_rfl
/-! spec.l00In -/
@[reducible] def spec_l00In.pc : CutP := [(0, some false, [.fl (.int .i64)]), (1, some false, [.fl (.int .i64)]), (2, some false, [.fl (.int .i64)])]
@[reducible] def spec_l00In.pr : CompPs := [(false, [.fl .bool])]
abbrev spec_l00In.N := Bool
noncomputable def spec_l00In.E (k : Nat) : List (FuncId × Go.Rv.Fn) := []
noncomputable def spec_l00In.f (k : Nat) (a0 : Int) (a1 : Int) (a2 : Int) : Option spec_l00In.N := (if (decide (a1 ≤ a0)) = true then some (decide (a0 ≤ a2)) else some false)
noncomputable def spec_l00In.F (k : Nat) : Go.Rv.Fn := mkFn 3 spec_l00In.pc spec_l00In.pr (keepOf []) (fun (y : spec_l00In.N) => (((y, ()), ()) : compT spec_l00In.pr)) fun x => spec_l00In.f k x.1.1 x.2.1.1 x.2.2.1.1
theorem spec_l00In.env (k : Nat) : EnvOk Go.Proofs.Try.prog (fun f => (spec_l00In.E k).lookup f) := envOk_of trivial
theorem spec_l00In.ok (k : Nat) : FnOk Go.Proofs.Try.prog 62 (spec_l00In.F k) :=
  fn_ok tab (spec_l00In.env k) Go.Proofs.Try.func62 rfl (n := 3) (Nat.le_of_ble_eq_true rfl) (by kernel_rfl) (outs := []) (by kernel_rfl) (by kernel_rfl) (d := fun (y : compT spec_l00In.pr) => (y.1.1 : spec_l00In.N)) (fun _ => rfl) (C := fun _ => []) (k := k) noCuts fun x => by kernel_rfl
/-! spec.l02Pose -/
@[reducible] def spec_l02Pose.pc : CutP := [(0, some true, [.fl (.int .i64), .fl (.int .i64), .fl (.int .i64), .fl (.int .i64)])]
@[reducible] def spec_l02Pose.pr : CompPs := [(false, [.fl .bool])]
abbrev spec_l02Pose.N := Bool
noncomputable def spec_l02Pose.E (k : Nat) : List (FuncId × Go.Rv.Fn) := [(62, spec_l00In.F k)]
noncomputable def spec_l02Pose.f (k : Nat) (a0 : Int) (a1 : Int) (a2 : Int) (a3 : Int) : Option spec_l02Pose.N := (spec_l00In.f k a0 (-100000) 100000).bind fun t1 => (if t1 = true then (spec_l00In.f k a1 (-100000) 100000).bind fun t2 => (if t2 = true then (spec_l00In.f k a2 (-400) 400).bind fun t3 => (if t3 = true then (spec_l00In.f k a3 (-400) 400).bind fun t4 => some t4 else some false) else some false) else some false)
noncomputable def spec_l02Pose.F (k : Nat) : Go.Rv.Fn := mkFn 1 spec_l02Pose.pc spec_l02Pose.pr (keepOf []) (fun (y : spec_l02Pose.N) => (((y, ()), ()) : compT spec_l02Pose.pr)) fun x => spec_l02Pose.f k x.1.1 x.1.2.1 x.1.2.2.1 x.1.2.2.2.1
theorem spec_l02Pose.env (k : Nat) : EnvOk Go.Proofs.Try.prog (fun f => (spec_l02Pose.E k).lookup f) := envOk_of ⟨entry Go.Proofs.Try.call62 rfl (spec_l00In.ok k), trivial⟩
theorem spec_l02Pose.ok (k : Nat) : FnOk Go.Proofs.Try.prog 100 (spec_l02Pose.F k) :=
  fn_ok tab (spec_l02Pose.env k) Go.Proofs.Try.func100 rfl (n := 1) (Nat.le_of_ble_eq_true rfl) (by kernel_rfl) (outs := []) (by kernel_rfl) (by kernel_rfl) (d := fun (y : compT spec_l02Pose.pr) => (y.1.1 : spec_l02Pose.N)) (fun _ => rfl) (C := fun _ => []) (k := k) noCuts fun x => by kernel_rfl
/-! spec.l02Turn -/
@[reducible] def spec_l02Turn.pc : CutP := [(0, some false, [.fl (.int .i64)]), (1, some false, [.fl (.int .i64)])]
@[reducible] def spec_l02Turn.pr : CompPs := [(false, [.fl .bool])]
abbrev spec_l02Turn.N := Bool
noncomputable def spec_l02Turn.E (k : Nat) : List (FuncId × Go.Rv.Fn) := [(62, spec_l00In.F k)]
noncomputable def spec_l02Turn.f (k : Nat) (a0 : Int) (a1 : Int) : Option spec_l02Turn.N := (spec_l00In.f k a0 (-12) 12).bind fun t1 => (if t1 = true then (spec_l00In.f k a1 (-12) 12).bind fun t2 => some t2 else some false)
noncomputable def spec_l02Turn.F (k : Nat) : Go.Rv.Fn := mkFn 2 spec_l02Turn.pc spec_l02Turn.pr (keepOf []) (fun (y : spec_l02Turn.N) => (((y, ()), ()) : compT spec_l02Turn.pr)) fun x => spec_l02Turn.f k x.1.1 x.2.1.1
theorem spec_l02Turn.env (k : Nat) : EnvOk Go.Proofs.Try.prog (fun f => (spec_l02Turn.E k).lookup f) := envOk_of ⟨entry Go.Proofs.Try.call62 rfl (spec_l00In.ok k), trivial⟩
theorem spec_l02Turn.ok (k : Nat) : FnOk Go.Proofs.Try.prog 101 (spec_l02Turn.F k) :=
  fn_ok tab (spec_l02Turn.env k) Go.Proofs.Try.func101 rfl (n := 2) (Nat.le_of_ble_eq_true rfl) (by kernel_rfl) (outs := []) (by kernel_rfl) (by kernel_rfl) (d := fun (y : compT spec_l02Turn.pr) => (y.1.1 : spec_l02Turn.N)) (fun _ => rfl) (C := fun _ => []) (k := k) noCuts fun x => by kernel_rfl
/-! spec.l02Next -/
@[reducible] def spec_l02Next.pc : CutP := [(0, some true, [.fl (.int .i64), .fl (.int .i64), .fl (.int .i64), .fl (.int .i64)]), (1, some false, [.fl (.int .i64)]), (2, some false, [.fl (.int .i64)])]
@[reducible] def spec_l02Next.pr : CompPs := [(true, [.fl (.int .i64), .fl (.int .i64), .fl (.int .i64), .fl (.int .i64)])]
abbrev spec_l02Next.N := Int × Int × Int × Int
noncomputable def spec_l02Next.E (k : Nat) : List (FuncId × Go.Rv.Fn) := []
noncomputable def spec_l02Next.f (k : Nat) (a0 : Int) (a1 : Int) (a2 : Int) (a3 : Int) (a4 : Int) (a5 : Int) : Option spec_l02Next.N := some ((wrap64 (a0 + a2)), (wrap64 (a1 + a3)), (wrap64 (a2 + a4)), (wrap64 (a3 + a5)))
noncomputable def spec_l02Next.F (k : Nat) : Go.Rv.Fn := mkFn 3 spec_l02Next.pc spec_l02Next.pr (keepOf []) (fun (y : spec_l02Next.N) => (((y.1, y.2.1, y.2.2.1, y.2.2.2, ()), ()) : compT spec_l02Next.pr)) fun x => spec_l02Next.f k x.1.1 x.1.2.1 x.1.2.2.1 x.1.2.2.2.1 x.2.1.1 x.2.2.1.1
theorem spec_l02Next.env (k : Nat) : EnvOk Go.Proofs.Try.prog (fun f => (spec_l02Next.E k).lookup f) := envOk_of trivial
theorem spec_l02Next.ok (k : Nat) : FnOk Go.Proofs.Try.prog 102 (spec_l02Next.F k) :=
  fn_ok tab (spec_l02Next.env k) Go.Proofs.Try.func102 rfl (n := 3) (Nat.le_of_ble_eq_true rfl) (by kernel_rfl) (outs := []) (by kernel_rfl) (by kernel_rfl) (d := fun (y : compT spec_l02Next.pr) => ((y.1.1, y.1.2.1, y.1.2.2.1, y.1.2.2.2.1) : spec_l02Next.N)) (fun _ => rfl) (C := fun _ => []) (k := k) noCuts fun x => by kernel_rfl
/-! spec.l02Is -/
@[reducible] def spec_l02Is.pc : CutP := [(0, some false, [.rptr [(.int .i64), (.int .i64), (.int .i64), (.int .i64), (.lo (.pair (.int .i64) (.pair (.int .i64) (.int .i64))))]])]
@[reducible] def spec_l02Is.pr : CompPs := [(false, [.fl .bool])]
abbrev spec_l02Is.N := Bool
noncomputable def spec_l02Is.E (k : Nat) : List (FuncId × Go.Rv.Fn) := [(62, spec_l00In.F k), (100, spec_l02Pose.F k), (101, spec_l02Turn.F k), (102, spec_l02Next.F k)]
abbrev spec_l02Is.Cs := (Int → Int → Int → Int → List (Int × Int × Int) → Option spec_l02Is.N) × (Int → Int → Int → Int → List (Int × Int × Int) → Int → Int → Int → Int → Int → Int → Option spec_l02Is.N) × (Int → Int → Int → Int → List (Int × Int × Int) → Int → Int → Int → Int → Int → Int → Int → Int → Int → Option spec_l02Is.N) × (Int → Int → Int → Int → List (Int × Int × Int) → Int → Int → Int → Int → Int → Int → Int → Int → Int → Int → Option spec_l02Is.N)
def spec_l02Is.zero : spec_l02Is.Cs := (fun _ _ _ _ _ => none, fun _ _ _ _ _ _ _ _ _ _ _ => none, fun _ _ _ _ _ _ _ _ _ _ _ _ _ _ => none, fun _ _ _ _ _ _ _ _ _ _ _ _ _ _ _ => none)
noncomputable def spec_l02Is.step (k : Nat) (c : spec_l02Is.Cs) : spec_l02Is.Cs := (fun (x0 : Int) (x1 : Int) (x2 : Int) (x3 : Int) (x4 : List (Int × Int × Int)) => c.2.1 x0 x1 x2 x3 x4 0 x0 x1 x2 x3 0,
  fun (x0 : Int) (x1 : Int) (x2 : Int) (x3 : Int) (x4 : List (Int × Int × Int)) (x5 : Int) (x6 : Int) (x7 : Int) (x8 : Int) (x9 : Int) (x10 : Int) => (if (decide (x10 < (x4.length : Int))) = true then if 0 ≤ x10 then if x10 < (x4.length : Int) then (spec_l00In.f k ((rd (0, (0, 0)) x4 x10).1) 1 (wrap64 (60 - x5))).bind fun t3 => (if (!t3) = true then some false else (spec_l02Turn.f k (((rd (0, (0, 0)) x4 x10).2).1) (((rd (0, (0, 0)) x4 x10).2).2)).bind fun t4 => (if (!t4) = true then some false else c.2.2.1 x0 x1 x2 x3 x4 x5 x6 x7 x8 x9 x10 ((rd (0, (0, 0)) x4 x10).1) (((rd (0, (0, 0)) x4 x10).2).1) (((rd (0, (0, 0)) x4 x10).2).2))) else none else none else some true),
  fun (x0 : Int) (x1 : Int) (x2 : Int) (x3 : Int) (x4 : List (Int × Int × Int)) (x5 : Int) (x6 : Int) (x7 : Int) (x8 : Int) (x9 : Int) (x10 : Int) (x11 : Int) (x12 : Int) (x13 : Int) => c.2.2.2 x0 x1 x2 x3 x4 (wrap64 (x5 + x11)) x6 x7 x8 x9 x10 x11 x12 x13 0,
  fun (x0 : Int) (x1 : Int) (x2 : Int) (x3 : Int) (x4 : List (Int × Int × Int)) (x5 : Int) (x6 : Int) (x7 : Int) (x8 : Int) (x9 : Int) (x10 : Int) (x11 : Int) (x12 : Int) (x13 : Int) (x14 : Int) => (if (decide (x14 < x11)) = true then (spec_l02Next.f k x6 x7 x8 x9 x12 x13).bind fun t5 => (spec_l02Pose.f k t5.1 t5.2.1 t5.2.2.1 t5.2.2.2).bind fun t6 => (if (!t6) = true then some false else c.2.2.2 x0 x1 x2 x3 x4 x5 t5.1 t5.2.1 t5.2.2.1 t5.2.2.2 x10 x11 x12 x13 (wrap64 (x14 + 1))) else c.2.1 x0 x1 x2 x3 x4 x5 x6 x7 x8 x9 (wrap64 (x10 + 1))))
noncomputable def spec_l02Is.cs (k : Nat) : Nat → spec_l02Is.Cs
  | 0 => spec_l02Is.zero
  | n + 1 => spec_l02Is.step k (spec_l02Is.cs k n)
def spec_l02Is.CC (c : spec_l02Is.Cs) : Cuts spec_l02Is.N := [(2, ⟨[(0, some false, [.rptr [(.int .i64), (.int .i64), (.int .i64), (.int .i64), (.lo (.pair (.int .i64) (.pair (.int .i64) (.int .i64))))]])], fun x => c.1 x.1.1.1 x.1.1.2.1 x.1.1.2.2.1 x.1.1.2.2.2.1 x.1.1.2.2.2.2.1⟩),
  (18, ⟨[(0, some false, [.rptr [(.int .i64), (.int .i64), (.int .i64), (.int .i64), (.lo (.pair (.int .i64) (.pair (.int .i64) (.int .i64))))]]), (3, some false, [.fl (.int .i64)]), (4, none, [.fl (.int .i64), .fl (.int .i64), .fl (.int .i64), .fl (.int .i64)]), (5, some false, [.fl (.int .i64)])], fun x => c.2.1 x.1.1.1 x.1.1.2.1 x.1.1.2.2.1 x.1.1.2.2.2.1 x.1.1.2.2.2.2.1 x.2.1.1 x.2.2.1.1 x.2.2.1.2.1 x.2.2.1.2.2.1 x.2.2.1.2.2.2.1 x.2.2.2.1.1⟩),
  (29, ⟨[(0, some false, [.rptr [(.int .i64), (.int .i64), (.int .i64), (.int .i64), (.lo (.pair (.int .i64) (.pair (.int .i64) (.int .i64))))]]), (3, some false, [.fl (.int .i64)]), (4, none, [.fl (.int .i64), .fl (.int .i64), .fl (.int .i64), .fl (.int .i64)]), (5, some false, [.fl (.int .i64)]), (6, none, [.fl (.int .i64), .fl (.int .i64), .fl (.int .i64)])], fun x => c.2.2.1 x.1.1.1 x.1.1.2.1 x.1.1.2.2.1 x.1.1.2.2.2.1 x.1.1.2.2.2.2.1 x.2.1.1 x.2.2.1.1 x.2.2.1.2.1 x.2.2.1.2.2.1 x.2.2.1.2.2.2.1 x.2.2.2.1.1 x.2.2.2.2.1.1 x.2.2.2.2.1.2.1 x.2.2.2.2.1.2.2.1⟩),
  (42, ⟨[(0, some false, [.rptr [(.int .i64), (.int .i64), (.int .i64), (.int .i64), (.lo (.pair (.int .i64) (.pair (.int .i64) (.int .i64))))]]), (3, some false, [.fl (.int .i64)]), (4, none, [.fl (.int .i64), .fl (.int .i64), .fl (.int .i64), .fl (.int .i64)]), (5, some false, [.fl (.int .i64)]), (6, none, [.fl (.int .i64), .fl (.int .i64), .fl (.int .i64)]), (7, some false, [.fl (.int .i64)])], fun x => c.2.2.2 x.1.1.1 x.1.1.2.1 x.1.1.2.2.1 x.1.1.2.2.2.1 x.1.1.2.2.2.2.1 x.2.1.1 x.2.2.1.1 x.2.2.1.2.1 x.2.2.1.2.2.1 x.2.2.1.2.2.2.1 x.2.2.2.1.1 x.2.2.2.2.1.1 x.2.2.2.2.1.2.1 x.2.2.2.2.1.2.2.1 x.2.2.2.2.2.1.1⟩)]
noncomputable def spec_l02Is.f (k : Nat) (a0 : Int) (a1 : Int) (a2 : Int) (a3 : Int) (a4 : List (Int × Int × Int)) : Option spec_l02Is.N := (spec_l02Pose.f k a0 a1 a2 a3).bind fun t1 => (if (!t1) = true then some false else (spec_l00In.f k (a4.length : Int) 1 8).bind fun t2 => (if (!t2) = true then some false else (spec_l02Is.cs k k).1 a0 a1 a2 a3 a4))
noncomputable def spec_l02Is.F (k : Nat) : Go.Rv.Fn := mkFn 1 spec_l02Is.pc spec_l02Is.pr (keepOf []) (fun (y : spec_l02Is.N) => (((y, ()), ()) : compT spec_l02Is.pr)) fun x => spec_l02Is.f k x.1.1.1 x.1.1.2.1 x.1.1.2.2.1 x.1.1.2.2.2.1 x.1.1.2.2.2.2.1
theorem spec_l02Is.env (k : Nat) : EnvOk Go.Proofs.Try.prog (fun f => (spec_l02Is.E k).lookup f) := envOk_of ⟨entry Go.Proofs.Try.call62 rfl (spec_l00In.ok k), entry Go.Proofs.Try.call100 rfl (spec_l02Pose.ok k), entry Go.Proofs.Try.call101 rfl (spec_l02Turn.ok k), entry Go.Proofs.Try.call102 rfl (spec_l02Next.ok k), trivial⟩
theorem spec_l02Is.cuts (k : Nat) : CutsOk Go.Proofs.Try.prog X (fun f => (spec_l02Is.E k).lookup f) Go.Proofs.Try.f92 [] (decN spec_l02Is.pr (fun (y : compT spec_l02Is.pr) => (y.1.1 : spec_l02Is.N))) fun n => spec_l02Is.CC (spec_l02Is.cs k n) :=
  cutsOk_of (step := spec_l02Is.step k) rfl (fun _ => rfl) ⟨fun _ => rfl, fun _ => rfl, fun _ => rfl, fun _ => rfl, trivial⟩ (fun c => by kernel_rfl) fun c => ⟨fun x => by kernel_rfl, fun x => by kernel_rfl, fun x => by kernel_rfl, fun x => by kernel_rfl, trivial⟩
theorem spec_l02Is.ok (k : Nat) : FnOk Go.Proofs.Try.prog 92 (spec_l02Is.F k) :=
  fn_ok tab (spec_l02Is.env k) Go.Proofs.Try.func92 rfl (n := 1) (Nat.le_of_ble_eq_true rfl) (by kernel_rfl) (outs := []) (by kernel_rfl) (by kernel_rfl) (d := fun (y : compT spec_l02Is.pr) => (y.1.1 : spec_l02Is.N)) (fun _ => rfl) (C := fun n => spec_l02Is.CC (spec_l02Is.cs k n)) (k := k) (spec_l02Is.cuts k) fun x => by kernel_rfl
/-! spec.l02DrawOk -/
@[reducible] def spec_l02DrawOk.bp : List FPat := [(.hi (.int .u8)), (.int .i64), (.int .u64)]
@[reducible] def spec_l02DrawOk.pc : CutP := [(0, none, [.fl (.lo (.int .u8)), .fl (.int .i64), .fl (.int .u64)])]
@[reducible] def spec_l02DrawOk.pr : CompPs := [(true, [.fl (.int .i64), .fl (.int .i64), .fl (.int .i64), .fl (.int .i64), .fl (.own (.pair (.int .i64) (.pair (.int .i64) (.int .i64))))])]
abbrev spec_l02DrawOk.N := Int × Int × Int × Int × List (Int × Int × Int) × List Int × Int × Int
noncomputable def spec_l02DrawOk.E (k : Nat) : List (FuncId × Go.Rv.Fn) := [(82, spec_l00Src_pick.F k), (89, spec_l02DrawPose.F k), (90, spec_l00Src_one.F k), (91, spec_l00Src_among.F k), (92, spec_l02Is.F k)]
abbrev spec_l02DrawOk.Cs := (List Int → Int → Int → Int → Int → Int → Int → Int → Int → Int → Int → List (Int × Int × Int) → Int → Option spec_l02DrawOk.N) × (List Int → Int → Int → Int → Int → Int → Int → Int → Int → Int → Int → List (Int × Int × Int) → Option spec_l02DrawOk.N)
def spec_l02DrawOk.zero : spec_l02DrawOk.Cs := (fun _ _ _ _ _ _ _ _ _ _ _ _ _ => none, fun _ _ _ _ _ _ _ _ _ _ _ _ => none)
noncomputable def spec_l02DrawOk.step (k : Nat) (c : spec_l02DrawOk.Cs) : spec_l02DrawOk.Cs := (fun (x0 : List Int) (x1 : Int) (x2 : Int) (x3 : Int) (x4 : Int) (x5 : Int) (x6 : Int) (x7 : Int) (x8 : Int) (x9 : Int) (x10 : Int) (x11 : List (Int × Int × Int)) (x12 : Int) => (if (decide (0 < x12)) = true then (spec_l00Src_pick.f k x0 x1 x2 5).bind fun t3 => (spec_l00Src_pick.f k t3.2.1 t3.2.2.1 t3.2.2.2 5).bind fun t4 => (spec_l00Src_pick.f k t4.2.1 t4.2.2.1 t4.2.2.2 5).bind fun t5 => (spec_l00Src_one.f k t5.2.1 t5.2.2.1 t5.2.2.2 10).bind fun t6 => (if t6.1 = true then (spec_l00Src_among.f k t6.2.1 t6.2.2.1 t6.2.2.2 [(-12), 12]).bind fun t7 => if x11.length + [((wrap64 (1 + t3.1)), (t7.1, (wrap64 (t5.1 - 2))))].length < 366503875925 then c.1 t7.2.1 t7.2.2.1 t7.2.2.2 x3 x4 x5 x6 x7 x8 x9 x10 (x11 ++ [((wrap64 (1 + t3.1)), (t7.1, (wrap64 (t5.1 - 2))))]) (wrap64 (x12 - 1)) else none else if x11.length + [((wrap64 (1 + t3.1)), ((wrap64 (t4.1 - 2)), (wrap64 (t5.1 - 2))))].length < 366503875925 then c.1 t6.2.1 t6.2.2.1 t6.2.2.2 x3 x4 x5 x6 x7 x8 x9 x10 (x11 ++ [((wrap64 (1 + t3.1)), ((wrap64 (t4.1 - 2)), (wrap64 (t5.1 - 2))))]) (wrap64 (x12 - 1)) else none) else (spec_l00Src_one.f k x0 x1 x2 10).bind fun t8 => (if t8.1 = true then c.2 t8.2.1 t8.2.2.1 t8.2.2.2 x3 x4 x5 x6 x7 x8 x9 x10 x11 else (spec_l02Is.f k x7 x8 x9 x10 x11).bind fun t9 => (if (!t9) = true then some (0, 0, 0, 0, x11, t8.2.1, t8.2.2.1, t8.2.2.2) else some (x7, x8, x9, x10, x11, t8.2.1, t8.2.2.1, t8.2.2.2)))),
  fun (x0 : List Int) (x1 : Int) (x2 : Int) (x3 : Int) (x4 : Int) (x5 : Int) (x6 : Int) (x7 : Int) (x8 : Int) (x9 : Int) (x10 : Int) (x11 : List (Int × Int × Int)) => (if (decide ((x11.length : Int) < 8)) = true then (if 3 = 0 then none else if x11.length + [(1, (((x11.length : Int).tmod 3), 0))].length < 366503875925 then c.2 x0 x1 x2 x3 x4 x5 x6 x7 x8 x9 x10 (x11 ++ [(1, (((x11.length : Int).tmod 3), 0))]) else none) else (spec_l02Is.f k x7 x8 x9 x10 x11).bind fun t10 => (if (!t10) = true then some (0, 0, 0, 0, x11, x0, x1, x2) else some (x7, x8, x9, x10, x11, x0, x1, x2))))
noncomputable def spec_l02DrawOk.cs (k : Nat) : Nat → spec_l02DrawOk.Cs
  | 0 => spec_l02DrawOk.zero
  | n + 1 => spec_l02DrawOk.step k (spec_l02DrawOk.cs k n)
def spec_l02DrawOk.CC (c : spec_l02DrawOk.Cs) : Cuts spec_l02DrawOk.N := [(8, ⟨[(0, none, [.fl (.hi (.int .u8)), .fl (.int .i64), .fl (.int .u64)]), (2, none, [.fl (.int .i64), .fl (.int .i64), .fl (.int .i64), .fl (.int .i64), .fl .nils]), (3, none, [.fl (.int .i64), .fl (.int .i64), .fl (.int .i64), .fl (.int .i64), .fl (.own (.pair (.int .i64) (.pair (.int .i64) (.int .i64))))]), (4, some false, [.fl (.int .i64)])], fun x => c.1 x.1.1 x.1.2.1 x.1.2.2.1 x.2.1.1 x.2.1.2.1 x.2.1.2.2.1 x.2.1.2.2.2.1 x.2.2.1.1 x.2.2.1.2.1 x.2.2.1.2.2.1 x.2.2.1.2.2.2.1 x.2.2.1.2.2.2.2.1 x.2.2.2.1.1⟩),
  (36, ⟨[(0, none, [.fl (.hi (.int .u8)), .fl (.int .i64), .fl (.int .u64)]), (2, none, [.fl (.int .i64), .fl (.int .i64), .fl (.int .i64), .fl (.int .i64), .fl .nils]), (3, none, [.fl (.int .i64), .fl (.int .i64), .fl (.int .i64), .fl (.int .i64), .fl (.own (.pair (.int .i64) (.pair (.int .i64) (.int .i64))))])], fun x => c.2 x.1.1 x.1.2.1 x.1.2.2.1 x.2.1.1 x.2.1.2.1 x.2.1.2.2.1 x.2.1.2.2.2.1 x.2.2.1.1 x.2.2.1.2.1 x.2.2.1.2.2.1 x.2.2.1.2.2.2.1 x.2.2.1.2.2.2.2.1⟩)]
noncomputable def spec_l02DrawOk.f (k : Nat) (a0 : List Int) (a1 : Int) (a2 : Int) : Option spec_l02DrawOk.N := (spec_l02DrawPose.f k a0 a1 a2).bind fun t1 => (spec_l00Src_pick.f k t1.2.2.2.2.1 t1.2.2.2.2.2.1 t1.2.2.2.2.2.2 5).bind fun t2 => (spec_l02DrawOk.cs k k).1 t2.2.1 t2.2.2.1 t2.2.2.2 0 0 0 0 t1.1 t1.2.1 t1.2.2.1 t1.2.2.2.1 ([] : List (Int × Int × Int)) (wrap64 (1 + t2.1))
noncomputable def spec_l02DrawOk.F (k : Nat) : Go.Rv.Fn := mkFnB 0 spec_l02DrawOk.pc spec_l02DrawOk.pr spec_l02DrawOk.bp (fun (y : spec_l02DrawOk.N) => ((((y.1, y.2.1, y.2.2.1, y.2.2.2.1, y.2.2.2.2.1, ()), ()), (y.2.2.2.2.2.1, y.2.2.2.2.2.2.1, y.2.2.2.2.2.2.2, ())) : compT spec_l02DrawOk.pr × fpatsT spec_l02DrawOk.bp)) fun x => spec_l02DrawOk.f k x.1.1 x.1.2.1 x.1.2.2.1
theorem spec_l02DrawOk.env (k : Nat) : EnvOk Go.Proofs.Try.prog (fun f => (spec_l02DrawOk.E k).lookup f) := envOk_of ⟨entryB Go.Proofs.Try.call82 rfl (spec_l00Src_pick.ok k), entryB Go.Proofs.Try.call89 rfl (spec_l02DrawPose.ok k), entryB Go.Proofs.Try.call90 rfl (spec_l00Src_one.ok k), entryB Go.Proofs.Try.call91 rfl (spec_l00Src_among.ok k), entry Go.Proofs.Try.call92 rfl (spec_l02Is.ok k), trivial⟩
theorem spec_l02DrawOk.cuts (k : Nat) : CutsOkG Go.Proofs.Try.prog { X with n := Go.Proofs.Try.f71.ntmps, keep := [0] } (fun f => (spec_l02DrawOk.E k).lookup f) Go.Proofs.Try.f71 (endB { X with n := Go.Proofs.Try.f71.ntmps, keep := [0] } Go.Proofs.Try.f71 spec_l02DrawOk.pr spec_l02DrawOk.bp (fun (y : compT spec_l02DrawOk.pr × fpatsT spec_l02DrawOk.bp) => ((y.1.1.1, y.1.1.2.1, y.1.1.2.2.1, y.1.1.2.2.2.1, y.1.1.2.2.2.2.1, y.2.1, y.2.2.1, y.2.2.2.1) : spec_l02DrawOk.N))) fun n => spec_l02DrawOk.CC (spec_l02DrawOk.cs k n) :=
  cutsOkG_of (step := spec_l02DrawOk.step k) rfl (fun _ => rfl) ⟨fun _ => rfl, fun _ => rfl, trivial⟩ (fun c => by kernel_rfl) fun c => ⟨fun x => by kernel_rfl, fun x => by kernel_rfl, trivial⟩
theorem spec_l02DrawOk.ok (k : Nat) : FnOkB Go.Proofs.Try.prog 71 (spec_l02DrawOk.F k) :=
  fn_okB tab (spec_l02DrawOk.env k) Go.Proofs.Try.func71 rfl (n := 0) (Nat.le_of_ble_eq_true rfl) (by kernel_rfl) (by kernel_rfl) (by kernel_rfl) (d := fun (y : compT spec_l02DrawOk.pr × fpatsT spec_l02DrawOk.bp) => ((y.1.1.1, y.1.1.2.1, y.1.1.2.2.1, y.1.1.2.2.2.1, y.1.1.2.2.2.2.1, y.2.1, y.2.2.1, y.2.2.2.1) : spec_l02DrawOk.N)) (fun _ => rfl) (C := (fun n => spec_l02DrawOk.CC (spec_l02DrawOk.cs k n))) (k := k) (spec_l02DrawOk.cuts k) fun x => by kernel_rfl
/-! spec.R8Axis -/
@[reducible] def spec_R8Axis.pc : CutP := [(0, some false, [.fl (.lo (.int .u8))])]
@[reducible] def spec_R8Axis.pr : CompPs := [(true, [.fl (.int .i64), .fl (.int .i64), .fl (.int .i64), .fl (.int .i64), .fl (.own (.pair (.int .i64) (.pair (.int .i64) (.int .i64))))])]
abbrev spec_R8Axis.N := Int × Int × Int × Int × List (Int × Int × Int)
noncomputable def spec_R8Axis.E (k : Nat) : List (FuncId × Go.Rv.Fn) := [(51, spec_l00From.F k), (71, spec_l02DrawOk.F k)]
noncomputable def spec_R8Axis.f (k : Nat) (a0 : List Int) : Option spec_R8Axis.N := (spec_l00From.f k a0).bind fun t1 => (spec_l02DrawOk.f k t1.1 t1.2.1 t1.2.2).bind fun t2 => some (t2.1, t2.2.1, t2.2.2.1, t2.2.2.2.1, t2.2.2.2.2.1)
noncomputable def spec_R8Axis.F (k : Nat) : Go.Rv.Fn := mkFn 1 spec_R8Axis.pc spec_R8Axis.pr (keepOf []) (fun (y : spec_R8Axis.N) => (((y.1, y.2.1, y.2.2.1, y.2.2.2.1, y.2.2.2.2, ()), ()) : compT spec_R8Axis.pr)) fun x => spec_R8Axis.f k x.1.1
theorem spec_R8Axis.env (k : Nat) : EnvOk Go.Proofs.Try.prog (fun f => (spec_R8Axis.E k).lookup f) := envOk_of ⟨entry Go.Proofs.Try.call51 rfl (spec_l00From.ok k), entryB Go.Proofs.Try.call71 rfl (spec_l02DrawOk.ok k), trivial⟩
theorem spec_R8Axis.ok (k : Nat) : FnOk Go.Proofs.Try.prog 37 (spec_R8Axis.F k) :=
  fn_ok tab (spec_R8Axis.env k) Go.Proofs.Try.func37 rfl (n := 1) (Nat.le_of_ble_eq_true rfl) (by kernel_rfl) (outs := []) (by kernel_rfl) (by kernel_rfl) (d := fun (y : compT spec_R8Axis.pr) => ((y.1.1, y.1.2.1, y.1.2.2.1, y.1.2.2.2.1, y.1.2.2.2.2.1) : spec_R8Axis.N)) (fun _ => rfl) (C := fun _ => []) (k := k) noCuts fun x => by kernel_rfl
/-! impl.within -/
@[reducible] def impl_within.pc : CutP := [(0, some false, [.fl (.int .i64)]), (1, some false, [.fl (.int .i64)]), (2, some false, [.fl (.int .i64)])]
@[reducible] def impl_within.pr : CompPs := [(false, [.fl .bool])]
abbrev impl_within.N := Bool
noncomputable def impl_within.E (k : Nat) : List (FuncId × Go.Rv.Fn) := []
noncomputable def impl_within.f (k : Nat) (a0 : Int) (a1 : Int) (a2 : Int) : Option impl_within.N := (if (decide (a1 ≤ a0)) = true then some (decide (a0 ≤ a2)) else some false)
noncomputable def impl_within.F (k : Nat) : Go.Rv.Fn := mkFn 3 impl_within.pc impl_within.pr (keepOf []) (fun (y : impl_within.N) => (((y, ()), ()) : compT impl_within.pr)) fun x => impl_within.f k x.1.1 x.2.1.1 x.2.2.1.1
theorem impl_within.env (k : Nat) : EnvOk Go.Proofs.Try.prog (fun f => (impl_within.E k).lookup f) := envOk_of trivial
theorem impl_within.ok (k : Nat) : FnOk Go.Proofs.Try.prog 47 (impl_within.F k) :=
  fn_ok tab (impl_within.env k) Go.Proofs.Try.func47 rfl (n := 3) (Nat.le_of_ble_eq_true rfl) (by kernel_rfl) (outs := []) (by kernel_rfl) (by kernel_rfl) (d := fun (y : compT impl_within.pr) => (y.1.1 : impl_within.N)) (fun _ => rfl) (C := fun _ => []) (k := k) noCuts fun x => by kernel_rfl
/-! impl.areWithin$1 -/
@[reducible] def impl_areWithin_1.pc : CutP := [(0, some false, [.fl (.int .i64)]), (1, some false, [.rptr [(.int .i64)]]), (2, some false, [.rptr [(.int .i64)]])]
@[reducible] def impl_areWithin_1.pr : CompPs := [(false, [.fl .bool])]
abbrev impl_areWithin_1.N := Bool
noncomputable def impl_areWithin_1.E (k : Nat) : List (FuncId × Go.Rv.Fn) := [(47, impl_within.F k)]
noncomputable def impl_areWithin_1.f (k : Nat) (a0 : Int) (a1 : Int) (a2 : Int) : Option impl_areWithin_1.N := (impl_within.f k a0 a1 a2).bind fun t1 => some (!t1)
noncomputable def impl_areWithin_1.F (k : Nat) : Go.Rv.Fn := mkFn 3 impl_areWithin_1.pc impl_areWithin_1.pr (keepOf []) (fun (y : impl_areWithin_1.N) => (((y, ()), ()) : compT impl_areWithin_1.pr)) fun x => impl_areWithin_1.f k x.1.1 x.2.1.1.1 x.2.2.1.1.1
theorem impl_areWithin_1.env (k : Nat) : EnvOk Go.Proofs.Try.prog (fun f => (impl_areWithin_1.E k).lookup f) := envOk_of ⟨entry Go.Proofs.Try.call47 rfl (impl_within.ok k), trivial⟩
theorem impl_areWithin_1.ok (k : Nat) : FnOk Go.Proofs.Try.prog 80 (impl_areWithin_1.F k) :=
  fn_ok tab (impl_areWithin_1.env k) Go.Proofs.Try.func80 rfl (n := 3) (Nat.le_of_ble_eq_true rfl) (by kernel_rfl) (outs := []) (by kernel_rfl) (by kernel_rfl) (d := fun (y : compT impl_areWithin_1.pr) => (y.1.1 : impl_areWithin_1.N)) (fun _ => rfl) (C := fun _ => []) (k := k) noCuts fun x => by kernel_rfl
/-! slices.IndexFunc[[]int64,int64] -/
@[reducible] def slices_IndexFunc_int64_areWithin_1.pc : CutP := [(0, some false, [.fl (.lo (.int .i64))]), (1, some false, [.fn 80 [[(.int .i64)], [(.int .i64)]]])]
@[reducible] def slices_IndexFunc_int64_areWithin_1.pr : CompPs := [(false, [.fl (.int .i64)])]
abbrev slices_IndexFunc_int64_areWithin_1.N := Int
noncomputable def slices_IndexFunc_int64_areWithin_1.E (k : Nat) : List (FuncId × Go.Rv.Fn) := [(80, impl_areWithin_1.F k)]
abbrev slices_IndexFunc_int64_areWithin_1.Cs := (List Int → Int → Int → Int → Int → Option slices_IndexFunc_int64_areWithin_1.N)
def slices_IndexFunc_int64_areWithin_1.zero : slices_IndexFunc_int64_areWithin_1.Cs := (fun _ _ _ _ _ => none)
noncomputable def slices_IndexFunc_int64_areWithin_1.step (k : Nat) (c : slices_IndexFunc_int64_areWithin_1.Cs) : slices_IndexFunc_int64_areWithin_1.Cs := (fun (x0 : List Int) (x1 : Int) (x2 : Int) (x3 : Int) (x4 : Int) => (if (decide (x4 < x3)) = true then if 0 ≤ x4 then if x4 < (x0.length : Int) then (impl_areWithin_1.f k (rd 0 x0 x4) x1 x2).bind fun t1 => (if t1 = true then some x4 else c x0 x1 x2 x3 (wrap64 (x4 + 1))) else none else none else some (-1)))
noncomputable def slices_IndexFunc_int64_areWithin_1.cs (k : Nat) : Nat → slices_IndexFunc_int64_areWithin_1.Cs
  | 0 => slices_IndexFunc_int64_areWithin_1.zero
  | n + 1 => slices_IndexFunc_int64_areWithin_1.step k (slices_IndexFunc_int64_areWithin_1.cs k n)
def slices_IndexFunc_int64_areWithin_1.CC (c : slices_IndexFunc_int64_areWithin_1.Cs) : Cuts slices_IndexFunc_int64_areWithin_1.N := [(6, ⟨[(0, some false, [.fl (.lo (.int .i64))]), (1, some false, [.fn 80 [[(.int .i64)], [(.int .i64)]]]), (7, some false, [.fl (.int .i64)]), (8, some false, [.fl (.int .i64)])], fun x => c x.1.1 x.2.1.1.1.1 x.2.1.1.2.1.1 x.2.2.1.1 x.2.2.2.1.1⟩)]
noncomputable def slices_IndexFunc_int64_areWithin_1.f (k : Nat) (a0 : List Int) (a1 : Int) (a2 : Int) : Option slices_IndexFunc_int64_areWithin_1.N := (slices_IndexFunc_int64_areWithin_1.cs k k) a0 a1 a2 (a0.length : Int) 0
noncomputable def slices_IndexFunc_int64_areWithin_1.F (k : Nat) : Go.Rv.Fn := mkFn 2 slices_IndexFunc_int64_areWithin_1.pc slices_IndexFunc_int64_areWithin_1.pr (keepOf []) (fun (y : slices_IndexFunc_int64_areWithin_1.N) => (((y, ()), ()) : compT slices_IndexFunc_int64_areWithin_1.pr)) fun x => slices_IndexFunc_int64_areWithin_1.f k x.1.1 x.2.1.1.1.1 x.2.1.1.2.1.1
theorem slices_IndexFunc_int64_areWithin_1.env (k : Nat) : EnvOk Go.Proofs.Try.prog (fun f => (slices_IndexFunc_int64_areWithin_1.E k).lookup f) := envOk_of ⟨entry Go.Proofs.Try.call80 rfl (impl_areWithin_1.ok k), trivial⟩
theorem slices_IndexFunc_int64_areWithin_1.cuts (k : Nat) : CutsOk Go.Proofs.Try.prog X (fun f => (slices_IndexFunc_int64_areWithin_1.E k).lookup f) Go.Proofs.Try.f95 [] (decN slices_IndexFunc_int64_areWithin_1.pr (fun (y : compT slices_IndexFunc_int64_areWithin_1.pr) => (y.1.1 : slices_IndexFunc_int64_areWithin_1.N))) fun n => slices_IndexFunc_int64_areWithin_1.CC (slices_IndexFunc_int64_areWithin_1.cs k n) :=
  cutsOk_of (step := slices_IndexFunc_int64_areWithin_1.step k) rfl (fun _ => rfl) ⟨fun _ => rfl, trivial⟩ (fun c => by kernel_rfl) fun c => ⟨fun x => by kernel_rfl, trivial⟩
theorem slices_IndexFunc_int64_areWithin_1.ok (k : Nat) : FnOk Go.Proofs.Try.prog 95 (slices_IndexFunc_int64_areWithin_1.F k) :=
  fn_ok tab (slices_IndexFunc_int64_areWithin_1.env k) Go.Proofs.Try.func95 rfl (n := 2) (Nat.le_of_ble_eq_true rfl) (by kernel_rfl) (outs := []) (by kernel_rfl) (by kernel_rfl) (d := fun (y : compT slices_IndexFunc_int64_areWithin_1.pr) => (y.1.1 : slices_IndexFunc_int64_areWithin_1.N)) (fun _ => rfl) (C := fun n => slices_IndexFunc_int64_areWithin_1.CC (slices_IndexFunc_int64_areWithin_1.cs k n)) (k := k) (slices_IndexFunc_int64_areWithin_1.cuts k) fun x => by kernel_rfl
/-! slices.ContainsFunc[[]int64,int64] -/
@[reducible] def slices_ContainsFunc_int64_areWithin_1.pc : CutP := [(0, some false, [.fl (.lo (.int .i64))]), (1, some false, [.fn 80 [[(.int .i64)], [(.int .i64)]]])]
@[reducible] def slices_ContainsFunc_int64_areWithin_1.pr : CompPs := [(false, [.fl .bool])]
abbrev slices_ContainsFunc_int64_areWithin_1.N := Bool
noncomputable def slices_ContainsFunc_int64_areWithin_1.E (k : Nat) : List (FuncId × Go.Rv.Fn) := [(95, slices_IndexFunc_int64_areWithin_1.F k)]
noncomputable def slices_ContainsFunc_int64_areWithin_1.f (k : Nat) (a0 : List Int) (a1 : Int) (a2 : Int) : Option slices_ContainsFunc_int64_areWithin_1.N := (slices_IndexFunc_int64_areWithin_1.f k a0 a1 a2).bind fun (t1 : Int) => some (decide (0 ≤ t1))
noncomputable def slices_ContainsFunc_int64_areWithin_1.F (k : Nat) : Go.Rv.Fn := mkFn 2 slices_ContainsFunc_int64_areWithin_1.pc slices_ContainsFunc_int64_areWithin_1.pr (keepOf []) (fun (y : slices_ContainsFunc_int64_areWithin_1.N) => (((y, ()), ()) : compT slices_ContainsFunc_int64_areWithin_1.pr)) fun x => slices_ContainsFunc_int64_areWithin_1.f k x.1.1 x.2.1.1.1.1 x.2.1.1.2.1.1
theorem slices_ContainsFunc_int64_areWithin_1.env (k : Nat) : EnvOk Go.Proofs.Try.prog (fun f => (slices_ContainsFunc_int64_areWithin_1.E k).lookup f) := envOk_of ⟨entry Go.Proofs.Try.call95 rfl (slices_IndexFunc_int64_areWithin_1.ok k), trivial⟩
theorem slices_ContainsFunc_int64_areWithin_1.ok (k : Nat) : FnOk Go.Proofs.Try.prog 79 (slices_ContainsFunc_int64_areWithin_1.F k) :=
  fn_ok tab (slices_ContainsFunc_int64_areWithin_1.env k) Go.Proofs.Try.func79 rfl (n := 2) (Nat.le_of_ble_eq_true rfl) (by kernel_rfl) (outs := []) (by kernel_rfl) (by kernel_rfl) (d := fun (y : compT slices_ContainsFunc_int64_areWithin_1.pr) => (y.1.1 : slices_ContainsFunc_int64_areWithin_1.N)) (fun _ => rfl) (C := fun _ => []) (k := k) noCuts fun x => by kernel_rfl
/-! impl.areWithin -/
@[reducible] def impl_areWithin.pc : CutP := [(0, some false, [.fl (.lo (.int .i64))]), (1, some false, [.fl (.int .i64)]), (2, some false, [.fl (.int .i64)])]
@[reducible] def impl_areWithin.pr : CompPs := [(false, [.fl .bool])]
abbrev impl_areWithin.N := Bool
noncomputable def impl_areWithin.E (k : Nat) : List (FuncId × Go.Rv.Fn) := [(79, slices_ContainsFunc_int64_areWithin_1.F k)]
noncomputable def impl_areWithin.f (k : Nat) (a0 : List Int) (a1 : Int) (a2 : Int) : Option impl_areWithin.N := (slices_ContainsFunc_int64_areWithin_1.f k a0 a1 a2).bind fun t1 => some (!t1)
noncomputable def impl_areWithin.F (k : Nat) : Go.Rv.Fn := mkFn 3 impl_areWithin.pc impl_areWithin.pr (keepOf []) (fun (y : impl_areWithin.N) => (((y, ()), ()) : compT impl_areWithin.pr)) fun x => impl_areWithin.f k x.1.1 x.2.1.1 x.2.2.1.1
theorem impl_areWithin.env (k : Nat) : EnvOk Go.Proofs.Try.prog (fun f => (impl_areWithin.E k).lookup f) := envOk_of ⟨entry Go.Proofs.Try.call79 rfl (slices_ContainsFunc_int64_areWithin_1.ok k), trivial⟩
theorem impl_areWithin.ok (k : Nat) : FnOk Go.Proofs.Try.prog 48 (impl_areWithin.F k) :=
  fn_ok tab (impl_areWithin.env k) Go.Proofs.Try.func48 rfl (n := 3) (Nat.le_of_ble_eq_true rfl) (by kernel_rfl) (outs := []) (by kernel_rfl) (by kernel_rfl) (d := fun (y : compT impl_areWithin.pr) => (y.1.1 : impl_areWithin.N)) (fun _ => rfl) (C := fun _ => []) (k := k) noCuts fun x => by kernel_rfl
/-! impl.ValidPose -/
@[reducible] def impl_ValidPose.pc : CutP := [(0, some true, [.fl (.int .i64), .fl (.int .i64), .fl (.int .i64), .fl (.int .i64)])]
@[reducible] def impl_ValidPose.pr : CompPs := [(false, [.fl .bool])]
abbrev impl_ValidPose.N := Bool
noncomputable def impl_ValidPose.E (k : Nat) : List (FuncId × Go.Rv.Fn) := [(48, impl_areWithin.F k)]
noncomputable def impl_ValidPose.f (k : Nat) (a0 : Int) (a1 : Int) (a2 : Int) (a3 : Int) : Option impl_ValidPose.N := (impl_areWithin.f k [a0, a1] (-100000) 100000).bind fun t1 => (if t1 = true then (impl_areWithin.f k [a2, a3] (-400) 400).bind fun t2 => some t2 else some false)
noncomputable def impl_ValidPose.F (k : Nat) : Go.Rv.Fn := mkFn 1 impl_ValidPose.pc impl_ValidPose.pr (keepOf []) (fun (y : impl_ValidPose.N) => (((y, ()), ()) : compT impl_ValidPose.pr)) fun x => impl_ValidPose.f k x.1.1 x.1.2.1 x.1.2.2.1 x.1.2.2.2.1
theorem impl_ValidPose.env (k : Nat) : EnvOk Go.Proofs.Try.prog (fun f => (impl_ValidPose.E k).lookup f) := envOk_of ⟨entry Go.Proofs.Try.call48 rfl (impl_areWithin.ok k), trivial⟩
theorem impl_ValidPose.ok (k : Nat) : FnOk Go.Proofs.Try.prog 97 (impl_ValidPose.F k) :=
  fn_ok tab (impl_ValidPose.env k) Go.Proofs.Try.func97 rfl (n := 1) (Nat.le_of_ble_eq_true rfl) (by kernel_rfl) (outs := []) (by kernel_rfl) (by kernel_rfl) (d := fun (y : compT impl_ValidPose.pr) => (y.1.1 : impl_ValidPose.N)) (fun _ => rfl) (C := fun _ => []) (k := k) noCuts fun x => by kernel_rfl
/-! impl.isTurn -/
@[reducible] def impl_isTurn.pc : CutP := [(0, some false, [.fl (.int .i64)]), (1, some false, [.fl (.int .i64)])]
@[reducible] def impl_isTurn.pr : CompPs := [(false, [.fl .bool])]
abbrev impl_isTurn.N := Bool
noncomputable def impl_isTurn.E (k : Nat) : List (FuncId × Go.Rv.Fn) := [(48, impl_areWithin.F k)]
noncomputable def impl_isTurn.f (k : Nat) (a0 : Int) (a1 : Int) : Option impl_isTurn.N := (impl_areWithin.f k [a0, a1] (-12) 12).bind fun t1 => some t1
noncomputable def impl_isTurn.F (k : Nat) : Go.Rv.Fn := mkFn 2 impl_isTurn.pc impl_isTurn.pr (keepOf []) (fun (y : impl_isTurn.N) => (((y, ()), ()) : compT impl_isTurn.pr)) fun x => impl_isTurn.f k x.1.1 x.2.1.1
theorem impl_isTurn.env (k : Nat) : EnvOk Go.Proofs.Try.prog (fun f => (impl_isTurn.E k).lookup f) := envOk_of ⟨entry Go.Proofs.Try.call48 rfl (impl_areWithin.ok k), trivial⟩
theorem impl_isTurn.ok (k : Nat) : FnOk Go.Proofs.Try.prog 98 (impl_isTurn.F k) :=
  fn_ok tab (impl_isTurn.env k) Go.Proofs.Try.func98 rfl (n := 2) (Nat.le_of_ble_eq_true rfl) (by kernel_rfl) (outs := []) (by kernel_rfl) (by kernel_rfl) (d := fun (y : compT impl_isTurn.pr) => (y.1.1 : impl_isTurn.N)) (fun _ => rfl) (C := fun _ => []) (k := k) noCuts fun x => by kernel_rfl
/-! (impl.Pose).next -/
@[reducible] def impl_Pose_next.pc : CutP := [(0, some true, [.fl (.int .i64), .fl (.int .i64), .fl (.int .i64), .fl (.int .i64)]), (1, some false, [.fl (.int .i64)]), (2, some false, [.fl (.int .i64)])]
@[reducible] def impl_Pose_next.pr : CompPs := [(true, [.fl (.int .i64), .fl (.int .i64), .fl (.int .i64), .fl (.int .i64)])]
abbrev impl_Pose_next.N := Int × Int × Int × Int
noncomputable def impl_Pose_next.E (k : Nat) : List (FuncId × Go.Rv.Fn) := []
noncomputable def impl_Pose_next.f (k : Nat) (a0 : Int) (a1 : Int) (a2 : Int) (a3 : Int) (a4 : Int) (a5 : Int) : Option impl_Pose_next.N := some ((wrap64 (a0 + a2)), (wrap64 (a1 + a3)), (wrap64 (a2 + a4)), (wrap64 (a3 + a5)))
noncomputable def impl_Pose_next.F (k : Nat) : Go.Rv.Fn := mkFn 3 impl_Pose_next.pc impl_Pose_next.pr (keepOf []) (fun (y : impl_Pose_next.N) => (((y.1, y.2.1, y.2.2.1, y.2.2.2, ()), ()) : compT impl_Pose_next.pr)) fun x => impl_Pose_next.f k x.1.1 x.1.2.1 x.1.2.2.1 x.1.2.2.2.1 x.2.1.1 x.2.2.1.1
theorem impl_Pose_next.env (k : Nat) : EnvOk Go.Proofs.Try.prog (fun f => (impl_Pose_next.E k).lookup f) := envOk_of trivial
theorem impl_Pose_next.ok (k : Nat) : FnOk Go.Proofs.Try.prog 99 (impl_Pose_next.F k) :=
  fn_ok tab (impl_Pose_next.env k) Go.Proofs.Try.func99 rfl (n := 3) (Nat.le_of_ble_eq_true rfl) (by kernel_rfl) (outs := []) (by kernel_rfl) (by kernel_rfl) (d := fun (y : compT impl_Pose_next.pr) => ((y.1.1, y.1.2.1, y.1.2.2.1, y.1.2.2.2.1) : impl_Pose_next.N)) (fun _ => rfl) (C := fun _ => []) (k := k) noCuts fun x => by kernel_rfl
/-! (impl.Axis).poses -/
@[reducible] def impl_Axis_poses.pc : CutP := [(0, some true, [.fl (.int .i64), .fl (.int .i64), .fl (.int .i64), .fl (.int .i64), .fl (.lo (.pair (.int .i64) (.pair (.int .i64) (.int .i64))))])]
@[reducible] def impl_Axis_poses.pr : CompPs := [(false, [.fl (.own (.pair (.int .i64) (.pair (.int .i64) (.pair (.int .i64) (.int .i64)))))]), (false, [.fl .bool])]
abbrev impl_Axis_poses.N := List (Int × Int × Int × Int) × Bool
noncomputable def impl_Axis_poses.E (k : Nat) : List (FuncId × Go.Rv.Fn) := [(47, impl_within.F k), (97, impl_ValidPose.F k), (98, impl_isTurn.F k), (99, impl_Pose_next.F k)]
abbrev impl_Axis_poses.Cs := (Int → Int → Int → Int → List (Int × Int × Int) → List (Int × Int × Int × Int) → Option impl_Axis_poses.N) × (List (Int × Int × Int × Int) → List (Int × Int × Int) → Int → Int → Option impl_Axis_poses.N) × (List (Int × Int × Int × Int) → Int → Int → Int → List (Int × Int × Int) → Int → Int → Option impl_Axis_poses.N) × (List (Int × Int × Int × Int) → Int → Int → Int → List (Int × Int × Int) → Int → Int → Int → Int → Option impl_Axis_poses.N)
def impl_Axis_poses.zero : impl_Axis_poses.Cs := (fun _ _ _ _ _ _ => none, fun _ _ _ _ => none, fun _ _ _ _ _ _ _ => none, fun _ _ _ _ _ _ _ _ _ => none)
noncomputable def impl_Axis_poses.step (k : Nat) (c : impl_Axis_poses.Cs) : impl_Axis_poses.Cs := (fun (x0 : Int) (x1 : Int) (x2 : Int) (x3 : Int) (x4 : List (Int × Int × Int)) (x5 : List (Int × Int × Int × Int)) => c.2.1 x5 x4 (x4.length : Int) 0,
  fun (x0 : List (Int × Int × Int × Int)) (x1 : List (Int × Int × Int)) (x2 : Int) (x3 : Int) => (if (decide (x3 < x2)) = true then if 0 ≤ x3 then if x3 < (x1.length : Int) then (impl_within.f k ((rd (0, (0, 0)) x1 x3).1) 1 60).bind fun t3 => (if (!t3) = true then some ([], false) else (impl_isTurn.f k (((rd (0, (0, 0)) x1 x3).2).1) (((rd (0, (0, 0)) x1 x3).2).2)).bind fun t4 => (if (!t4) = true then some ([], false) else (if (decide (61 < (wrap64 ((x0.length : Int) + (rd (0, (0, 0)) x1 x3).1)))) = true then some ([], false) else c.2.2.1 x0 ((rd (0, (0, 0)) x1 x3).1) (((rd (0, (0, 0)) x1 x3).2).1) (((rd (0, (0, 0)) x1 x3).2).2) x1 x2 x3))) else none else none else some (x0, true)),
  fun (x0 : List (Int × Int × Int × Int)) (x1 : Int) (x2 : Int) (x3 : Int) (x4 : List (Int × Int × Int)) (x5 : Int) (x6 : Int) => c.2.2.2 x0 x1 x2 x3 x4 x5 x6 x1 0,
  fun (x0 : List (Int × Int × Int × Int)) (x1 : Int) (x2 : Int) (x3 : Int) (x4 : List (Int × Int × Int)) (x5 : Int) (x6 : Int) (x7 : Int) (x8 : Int) => (if (decide (x8 < x7)) = true then if 0 ≤ (wrap64 ((x0.length : Int) - 1)) then if (wrap64 ((x0.length : Int) - 1)) < (x0.length : Int) then (impl_Pose_next.f k ((rd (0, (0, (0, 0))) x0 (wrap64 ((x0.length : Int) - 1))).1) (((rd (0, (0, (0, 0))) x0 (wrap64 ((x0.length : Int) - 1))).2).1) ((((rd (0, (0, (0, 0))) x0 (wrap64 ((x0.length : Int) - 1))).2).2).1) ((((rd (0, (0, (0, 0))) x0 (wrap64 ((x0.length : Int) - 1))).2).2).2) x2 x3).bind fun t5 => (impl_ValidPose.f k t5.1 t5.2.1 t5.2.2.1 t5.2.2.2).bind fun t6 => (if (!t6) = true then some ([], false) else if x0.length + [t5].length < 274877906944 then c.2.2.2 (x0 ++ [t5]) x1 x2 x3 x4 x5 x6 x7 (wrap64 (x8 + 1)) else none) else none else none else c.2.1 x0 x4 x5 (wrap64 (x6 + 1))))
noncomputable def impl_Axis_poses.cs (k : Nat) : Nat → impl_Axis_poses.Cs
  | 0 => impl_Axis_poses.zero
  | n + 1 => impl_Axis_poses.step k (impl_Axis_poses.cs k n)
def impl_Axis_poses.CC (c : impl_Axis_poses.Cs) : Cuts impl_Axis_poses.N := [(4, ⟨[(1, none, [.fl (.int .i64), .fl (.int .i64), .fl (.int .i64), .fl (.int .i64), .fl (.lo (.pair (.int .i64) (.pair (.int .i64) (.int .i64))))]), (4, some false, [.fl (.own (.pair (.int .i64) (.pair (.int .i64) (.pair (.int .i64) (.int .i64)))))])], fun x => c.1 x.1.1 x.1.2.1 x.1.2.2.1 x.1.2.2.2.1 x.1.2.2.2.2.1 x.2.1.1⟩),
  (16, ⟨[(4, some false, [.fl (.own (.pair (.int .i64) (.pair (.int .i64) (.pair (.int .i64) (.int .i64)))))]), (23, some false, [.fl (.lo (.pair (.int .i64) (.pair (.int .i64) (.int .i64))))]), (24, some false, [.fl (.int .i64)]), (25, some false, [.fl (.int .i64)])], fun x => c.2.1 x.1.1 x.2.1.1 x.2.2.1.1 x.2.2.2.1.1⟩),
  (27, ⟨[(4, some false, [.fl (.own (.pair (.int .i64) (.pair (.int .i64) (.pair (.int .i64) (.int .i64)))))]), (6, none, [.fl (.int .i64), .fl (.int .i64), .fl (.int .i64)]), (23, some false, [.fl (.lo (.pair (.int .i64) (.pair (.int .i64) (.int .i64))))]), (24, some false, [.fl (.int .i64)]), (25, some false, [.fl (.int .i64)])], fun x => c.2.2.1 x.1.1 x.2.1.1 x.2.1.2.1 x.2.1.2.2.1 x.2.2.1.1 x.2.2.2.1.1 x.2.2.2.2.1.1⟩),
  (38, ⟨[(4, some false, [.fl (.own (.pair (.int .i64) (.pair (.int .i64) (.pair (.int .i64) (.int .i64)))))]), (6, none, [.fl (.int .i64), .fl (.int .i64), .fl (.int .i64)]), (23, some false, [.fl (.lo (.pair (.int .i64) (.pair (.int .i64) (.int .i64))))]), (24, some false, [.fl (.int .i64)]), (25, some false, [.fl (.int .i64)]), (50, some false, [.fl (.int .i64)]), (51, some false, [.fl (.int .i64)])], fun x => c.2.2.2 x.1.1 x.2.1.1 x.2.1.2.1 x.2.1.2.2.1 x.2.2.1.1 x.2.2.2.1.1 x.2.2.2.2.1.1 x.2.2.2.2.2.1.1 x.2.2.2.2.2.2.1.1⟩)]
noncomputable def impl_Axis_poses.f (k : Nat) (a0 : Int) (a1 : Int) (a2 : Int) (a3 : Int) (a4 : List (Int × Int × Int)) : Option impl_Axis_poses.N := (impl_ValidPose.f k a0 a1 a2 a3).bind fun t1 => (if (!t1) = true then some ([], false) else (impl_within.f k (a4.length : Int) 1 8).bind fun t2 => (if (!t2) = true then some ([], false) else (impl_Axis_poses.cs k k).1 a0 a1 a2 a3 a4 [(a0, (a1, (a2, a3)))]))
noncomputable def impl_Axis_poses.F (k : Nat) : Go.Rv.Fn := mkFn 1 impl_Axis_poses.pc impl_Axis_poses.pr (keepOf []) (fun (y : impl_Axis_poses.N) => (((y.1, ()), (y.2, ()), ()) : compT impl_Axis_poses.pr)) fun x => impl_Axis_poses.f k x.1.1 x.1.2.1 x.1.2.2.1 x.1.2.2.2.1 x.1.2.2.2.2.1
theorem impl_Axis_poses.env (k : Nat) : EnvOk Go.Proofs.Try.prog (fun f => (impl_Axis_poses.E k).lookup f) := envOk_of ⟨entry Go.Proofs.Try.call47 rfl (impl_within.ok k), entry Go.Proofs.Try.call97 rfl (impl_ValidPose.ok k), entry Go.Proofs.Try.call98 rfl (impl_isTurn.ok k), entry Go.Proofs.Try.call99 rfl (impl_Pose_next.ok k), trivial⟩
theorem impl_Axis_poses.cuts (k : Nat) : CutsOk Go.Proofs.Try.prog X (fun f => (impl_Axis_poses.E k).lookup f) Go.Proofs.Try.f88 [] (decN impl_Axis_poses.pr (fun (y : compT impl_Axis_poses.pr) => ((y.1.1, y.2.1.1) : impl_Axis_poses.N))) fun n => impl_Axis_poses.CC (impl_Axis_poses.cs k n) :=
  cutsOk_of (step := impl_Axis_poses.step k) rfl (fun _ => rfl) ⟨fun _ => rfl, fun _ => rfl, fun _ => rfl, fun _ => rfl, trivial⟩ (fun c => by kernel_rfl) fun c => ⟨fun x => by kernel_rfl, fun x => by kernel_rfl, fun x => by kernel_rfl, fun x => by kernel_rfl, trivial⟩
theorem impl_Axis_poses.ok (k : Nat) : FnOk Go.Proofs.Try.prog 88 (impl_Axis_poses.F k) :=
  fn_ok tab (impl_Axis_poses.env k) Go.Proofs.Try.func88 rfl (n := 1) (Nat.le_of_ble_eq_true rfl) (by kernel_rfl) (outs := []) (by kernel_rfl) (by kernel_rfl) (d := fun (y : compT impl_Axis_poses.pr) => ((y.1.1, y.2.1.1) : impl_Axis_poses.N)) (fun _ => rfl) (C := fun n => impl_Axis_poses.CC (impl_Axis_poses.cs k n)) (k := k) (impl_Axis_poses.cuts k) fun x => by kernel_rfl
/-! impl.isHole -/
@[reducible] def impl_isHole.pc : CutP := [(0, some true, [.fl (.int .i64), .fl (.lo (.int .i64))]), (1, some false, [.fl (.int .i64)])]
@[reducible] def impl_isHole.pr : CompPs := [(false, [.fl .bool])]
abbrev impl_isHole.N := Bool
noncomputable def impl_isHole.E (k : Nat) : List (FuncId × Go.Rv.Fn) := [(47, impl_within.F k), (48, impl_areWithin.F k)]
abbrev impl_isHole.Cs := (Int → Int → List Int → Option impl_isHole.N) × (Int → Int → List Int → Int → Option impl_isHole.N)
def impl_isHole.zero : impl_isHole.Cs := (fun _ _ _ => none, fun _ _ _ _ => none)
noncomputable def impl_isHole.step (k : Nat) (c : impl_isHole.Cs) : impl_isHole.Cs := (fun (x0 : Int) (x1 : Int) (x2 : List Int) => c.2 x0 x1 x2 1,
  fun (x0 : Int) (x1 : Int) (x2 : List Int) (x3 : Int) => (if (decide (x3 < x0)) = true then if 0 ≤ x3 then if x3 < (x2.length : Int) then if 0 ≤ (wrap64 (x3 - 1)) then if (wrap64 (x3 - 1)) < (x2.length : Int) then (if (decide ((rd 0 x2 (wrap64 (x3 - 1))) < (rd 0 x2 x3))) = true then some false else c.2 x0 x1 x2 (wrap64 (x3 + 1))) else none else none else none else none else some true))
noncomputable def impl_isHole.cs (k : Nat) : Nat → impl_isHole.Cs
  | 0 => impl_isHole.zero
  | n + 1 => impl_isHole.step k (impl_isHole.cs k n)
def impl_isHole.CC (c : impl_isHole.Cs) : Cuts impl_isHole.N := [(2, ⟨[(1, some false, [.fl (.int .i64)]), (2, none, [.fl (.int .i64), .fl (.lo (.int .i64))])], fun x => c.1 x.1.1 x.2.1.1 x.2.1.2.1⟩),
  (14, ⟨[(1, some false, [.fl (.int .i64)]), (2, none, [.fl (.int .i64), .fl (.lo (.int .i64))]), (5, some false, [.fl (.int .i64)])], fun x => c.2 x.1.1 x.2.1.1 x.2.1.2.1 x.2.2.1.1⟩)]
noncomputable def impl_isHole.f (k : Nat) (a0 : Int) (a1 : List Int) (a2 : Int) : Option impl_isHole.N := (impl_within.f k a0 0 60).bind fun t1 => (if (!t1) = true then some false else (if (!decide ((a1.length : Int) = a2)) = true then some false else (impl_areWithin.f k a1 (-100000) 100000).bind fun t2 => (if (!t2) = true then some false else (impl_isHole.cs k k).1 a2 a0 a1)))
noncomputable def impl_isHole.F (k : Nat) : Go.Rv.Fn := mkFn 2 impl_isHole.pc impl_isHole.pr (keepOf []) (fun (y : impl_isHole.N) => (((y, ()), ()) : compT impl_isHole.pr)) fun x => impl_isHole.f k x.1.1 x.1.2.1 x.2.1.1
theorem impl_isHole.env (k : Nat) : EnvOk Go.Proofs.Try.prog (fun f => (impl_isHole.E k).lookup f) := envOk_of ⟨entry Go.Proofs.Try.call47 rfl (impl_within.ok k), entry Go.Proofs.Try.call48 rfl (impl_areWithin.ok k), trivial⟩
theorem impl_isHole.cuts (k : Nat) : CutsOk Go.Proofs.Try.prog X (fun f => (impl_isHole.E k).lookup f) Go.Proofs.Try.f49 [] (decN impl_isHole.pr (fun (y : compT impl_isHole.pr) => (y.1.1 : impl_isHole.N))) fun n => impl_isHole.CC (impl_isHole.cs k n) :=
  cutsOk_of (step := impl_isHole.step k) rfl (fun _ => rfl) ⟨fun _ => rfl, fun _ => rfl, trivial⟩ (fun c => by kernel_rfl) fun c => ⟨fun x => by kernel_rfl, fun x => by kernel_rfl, trivial⟩
theorem impl_isHole.ok (k : Nat) : FnOk Go.Proofs.Try.prog 49 (impl_isHole.F k) :=
  fn_ok tab (impl_isHole.env k) Go.Proofs.Try.func49 rfl (n := 2) (Nat.le_of_ble_eq_true rfl) (by kernel_rfl) (outs := []) (by kernel_rfl) (by kernel_rfl) (d := fun (y : compT impl_isHole.pr) => (y.1.1 : impl_isHole.N)) (fun _ => rfl) (C := fun n => impl_isHole.CC (impl_isHole.cs k n)) (k := k) (impl_isHole.cuts k) fun x => by kernel_rfl
/-! impl.ValidGround -/
@[reducible] def impl_ValidGround.pc : CutP := [(0, some true, [.fl (.lo (.int .i64)), .fl (.lo (.pair (.int .i64) (.sl (.int .i64))))])]
@[reducible] def impl_ValidGround.pr : CompPs := [(false, [.fl .bool])]
abbrev impl_ValidGround.N := Bool
noncomputable def impl_ValidGround.E (k : Nat) : List (FuncId × Go.Rv.Fn) := [(47, impl_within.F k), (48, impl_areWithin.F k), (49, impl_isHole.F k)]
abbrev impl_ValidGround.Cs := (List Int → List (Int × List Int) → Option impl_ValidGround.N) × (List Int → List (Int × List Int) → List (Int × List Int) → Int → Int → Option impl_ValidGround.N)
def impl_ValidGround.zero : impl_ValidGround.Cs := (fun _ _ => none, fun _ _ _ _ _ => none)
noncomputable def impl_ValidGround.step (k : Nat) (c : impl_ValidGround.Cs) : impl_ValidGround.Cs := (fun (x0 : List Int) (x1 : List (Int × List Int)) => c.2 x0 x1 x1 (x1.length : Int) 0,
  fun (x0 : List Int) (x1 : List (Int × List Int)) (x2 : List (Int × List Int)) (x3 : Int) (x4 : Int) => (if (decide (x4 < x3)) = true then if 0 ≤ x4 then if x4 < (x2.length : Int) then (impl_isHole.f k ((rd (0, []) x2 x4).1) ((rd (0, []) x2 x4).2) (x0.length : Int)).bind fun t4 => (if (!t4) = true then some false else (if (decide (0 < x4)) = true then if 0 ≤ (wrap64 (x4 - 1)) then if (wrap64 (x4 - 1)) < (x1.length : Int) then (if (decide ((rd (0, []) x2 x4).1 ≤ (rd (0, []) x1 (wrap64 (x4 - 1))).1)) = true then some false else c.2 x0 x1 x2 x3 (wrap64 (x4 + 1))) else none else none else c.2 x0 x1 x2 x3 (wrap64 (x4 + 1)))) else none else none else some true))
noncomputable def impl_ValidGround.cs (k : Nat) : Nat → impl_ValidGround.Cs
  | 0 => impl_ValidGround.zero
  | n + 1 => impl_ValidGround.step k (impl_ValidGround.cs k n)
def impl_ValidGround.CC (c : impl_ValidGround.Cs) : Cuts impl_ValidGround.N := [(2, ⟨[(1, none, [.fl (.lo (.int .i64)), .fl (.lo (.pair (.int .i64) (.sl (.int .i64))))])], fun x => c.1 x.1.1 x.1.2.1⟩),
  (14, ⟨[(1, none, [.fl (.lo (.int .i64)), .fl (.lo (.pair (.int .i64) (.sl (.int .i64))))]), (24, some false, [.fl (.lo (.pair (.int .i64) (.sl (.int .i64))))]), (25, some false, [.fl (.int .i64)]), (26, some false, [.fl (.int .i64)])], fun x => c.2 x.1.1 x.1.2.1 x.2.1.1 x.2.2.1.1 x.2.2.2.1.1⟩)]
noncomputable def impl_ValidGround.f (k : Nat) (a0 : List Int) (a1 : List (Int × List Int)) : Option impl_ValidGround.N := (impl_within.f k (a0.length : Int) 1 4).bind fun t1 => (if (!t1) = true then some false else (impl_areWithin.f k a0 1 3000).bind fun t2 => (if (!t2) = true then some false else (impl_within.f k (a1.length : Int) 1 6).bind fun t3 => (if (!t3) = true then some false else (impl_ValidGround.cs k k).1 a0 a1)))
noncomputable def impl_ValidGround.F (k : Nat) : Go.Rv.Fn := mkFn 1 impl_ValidGround.pc impl_ValidGround.pr (keepOf []) (fun (y : impl_ValidGround.N) => (((y, ()), ()) : compT impl_ValidGround.pr)) fun x => impl_ValidGround.f k x.1.1 x.1.2.1
theorem impl_ValidGround.env (k : Nat) : EnvOk Go.Proofs.Try.prog (fun f => (impl_ValidGround.E k).lookup f) := envOk_of ⟨entry Go.Proofs.Try.call47 rfl (impl_within.ok k), entry Go.Proofs.Try.call48 rfl (impl_areWithin.ok k), entry Go.Proofs.Try.call49 rfl (impl_isHole.ok k), trivial⟩
theorem impl_ValidGround.cuts (k : Nat) : CutsOk Go.Proofs.Try.prog X (fun f => (impl_ValidGround.E k).lookup f) Go.Proofs.Try.f14 [] (decN impl_ValidGround.pr (fun (y : compT impl_ValidGround.pr) => (y.1.1 : impl_ValidGround.N))) fun n => impl_ValidGround.CC (impl_ValidGround.cs k n) :=
  cutsOk_of (step := impl_ValidGround.step k) rfl (fun _ => rfl) ⟨fun _ => rfl, fun _ => rfl, trivial⟩ (fun c => by kernel_rfl) fun c => ⟨fun x => by kernel_rfl, fun x => by kernel_rfl, trivial⟩
theorem impl_ValidGround.ok (k : Nat) : FnOk Go.Proofs.Try.prog 14 (impl_ValidGround.F k) :=
  fn_ok tab (impl_ValidGround.env k) Go.Proofs.Try.func14 rfl (n := 1) (Nat.le_of_ble_eq_true rfl) (by kernel_rfl) (outs := []) (by kernel_rfl) (by kernel_rfl) (d := fun (y : compT impl_ValidGround.pr) => (y.1.1 : impl_ValidGround.N)) (fun _ => rfl) (C := fun n => impl_ValidGround.CC (impl_ValidGround.cs k n)) (k := k) (impl_ValidGround.cuts k) fun x => by kernel_rfl
/-! impl.along -/
@[reducible] def impl_along.pc : CutP := [(0, some true, [.fl (.lo (.int .i64)), .fl (.lo (.pair (.int .i64) (.sl (.int .i64))))]), (1, some true, [.fl (.int .i64), .fl (.int .i64), .fl (.int .i64), .fl (.int .i64), .fl (.lo (.pair (.int .i64) (.pair (.int .i64) (.int .i64))))])]
@[reducible] def impl_along.pr : CompPs := [(false, [.fl (.hi (.pair (.int .i64) (.pair (.int .i64) (.pair (.int .i64) (.int .i64)))))]), (false, [.fl .bool])]
abbrev impl_along.N := List (Int × Int × Int × Int) × Bool
noncomputable def impl_along.E (k : Nat) : List (FuncId × Go.Rv.Fn) := [(14, impl_ValidGround.F k), (88, impl_Axis_poses.F k)]
noncomputable def impl_along.f (k : Nat) (a0 : List Int) (a1 : List (Int × List Int)) (a2 : Int) (a3 : Int) (a4 : Int) (a5 : Int) (a6 : List (Int × Int × Int)) : Option impl_along.N := (impl_Axis_poses.f k a2 a3 a4 a5 a6).bind fun t1 => (if (!t1.2) = true then some (([] : List (Int × Int × Int × Int)), false) else (impl_ValidGround.f k a0 a1).bind fun t2 => (if (!t2) = true then some (([] : List (Int × Int × Int × Int)), false) else if 0 ≤ 0 then if 0 ≤ (wrap64 ((t1.1.length : Int) - 1)) then if (wrap64 ((t1.1.length : Int) - 1)) ≤ (t1.1.length : Int) then some (((t1.1.take (wrap64 ((t1.1.length : Int) - 1)).toNat).drop (0 : Int).toNat), true) else none else none else none))
noncomputable def impl_along.F (k : Nat) : Go.Rv.Fn := mkFn 2 impl_along.pc impl_along.pr (keepOf []) (fun (y : impl_along.N) => (((y.1, ()), (y.2, ()), ()) : compT impl_along.pr)) fun x => impl_along.f k x.1.1 x.1.2.1 x.2.1.1 x.2.1.2.1 x.2.1.2.2.1 x.2.1.2.2.2.1 x.2.1.2.2.2.2.1
theorem impl_along.env (k : Nat) : EnvOk Go.Proofs.Try.prog (fun f => (impl_along.E k).lookup f) := envOk_of ⟨entry Go.Proofs.Try.call14 rfl (impl_ValidGround.ok k), entry Go.Proofs.Try.call88 rfl (impl_Axis_poses.ok k), trivial⟩
theorem impl_along.ok (k : Nat) : FnOk Go.Proofs.Try.prog 70 (impl_along.F k) :=
  fn_ok tab (impl_along.env k) Go.Proofs.Try.func70 rfl (n := 2) (Nat.le_of_ble_eq_true rfl) (by kernel_rfl) (outs := []) (by kernel_rfl) (by kernel_rfl) (d := fun (y : compT impl_along.pr) => ((y.1.1, y.2.1.1) : impl_along.N)) (fun _ => rfl) (C := fun _ => []) (k := k) noCuts fun x => by kernel_rfl
/-! (impl.Ground).tops$1 -/
@[reducible] def impl_Ground_tops_1.pc : CutP := [(0, some true, [.fl (.int .i64), .fl (.lo (.int .i64))]), (1, some false, [.rptr [(.int .i64)]])]
@[reducible] def impl_Ground_tops_1.pr : CompPs := [(false, [.fl .bool])]
abbrev impl_Ground_tops_1.N := Bool
noncomputable def impl_Ground_tops_1.E (k : Nat) : List (FuncId × Go.Rv.Fn) := []
noncomputable def impl_Ground_tops_1.f (k : Nat) (a0 : Int) (a1 : List Int) (a2 : Int) : Option impl_Ground_tops_1.N := some (decide (a2 ≤ a0))
noncomputable def impl_Ground_tops_1.F (k : Nat) : Go.Rv.Fn := mkFn 2 impl_Ground_tops_1.pc impl_Ground_tops_1.pr (keepOf []) (fun (y : impl_Ground_tops_1.N) => (((y, ()), ()) : compT impl_Ground_tops_1.pr)) fun x => impl_Ground_tops_1.f k x.1.1 x.1.2.1 x.2.1.1.1
theorem impl_Ground_tops_1.env (k : Nat) : EnvOk Go.Proofs.Try.prog (fun f => (impl_Ground_tops_1.E k).lookup f) := envOk_of trivial
theorem impl_Ground_tops_1.ok (k : Nat) : FnOk Go.Proofs.Try.prog 83 (impl_Ground_tops_1.F k) :=
  fn_ok tab (impl_Ground_tops_1.env k) Go.Proofs.Try.func83 rfl (n := 2) (Nat.le_of_ble_eq_true rfl) (by kernel_rfl) (outs := []) (by kernel_rfl) (by kernel_rfl) (d := fun (y : compT impl_Ground_tops_1.pr) => (y.1.1 : impl_Ground_tops_1.N)) (fun _ => rfl) (C := fun _ => []) (k := k) noCuts fun x => by kernel_rfl
/-! slices.IndexFunc[[]impl.Hole,impl.Hole] -/
@[reducible] def slices_IndexFunc_Hole_Ground_tops_1.pc : CutP := [(0, some false, [.fl (.lo (.pair (.int .i64) (.sl (.int .i64))))]), (1, some false, [.fn 83 [[(.int .i64)]]])]
@[reducible] def slices_IndexFunc_Hole_Ground_tops_1.pr : CompPs := [(false, [.fl (.int .i64)])]
abbrev slices_IndexFunc_Hole_Ground_tops_1.N := Int
noncomputable def slices_IndexFunc_Hole_Ground_tops_1.E (k : Nat) : List (FuncId × Go.Rv.Fn) := [(83, impl_Ground_tops_1.F k)]
abbrev slices_IndexFunc_Hole_Ground_tops_1.Cs := (List (Int × List Int) → Int → Int → Int → Option slices_IndexFunc_Hole_Ground_tops_1.N)
def slices_IndexFunc_Hole_Ground_tops_1.zero : slices_IndexFunc_Hole_Ground_tops_1.Cs := (fun _ _ _ _ => none)
noncomputable def slices_IndexFunc_Hole_Ground_tops_1.step (k : Nat) (c : slices_IndexFunc_Hole_Ground_tops_1.Cs) : slices_IndexFunc_Hole_Ground_tops_1.Cs := (fun (x0 : List (Int × List Int)) (x1 : Int) (x2 : Int) (x3 : Int) => (if (decide (x3 < x2)) = true then if 0 ≤ x3 then if x3 < (x0.length : Int) then (impl_Ground_tops_1.f k ((rd (0, []) x0 x3).1) ((rd (0, []) x0 x3).2) x1).bind fun t1 => (if t1 = true then some x3 else c x0 x1 x2 (wrap64 (x3 + 1))) else none else none else some (-1)))
noncomputable def slices_IndexFunc_Hole_Ground_tops_1.cs (k : Nat) : Nat → slices_IndexFunc_Hole_Ground_tops_1.Cs
  | 0 => slices_IndexFunc_Hole_Ground_tops_1.zero
  | n + 1 => slices_IndexFunc_Hole_Ground_tops_1.step k (slices_IndexFunc_Hole_Ground_tops_1.cs k n)
def slices_IndexFunc_Hole_Ground_tops_1.CC (c : slices_IndexFunc_Hole_Ground_tops_1.Cs) : Cuts slices_IndexFunc_Hole_Ground_tops_1.N := [(6, ⟨[(0, some false, [.fl (.lo (.pair (.int .i64) (.sl (.int .i64))))]), (1, some false, [.fn 83 [[(.int .i64)]]]), (7, some false, [.fl (.int .i64)]), (8, some false, [.fl (.int .i64)])], fun x => c x.1.1 x.2.1.1.1.1 x.2.2.1.1 x.2.2.2.1.1⟩)]
noncomputable def slices_IndexFunc_Hole_Ground_tops_1.f (k : Nat) (a0 : List (Int × List Int)) (a1 : Int) : Option slices_IndexFunc_Hole_Ground_tops_1.N := (slices_IndexFunc_Hole_Ground_tops_1.cs k k) a0 a1 (a0.length : Int) 0
noncomputable def slices_IndexFunc_Hole_Ground_tops_1.F (k : Nat) : Go.Rv.Fn := mkFn 2 slices_IndexFunc_Hole_Ground_tops_1.pc slices_IndexFunc_Hole_Ground_tops_1.pr (keepOf []) (fun (y : slices_IndexFunc_Hole_Ground_tops_1.N) => (((y, ()), ()) : compT slices_IndexFunc_Hole_Ground_tops_1.pr)) fun x => slices_IndexFunc_Hole_Ground_tops_1.f k x.1.1 x.2.1.1.1.1
theorem slices_IndexFunc_Hole_Ground_tops_1.env (k : Nat) : EnvOk Go.Proofs.Try.prog (fun f => (slices_IndexFunc_Hole_Ground_tops_1.E k).lookup f) := envOk_of ⟨entry Go.Proofs.Try.call83 rfl (impl_Ground_tops_1.ok k), trivial⟩
theorem slices_IndexFunc_Hole_Ground_tops_1.cuts (k : Nat) : CutsOk Go.Proofs.Try.prog X (fun f => (slices_IndexFunc_Hole_Ground_tops_1.E k).lookup f) Go.Proofs.Try.f73 [] (decN slices_IndexFunc_Hole_Ground_tops_1.pr (fun (y : compT slices_IndexFunc_Hole_Ground_tops_1.pr) => (y.1.1 : slices_IndexFunc_Hole_Ground_tops_1.N))) fun n => slices_IndexFunc_Hole_Ground_tops_1.CC (slices_IndexFunc_Hole_Ground_tops_1.cs k n) :=
  cutsOk_of (step := slices_IndexFunc_Hole_Ground_tops_1.step k) rfl (fun _ => rfl) ⟨fun _ => rfl, trivial⟩ (fun c => by kernel_rfl) fun c => ⟨fun x => by kernel_rfl, trivial⟩
theorem slices_IndexFunc_Hole_Ground_tops_1.ok (k : Nat) : FnOk Go.Proofs.Try.prog 73 (slices_IndexFunc_Hole_Ground_tops_1.F k) :=
  fn_ok tab (slices_IndexFunc_Hole_Ground_tops_1.env k) Go.Proofs.Try.func73 rfl (n := 2) (Nat.le_of_ble_eq_true rfl) (by kernel_rfl) (outs := []) (by kernel_rfl) (by kernel_rfl) (d := fun (y : compT slices_IndexFunc_Hole_Ground_tops_1.pr) => (y.1.1 : slices_IndexFunc_Hole_Ground_tops_1.N)) (fun _ => rfl) (C := fun n => slices_IndexFunc_Hole_Ground_tops_1.CC (slices_IndexFunc_Hole_Ground_tops_1.cs k n)) (k := k) (slices_IndexFunc_Hole_Ground_tops_1.cuts k) fun x => by kernel_rfl
/-! slices.Clone[[]int64,int64] -/
@[reducible] def slices_Clone_int64.pc : CutP := [(0, some false, [.fl (.lo (.int .i64))])]
@[reducible] def slices_Clone_int64.pr : CompPs := [(false, [.fl (.own (.int .i64))])]
abbrev slices_Clone_int64.N := List Int
noncomputable def slices_Clone_int64.E (k : Nat) : List (FuncId × Go.Rv.Fn) := []
noncomputable def slices_Clone_int64.f (k : Nat) (a0 : List Int) : Option slices_Clone_int64.N := if 0 < a0.length then if ([] : List Int).length + a0.length < 1099511627776 then some (([] : List Int) ++ a0) else none else none
noncomputable def slices_Clone_int64.F (k : Nat) : Go.Rv.Fn := mkFn 1 slices_Clone_int64.pc slices_Clone_int64.pr (keepOf []) (fun (y : slices_Clone_int64.N) => (((y, ()), ()) : compT slices_Clone_int64.pr)) fun x => slices_Clone_int64.f k x.1.1
theorem slices_Clone_int64.env (k : Nat) : EnvOk Go.Proofs.Try.prog (fun f => (slices_Clone_int64.E k).lookup f) := envOk_of trivial
theorem slices_Clone_int64.ok (k : Nat) : FnOk Go.Proofs.Try.prog 84 (slices_Clone_int64.F k) :=
  fn_ok tab (slices_Clone_int64.env k) Go.Proofs.Try.func84 rfl (n := 1) (Nat.le_of_ble_eq_true rfl) (by kernel_rfl) (outs := []) (by kernel_rfl) (by kernel_rfl) (d := fun (y : compT slices_Clone_int64.pr) => (y.1.1 : slices_Clone_int64.N)) (fun _ => rfl) (C := fun _ => []) (k := k) noCuts fun x => by kernel_rfl
/-! impl.floorOf -/
@[reducible] def impl_floorOf.pc : CutP := [(0, some false, [.fl (.int .i64)]), (1, some false, [.fl (.int .i64)])]
@[reducible] def impl_floorOf.pr : CompPs := [(false, [.fl (.int .i64)])]
abbrev impl_floorOf.N := Int
noncomputable def impl_floorOf.E (k : Nat) : List (FuncId × Go.Rv.Fn) := []
noncomputable def impl_floorOf.f (k : Nat) (a0 : Int) (a1 : Int) : Option impl_floorOf.N := (if a1 = 0 then none else (if a1 = 0 then none else (if (decide ((a0.tmod a1) < 0)) = true then some (wrap64 ((wrap64 (a0.tdiv a1)) - 1)) else some (wrap64 (a0.tdiv a1)))))
noncomputable def impl_floorOf.F (k : Nat) : Go.Rv.Fn := mkFn 2 impl_floorOf.pc impl_floorOf.pr (keepOf []) (fun (y : impl_floorOf.N) => (((y, ()), ()) : compT impl_floorOf.pr)) fun x => impl_floorOf.f k x.1.1 x.2.1.1
theorem impl_floorOf.env (k : Nat) : EnvOk Go.Proofs.Try.prog (fun f => (impl_floorOf.E k).lookup f) := envOk_of trivial
theorem impl_floorOf.ok (k : Nat) : FnOk Go.Proofs.Try.prog 85 (impl_floorOf.F k) :=
  fn_ok tab (impl_floorOf.env k) Go.Proofs.Try.func85 rfl (n := 2) (Nat.le_of_ble_eq_true rfl) (by kernel_rfl) (outs := []) (by kernel_rfl) (by kernel_rfl) (d := fun (y : compT impl_floorOf.pr) => (y.1.1 : impl_floorOf.N)) (fun _ => rfl) (C := fun _ => []) (k := k) noCuts fun x => by kernel_rfl
/-! (impl.Ground).tops -/
@[reducible] def impl_Ground_tops.pc : CutP := [(0, some true, [.fl (.lo (.int .i64)), .fl (.lo (.pair (.int .i64) (.sl (.int .i64))))]), (1, some false, [.fl (.int .i64)])]
@[reducible] def impl_Ground_tops.pr : CompPs := [(false, [.fl (.own (.int .i64))])]
abbrev impl_Ground_tops.N := List Int
noncomputable def impl_Ground_tops.E (k : Nat) : List (FuncId × Go.Rv.Fn) := [(73, slices_IndexFunc_Hole_Ground_tops_1.F k), (84, slices_Clone_int64.F k), (85, impl_floorOf.F k)]
abbrev impl_Ground_tops.Cs := (List Int → List (Int × List Int) → Int → Int → Option impl_Ground_tops.N) × (Int → Int → List Int → Int → List Int → List Int → List Int → Int → Int → Option impl_Ground_tops.N)
def impl_Ground_tops.zero : impl_Ground_tops.Cs := (fun _ _ _ _ => none, fun _ _ _ _ _ _ _ _ _ => none)
noncomputable def impl_Ground_tops.step (k : Nat) (c : impl_Ground_tops.Cs) : impl_Ground_tops.Cs := (fun (x0 : List Int) (x1 : List (Int × List Int)) (x2 : Int) (x3 : Int) => if 0 ≤ (wrap64 (x3 - 1)) then if (wrap64 (x3 - 1)) < (x1.length : Int) then if 0 ≤ x3 then if x3 < (x1.length : Int) then c.2 x2 ((rd (0, []) x1 (wrap64 (x3 - 1))).1) ((rd (0, []) x1 (wrap64 (x3 - 1))).2) ((rd (0, []) x1 x3).1) ((rd (0, []) x1 x3).2) ([] : List Int) ((rd (0, []) x1 (wrap64 (x3 - 1))).2) (((rd (0, []) x1 (wrap64 (x3 - 1))).2).length : Int) 0 else none else none else none else none,
  fun (x0 : Int) (x1 : Int) (x2 : List Int) (x3 : Int) (x4 : List Int) (x5 : List Int) (x6 : List Int) (x7 : Int) (x8 : Int) => (if (decide (x8 < x7)) = true then if 0 ≤ x8 then if x8 < (x6.length : Int) then if 0 ≤ x8 then if x8 < (x4.length : Int) then (impl_floorOf.f k (wrap64 ((wrap64 ((rd 0 x4 x8) - (rd 0 x6 x8))) * (wrap64 (x0 - x1)))) (wrap64 (x3 - x1))).bind fun (t5 : Int) => if x5.length + [(wrap64 ((rd 0 x6 x8) + t5))].length < 1099511627776 then c.2 x0 x1 x2 x3 x4 (x5 ++ [(wrap64 ((rd 0 x6 x8) + t5))]) x6 x7 (wrap64 (x8 + 1)) else none else none else none else none else none else some x5))
noncomputable def impl_Ground_tops.cs (k : Nat) : Nat → impl_Ground_tops.Cs
  | 0 => impl_Ground_tops.zero
  | n + 1 => impl_Ground_tops.step k (impl_Ground_tops.cs k n)
def impl_Ground_tops.CC (c : impl_Ground_tops.Cs) : Cuts impl_Ground_tops.N := [(6, ⟨[(2, none, [.fl (.lo (.int .i64)), .fl (.lo (.pair (.int .i64) (.sl (.int .i64))))]), (3, none, [.fl (.int .i64)]), (6, some false, [.fl (.int .i64)])], fun x => c.1 x.1.1 x.1.2.1 x.2.1.1 x.2.2.1.1⟩),
  (27, ⟨[(3, none, [.fl (.int .i64)]), (7, none, [.fl (.int .i64), .fl (.lo (.int .i64))]), (8, none, [.fl (.int .i64), .fl (.lo (.int .i64))]), (9, some false, [.fl (.own (.int .i64))]), (63, some false, [.fl (.lo (.int .i64))]), (64, some false, [.fl (.int .i64)]), (65, some false, [.fl (.int .i64)])], fun x => c.2 x.1.1 x.2.1.1 x.2.1.2.1 x.2.2.1.1 x.2.2.1.2.1 x.2.2.2.1.1 x.2.2.2.2.1.1 x.2.2.2.2.2.1.1 x.2.2.2.2.2.2.1.1⟩)]
noncomputable def impl_Ground_tops.f (k : Nat) (a0 : List Int) (a1 : List (Int × List Int)) (a2 : Int) : Option impl_Ground_tops.N := (slices_IndexFunc_Hole_Ground_tops_1.f k a1 a2).bind fun (t1 : Int) => (if (decide (t1 < 0)) = true then if 0 ≤ (wrap64 ((a1.length : Int) - 1)) then if (wrap64 ((a1.length : Int) - 1)) < (a1.length : Int) then (slices_Clone_int64.f k ((rd (0, []) a1 (wrap64 ((a1.length : Int) - 1))).2)).bind fun t2 => some t2 else none else none else (if (decide (t1 = 0)) = true then if 0 ≤ t1 then if t1 < (a1.length : Int) then (slices_Clone_int64.f k ((rd (0, []) a1 t1).2)).bind fun t3 => some t3 else none else none else if 0 ≤ t1 then if t1 < (a1.length : Int) then (if (decide ((rd (0, []) a1 t1).1 = a2)) = true then if 0 ≤ t1 then if t1 < (a1.length : Int) then (slices_Clone_int64.f k ((rd (0, []) a1 t1).2)).bind fun t4 => some t4 else none else none else (impl_Ground_tops.cs k k).1 a0 a1 a2 t1) else none else none))
noncomputable def impl_Ground_tops.F (k : Nat) : Go.Rv.Fn := mkFn 2 impl_Ground_tops.pc impl_Ground_tops.pr (keepOf []) (fun (y : impl_Ground_tops.N) => (((y, ()), ()) : compT impl_Ground_tops.pr)) fun x => impl_Ground_tops.f k x.1.1 x.1.2.1 x.2.1.1
theorem impl_Ground_tops.env (k : Nat) : EnvOk Go.Proofs.Try.prog (fun f => (impl_Ground_tops.E k).lookup f) := envOk_of ⟨entry Go.Proofs.Try.call73 rfl (slices_IndexFunc_Hole_Ground_tops_1.ok k), entry Go.Proofs.Try.call84 rfl (slices_Clone_int64.ok k), entry Go.Proofs.Try.call85 rfl (impl_floorOf.ok k), trivial⟩
theorem impl_Ground_tops.cuts (k : Nat) : CutsOk Go.Proofs.Try.prog X (fun f => (impl_Ground_tops.E k).lookup f) Go.Proofs.Try.f53 [] (decN impl_Ground_tops.pr (fun (y : compT impl_Ground_tops.pr) => (y.1.1 : impl_Ground_tops.N))) fun n => impl_Ground_tops.CC (impl_Ground_tops.cs k n) :=
  cutsOk_of (step := impl_Ground_tops.step k) rfl (fun _ => rfl) ⟨fun _ => rfl, fun _ => rfl, trivial⟩ (fun c => by kernel_rfl) fun c => ⟨fun x => by kernel_rfl, fun x => by kernel_rfl, trivial⟩
theorem impl_Ground_tops.ok (k : Nat) : FnOk Go.Proofs.Try.prog 53 (impl_Ground_tops.F k) :=
  fn_ok tab (impl_Ground_tops.env k) Go.Proofs.Try.func53 rfl (n := 2) (Nat.le_of_ble_eq_true rfl) (by kernel_rfl) (outs := []) (by kernel_rfl) (by kernel_rfl) (d := fun (y : compT impl_Ground_tops.pr) => (y.1.1 : impl_Ground_tops.N)) (fun _ => rfl) (C := fun n => impl_Ground_tops.CC (impl_Ground_tops.cs k n)) (k := k) (impl_Ground_tops.cuts k) fun x => by kernel_rfl
/-! (impl.Ground).class -/
@[reducible] def impl_Ground_class.pc : CutP := [(0, some true, [.fl (.lo (.int .i64)), .fl (.lo (.pair (.int .i64) (.sl (.int .i64))))]), (1, some false, [.fl (.int .i64)]), (2, some false, [.fl (.int .i64)])]
@[reducible] def impl_Ground_class.pr : CompPs := [(false, [.fl (.int .i64)])]
abbrev impl_Ground_class.N := Int
noncomputable def impl_Ground_class.E (k : Nat) : List (FuncId × Go.Rv.Fn) := [(53, impl_Ground_tops.F k)]
abbrev impl_Ground_class.Cs := (Int → Int → List Int → Int → Int → Option impl_Ground_class.N)
def impl_Ground_class.zero : impl_Ground_class.Cs := (fun _ _ _ _ _ => none)
noncomputable def impl_Ground_class.step (k : Nat) (c : impl_Ground_class.Cs) : impl_Ground_class.Cs := (fun (x0 : Int) (x1 : Int) (x2 : List Int) (x3 : Int) (x4 : Int) => (if (decide (x4 < x3)) = true then if 0 ≤ x4 then if x4 < (x2.length : Int) then (if (decide (x0 < (rd 0 x2 x4))) = true then c x0 x4 x2 x3 (wrap64 (x4 + 1)) else c x0 x1 x2 x3 (wrap64 (x4 + 1))) else none else none else some x1))
noncomputable def impl_Ground_class.cs (k : Nat) : Nat → impl_Ground_class.Cs
  | 0 => impl_Ground_class.zero
  | n + 1 => impl_Ground_class.step k (impl_Ground_class.cs k n)
def impl_Ground_class.CC (c : impl_Ground_class.Cs) : Cuts impl_Ground_class.N := [(8, ⟨[(2, some false, [.fl (.int .i64)]), (7, some false, [.fl (.int .i64)]), (12, some false, [.fl (.own (.int .i64))]), (13, some false, [.fl (.int .i64)]), (14, some false, [.fl (.int .i64)])], fun x => c x.1.1 x.2.1.1 x.2.2.1.1 x.2.2.2.1.1 x.2.2.2.2.1.1⟩)]
noncomputable def impl_Ground_class.f (k : Nat) (a0 : List Int) (a1 : List (Int × List Int)) (a2 : Int) (a3 : Int) : Option impl_Ground_class.N := (impl_Ground_tops.f k a0 a1 a2).bind fun t1 => (impl_Ground_class.cs k k) a3 (-1) t1 (t1.length : Int) 0
noncomputable def impl_Ground_class.F (k : Nat) : Go.Rv.Fn := mkFn 3 impl_Ground_class.pc impl_Ground_class.pr (keepOf []) (fun (y : impl_Ground_class.N) => (((y, ()), ()) : compT impl_Ground_class.pr)) fun x => impl_Ground_class.f k x.1.1 x.1.2.1 x.2.1.1 x.2.2.1.1
theorem impl_Ground_class.env (k : Nat) : EnvOk Go.Proofs.Try.prog (fun f => (impl_Ground_class.E k).lookup f) := envOk_of ⟨entry Go.Proofs.Try.call53 rfl (impl_Ground_tops.ok k), trivial⟩
theorem impl_Ground_class.cuts (k : Nat) : CutsOk Go.Proofs.Try.prog X (fun f => (impl_Ground_class.E k).lookup f) Go.Proofs.Try.f55 [] (decN impl_Ground_class.pr (fun (y : compT impl_Ground_class.pr) => (y.1.1 : impl_Ground_class.N))) fun n => impl_Ground_class.CC (impl_Ground_class.cs k n) :=
  cutsOk_of (step := impl_Ground_class.step k) rfl (fun _ => rfl) ⟨fun _ => rfl, trivial⟩ (fun c => by kernel_rfl) fun c => ⟨fun x => by kernel_rfl, trivial⟩
theorem impl_Ground_class.ok (k : Nat) : FnOk Go.Proofs.Try.prog 55 (impl_Ground_class.F k) :=
  fn_ok tab (impl_Ground_class.env k) Go.Proofs.Try.func55 rfl (n := 3) (Nat.le_of_ble_eq_true rfl) (by kernel_rfl) (outs := []) (by kernel_rfl) (by kernel_rfl) (d := fun (y : compT impl_Ground_class.pr) => (y.1.1 : impl_Ground_class.N)) (fun _ => rfl) (C := fun n => impl_Ground_class.CC (impl_Ground_class.cs k n)) (k := k) (impl_Ground_class.cuts k) fun x => by kernel_rfl
/-! (impl.Ground).face -/
@[reducible] def impl_Ground_face.pc : CutP := [(0, some true, [.fl (.lo (.int .i64)), .fl (.lo (.pair (.int .i64) (.sl (.int .i64))))]), (1, some false, [.fl (.int .i64)]), (2, some false, [.fl (.int .i64)])]
@[reducible] def impl_Ground_face.pr : CompPs := [(false, [.fl (.own (.int .i64))])]
abbrev impl_Ground_face.N := List Int
noncomputable def impl_Ground_face.E (k : Nat) : List (FuncId × Go.Rv.Fn) := [(55, impl_Ground_class.F k)]
abbrev impl_Ground_face.Cs := (Int → Int → List Int → List (Int × List Int) → List Int → List Int → Int → Int → Option impl_Ground_face.N)
def impl_Ground_face.zero : impl_Ground_face.Cs := (fun _ _ _ _ _ _ _ _ => none)
noncomputable def impl_Ground_face.step (k : Nat) (c : impl_Ground_face.Cs) : impl_Ground_face.Cs := (fun (x0 : Int) (x1 : Int) (x2 : List Int) (x3 : List (Int × List Int)) (x4 : List Int) (x5 : List Int) (x6 : Int) (x7 : Int) => (if (decide (x7 < x6)) = true then if 0 ≤ x7 then if x7 < (x5.length : Int) then (impl_Ground_class.f k x2 x3 x0 (wrap64 (x1 + (wrap64 (300 * (wrap64 ((wrap64 (2 * x7)) - 9))))))).bind fun (t1 : Int) => (if (decide (t1 < 0)) = true then if 0 ≤ (x2.length : Int) then if (x2.length : Int) < (x4.length : Int) then if 0 ≤ (x2.length : Int) then if (x2.length : Int) < (x4.length : Int) then c x0 x1 x2 x3 (x4.set (x2.length : Int).toNat (wrap64 ((rd 0 x4 (x2.length : Int)) + (rd 0 x5 x7)))) x5 x6 (wrap64 (x7 + 1)) else none else none else none else none else if 0 ≤ t1 then if t1 < (x4.length : Int) then if 0 ≤ t1 then if t1 < (x4.length : Int) then c x0 x1 x2 x3 (x4.set t1.toNat (wrap64 ((rd 0 x4 t1) + (rd 0 x5 x7)))) x5 x6 (wrap64 (x7 + 1)) else none else none else none else none) else none else none else some x4))
noncomputable def impl_Ground_face.cs (k : Nat) : Nat → impl_Ground_face.Cs
  | 0 => impl_Ground_face.zero
  | n + 1 => impl_Ground_face.step k (impl_Ground_face.cs k n)
def impl_Ground_face.CC (c : impl_Ground_face.Cs) : Cuts impl_Ground_face.N := [(8, ⟨[(1, some false, [.fl (.int .i64)]), (2, some false, [.fl (.int .i64)]), (3, none, [.fl (.lo (.int .i64)), .fl (.lo (.pair (.int .i64) (.sl (.int .i64))))]), (7, some false, [.fl (.own (.int .i64))]), (16, some false, [.fl (.own (.int .i64))]), (17, some false, [.fl (.int .i64)]), (18, some false, [.fl (.int .i64)])], fun x => c x.1.1 x.2.1.1 x.2.2.1.1 x.2.2.1.2.1 x.2.2.2.1.1 x.2.2.2.2.1.1 x.2.2.2.2.2.1.1 x.2.2.2.2.2.2.1.1⟩)]
noncomputable def impl_Ground_face.f (k : Nat) (a0 : List Int) (a1 : List (Int × List Int)) (a2 : Int) (a3 : Int) : Option impl_Ground_face.N := if 0 ≤ (wrap64 ((a0.length : Int) + 1)) then if (wrap64 ((a0.length : Int) + 1)) ≤ (wrap64 ((a0.length : Int) + 1)) then if (wrap64 ((a0.length : Int) + 1)) < 1099511627776 then (impl_Ground_face.cs k k) a2 a3 a0 a1 (List.replicate (wrap64 ((a0.length : Int) + 1)).toNat 0) [52, 90, 111, 122, 125, 125, 122, 111, 90, 52] ([52, 90, 111, 122, 125, 125, 122, 111, 90, 52].length : Int) 0 else none else none else none
noncomputable def impl_Ground_face.F (k : Nat) : Go.Rv.Fn := mkFn 3 impl_Ground_face.pc impl_Ground_face.pr (keepOf []) (fun (y : impl_Ground_face.N) => (((y, ()), ()) : compT impl_Ground_face.pr)) fun x => impl_Ground_face.f k x.1.1 x.1.2.1 x.2.1.1 x.2.2.1.1
theorem impl_Ground_face.env (k : Nat) : EnvOk Go.Proofs.Try.prog (fun f => (impl_Ground_face.E k).lookup f) := envOk_of ⟨entry Go.Proofs.Try.call55 rfl (impl_Ground_class.ok k), trivial⟩
theorem impl_Ground_face.cuts (k : Nat) : CutsOk Go.Proofs.Try.prog X (fun f => (impl_Ground_face.E k).lookup f) Go.Proofs.Try.f56 [] (decN impl_Ground_face.pr (fun (y : compT impl_Ground_face.pr) => (y.1.1 : impl_Ground_face.N))) fun n => impl_Ground_face.CC (impl_Ground_face.cs k n) :=
  cutsOk_of (step := impl_Ground_face.step k) rfl (fun _ => rfl) ⟨fun _ => rfl, trivial⟩ (fun c => by kernel_rfl) fun c => ⟨fun x => by kernel_rfl, trivial⟩
theorem impl_Ground_face.ok (k : Nat) : FnOk Go.Proofs.Try.prog 56 (impl_Ground_face.F k) :=
  fn_ok tab (impl_Ground_face.env k) Go.Proofs.Try.func56 rfl (n := 3) (Nat.le_of_ble_eq_true rfl) (by kernel_rfl) (outs := []) (by kernel_rfl) (by kernel_rfl) (d := fun (y : compT impl_Ground_face.pr) => (y.1.1 : impl_Ground_face.N)) (fun _ => rfl) (C := fun n => impl_Ground_face.CC (impl_Ground_face.cs k n)) (k := k) (impl_Ground_face.cuts k) fun x => by kernel_rfl
/-! impl.roundOf -/
@[reducible] def impl_roundOf.pc : CutP := [(0, some false, [.fl (.int .i64)]), (1, some false, [.fl (.int .i64)])]
@[reducible] def impl_roundOf.pr : CompPs := [(false, [.fl (.int .i64)])]
abbrev impl_roundOf.N := Int
noncomputable def impl_roundOf.G (rec : Int → Int → Option impl_roundOf.N) : Go.Rv.Fn := mkFn 2 impl_roundOf.pc impl_roundOf.pr (keepOf []) (fun (y : impl_roundOf.N) => (((y, ()), ()) : compT impl_roundOf.pr)) fun x => rec x.1.1 x.2.1.1
noncomputable def impl_roundOf.E (k : Nat) (rec : Int → Int → Option impl_roundOf.N) : List (FuncId × Go.Rv.Fn) := [(86, impl_roundOf.G rec)]
noncomputable def impl_roundOf.body (k : Nat) (rec : Int → Int → Option impl_roundOf.N) (a0 : Int) (a1 : Int) : Option impl_roundOf.N := (if (decide (a0 < 0)) = true then (rec (wrap64 (0 - a0)) a1).bind fun (t1 : Int) => some (wrap64 (0 - t1)) else (if a1 = 0 then none else (if a1 = 0 then none else (if (decide ((wrap64 (a1 - (a0.tmod a1))) ≤ (a0.tmod a1))) = true then some (wrap64 ((wrap64 (a0.tdiv a1)) + 1)) else some (wrap64 (a0.tdiv a1))))))
noncomputable def impl_roundOf.fr (k : Nat) : Nat → Int → Int → Option impl_roundOf.N
  | 0 => fun _ _ => none
  | n + 1 => impl_roundOf.body k (impl_roundOf.fr k n)
noncomputable def impl_roundOf.f (k : Nat) (a0 : Int) (a1 : Int) : Option impl_roundOf.N := impl_roundOf.fr k k a0 a1
noncomputable def impl_roundOf.F (k : Nat) : Go.Rv.Fn := impl_roundOf.G (impl_roundOf.f k)
theorem impl_roundOf.okb (k : Nat) (rec : Int → Int → Option impl_roundOf.N) (hr : FnOk Go.Proofs.Try.prog 86 (impl_roundOf.G rec)) : FnOk Go.Proofs.Try.prog 86 (impl_roundOf.G (impl_roundOf.body k rec)) :=
  fn_ok (E := fun f => (impl_roundOf.E k rec).lookup f) tab (envOk_of ⟨entry Go.Proofs.Try.call86 rfl hr, trivial⟩) Go.Proofs.Try.func86 rfl (n := 2) (Nat.le_of_ble_eq_true rfl) (by kernel_rfl) (outs := []) (by kernel_rfl) (by kernel_rfl) (d := fun (y : compT impl_roundOf.pr) => (y.1.1 : impl_roundOf.N)) (fun _ => rfl) (C := fun _ => []) (k := k) noCuts fun x => by kernel_rfl
theorem impl_roundOf.okr (k : Nat) : ∀ n, FnOk Go.Proofs.Try.prog 86 (impl_roundOf.G (impl_roundOf.fr k n))
  | 0 => fnOk_none
  | n + 1 => impl_roundOf.okb k _ (impl_roundOf.okr k n)
theorem impl_roundOf.ok (k : Nat) : FnOk Go.Proofs.Try.prog 86 (impl_roundOf.F k) := impl_roundOf.okr k k
/-! (impl.Ground).weight -/
@[reducible] def impl_Ground_weight.pc : CutP := [(0, some true, [.fl (.lo (.int .i64)), .fl (.lo (.pair (.int .i64) (.sl (.int .i64))))]), (1, some false, [.fl (.int .i64)]), (2, some false, [.fl (.int .i64)])]
@[reducible] def impl_Ground_weight.pr : CompPs := [(false, [.fl (.int .i64)])]
abbrev impl_Ground_weight.N := Int
noncomputable def impl_Ground_weight.E (k : Nat) : List (FuncId × Go.Rv.Fn) := [(56, impl_Ground_face.F k), (86, impl_roundOf.F k)]
abbrev impl_Ground_weight.Cs := (Int → List Int → List Int → Int → Int → Option impl_Ground_weight.N)
def impl_Ground_weight.zero : impl_Ground_weight.Cs := (fun _ _ _ _ _ => none)
noncomputable def impl_Ground_weight.step (k : Nat) (c : impl_Ground_weight.Cs) : impl_Ground_weight.Cs := (fun (x0 : Int) (x1 : List Int) (x2 : List Int) (x3 : Int) (x4 : Int) => (if (decide (x4 < x3)) = true then if 0 ≤ x4 then if x4 < (x2.length : Int) then if 0 ≤ x4 then if x4 < (x1.length : Int) then c (wrap64 (x0 + (wrap64 ((rd 0 x1 x4) * (rd 0 x2 x4))))) x1 x2 x3 (wrap64 (x4 + 1)) else none else none else none else none else (impl_roundOf.f k x0 20).bind fun (t2 : Int) => some t2))
noncomputable def impl_Ground_weight.cs (k : Nat) : Nat → impl_Ground_weight.Cs
  | 0 => impl_Ground_weight.zero
  | n + 1 => impl_Ground_weight.step k (impl_Ground_weight.cs k n)
def impl_Ground_weight.CC (c : impl_Ground_weight.Cs) : Cuts impl_Ground_weight.N := [(10, ⟨[(7, some false, [.fl (.int .i64)]), (8, some false, [.fl (.own (.int .i64))]), (16, some false, [.fl (.lo (.int .i64))]), (17, some false, [.fl (.int .i64)]), (18, some false, [.fl (.int .i64)])], fun x => c x.1.1 x.2.1.1 x.2.2.1.1 x.2.2.2.1.1 x.2.2.2.2.1.1⟩)]
noncomputable def impl_Ground_weight.f (k : Nat) (a0 : List Int) (a1 : List (Int × List Int)) (a2 : Int) (a3 : Int) : Option impl_Ground_weight.N := (impl_Ground_face.f k a0 a1 a2 a3).bind fun t1 => (impl_Ground_weight.cs k k) 0 t1 a0 (a0.length : Int) 0
noncomputable def impl_Ground_weight.F (k : Nat) : Go.Rv.Fn := mkFn 3 impl_Ground_weight.pc impl_Ground_weight.pr (keepOf []) (fun (y : impl_Ground_weight.N) => (((y, ()), ()) : compT impl_Ground_weight.pr)) fun x => impl_Ground_weight.f k x.1.1 x.1.2.1 x.2.1.1 x.2.2.1.1
theorem impl_Ground_weight.env (k : Nat) : EnvOk Go.Proofs.Try.prog (fun f => (impl_Ground_weight.E k).lookup f) := envOk_of ⟨entry Go.Proofs.Try.call56 rfl (impl_Ground_face.ok k), entry Go.Proofs.Try.call86 rfl (impl_roundOf.ok k), trivial⟩
theorem impl_Ground_weight.cuts (k : Nat) : CutsOk Go.Proofs.Try.prog X (fun f => (impl_Ground_weight.E k).lookup f) Go.Proofs.Try.f57 [] (decN impl_Ground_weight.pr (fun (y : compT impl_Ground_weight.pr) => (y.1.1 : impl_Ground_weight.N))) fun n => impl_Ground_weight.CC (impl_Ground_weight.cs k n) :=
  cutsOk_of (step := impl_Ground_weight.step k) rfl (fun _ => rfl) ⟨fun _ => rfl, trivial⟩ (fun c => by kernel_rfl) fun c => ⟨fun x => by kernel_rfl, trivial⟩
theorem impl_Ground_weight.ok (k : Nat) : FnOk Go.Proofs.Try.prog 57 (impl_Ground_weight.F k) :=
  fn_ok tab (impl_Ground_weight.env k) Go.Proofs.Try.func57 rfl (n := 3) (Nat.le_of_ble_eq_true rfl) (by kernel_rfl) (outs := []) (by kernel_rfl) (by kernel_rfl) (d := fun (y : compT impl_Ground_weight.pr) => (y.1.1 : impl_Ground_weight.N)) (fun _ => rfl) (C := fun n => impl_Ground_weight.CC (impl_Ground_weight.cs k n)) (k := k) (impl_Ground_weight.cuts k) fun x => by kernel_rfl
/-! impl.PrognosisOf -/
@[reducible] def impl_PrognosisOf.pc : CutP := [(0, some true, [.fl (.lo (.int .i64)), .fl (.lo (.pair (.int .i64) (.sl (.int .i64))))]), (1, some true, [.fl (.int .i64), .fl (.int .i64), .fl (.int .i64), .fl (.int .i64), .fl (.lo (.pair (.int .i64) (.pair (.int .i64) (.int .i64))))])]
@[reducible] def impl_PrognosisOf.pr : CompPs := [(false, [.fl (.own (.int .i64))]), (false, [.fl .bool])]
abbrev impl_PrognosisOf.N := List Int × Bool
noncomputable def impl_PrognosisOf.E (k : Nat) : List (FuncId × Go.Rv.Fn) := [(57, impl_Ground_weight.F k), (70, impl_along.F k)]
abbrev impl_PrognosisOf.Cs := (List Int → List (Int × List Int) → List Int → List (Int × Int × Int × Int) → Int → Int → Option impl_PrognosisOf.N)
def impl_PrognosisOf.zero : impl_PrognosisOf.Cs := (fun _ _ _ _ _ _ => none)
noncomputable def impl_PrognosisOf.step (k : Nat) (c : impl_PrognosisOf.Cs) : impl_PrognosisOf.Cs := (fun (x0 : List Int) (x1 : List (Int × List Int)) (x2 : List Int) (x3 : List (Int × Int × Int × Int)) (x4 : Int) (x5 : Int) => (if (decide (x5 < x4)) = true then if 0 ≤ x5 then if x5 < (x3.length : Int) then (impl_Ground_weight.f k x0 x1 x5 (((rd (0, (0, (0, 0))) x3 x5).2).1)).bind fun (t2 : Int) => if x2.length + [t2].length < 1099511627776 then c x0 x1 (x2 ++ [t2]) x3 x4 (wrap64 (x5 + 1)) else none else none else none else some (x2, true)))
noncomputable def impl_PrognosisOf.cs (k : Nat) : Nat → impl_PrognosisOf.Cs
  | 0 => impl_PrognosisOf.zero
  | n + 1 => impl_PrognosisOf.step k (impl_PrognosisOf.cs k n)
def impl_PrognosisOf.CC (c : impl_PrognosisOf.Cs) : Cuts impl_PrognosisOf.N := [(18, ⟨[(2, none, [.fl (.lo (.int .i64)), .fl (.lo (.pair (.int .i64) (.sl (.int .i64))))]), (8, some false, [.fl (.own (.int .i64))]), (20, some false, [.fl (.hi (.pair (.int .i64) (.pair (.int .i64) (.pair (.int .i64) (.int .i64)))))]), (21, some false, [.fl (.int .i64)]), (22, some false, [.fl (.int .i64)])], fun x => c x.1.1 x.1.2.1 x.2.1.1 x.2.2.1.1 x.2.2.2.1.1 x.2.2.2.2.1.1⟩)]
noncomputable def impl_PrognosisOf.f (k : Nat) (a0 : List Int) (a1 : List (Int × List Int)) (a2 : Int) (a3 : Int) (a4 : Int) (a5 : Int) (a6 : List (Int × Int × Int)) : Option impl_PrognosisOf.N := (impl_along.f k a0 a1 a2 a3 a4 a5 a6).bind fun t1 => (if (!t1.2) = true then some ([], false) else (impl_PrognosisOf.cs k k) a0 a1 ([] : List Int) t1.1 (t1.1.length : Int) 0)
noncomputable def impl_PrognosisOf.F (k : Nat) : Go.Rv.Fn := mkFn 2 impl_PrognosisOf.pc impl_PrognosisOf.pr (keepOf []) (fun (y : impl_PrognosisOf.N) => (((y.1, ()), (y.2, ()), ()) : compT impl_PrognosisOf.pr)) fun x => impl_PrognosisOf.f k x.1.1 x.1.2.1 x.2.1.1 x.2.1.2.1 x.2.1.2.2.1 x.2.1.2.2.2.1 x.2.1.2.2.2.2.1
theorem impl_PrognosisOf.env (k : Nat) : EnvOk Go.Proofs.Try.prog (fun f => (impl_PrognosisOf.E k).lookup f) := envOk_of ⟨entry Go.Proofs.Try.call57 rfl (impl_Ground_weight.ok k), entry Go.Proofs.Try.call70 rfl (impl_along.ok k), trivial⟩
theorem impl_PrognosisOf.cuts (k : Nat) : CutsOk Go.Proofs.Try.prog X (fun f => (impl_PrognosisOf.E k).lookup f) Go.Proofs.Try.f36 [] (decN impl_PrognosisOf.pr (fun (y : compT impl_PrognosisOf.pr) => ((y.1.1, y.2.1.1) : impl_PrognosisOf.N))) fun n => impl_PrognosisOf.CC (impl_PrognosisOf.cs k n) :=
  cutsOk_of (step := impl_PrognosisOf.step k) rfl (fun _ => rfl) ⟨fun _ => rfl, trivial⟩ (fun c => by kernel_rfl) fun c => ⟨fun x => by kernel_rfl, trivial⟩
theorem impl_PrognosisOf.ok (k : Nat) : FnOk Go.Proofs.Try.prog 36 (impl_PrognosisOf.F k) :=
  fn_ok tab (impl_PrognosisOf.env k) Go.Proofs.Try.func36 rfl (n := 2) (Nat.le_of_ble_eq_true rfl) (by kernel_rfl) (outs := []) (by kernel_rfl) (by kernel_rfl) (d := fun (y : compT impl_PrognosisOf.pr) => ((y.1.1, y.2.1.1) : impl_PrognosisOf.N)) (fun _ => rfl) (C := fun n => impl_PrognosisOf.CC (impl_PrognosisOf.cs k n)) (k := k) (impl_PrognosisOf.cuts k) fun x => by kernel_rfl
/-! laws.r8At -/
@[reducible] def laws_r8At.pc : CutP := [(0, some false, [.fl (.lo (.int .u8))]), (1, some false, [.fl (.int .i64)]), (2, some false, [.fl (.int .i64)])]
@[reducible] def laws_r8At.pr : CompPs := [(false, [.fl (.int .i64)])]
abbrev laws_r8At.N := Int
noncomputable def laws_r8At.E (k : Nat) : List (FuncId × Go.Rv.Fn) := []
noncomputable def laws_r8At.f (k : Nat) (a0 : List Int) (a1 : Int) (a2 : Int) : Option laws_r8At.N := (if (decide (a2 ≤ 1)) = true then some 0 else (if (decide ((a0.length : Int) ≤ a1)) = true then some 0 else if 0 ≤ a1 then if a1 < (a0.length : Int) then (if a2 = 0 then none else some ((wrap64 ((rd 0 a0 a1))).tmod a2)) else none else none))
noncomputable def laws_r8At.F (k : Nat) : Go.Rv.Fn := mkFn 3 laws_r8At.pc laws_r8At.pr (keepOf []) (fun (y : laws_r8At.N) => (((y, ()), ()) : compT laws_r8At.pr)) fun x => laws_r8At.f k x.1.1 x.2.1.1 x.2.2.1.1
theorem laws_r8At.env (k : Nat) : EnvOk Go.Proofs.Try.prog (fun f => (laws_r8At.E k).lookup f) := envOk_of trivial
theorem laws_r8At.ok (k : Nat) : FnOk Go.Proofs.Try.prog 20 (laws_r8At.F k) :=
  fn_ok tab (laws_r8At.env k) Go.Proofs.Try.func20 rfl (n := 3) (Nat.le_of_ble_eq_true rfl) (by kernel_rfl) (outs := []) (by kernel_rfl) (by kernel_rfl) (d := fun (y : compT laws_r8At.pr) => (y.1.1 : laws_r8At.N)) (fun _ => rfl) (C := fun _ => []) (k := k) noCuts fun x => by kernel_rfl
/-! impl.BalanceOf -/
@[reducible] def impl_BalanceOf.pc : CutP := [(0, some false, [.fl (.lo (.int .i64))]), (1, some false, [.fl (.lo (.int .i64))])]
@[reducible] def impl_BalanceOf.pr : CompPs := [(false, [.fl (.own (.int .i64))]), (false, [.fl .bool])]
abbrev impl_BalanceOf.N := List Int × Bool
noncomputable def impl_BalanceOf.E (k : Nat) : List (FuncId × Go.Rv.Fn) := [(48, impl_areWithin.F k)]
abbrev impl_BalanceOf.Cs := (List Int → List Int → Option impl_BalanceOf.N) × (List Int → List Int → List Int → Int → Int → Option impl_BalanceOf.N)
def impl_BalanceOf.zero : impl_BalanceOf.Cs := (fun _ _ => none, fun _ _ _ _ _ => none)
noncomputable def impl_BalanceOf.step (k : Nat) (c : impl_BalanceOf.Cs) : impl_BalanceOf.Cs := (fun (x0 : List Int) (x1 : List Int) => c.2 x1 ([] : List Int) x0 (x0.length : Int) 0,
  fun (x0 : List Int) (x1 : List Int) (x2 : List Int) (x3 : Int) (x4 : Int) => (if (decide (x4 < x3)) = true then if 0 ≤ x4 then if x4 < (x2.length : Int) then if 0 ≤ x4 then if x4 < (x0.length : Int) then if x1.length + [(wrap64 ((rd 0 x2 x4) - (rd 0 x0 x4)))].length < 1099511627776 then c.2 x0 (x1 ++ [(wrap64 ((rd 0 x2 x4) - (rd 0 x0 x4)))]) x2 x3 (wrap64 (x4 + 1)) else none else none else none else none else none else some (x1, true)))
noncomputable def impl_BalanceOf.cs (k : Nat) : Nat → impl_BalanceOf.Cs
  | 0 => impl_BalanceOf.zero
  | n + 1 => impl_BalanceOf.step k (impl_BalanceOf.cs k n)
def impl_BalanceOf.CC (c : impl_BalanceOf.Cs) : Cuts impl_BalanceOf.N := [(2, ⟨[(0, some false, [.fl (.lo (.int .i64))]), (1, some false, [.fl (.lo (.int .i64))])], fun x => c.1 x.1.1 x.2.1.1⟩),
  (16, ⟨[(1, some false, [.fl (.lo (.int .i64))]), (6, some false, [.fl (.own (.int .i64))]), (30, some false, [.fl (.lo (.int .i64))]), (31, some false, [.fl (.int .i64)]), (32, some false, [.fl (.int .i64)])], fun x => c.2 x.1.1 x.2.1.1 x.2.2.1.1 x.2.2.2.1.1 x.2.2.2.2.1.1⟩)]
noncomputable def impl_BalanceOf.f (k : Nat) (a0 : List Int) (a1 : List Int) : Option impl_BalanceOf.N := (if (!decide ((a0.length : Int) = (a1.length : Int))) = true then some ([], false) else (if (decide (60 < (a0.length : Int))) = true then some ([], false) else (impl_areWithin.f k a0 0 1000000).bind fun t1 => (if (!t1) = true then some ([], false) else (impl_areWithin.f k a1 0 1000000).bind fun t2 => (if (!t2) = true then some ([], false) else (impl_BalanceOf.cs k k).1 a0 a1))))
noncomputable def impl_BalanceOf.F (k : Nat) : Go.Rv.Fn := mkFn 2 impl_BalanceOf.pc impl_BalanceOf.pr (keepOf []) (fun (y : impl_BalanceOf.N) => (((y.1, ()), (y.2, ()), ()) : compT impl_BalanceOf.pr)) fun x => impl_BalanceOf.f k x.1.1 x.2.1.1
theorem impl_BalanceOf.env (k : Nat) : EnvOk Go.Proofs.Try.prog (fun f => (impl_BalanceOf.E k).lookup f) := envOk_of ⟨entry Go.Proofs.Try.call48 rfl (impl_areWithin.ok k), trivial⟩
theorem impl_BalanceOf.cuts (k : Nat) : CutsOk Go.Proofs.Try.prog X (fun f => (impl_BalanceOf.E k).lookup f) Go.Proofs.Try.f38 [] (decN impl_BalanceOf.pr (fun (y : compT impl_BalanceOf.pr) => ((y.1.1, y.2.1.1) : impl_BalanceOf.N))) fun n => impl_BalanceOf.CC (impl_BalanceOf.cs k n) :=
  cutsOk_of (step := impl_BalanceOf.step k) rfl (fun _ => rfl) ⟨fun _ => rfl, fun _ => rfl, trivial⟩ (fun c => by kernel_rfl) fun c => ⟨fun x => by kernel_rfl, fun x => by kernel_rfl, trivial⟩
theorem impl_BalanceOf.ok (k : Nat) : FnOk Go.Proofs.Try.prog 38 (impl_BalanceOf.F k) :=
  fn_ok tab (impl_BalanceOf.env k) Go.Proofs.Try.func38 rfl (n := 2) (Nat.le_of_ble_eq_true rfl) (by kernel_rfl) (outs := []) (by kernel_rfl) (by kernel_rfl) (d := fun (y : compT impl_BalanceOf.pr) => ((y.1.1, y.2.1.1) : impl_BalanceOf.N)) (fun _ => rfl) (C := fun n => impl_BalanceOf.CC (impl_BalanceOf.cs k n)) (k := k) (impl_BalanceOf.cuts k) fun x => by kernel_rfl
/-! laws.FnBalanced -/
@[reducible] def laws_FnBalanced.pc : CutP := [(0, some false, [.fl (.lo (.int .u8))]), (1, some false, [.fl (.lo (.int .u8))])]
@[reducible] def laws_FnBalanced.pr : CompPs := [(false, [.fl .bool])]
abbrev laws_FnBalanced.N := Bool
noncomputable def laws_FnBalanced.E (k : Nat) : List (FuncId × Go.Rv.Fn) := [(16, laws_r8Long.F k), (17, spec_R8Ground.F k), (20, laws_r8At.F k), (36, impl_PrognosisOf.F k), (37, spec_R8Axis.F k), (38, impl_BalanceOf.F k)]
abbrev laws_FnBalanced.Cs := (List Int → List Int → Option laws_FnBalanced.N) × (List Int → List Int → List Int → Int → Option laws_FnBalanced.N) × (List Int → List Int → List Int → List Int → Option laws_FnBalanced.N) × (List Int → List Int → List Int → List Int → Int → Option laws_FnBalanced.N)
def laws_FnBalanced.zero : laws_FnBalanced.Cs := (fun _ _ => none, fun _ _ _ _ => none, fun _ _ _ _ => none, fun _ _ _ _ _ => none)
noncomputable def laws_FnBalanced.step (k : Nat) (c : laws_FnBalanced.Cs) : laws_FnBalanced.Cs := (fun (x0 : List Int) (x1 : List Int) => c.2.1 x0 x1 ([] : List Int) 0,
  fun (x0 : List Int) (x1 : List Int) (x2 : List Int) (x3 : Int) => (if (decide (x3 < (x1.length : Int))) = true then if 0 ≤ x3 then if x3 < (x1.length : Int) then (laws_r8At.f k x0 x3 50).bind fun (t5 : Int) => if x2.length + [(wrap64 ((rd 0 x1 x3) + t5))].length < 1099511627776 then c.2.1 x0 x1 (x2 ++ [(wrap64 ((rd 0 x1 x3) + t5))]) (wrap64 (x3 + 1)) else none else none else none else (impl_BalanceOf.f k x2 x1).bind fun t6 => (impl_BalanceOf.f k x1 x1).bind fun t7 => (if (!t6.2) = true then some false else (if (!t7.2) = true then some false else (if (!decide ((t6.1.length : Int) = (x1.length : Int))) = true then some false else (if (!decide ((t7.1.length : Int) = (x1.length : Int))) = true then some false else c.2.2.1 x1 x2 t6.1 t7.1))))),
  fun (x0 : List Int) (x1 : List Int) (x2 : List Int) (x3 : List Int) => c.2.2.2 x0 x1 x2 x3 0,
  fun (x0 : List Int) (x1 : List Int) (x2 : List Int) (x3 : List Int) (x4 : Int) => (if (decide (x4 < (x0.length : Int))) = true then if 0 ≤ x4 then if x4 < (x0.length : Int) then if 0 ≤ x4 then if x4 < (x2.length : Int) then if 0 ≤ x4 then if x4 < (x1.length : Int) then (if (!decide ((wrap64 ((rd 0 x0 x4) + (rd 0 x2 x4))) = (rd 0 x1 x4))) = true then some false else if 0 ≤ x4 then if x4 < (x3.length : Int) then (if (!decide ((rd 0 x3 x4) = 0)) = true then some false else c.2.2.2 x0 x1 x2 x3 (wrap64 (x4 + 1))) else none else none) else none else none else none else none else none else none else some true))
noncomputable def laws_FnBalanced.cs (k : Nat) : Nat → laws_FnBalanced.Cs
  | 0 => laws_FnBalanced.zero
  | n + 1 => laws_FnBalanced.step k (laws_FnBalanced.cs k n)
def laws_FnBalanced.CC (c : laws_FnBalanced.Cs) : Cuts laws_FnBalanced.N := [(12, ⟨[(1, some false, [.fl (.lo (.int .u8))]), (5, some false, [.fl (.own (.int .i64))])], fun x => c.1 x.1.1 x.2.1.1⟩),
  (26, ⟨[(1, some false, [.fl (.lo (.int .u8))]), (5, some false, [.fl (.own (.int .i64))]), (7, some false, [.fl (.own (.int .i64))]), (8, some false, [.fl (.int .i64)])], fun x => c.2.1 x.1.1 x.2.1.1 x.2.2.1.1 x.2.2.2.1.1⟩),
  (41, ⟨[(5, some false, [.fl (.own (.int .i64))]), (7, some false, [.fl (.own (.int .i64))]), (9, some false, [.fl (.own (.int .i64))]), (11, some false, [.fl (.own (.int .i64))])], fun x => c.2.2.1 x.1.1 x.2.1.1 x.2.2.1.1 x.2.2.2.1.1⟩),
  (53, ⟨[(5, some false, [.fl (.own (.int .i64))]), (7, some false, [.fl (.own (.int .i64))]), (9, some false, [.fl (.own (.int .i64))]), (11, some false, [.fl (.own (.int .i64))]), (13, some false, [.fl (.int .i64)])], fun x => c.2.2.2 x.1.1 x.2.1.1 x.2.2.1.1 x.2.2.2.1.1 x.2.2.2.2.1.1⟩)]
noncomputable def laws_FnBalanced.f (k : Nat) (a0 : List Int) (a1 : List Int) : Option laws_FnBalanced.N := (laws_r8Long.f k a0 a1).bind fun t1 => (if t1 = true then some true else (spec_R8Ground.f k a0).bind fun t2 => (spec_R8Axis.f k a0).bind fun t3 => (impl_PrognosisOf.f k t2.1 t2.2 t3.1 t3.2.1 t3.2.2.1 t3.2.2.2.1 t3.2.2.2.2).bind fun t4 => (if (!t4.2) = true then some false else (if (decide ((t4.1.length : Int) < 1)) = true then some false else (if (decide (60 < (t4.1.length : Int))) = true then some false else (laws_FnBalanced.cs k k).1 a1 t4.1))))
noncomputable def laws_FnBalanced.F (k : Nat) : Go.Rv.Fn := mkFn 2 laws_FnBalanced.pc laws_FnBalanced.pr (keepOf []) (fun (y : laws_FnBalanced.N) => (((y, ()), ()) : compT laws_FnBalanced.pr)) fun x => laws_FnBalanced.f k x.1.1 x.2.1.1
theorem laws_FnBalanced.env (k : Nat) : EnvOk Go.Proofs.Try.prog (fun f => (laws_FnBalanced.E k).lookup f) := envOk_of ⟨entry Go.Proofs.Try.call16 rfl (laws_r8Long.ok k), entry Go.Proofs.Try.call17 rfl (spec_R8Ground.ok k), entry Go.Proofs.Try.call20 rfl (laws_r8At.ok k), entry Go.Proofs.Try.call36 rfl (impl_PrognosisOf.ok k), entry Go.Proofs.Try.call37 rfl (spec_R8Axis.ok k), entry Go.Proofs.Try.call38 rfl (impl_BalanceOf.ok k), trivial⟩
theorem laws_FnBalanced.cuts (k : Nat) : CutsOk Go.Proofs.Try.prog X (fun f => (laws_FnBalanced.E k).lookup f) Go.Proofs.Try.f9 [] (decN laws_FnBalanced.pr (fun (y : compT laws_FnBalanced.pr) => (y.1.1 : laws_FnBalanced.N))) fun n => laws_FnBalanced.CC (laws_FnBalanced.cs k n) :=
  cutsOk_of (step := laws_FnBalanced.step k) rfl (fun _ => rfl) ⟨fun _ => rfl, fun _ => rfl, fun _ => rfl, fun _ => rfl, trivial⟩ (fun c => by kernel_rfl) fun c => ⟨fun x => by kernel_rfl, fun x => by kernel_rfl, fun x => by kernel_rfl, fun x => by kernel_rfl, trivial⟩
theorem laws_FnBalanced.ok (k : Nat) : FnOk Go.Proofs.Try.prog 9 (laws_FnBalanced.F k) :=
  fn_ok tab (laws_FnBalanced.env k) Go.Proofs.Try.func9 rfl (n := 2) (Nat.le_of_ble_eq_true rfl) (by kernel_rfl) (outs := []) (by kernel_rfl) (by kernel_rfl) (d := fun (y : compT laws_FnBalanced.pr) => (y.1.1 : laws_FnBalanced.N)) (fun _ => rfl) (C := fun n => laws_FnBalanced.CC (laws_FnBalanced.cs k n)) (k := k) (laws_FnBalanced.cuts k) fun x => by kernel_rfl
end Go.Proofs.Ytlkmjldhhoopcaa.R
