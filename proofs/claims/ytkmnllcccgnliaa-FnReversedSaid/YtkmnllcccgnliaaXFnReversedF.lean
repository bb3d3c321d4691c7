-- written by wip/rev/gen2.py for this claim (out of the translation). Lean checks it.
import Derived.Test.YtkmnllcccgnliaaRvGlue
import Derived.Test.YtkmnllcccgnliaaProg
namespace Go.Proofs.Ytkmnllcccgnliaa.R
open Go.Rv
open RowKit (wrap64)
set_option linter.unusedVariables false
set_option maxRecDepth 100000
def X : Env := { n := 0, keep := [], tab := [(2, { ty := (.int .i64) }),
  (3, { ty := (.int .i64) }),
  (5, { ty := (.int .u8) }),
  (28, { ty := (.pair (.int .i64) (.pair (.int .i64) (.pair (.int .i64) (.int .i64)))), agg := true, offs := [(0, 1, false), (1, 1, false), (2, 1, false), (3, 1, false)], eq := true }),
  (31, { ty := (.sl (.pair (.int .i64) (.pair (.int .i64) (.int .i64)))) }),
  (33, { ty := (.pair (.pair (.int .i64) (.pair (.int .i64) (.pair (.int .i64) (.int .i64)))) (.sl (.pair (.int .i64) (.pair (.int .i64) (.int .i64))))), agg := true, offs := [(0, 4, true), (4, 1, false)] }),
  (38, { ty := (.sl (.int .u8)) }),
  (43, { ty := (.sl (.pair (.int .i64) (.pair (.int .i64) (.pair (.int .i64) (.int .i64))))) }),
  (51, { ty := (.sl (.int .i64)) }),
  (69, { ty := (.pair (.int .i64) (.pair (.int .i64) (.int .i64))), agg := true, offs := [(0, 1, false), (1, 1, false), (2, 1, false)] }),
  (107, { ty := (.int .u64) }),
  (109, { ty := (.pair (.sl (.int .u8)) (.pair (.int .i64) (.int .u64))), agg := true, offs := [(0, 1, false), (1, 1, false), (2, 1, false)] })] }
theorem tab : TabOk Go.Proofs.Try.prog X := ⟨by kernel_rfl, by kernel_rfl⟩
/-! laws.r8Long -/
@[reducible] def laws_r8Long.pc : CutP := [(0, some false, [.fl (.lo (.int .u8))]), (1, some false, [.fl (.lo (.int .u8))])]
@[reducible] def laws_r8Long.pr : CompPs := [(false, [.fl .bool])]
abbrev laws_r8Long.N := Bool
def laws_r8Long.E (k : Nat) : List (FuncId × Go.Rv.Fn) := []
def laws_r8Long.f (k : Nat) (a0 : List Int) (a1 : List Int) : Option laws_r8Long.N := (if (decide (48 < (a0.length : Int))) = true then some true else some (decide (48 < (a1.length : Int))))
def laws_r8Long.F (k : Nat) : Go.Rv.Fn := mkFn 2 laws_r8Long.pc laws_r8Long.pr (keepOf []) (fun (y : laws_r8Long.N) => (((y, ()), ()) : compT laws_r8Long.pr)) fun x => laws_r8Long.f k x.1.1 x.2.1.1
theorem laws_r8Long.env (k : Nat) : EnvOk Go.Proofs.Try.prog (fun f => (laws_r8Long.E k).lookup f) := envOk_of trivial
theorem laws_r8Long.ok (k : Nat) : FnOk Go.Proofs.Try.prog 21 (laws_r8Long.F k) :=
  fn_ok tab (laws_r8Long.env k) Go.Proofs.Try.func21 rfl (n := 2) (Nat.le_of_ble_eq_true rfl) (by kernel_rfl) (outs := []) (by kernel_rfl) (by kernel_rfl) (d := fun (y : compT laws_r8Long.pr) => (y.1.1 : laws_r8Long.N)) (fun _ => rfl) (C := fun _ => []) (k := k) noCuts fun x => by kernel_rfl
/-! spec.l00From -/
@[reducible] def spec_l00From.bp : List FPat := [(.lo (.int .u8)), (.int .i64), (.int .u64)]
@[reducible] def spec_l00From.pc : CutP := [(0, some false, [.fl (.lo (.int .u8))])]
@[reducible] def spec_l00From.pr : CompPs := []
abbrev spec_l00From.N := List Int × Int × Int
def spec_l00From.E (k : Nat) : List (FuncId × Go.Rv.Fn) := []
def spec_l00From.f (k : Nat) (a0 : List Int) : Option spec_l00From.N := some (a0, 0, 0)
def spec_l00From.F (k : Nat) : Go.Rv.Fn := mkFnR 1 spec_l00From.pc spec_l00From.bp (fun (y : spec_l00From.N) => ((y.1, y.2.1, y.2.2, ()) : fpatsT spec_l00From.bp)) fun x => spec_l00From.f k x.1.1
theorem spec_l00From.env (k : Nat) : EnvOk Go.Proofs.Try.prog (fun f => (spec_l00From.E k).lookup f) := envOk_of trivial
theorem spec_l00From.ok (k : Nat) : FnOk Go.Proofs.Try.prog 68 (spec_l00From.F k) :=
  fn_okR tab (spec_l00From.env k) Go.Proofs.Try.func68 rfl (n := 1) (Nat.le_of_ble_eq_true rfl) (by kernel_rfl) (by kernel_rfl) (d := fun (y : fpatsT spec_l00From.bp) => ((y.1, y.2.1, y.2.2.1) : spec_l00From.N)) (fun _ => rfl) (C := (fun _ => [])) (k := k) noCutsG fun x => by kernel_rfl
/-! (*spec.l00Src).next -/
@[reducible] def spec_l00Src_next.bp : List FPat := [(.lo (.int .u8)), (.int .i64), (.int .u64)]
@[reducible] def spec_l00Src_next.pc : CutP := [(0, none, [.fl (.lo (.int .u8)), .fl (.int .i64), .fl (.int .u64)])]
@[reducible] def spec_l00Src_next.pr : CompPs := [(false, [.fl (.int .i64)])]
abbrev spec_l00Src_next.N := Int × List Int × Int × Int
def spec_l00Src_next.E (k : Nat) : List (FuncId × Go.Rv.Fn) := []
abbrev spec_l00Src_next.Cs := (List Int → Int → Int → Int → Option spec_l00Src_next.N)
def spec_l00Src_next.zero : spec_l00Src_next.Cs := (fun _ _ _ _ => none)
def spec_l00Src_next.step (k : Nat) (c : spec_l00Src_next.Cs) : spec_l00Src_next.Cs := (fun (x0 : List Int) (x1 : Int) (x2 : Int) (x3 : Int) => (if (decide ((wrap64 (x1 + 1)) ≤ (x0.length : Int))) = true then some (x3, x0, (wrap64 (x1 + 1)), (IntKind.u64.wrap ((IntKind.u64.wrap ((IntKind.u64.wrap (x2 * 6364136223846793005)) + (IntKind.u64.wrap (x3)))) + 1442695040888963407))) else (if 40 < 0 then none else some ((wrap64 ((IntKind.u64.wrap ((BitVec.ofInt IntKind.u64.bits ((IntKind.u64.wrap ((IntKind.u64.wrap ((IntKind.u64.wrap (x2 * 6364136223846793005)) + (IntKind.u64.wrap (x3)))) + 1442695040888963407)).fdiv (2 ^ min (40 : Int).toNat IntKind.u64.bits)) &&& BitVec.ofInt IntKind.u64.bits 255).toNat : Int)))), x0, (wrap64 (x1 + 1)), (IntKind.u64.wrap ((IntKind.u64.wrap ((IntKind.u64.wrap (x2 * 6364136223846793005)) + (IntKind.u64.wrap (x3)))) + 1442695040888963407))))))
def spec_l00Src_next.cs (k : Nat) : Nat → spec_l00Src_next.Cs
  | 0 => spec_l00Src_next.zero
  | n + 1 => spec_l00Src_next.step k (spec_l00Src_next.cs k n)
def spec_l00Src_next.CC (c : spec_l00Src_next.Cs) : Cuts spec_l00Src_next.N := [(4, ⟨[(0, none, [.fl (.lo (.int .u8)), .fl (.int .i64), .fl (.int .u64)]), (3, some false, [.fl (.int .i64)])], fun x => c x.1.1 x.1.2.1 x.1.2.2.1 x.2.1.1⟩)]
def spec_l00Src_next.f (k : Nat) (a0 : List Int) (a1 : Int) (a2 : Int) : Option spec_l00Src_next.N := (if (decide (a1 < (a0.length : Int))) = true then if 0 ≤ a1 then if a1 < (a0.length : Int) then (spec_l00Src_next.cs k k) a0 a1 a2 (wrap64 ((rd 0 a0 a1))) else none else none else (spec_l00Src_next.cs k k) a0 a1 a2 0)
def spec_l00Src_next.F (k : Nat) : Go.Rv.Fn := mkFnB 0 spec_l00Src_next.pc spec_l00Src_next.pr spec_l00Src_next.bp (fun (y : spec_l00Src_next.N) => ((((y.1, ()), ()), (y.2.1, y.2.2.1, y.2.2.2, ())) : compT spec_l00Src_next.pr × fpatsT spec_l00Src_next.bp)) fun x => spec_l00Src_next.f k x.1.1 x.1.2.1 x.1.2.2.1
theorem spec_l00Src_next.env (k : Nat) : EnvOk Go.Proofs.Try.prog (fun f => (spec_l00Src_next.E k).lookup f) := envOk_of trivial
theorem spec_l00Src_next.cuts (k : Nat) : CutsOkG Go.Proofs.Try.prog { X with n := Go.Proofs.Try.f98.ntmps, keep := [0] } (fun f => (spec_l00Src_next.E k).lookup f) Go.Proofs.Try.f98 (endB { X with n := Go.Proofs.Try.f98.ntmps, keep := [0] } Go.Proofs.Try.f98 spec_l00Src_next.pr spec_l00Src_next.bp (fun (y : compT spec_l00Src_next.pr × fpatsT spec_l00Src_next.bp) => ((y.1.1.1, y.2.1, y.2.2.1, y.2.2.2.1) : spec_l00Src_next.N))) fun n => spec_l00Src_next.CC (spec_l00Src_next.cs k n) :=
  cutsOkG_of (step := spec_l00Src_next.step k) rfl (fun _ => rfl) ⟨fun _ => rfl, trivial⟩ (fun c => by kernel_rfl) fun c => ⟨fun x => by kernel_rfl, trivial⟩
theorem spec_l00Src_next.ok (k : Nat) : FnOkB Go.Proofs.Try.prog 98 (spec_l00Src_next.F k) :=
  fn_okB tab (spec_l00Src_next.env k) Go.Proofs.Try.func98 rfl (n := 0) (Nat.le_of_ble_eq_true rfl) (by kernel_rfl) (by kernel_rfl) (by kernel_rfl) (d := fun (y : compT spec_l00Src_next.pr × fpatsT spec_l00Src_next.bp) => ((y.1.1.1, y.2.1, y.2.2.1, y.2.2.2.1) : spec_l00Src_next.N)) (fun _ => rfl) (C := (fun n => spec_l00Src_next.CC (spec_l00Src_next.cs k n))) (k := k) (spec_l00Src_next.cuts k) fun x => by kernel_rfl
/-! (*spec.l00Src).pick -/
@[reducible] def spec_l00Src_pick.bp : List FPat := [(.lo (.int .u8)), (.int .i64), (.int .u64)]
@[reducible] def spec_l00Src_pick.pc : CutP := [(0, none, [.fl (.lo (.int .u8)), .fl (.int .i64), .fl (.int .u64)]), (1, some false, [.fl (.int .i64)])]
@[reducible] def spec_l00Src_pick.pr : CompPs := [(false, [.fl (.int .i64)])]
abbrev spec_l00Src_pick.N := Int × List Int × Int × Int
def spec_l00Src_pick.E (k : Nat) : List (FuncId × Go.Rv.Fn) := [(98, spec_l00Src_next.F k)]
def spec_l00Src_pick.f (k : Nat) (a0 : List Int) (a1 : Int) (a2 : Int) (a3 : Int) : Option spec_l00Src_pick.N := (if (decide (a3 ≤ 1)) = true then some (0, a0, a1, a2) else (spec_l00Src_next.f k a0 a1 a2).bind fun t1 => (if (decide (200 < a3)) = true then (spec_l00Src_next.f k t1.2.1 t1.2.2.1 t1.2.2.2).bind fun t2 => (if a3 = 0 then none else some (((wrap64 ((wrap64 (t1.1 * 256)) + t2.1)).tmod a3), t2.2.1, t2.2.2.1, t2.2.2.2)) else (if a3 = 0 then none else some ((t1.1.tmod a3), t1.2.1, t1.2.2.1, t1.2.2.2))))
def spec_l00Src_pick.F (k : Nat) : Go.Rv.Fn := mkFnB 1 spec_l00Src_pick.pc spec_l00Src_pick.pr spec_l00Src_pick.bp (fun (y : spec_l00Src_pick.N) => ((((y.1, ()), ()), (y.2.1, y.2.2.1, y.2.2.2, ())) : compT spec_l00Src_pick.pr × fpatsT spec_l00Src_pick.bp)) fun x => spec_l00Src_pick.f k x.1.1 x.1.2.1 x.1.2.2.1 x.2.1.1
theorem spec_l00Src_pick.env (k : Nat) : EnvOk Go.Proofs.Try.prog (fun f => (spec_l00Src_pick.E k).lookup f) := envOk_of ⟨entryB Go.Proofs.Try.call98 rfl (spec_l00Src_next.ok k), trivial⟩
theorem spec_l00Src_pick.ok (k : Nat) : FnOkB Go.Proofs.Try.prog 70 (spec_l00Src_pick.F k) :=
  fn_okB tab (spec_l00Src_pick.env k) Go.Proofs.Try.func70 rfl (n := 1) (Nat.le_of_ble_eq_true rfl) (by kernel_rfl) (by kernel_rfl) (by kernel_rfl) (d := fun (y : compT spec_l00Src_pick.pr × fpatsT spec_l00Src_pick.bp) => ((y.1.1.1, y.2.1, y.2.2.1, y.2.2.2.1) : spec_l00Src_pick.N)) (fun _ => rfl) (C := (fun _ => [])) (k := k) noCutsG fun x => by kernel_rfl
/-! (*spec.l00Src).one -/
@[reducible] def spec_l00Src_one.bp : List FPat := [(.lo (.int .u8)), (.int .i64), (.int .u64)]
@[reducible] def spec_l00Src_one.pc : CutP := [(0, none, [.fl (.lo (.int .u8)), .fl (.int .i64), .fl (.int .u64)]), (1, some false, [.fl (.int .i64)])]
@[reducible] def spec_l00Src_one.pr : CompPs := [(false, [.fl .bool])]
abbrev spec_l00Src_one.N := Bool × List Int × Int × Int
def spec_l00Src_one.E (k : Nat) : List (FuncId × Go.Rv.Fn) := [(70, spec_l00Src_pick.F k)]
def spec_l00Src_one.f (k : Nat) (a0 : List Int) (a1 : Int) (a2 : Int) (a3 : Int) : Option spec_l00Src_one.N := (spec_l00Src_pick.f k a0 a1 a2 a3).bind fun t1 => some ((decide (t1.1 = 0)), t1.2.1, t1.2.2.1, t1.2.2.2)
def spec_l00Src_one.F (k : Nat) : Go.Rv.Fn := mkFnB 1 spec_l00Src_one.pc spec_l00Src_one.pr spec_l00Src_one.bp (fun (y : spec_l00Src_one.N) => ((((y.1, ()), ()), (y.2.1, y.2.2.1, y.2.2.2, ())) : compT spec_l00Src_one.pr × fpatsT spec_l00Src_one.bp)) fun x => spec_l00Src_one.f k x.1.1 x.1.2.1 x.1.2.2.1 x.2.1.1
theorem spec_l00Src_one.env (k : Nat) : EnvOk Go.Proofs.Try.prog (fun f => (spec_l00Src_one.E k).lookup f) := envOk_of ⟨entryB Go.Proofs.Try.call70 rfl (spec_l00Src_pick.ok k), trivial⟩
theorem spec_l00Src_one.ok (k : Nat) : FnOkB Go.Proofs.Try.prog 96 (spec_l00Src_one.F k) :=
  fn_okB tab (spec_l00Src_one.env k) Go.Proofs.Try.func96 rfl (n := 1) (Nat.le_of_ble_eq_true rfl) (by kernel_rfl) (by kernel_rfl) (by kernel_rfl) (d := fun (y : compT spec_l00Src_one.pr × fpatsT spec_l00Src_one.bp) => ((y.1.1.1, y.2.1, y.2.2.1, y.2.2.2.1) : spec_l00Src_one.N)) (fun _ => rfl) (C := (fun _ => [])) (k := k) noCutsG fun x => by kernel_rfl
/-! (*spec.l00Src).among -/
@[reducible] def spec_l00Src_among.bp : List FPat := [(.lo (.int .u8)), (.int .i64), (.int .u64)]
@[reducible] def spec_l00Src_among.pc : CutP := [(0, none, [.fl (.lo (.int .u8)), .fl (.int .i64), .fl (.int .u64)]), (1, some false, [.fl (.lo (.int .i64))])]
@[reducible] def spec_l00Src_among.pr : CompPs := [(false, [.fl (.int .i64)])]
abbrev spec_l00Src_among.N := Int × List Int × Int × Int
def spec_l00Src_among.E (k : Nat) : List (FuncId × Go.Rv.Fn) := [(70, spec_l00Src_pick.F k)]
def spec_l00Src_among.f (k : Nat) (a0 : List Int) (a1 : Int) (a2 : Int) (a3 : List Int) : Option spec_l00Src_among.N := (spec_l00Src_pick.f k a0 a1 a2 (a3.length : Int)).bind fun t1 => if 0 ≤ t1.1 then if t1.1 < (a3.length : Int) then some ((rd 0 a3 t1.1), t1.2.1, t1.2.2.1, t1.2.2.2) else none else none
def spec_l00Src_among.F (k : Nat) : Go.Rv.Fn := mkFnB 1 spec_l00Src_among.pc spec_l00Src_among.pr spec_l00Src_among.bp (fun (y : spec_l00Src_among.N) => ((((y.1, ()), ()), (y.2.1, y.2.2.1, y.2.2.2, ())) : compT spec_l00Src_among.pr × fpatsT spec_l00Src_among.bp)) fun x => spec_l00Src_among.f k x.1.1 x.1.2.1 x.1.2.2.1 x.2.1.1
theorem spec_l00Src_among.env (k : Nat) : EnvOk Go.Proofs.Try.prog (fun f => (spec_l00Src_among.E k).lookup f) := envOk_of ⟨entryB Go.Proofs.Try.call70 rfl (spec_l00Src_pick.ok k), trivial⟩
theorem spec_l00Src_among.ok (k : Nat) : FnOkB Go.Proofs.Try.prog 97 (spec_l00Src_among.F k) :=
  fn_okB tab (spec_l00Src_among.env k) Go.Proofs.Try.func97 rfl (n := 1) (Nat.le_of_ble_eq_true rfl) (by kernel_rfl) (by kernel_rfl) (by kernel_rfl) (d := fun (y : compT spec_l00Src_among.pr × fpatsT spec_l00Src_among.bp) => ((y.1.1.1, y.2.1, y.2.2.1, y.2.2.2.1) : spec_l00Src_among.N)) (fun _ => rfl) (C := (fun _ => [])) (k := k) noCutsG fun x => by kernel_rfl
/-! spec.l02DrawPose -/
@[reducible] def spec_l02DrawPose.bp : List FPat := [(.hi (.int .u8)), (.int .i64), (.int .u64)]
@[reducible] def spec_l02DrawPose.pc : CutP := [(0, none, [.fl (.lo (.int .u8)), .fl (.int .i64), .fl (.int .u64)])]
@[reducible] def spec_l02DrawPose.pr : CompPs := [(true, [.fl (.int .i64), .fl (.int .i64), .fl (.int .i64), .fl (.int .i64)])]
abbrev spec_l02DrawPose.N := Int × Int × Int × Int × List Int × Int × Int
def spec_l02DrawPose.E (k : Nat) : List (FuncId × Go.Rv.Fn) := [(70, spec_l00Src_pick.F k), (96, spec_l00Src_one.F k), (97, spec_l00Src_among.F k)]
def spec_l02DrawPose.f (k : Nat) (a0 : List Int) (a1 : Int) (a2 : Int) : Option spec_l02DrawPose.N := (spec_l00Src_pick.f k a0 a1 a2 101).bind fun t1 => (spec_l00Src_pick.f k t1.2.1 t1.2.2.1 t1.2.2.2 101).bind fun t2 => (spec_l00Src_pick.f k t2.2.1 t2.2.2.1 t2.2.2.2 21).bind fun t3 => (spec_l00Src_pick.f k t3.2.1 t3.2.2.1 t3.2.2.2 21).bind fun t4 => (spec_l00Src_one.f k t4.2.1 t4.2.2.1 t4.2.2.2 12).bind fun t5 => (if t5.1 = true then (spec_l00Src_among.f k t5.2.1 t5.2.2.1 t5.2.2.2 [(-100000), 99990, 100000]).bind fun t6 => (spec_l00Src_one.f k t6.2.1 t6.2.2.1 t6.2.2.2 12).bind fun t7 => (if t7.1 = true then (spec_l00Src_among.f k t7.2.1 t7.2.2.1 t7.2.2.2 [(-400), 395, 400]).bind fun t8 => some (t6.1, (wrap64 (t2.1 - 50)), (wrap64 (t3.1 - 10)), t8.1, t8.2.1, t8.2.2.1, t8.2.2.2) else some (t6.1, (wrap64 (t2.1 - 50)), (wrap64 (t3.1 - 10)), (wrap64 (t4.1 - 10)), t7.2.1, t7.2.2.1, t7.2.2.2)) else (spec_l00Src_one.f k t5.2.1 t5.2.2.1 t5.2.2.2 12).bind fun t9 => (if t9.1 = true then (spec_l00Src_among.f k t9.2.1 t9.2.2.1 t9.2.2.2 [(-400), 395, 400]).bind fun t10 => some ((wrap64 (t1.1 - 50)), (wrap64 (t2.1 - 50)), (wrap64 (t3.1 - 10)), t10.1, t10.2.1, t10.2.2.1, t10.2.2.2) else some ((wrap64 (t1.1 - 50)), (wrap64 (t2.1 - 50)), (wrap64 (t3.1 - 10)), (wrap64 (t4.1 - 10)), t9.2.1, t9.2.2.1, t9.2.2.2)))
def spec_l02DrawPose.F (k : Nat) : Go.Rv.Fn := mkFnB 0 spec_l02DrawPose.pc spec_l02DrawPose.pr spec_l02DrawPose.bp (fun (y : spec_l02DrawPose.N) => ((((y.1, y.2.1, y.2.2.1, y.2.2.2.1, ()), ()), (y.2.2.2.2.1, y.2.2.2.2.2.1, y.2.2.2.2.2.2, ())) : compT spec_l02DrawPose.pr × fpatsT spec_l02DrawPose.bp)) fun x => spec_l02DrawPose.f k x.1.1 x.1.2.1 x.1.2.2.1
theorem spec_l02DrawPose.env (k : Nat) : EnvOk Go.Proofs.Try.prog (fun f => (spec_l02DrawPose.E k).lookup f) := envOk_of ⟨entryB Go.Proofs.Try.call70 rfl (spec_l00Src_pick.ok k), entryB Go.Proofs.Try.call96 rfl (spec_l00Src_one.ok k), entryB Go.Proofs.Try.call97 rfl (spec_l00Src_among.ok k), trivial⟩
theorem spec_l02DrawPose.ok (k : Nat) : FnOkB Go.Proofs.Try.prog 95 (spec_l02DrawPose.F k) :=
  fn_okB tab (spec_l02DrawPose.env k) Go.Proofs.Try.func95 rfl (n := 0) (Nat.le_of_ble_eq_true rfl) (by kernel_rfl) (by kernel_rfl) (by kernel_rfl) (d := fun (y : compT spec_l02DrawPose.pr × fpatsT spec_l02DrawPose.bp) => ((y.1.1.1, y.1.1.2.1, y.1.1.2.2.1, y.1.1.2.2.2.1, y.2.1, y.2.2.1, y.2.2.2.1) : spec_l02DrawPose.N)) (fun _ => rfl) (C := (fun _ => [])) (k := k) noCutsG fun x => by kernel_rfl
/-! spec.l00In -/
@[reducible] def spec_l00In.pc : CutP := [(0, some false, [.fl (.int .i64)]), (1, some false, [.fl (.int .i64)]), (2, some false, [.fl (.int .i64)])]
@[reducible] def spec_l00In.pr : CompPs := [(false, [.fl .bool])]
abbrev spec_l00In.N := Bool
def spec_l00In.E (k : Nat) : List (FuncId × Go.Rv.Fn) := []
def spec_l00In.f (k : Nat) (a0 : Int) (a1 : Int) (a2 : Int) : Option spec_l00In.N := (if (decide (a1 ≤ a0)) = true then some (decide (a0 ≤ a2)) else some false)
def spec_l00In.F (k : Nat) : Go.Rv.Fn := mkFn 3 spec_l00In.pc spec_l00In.pr (keepOf []) (fun (y : spec_l00In.N) => (((y, ()), ()) : compT spec_l00In.pr)) fun x => spec_l00In.f k x.1.1 x.2.1.1 x.2.2.1.1
theorem spec_l00In.env (k : Nat) : EnvOk Go.Proofs.Try.prog (fun f => (spec_l00In.E k).lookup f) := envOk_of trivial
theorem spec_l00In.ok (k : Nat) : FnOk Go.Proofs.Try.prog 60 (spec_l00In.F k) :=
  fn_ok tab (spec_l00In.env k) Go.Proofs.Try.func60 rfl (n := 3) (Nat.le_of_ble_eq_true rfl) (by kernel_rfl) (outs := []) (by kernel_rfl) (by kernel_rfl) (d := fun (y : compT spec_l00In.pr) => (y.1.1 : spec_l00In.N)) (fun _ => rfl) (C := fun _ => []) (k := k) noCuts fun x => by kernel_rfl
/-! spec.l02Pose -/
@[reducible] def spec_l02Pose.pc : CutP := [(0, some true, [.fl (.int .i64), .fl (.int .i64), .fl (.int .i64), .fl (.int .i64)])]
@[reducible] def spec_l02Pose.pr : CompPs := [(false, [.fl .bool])]
abbrev spec_l02Pose.N := Bool
def spec_l02Pose.E (k : Nat) : List (FuncId × Go.Rv.Fn) := [(60, spec_l00In.F k)]
def spec_l02Pose.f (k : Nat) (a0 : Int) (a1 : Int) (a2 : Int) (a3 : Int) : Option spec_l02Pose.N := (spec_l00In.f k a0 (-100000) 100000).bind fun t1 => (if t1 = true then (spec_l00In.f k a1 (-100000) 100000).bind fun t2 => (if t2 = true then (spec_l00In.f k a2 (-400) 400).bind fun t3 => (if t3 = true then (spec_l00In.f k a3 (-400) 400).bind fun t4 => some t4 else some false) else some false) else some false)
def spec_l02Pose.F (k : Nat) : Go.Rv.Fn := mkFn 1 spec_l02Pose.pc spec_l02Pose.pr (keepOf []) (fun (y : spec_l02Pose.N) => (((y, ()), ()) : compT spec_l02Pose.pr)) fun x => spec_l02Pose.f k x.1.1 x.1.2.1 x.1.2.2.1 x.1.2.2.2.1
theorem spec_l02Pose.env (k : Nat) : EnvOk Go.Proofs.Try.prog (fun f => (spec_l02Pose.E k).lookup f) := envOk_of ⟨entry Go.Proofs.Try.call60 rfl (spec_l00In.ok k), trivial⟩
theorem spec_l02Pose.ok (k : Nat) : FnOk Go.Proofs.Try.prog 90 (spec_l02Pose.F k) :=
  fn_ok tab (spec_l02Pose.env k) Go.Proofs.Try.func90 rfl (n := 1) (Nat.le_of_ble_eq_true rfl) (by kernel_rfl) (outs := []) (by kernel_rfl) (by kernel_rfl) (d := fun (y : compT spec_l02Pose.pr) => (y.1.1 : spec_l02Pose.N)) (fun _ => rfl) (C := fun _ => []) (k := k) noCuts fun x => by kernel_rfl
/-! spec.l02Turn -/
@[reducible] def spec_l02Turn.pc : CutP := [(0, some false, [.fl (.int .i64)]), (1, some false, [.fl (.int .i64)])]
@[reducible] def spec_l02Turn.pr : CompPs := [(false, [.fl .bool])]
abbrev spec_l02Turn.N := Bool
def spec_l02Turn.E (k : Nat) : List (FuncId × Go.Rv.Fn) := [(60, spec_l00In.F k)]
def spec_l02Turn.f (k : Nat) (a0 : Int) (a1 : Int) : Option spec_l02Turn.N := (spec_l00In.f k a0 (-12) 12).bind fun t1 => (if t1 = true then (spec_l00In.f k a1 (-12) 12).bind fun t2 => some t2 else some false)
def spec_l02Turn.F (k : Nat) : Go.Rv.Fn := mkFn 2 spec_l02Turn.pc spec_l02Turn.pr (keepOf []) (fun (y : spec_l02Turn.N) => (((y, ()), ()) : compT spec_l02Turn.pr)) fun x => spec_l02Turn.f k x.1.1 x.2.1.1
theorem spec_l02Turn.env (k : Nat) : EnvOk Go.Proofs.Try.prog (fun f => (spec_l02Turn.E k).lookup f) := envOk_of ⟨entry Go.Proofs.Try.call60 rfl (spec_l00In.ok k), trivial⟩
theorem spec_l02Turn.ok (k : Nat) : FnOk Go.Proofs.Try.prog 91 (spec_l02Turn.F k) :=
  fn_ok tab (spec_l02Turn.env k) Go.Proofs.Try.func91 rfl (n := 2) (Nat.le_of_ble_eq_true rfl) (by kernel_rfl) (outs := []) (by kernel_rfl) (by kernel_rfl) (d := fun (y : compT spec_l02Turn.pr) => (y.1.1 : spec_l02Turn.N)) (fun _ => rfl) (C := fun _ => []) (k := k) noCuts fun x => by kernel_rfl
/-! spec.l02Next -/
@[reducible] def spec_l02Next.pc : CutP := [(0, some true, [.fl (.int .i64), .fl (.int .i64), .fl (.int .i64), .fl (.int .i64)]), (1, some false, [.fl (.int .i64)]), (2, some false, [.fl (.int .i64)])]
@[reducible] def spec_l02Next.pr : CompPs := [(true, [.fl (.int .i64), .fl (.int .i64), .fl (.int .i64), .fl (.int .i64)])]
abbrev spec_l02Next.N := Int × Int × Int × Int
def spec_l02Next.E (k : Nat) : List (FuncId × Go.Rv.Fn) := []
def spec_l02Next.f (k : Nat) (a0 : Int) (a1 : Int) (a2 : Int) (a3 : Int) (a4 : Int) (a5 : Int) : Option spec_l02Next.N := some ((wrap64 (a0 + a2)), (wrap64 (a1 + a3)), (wrap64 (a2 + a4)), (wrap64 (a3 + a5)))
def spec_l02Next.F (k : Nat) : Go.Rv.Fn := mkFn 3 spec_l02Next.pc spec_l02Next.pr (keepOf []) (fun (y : spec_l02Next.N) => (((y.1, y.2.1, y.2.2.1, y.2.2.2, ()), ()) : compT spec_l02Next.pr)) fun x => spec_l02Next.f k x.1.1 x.1.2.1 x.1.2.2.1 x.1.2.2.2.1 x.2.1.1 x.2.2.1.1
theorem spec_l02Next.env (k : Nat) : EnvOk Go.Proofs.Try.prog (fun f => (spec_l02Next.E k).lookup f) := envOk_of trivial
theorem spec_l02Next.ok (k : Nat) : FnOk Go.Proofs.Try.prog 92 (spec_l02Next.F k) :=
  fn_ok tab (spec_l02Next.env k) Go.Proofs.Try.func92 rfl (n := 3) (Nat.le_of_ble_eq_true rfl) (by kernel_rfl) (outs := []) (by kernel_rfl) (by kernel_rfl) (d := fun (y : compT spec_l02Next.pr) => ((y.1.1, y.1.2.1, y.1.2.2.1, y.1.2.2.2.1) : spec_l02Next.N)) (fun _ => rfl) (C := fun _ => []) (k := k) noCuts fun x => by kernel_rfl
/-! spec.l02Is -/
@[reducible] def spec_l02Is.pc : CutP := [(0, some false, [.rptr [(.int .i64), (.int .i64), (.int .i64), (.int .i64), (.lo (.pair (.int .i64) (.pair (.int .i64) (.int .i64))))]])]
@[reducible] def spec_l02Is.pr : CompPs := [(false, [.fl .bool])]
abbrev spec_l02Is.N := Bool
def spec_l02Is.E (k : Nat) : List (FuncId × Go.Rv.Fn) := [(60, spec_l00In.F k), (90, spec_l02Pose.F k), (91, spec_l02Turn.F k), (92, spec_l02Next.F k)]
abbrev spec_l02Is.Cs := (Int → Int → Int → Int → List (Int × Int × Int) → Option spec_l02Is.N) × (Int → Int → Int → Int → List (Int × Int × Int) → Int → Int → Int → Int → Int → Int → Option spec_l02Is.N) × (Int → Int → Int → Int → List (Int × Int × Int) → Int → Int → Int → Int → Int → Int → Int → Int → Int → Option spec_l02Is.N) × (Int → Int → Int → Int → List (Int × Int × Int) → Int → Int → Int → Int → Int → Int → Int → Int → Int → Int → Option spec_l02Is.N)
def spec_l02Is.zero : spec_l02Is.Cs := (fun _ _ _ _ _ => none, fun _ _ _ _ _ _ _ _ _ _ _ => none, fun _ _ _ _ _ _ _ _ _ _ _ _ _ _ => none, fun _ _ _ _ _ _ _ _ _ _ _ _ _ _ _ => none)
def spec_l02Is.step (k : Nat) (c : spec_l02Is.Cs) : spec_l02Is.Cs := (fun (x0 : Int) (x1 : Int) (x2 : Int) (x3 : Int) (x4 : List (Int × Int × Int)) => c.2.1 x0 x1 x2 x3 x4 0 x0 x1 x2 x3 0,
  fun (x0 : Int) (x1 : Int) (x2 : Int) (x3 : Int) (x4 : List (Int × Int × Int)) (x5 : Int) (x6 : Int) (x7 : Int) (x8 : Int) (x9 : Int) (x10 : Int) => (if (decide (x10 < (x4.length : Int))) = true then if 0 ≤ x10 then if x10 < (x4.length : Int) then (spec_l00In.f k ((rd (0, (0, 0)) x4 x10).1) 1 (wrap64 (60 - x5))).bind fun t3 => (if (!t3) = true then some false else (spec_l02Turn.f k (((rd (0, (0, 0)) x4 x10).2).1) (((rd (0, (0, 0)) x4 x10).2).2)).bind fun t4 => (if (!t4) = true then some false else c.2.2.1 x0 x1 x2 x3 x4 x5 x6 x7 x8 x9 x10 ((rd (0, (0, 0)) x4 x10).1) (((rd (0, (0, 0)) x4 x10).2).1) (((rd (0, (0, 0)) x4 x10).2).2))) else none else none else some true),
  fun (x0 : Int) (x1 : Int) (x2 : Int) (x3 : Int) (x4 : List (Int × Int × Int)) (x5 : Int) (x6 : Int) (x7 : Int) (x8 : Int) (x9 : Int) (x10 : Int) (x11 : Int) (x12 : Int) (x13 : Int) => c.2.2.2 x0 x1 x2 x3 x4 (wrap64 (x5 + x11)) x6 x7 x8 x9 x10 x11 x12 x13 0,
  fun (x0 : Int) (x1 : Int) (x2 : Int) (x3 : Int) (x4 : List (Int × Int × Int)) (x5 : Int) (x6 : Int) (x7 : Int) (x8 : Int) (x9 : Int) (x10 : Int) (x11 : Int) (x12 : Int) (x13 : Int) (x14 : Int) => (if (decide (x14 < x11)) = true then (spec_l02Next.f k x6 x7 x8 x9 x12 x13).bind fun t5 => (spec_l02Pose.f k t5.1 t5.2.1 t5.2.2.1 t5.2.2.2).bind fun t6 => (if (!t6) = true then some false else c.2.2.2 x0 x1 x2 x3 x4 x5 t5.1 t5.2.1 t5.2.2.1 t5.2.2.2 x10 x11 x12 x13 (wrap64 (x14 + 1))) else c.2.1 x0 x1 x2 x3 x4 x5 x6 x7 x8 x9 (wrap64 (x10 + 1))))
def spec_l02Is.cs (k : Nat) : Nat → spec_l02Is.Cs
  | 0 => spec_l02Is.zero
  | n + 1 => spec_l02Is.step k (spec_l02Is.cs k n)
def spec_l02Is.CC (c : spec_l02Is.Cs) : Cuts spec_l02Is.N := [(2, ⟨[(0, some false, [.rptr [(.int .i64), (.int .i64), (.int .i64), (.int .i64), (.lo (.pair (.int .i64) (.pair (.int .i64) (.int .i64))))]])], fun x => c.1 x.1.1.1 x.1.1.2.1 x.1.1.2.2.1 x.1.1.2.2.2.1 x.1.1.2.2.2.2.1⟩),
  (18, ⟨[(0, some false, [.rptr [(.int .i64), (.int .i64), (.int .i64), (.int .i64), (.lo (.pair (.int .i64) (.pair (.int .i64) (.int .i64))))]]), (3, some false, [.fl (.int .i64)]), (4, none, [.fl (.int .i64), .fl (.int .i64), .fl (.int .i64), .fl (.int .i64)]), (5, some false, [.fl (.int .i64)])], fun x => c.2.1 x.1.1.1 x.1.1.2.1 x.1.1.2.2.1 x.1.1.2.2.2.1 x.1.1.2.2.2.2.1 x.2.1.1 x.2.2.1.1 x.2.2.1.2.1 x.2.2.1.2.2.1 x.2.2.1.2.2.2.1 x.2.2.2.1.1⟩),
  (29, ⟨[(0, some false, [.rptr [(.int .i64), (.int .i64), (.int .i64), (.int .i64), (.lo (.pair (.int .i64) (.pair (.int .i64) (.int .i64))))]]), (3, some false, [.fl (.int .i64)]), (4, none, [.fl (.int .i64), .fl (.int .i64), .fl (.int .i64), .fl (.int .i64)]), (5, some false, [.fl (.int .i64)]), (6, none, [.fl (.int .i64), .fl (.int .i64), .fl (.int .i64)])], fun x => c.2.2.1 x.1.1.1 x.1.1.2.1 x.1.1.2.2.1 x.1.1.2.2.2.1 x.1.1.2.2.2.2.1 x.2.1.1 x.2.2.1.1 x.2.2.1.2.1 x.2.2.1.2.2.1 x.2.2.1.2.2.2.1 x.2.2.2.1.1 x.2.2.2.2.1.1 x.2.2.2.2.1.2.1 x.2.2.2.2.1.2.2.1⟩),
  (42, ⟨[(0, some false, [.rptr [(.int .i64), (.int .i64), (.int .i64), (.int .i64), (.lo (.pair (.int .i64) (.pair (.int .i64) (.int .i64))))]]), (3, some false, [.fl (.int .i64)]), (4, none, [.fl (.int .i64), .fl (.int .i64), .fl (.int .i64), .fl (.int .i64)]), (5, some false, [.fl (.int .i64)]), (6, none, [.fl (.int .i64), .fl (.int .i64), .fl (.int .i64)]), (7, some false, [.fl (.int .i64)])], fun x => c.2.2.2 x.1.1.1 x.1.1.2.1 x.1.1.2.2.1 x.1.1.2.2.2.1 x.1.1.2.2.2.2.1 x.2.1.1 x.2.2.1.1 x.2.2.1.2.1 x.2.2.1.2.2.1 x.2.2.1.2.2.2.1 x.2.2.2.1.1 x.2.2.2.2.1.1 x.2.2.2.2.1.2.1 x.2.2.2.2.1.2.2.1 x.2.2.2.2.2.1.1⟩)]
def spec_l02Is.f (k : Nat) (a0 : Int) (a1 : Int) (a2 : Int) (a3 : Int) (a4 : List (Int × Int × Int)) : Option spec_l02Is.N := (spec_l02Pose.f k a0 a1 a2 a3).bind fun t1 => (if (!t1) = true then some false else (spec_l00In.f k (a4.length : Int) 1 8).bind fun t2 => (if (!t2) = true then some false else (spec_l02Is.cs k k).1 a0 a1 a2 a3 a4))
def spec_l02Is.F (k : Nat) : Go.Rv.Fn := mkFn 1 spec_l02Is.pc spec_l02Is.pr (keepOf []) (fun (y : spec_l02Is.N) => (((y, ()), ()) : compT spec_l02Is.pr)) fun x => spec_l02Is.f k x.1.1.1 x.1.1.2.1 x.1.1.2.2.1 x.1.1.2.2.2.1 x.1.1.2.2.2.2.1
theorem spec_l02Is.env (k : Nat) : EnvOk Go.Proofs.Try.prog (fun f => (spec_l02Is.E k).lookup f) := envOk_of ⟨entry Go.Proofs.Try.call60 rfl (spec_l00In.ok k), entry Go.Proofs.Try.call90 rfl (spec_l02Pose.ok k), entry Go.Proofs.Try.call91 rfl (spec_l02Turn.ok k), entry Go.Proofs.Try.call92 rfl (spec_l02Next.ok k), trivial⟩
theorem spec_l02Is.cuts (k : Nat) : CutsOk Go.Proofs.Try.prog X (fun f => (spec_l02Is.E k).lookup f) Go.Proofs.Try.f59 [] (decN spec_l02Is.pr (fun (y : compT spec_l02Is.pr) => (y.1.1 : spec_l02Is.N))) fun n => spec_l02Is.CC (spec_l02Is.cs k n) :=
  cutsOk_of (step := spec_l02Is.step k) rfl (fun _ => rfl) ⟨fun _ => rfl, fun _ => rfl, fun _ => rfl, fun _ => rfl, trivial⟩ (fun c => by kernel_rfl) fun c => ⟨fun x => by kernel_rfl, fun x => by kernel_rfl, fun x => by kernel_rfl, fun x => by kernel_rfl, trivial⟩
theorem spec_l02Is.ok (k : Nat) : FnOk Go.Proofs.Try.prog 59 (spec_l02Is.F k) :=
  fn_ok tab (spec_l02Is.env k) Go.Proofs.Try.func59 rfl (n := 1) (Nat.le_of_ble_eq_true rfl) (by kernel_rfl) (outs := []) (by kernel_rfl) (by kernel_rfl) (d := fun (y : compT spec_l02Is.pr) => (y.1.1 : spec_l02Is.N)) (fun _ => rfl) (C := fun n => spec_l02Is.CC (spec_l02Is.cs k n)) (k := k) (spec_l02Is.cuts k) fun x => by kernel_rfl
/-! spec.l02DrawOk -/
@[reducible] def spec_l02DrawOk.bp : List FPat := [(.hi (.int .u8)), (.int .i64), (.int .u64)]
@[reducible] def spec_l02DrawOk.pc : CutP := [(0, none, [.fl (.lo (.int .u8)), .fl (.int .i64), .fl (.int .u64)])]
@[reducible] def spec_l02DrawOk.pr : CompPs := [(true, [.fl (.int .i64), .fl (.int .i64), .fl (.int .i64), .fl (.int .i64), .fl (.own (.pair (.int .i64) (.pair (.int .i64) (.int .i64))))])]
abbrev spec_l02DrawOk.N := Int × Int × Int × Int × List (Int × Int × Int) × List Int × Int × Int
def spec_l02DrawOk.E (k : Nat) : List (FuncId × Go.Rv.Fn) := [(59, spec_l02Is.F k), (70, spec_l00Src_pick.F k), (95, spec_l02DrawPose.F k), (96, spec_l00Src_one.F k), (97, spec_l00Src_among.F k)]
abbrev spec_l02DrawOk.Cs := (List Int → Int → Int → Int → Int → Int → Int → Int → Int → Int → Int → List (Int × Int × Int) → Int → Option spec_l02DrawOk.N) × (List Int → Int → Int → Int → Int → Int → Int → Int → Int → Int → Int → List (Int × Int × Int) → Option spec_l02DrawOk.N)
def spec_l02DrawOk.zero : spec_l02DrawOk.Cs := (fun _ _ _ _ _ _ _ _ _ _ _ _ _ => none, fun _ _ _ _ _ _ _ _ _ _ _ _ => none)
def spec_l02DrawOk.step (k : Nat) (c : spec_l02DrawOk.Cs) : spec_l02DrawOk.Cs := (fun (x0 : List Int) (x1 : Int) (x2 : Int) (x3 : Int) (x4 : Int) (x5 : Int) (x6 : Int) (x7 : Int) (x8 : Int) (x9 : Int) (x10 : Int) (x11 : List (Int × Int × Int)) (x12 : Int) => (if (decide (0 < x12)) = true then (spec_l00Src_pick.f k x0 x1 x2 5).bind fun t3 => (spec_l00Src_pick.f k t3.2.1 t3.2.2.1 t3.2.2.2 5).bind fun t4 => (spec_l00Src_pick.f k t4.2.1 t4.2.2.1 t4.2.2.2 5).bind fun t5 => (spec_l00Src_one.f k t5.2.1 t5.2.2.1 t5.2.2.2 10).bind fun t6 => (if t6.1 = true then (spec_l00Src_among.f k t6.2.1 t6.2.2.1 t6.2.2.2 [(-12), 12]).bind fun t7 => if x11.length + [((wrap64 (1 + t3.1)), (t7.1, (wrap64 (t5.1 - 2))))].length < 366503875925 then c.1 t7.2.1 t7.2.2.1 t7.2.2.2 x3 x4 x5 x6 x7 x8 x9 x10 (x11 ++ [((wrap64 (1 + t3.1)), (t7.1, (wrap64 (t5.1 - 2))))]) (wrap64 (x12 - 1)) else none else if x11.length + [((wrap64 (1 + t3.1)), ((wrap64 (t4.1 - 2)), (wrap64 (t5.1 - 2))))].length < 366503875925 then c.1 t6.2.1 t6.2.2.1 t6.2.2.2 x3 x4 x5 x6 x7 x8 x9 x10 (x11 ++ [((wrap64 (1 + t3.1)), ((wrap64 (t4.1 - 2)), (wrap64 (t5.1 - 2))))]) (wrap64 (x12 - 1)) else none) else (spec_l00Src_one.f k x0 x1 x2 10).bind fun t8 => (if t8.1 = true then c.2 t8.2.1 t8.2.2.1 t8.2.2.2 x3 x4 x5 x6 x7 x8 x9 x10 x11 else (spec_l02Is.f k x7 x8 x9 x10 x11).bind fun t9 => (if (!t9) = true then some (0, 0, 0, 0, x11, t8.2.1, t8.2.2.1, t8.2.2.2) else some (x7, x8, x9, x10, x11, t8.2.1, t8.2.2.1, t8.2.2.2)))),
  fun (x0 : List Int) (x1 : Int) (x2 : Int) (x3 : Int) (x4 : Int) (x5 : Int) (x6 : Int) (x7 : Int) (x8 : Int) (x9 : Int) (x10 : Int) (x11 : List (Int × Int × Int)) => (if (decide ((x11.length : Int) < 8)) = true then (if 3 = 0 then none else if x11.length + [(1, (((x11.length : Int).tmod 3), 0))].length < 366503875925 then c.2 x0 x1 x2 x3 x4 x5 x6 x7 x8 x9 x10 (x11 ++ [(1, (((x11.length : Int).tmod 3), 0))]) else none) else (spec_l02Is.f k x7 x8 x9 x10 x11).bind fun t10 => (if (!t10) = true then some (0, 0, 0, 0, x11, x0, x1, x2) else some (x7, x8, x9, x10, x11, x0, x1, x2))))
def spec_l02DrawOk.cs (k : Nat) : Nat → spec_l02DrawOk.Cs
  | 0 => spec_l02DrawOk.zero
  | n + 1 => spec_l02DrawOk.step k (spec_l02DrawOk.cs k n)
def spec_l02DrawOk.CC (c : spec_l02DrawOk.Cs) : Cuts spec_l02DrawOk.N := [(8, ⟨[(0, none, [.fl (.hi (.int .u8)), .fl (.int .i64), .fl (.int .u64)]), (2, none, [.fl (.int .i64), .fl (.int .i64), .fl (.int .i64), .fl (.int .i64), .fl .nils]), (3, none, [.fl (.int .i64), .fl (.int .i64), .fl (.int .i64), .fl (.int .i64), .fl (.own (.pair (.int .i64) (.pair (.int .i64) (.int .i64))))]), (4, some false, [.fl (.int .i64)])], fun x => c.1 x.1.1 x.1.2.1 x.1.2.2.1 x.2.1.1 x.2.1.2.1 x.2.1.2.2.1 x.2.1.2.2.2.1 x.2.2.1.1 x.2.2.1.2.1 x.2.2.1.2.2.1 x.2.2.1.2.2.2.1 x.2.2.1.2.2.2.2.1 x.2.2.2.1.1⟩),
  (36, ⟨[(0, none, [.fl (.hi (.int .u8)), .fl (.int .i64), .fl (.int .u64)]), (2, none, [.fl (.int .i64), .fl (.int .i64), .fl (.int .i64), .fl (.int .i64), .fl .nils]), (3, none, [.fl (.int .i64), .fl (.int .i64), .fl (.int .i64), .fl (.int .i64), .fl (.own (.pair (.int .i64) (.pair (.int .i64) (.int .i64))))])], fun x => c.2 x.1.1 x.1.2.1 x.1.2.2.1 x.2.1.1 x.2.1.2.1 x.2.1.2.2.1 x.2.1.2.2.2.1 x.2.2.1.1 x.2.2.1.2.1 x.2.2.1.2.2.1 x.2.2.1.2.2.2.1 x.2.2.1.2.2.2.2.1⟩)]
def spec_l02DrawOk.f (k : Nat) (a0 : List Int) (a1 : Int) (a2 : Int) : Option spec_l02DrawOk.N := (spec_l02DrawPose.f k a0 a1 a2).bind fun t1 => (spec_l00Src_pick.f k t1.2.2.2.2.1 t1.2.2.2.2.2.1 t1.2.2.2.2.2.2 5).bind fun t2 => (spec_l02DrawOk.cs k k).1 t2.2.1 t2.2.2.1 t2.2.2.2 0 0 0 0 t1.1 t1.2.1 t1.2.2.1 t1.2.2.2.1 ([] : List (Int × Int × Int)) (wrap64 (1 + t2.1))
def spec_l02DrawOk.F (k : Nat) : Go.Rv.Fn := mkFnB 0 spec_l02DrawOk.pc spec_l02DrawOk.pr spec_l02DrawOk.bp (fun (y : spec_l02DrawOk.N) => ((((y.1, y.2.1, y.2.2.1, y.2.2.2.1, y.2.2.2.2.1, ()), ()), (y.2.2.2.2.2.1, y.2.2.2.2.2.2.1, y.2.2.2.2.2.2.2, ())) : compT spec_l02DrawOk.pr × fpatsT spec_l02DrawOk.bp)) fun x => spec_l02DrawOk.f k x.1.1 x.1.2.1 x.1.2.2.1
theorem spec_l02DrawOk.env (k : Nat) : EnvOk Go.Proofs.Try.prog (fun f => (spec_l02DrawOk.E k).lookup f) := envOk_of ⟨entry Go.Proofs.Try.call59 rfl (spec_l02Is.ok k), entryB Go.Proofs.Try.call70 rfl (spec_l00Src_pick.ok k), entryB Go.Proofs.Try.call95 rfl (spec_l02DrawPose.ok k), entryB Go.Proofs.Try.call96 rfl (spec_l00Src_one.ok k), entryB Go.Proofs.Try.call97 rfl (spec_l00Src_among.ok k), trivial⟩
theorem spec_l02DrawOk.cuts (k : Nat) : CutsOkG Go.Proofs.Try.prog { X with n := Go.Proofs.Try.f69.ntmps, keep := [0] } (fun f => (spec_l02DrawOk.E k).lookup f) Go.Proofs.Try.f69 (endB { X with n := Go.Proofs.Try.f69.ntmps, keep := [0] } Go.Proofs.Try.f69 spec_l02DrawOk.pr spec_l02DrawOk.bp (fun (y : compT spec_l02DrawOk.pr × fpatsT spec_l02DrawOk.bp) => ((y.1.1.1, y.1.1.2.1, y.1.1.2.2.1, y.1.1.2.2.2.1, y.1.1.2.2.2.2.1, y.2.1, y.2.2.1, y.2.2.2.1) : spec_l02DrawOk.N))) fun n => spec_l02DrawOk.CC (spec_l02DrawOk.cs k n) :=
  cutsOkG_of (step := spec_l02DrawOk.step k) rfl (fun _ => rfl) ⟨fun _ => rfl, fun _ => rfl, trivial⟩ (fun c => by kernel_rfl) fun c => ⟨fun x => by kernel_rfl, fun x => by kernel_rfl, trivial⟩
theorem spec_l02DrawOk.ok (k : Nat) : FnOkB Go.Proofs.Try.prog 69 (spec_l02DrawOk.F k) :=
  fn_okB tab (spec_l02DrawOk.env k) Go.Proofs.Try.func69 rfl (n := 0) (Nat.le_of_ble_eq_true rfl) (by kernel_rfl) (by kernel_rfl) (by kernel_rfl) (d := fun (y : compT spec_l02DrawOk.pr × fpatsT spec_l02DrawOk.bp) => ((y.1.1.1, y.1.1.2.1, y.1.1.2.2.1, y.1.1.2.2.2.1, y.1.1.2.2.2.2.1, y.2.1, y.2.2.1, y.2.2.2.1) : spec_l02DrawOk.N)) (fun _ => rfl) (C := (fun n => spec_l02DrawOk.CC (spec_l02DrawOk.cs k n))) (k := k) (spec_l02DrawOk.cuts k) fun x => by kernel_rfl
/-! spec.R8Axis -/
@[reducible] def spec_R8Axis.pc : CutP := [(0, some false, [.fl (.lo (.int .u8))])]
@[reducible] def spec_R8Axis.pr : CompPs := [(true, [.fl (.int .i64), .fl (.int .i64), .fl (.int .i64), .fl (.int .i64), .fl (.own (.pair (.int .i64) (.pair (.int .i64) (.int .i64))))])]
abbrev spec_R8Axis.N := Int × Int × Int × Int × List (Int × Int × Int)
def spec_R8Axis.E (k : Nat) : List (FuncId × Go.Rv.Fn) := [(68, spec_l00From.F k), (69, spec_l02DrawOk.F k)]
def spec_R8Axis.f (k : Nat) (a0 : List Int) : Option spec_R8Axis.N := (spec_l00From.f k a0).bind fun t1 => (spec_l02DrawOk.f k t1.1 t1.2.1 t1.2.2).bind fun t2 => some (t2.1, t2.2.1, t2.2.2.1, t2.2.2.2.1, t2.2.2.2.2.1)
def spec_R8Axis.F (k : Nat) : Go.Rv.Fn := mkFn 1 spec_R8Axis.pc spec_R8Axis.pr (keepOf []) (fun (y : spec_R8Axis.N) => (((y.1, y.2.1, y.2.2.1, y.2.2.2.1, y.2.2.2.2, ()), ()) : compT spec_R8Axis.pr)) fun x => spec_R8Axis.f k x.1.1
theorem spec_R8Axis.env (k : Nat) : EnvOk Go.Proofs.Try.prog (fun f => (spec_R8Axis.E k).lookup f) := envOk_of ⟨entry Go.Proofs.Try.call68 rfl (spec_l00From.ok k), entryB Go.Proofs.Try.call69 rfl (spec_l02DrawOk.ok k), trivial⟩
theorem spec_R8Axis.ok (k : Nat) : FnOk Go.Proofs.Try.prog 22 (spec_R8Axis.F k) :=
  fn_ok tab (spec_R8Axis.env k) Go.Proofs.Try.func22 rfl (n := 1) (Nat.le_of_ble_eq_true rfl) (by kernel_rfl) (outs := []) (by kernel_rfl) (by kernel_rfl) (d := fun (y : compT spec_R8Axis.pr) => ((y.1.1, y.1.2.1, y.1.2.2.1, y.1.2.2.2.1, y.1.2.2.2.2.1) : spec_R8Axis.N)) (fun _ => rfl) (C := fun _ => []) (k := k) noCuts fun x => by kernel_rfl
/-! impl.within -/
@[reducible] def impl_within.pc : CutP := [(0, some false, [.fl (.int .i64)]), (1, some false, [.fl (.int .i64)]), (2, some false, [.fl (.int .i64)])]
@[reducible] def impl_within.pr : CompPs := [(false, [.fl .bool])]
abbrev impl_within.N := Bool
def impl_within.E (k : Nat) : List (FuncId × Go.Rv.Fn) := []
def impl_within.f (k : Nat) (a0 : Int) (a1 : Int) (a2 : Int) : Option impl_within.N := (if (decide (a1 ≤ a0)) = true then some (decide (a0 ≤ a2)) else some false)
def impl_within.F (k : Nat) : Go.Rv.Fn := mkFn 3 impl_within.pc impl_within.pr (keepOf []) (fun (y : impl_within.N) => (((y, ()), ()) : compT impl_within.pr)) fun x => impl_within.f k x.1.1 x.2.1.1 x.2.2.1.1
theorem impl_within.env (k : Nat) : EnvOk Go.Proofs.Try.prog (fun f => (impl_within.E k).lookup f) := envOk_of trivial
theorem impl_within.ok (k : Nat) : FnOk Go.Proofs.Try.prog 66 (impl_within.F k) :=
  fn_ok tab (impl_within.env k) Go.Proofs.Try.func66 rfl (n := 3) (Nat.le_of_ble_eq_true rfl) (by kernel_rfl) (outs := []) (by kernel_rfl) (by kernel_rfl) (d := fun (y : compT impl_within.pr) => (y.1.1 : impl_within.N)) (fun _ => rfl) (C := fun _ => []) (k := k) noCuts fun x => by kernel_rfl
/-! impl.areWithin$1 -/
@[reducible] def impl_areWithin_1.pc : CutP := [(0, some false, [.fl (.int .i64)]), (1, some false, [.rptr [(.int .i64)]]), (2, some false, [.rptr [(.int .i64)]])]
@[reducible] def impl_areWithin_1.pr : CompPs := [(false, [.fl .bool])]
abbrev impl_areWithin_1.N := Bool
def impl_areWithin_1.E (k : Nat) : List (FuncId × Go.Rv.Fn) := [(66, impl_within.F k)]
def impl_areWithin_1.f (k : Nat) (a0 : Int) (a1 : Int) (a2 : Int) : Option impl_areWithin_1.N := (impl_within.f k a0 a1 a2).bind fun t1 => some (!t1)
def impl_areWithin_1.F (k : Nat) : Go.Rv.Fn := mkFn 3 impl_areWithin_1.pc impl_areWithin_1.pr (keepOf []) (fun (y : impl_areWithin_1.N) => (((y, ()), ()) : compT impl_areWithin_1.pr)) fun x => impl_areWithin_1.f k x.1.1 x.2.1.1.1 x.2.2.1.1.1
theorem impl_areWithin_1.env (k : Nat) : EnvOk Go.Proofs.Try.prog (fun f => (impl_areWithin_1.E k).lookup f) := envOk_of ⟨entry Go.Proofs.Try.call66 rfl (impl_within.ok k), trivial⟩
theorem impl_areWithin_1.ok (k : Nat) : FnOk Go.Proofs.Try.prog 100 (impl_areWithin_1.F k) :=
  fn_ok tab (impl_areWithin_1.env k) Go.Proofs.Try.func100 rfl (n := 3) (Nat.le_of_ble_eq_true rfl) (by kernel_rfl) (outs := []) (by kernel_rfl) (by kernel_rfl) (d := fun (y : compT impl_areWithin_1.pr) => (y.1.1 : impl_areWithin_1.N)) (fun _ => rfl) (C := fun _ => []) (k := k) noCuts fun x => by kernel_rfl
/-! slices.IndexFunc[[]int64,int64] -/
@[reducible] def slices_IndexFunc_int64_areWithin_1.pc : CutP := [(0, some false, [.fl (.lo (.int .i64))]), (1, some false, [.fn 100 [[(.int .i64)], [(.int .i64)]]])]
@[reducible] def slices_IndexFunc_int64_areWithin_1.pr : CompPs := [(false, [.fl (.int .i64)])]
abbrev slices_IndexFunc_int64_areWithin_1.N := Int
def slices_IndexFunc_int64_areWithin_1.E (k : Nat) : List (FuncId × Go.Rv.Fn) := [(100, impl_areWithin_1.F k)]
abbrev slices_IndexFunc_int64_areWithin_1.Cs := (List Int → Int → Int → Int → Int → Option slices_IndexFunc_int64_areWithin_1.N)
def slices_IndexFunc_int64_areWithin_1.zero : slices_IndexFunc_int64_areWithin_1.Cs := (fun _ _ _ _ _ => none)
def slices_IndexFunc_int64_areWithin_1.step (k : Nat) (c : slices_IndexFunc_int64_areWithin_1.Cs) : slices_IndexFunc_int64_areWithin_1.Cs := (fun (x0 : List Int) (x1 : Int) (x2 : Int) (x3 : Int) (x4 : Int) => (if (decide (x4 < x3)) = true then if 0 ≤ x4 then if x4 < (x0.length : Int) then (impl_areWithin_1.f k (rd 0 x0 x4) x1 x2).bind fun t1 => (if t1 = true then some x4 else c x0 x1 x2 x3 (wrap64 (x4 + 1))) else none else none else some (-1)))
def slices_IndexFunc_int64_areWithin_1.cs (k : Nat) : Nat → slices_IndexFunc_int64_areWithin_1.Cs
  | 0 => slices_IndexFunc_int64_areWithin_1.zero
  | n + 1 => slices_IndexFunc_int64_areWithin_1.step k (slices_IndexFunc_int64_areWithin_1.cs k n)
def slices_IndexFunc_int64_areWithin_1.CC (c : slices_IndexFunc_int64_areWithin_1.Cs) : Cuts slices_IndexFunc_int64_areWithin_1.N := [(6, ⟨[(0, some false, [.fl (.lo (.int .i64))]), (1, some false, [.fn 100 [[(.int .i64)], [(.int .i64)]]]), (7, some false, [.fl (.int .i64)]), (8, some false, [.fl (.int .i64)])], fun x => c x.1.1 x.2.1.1.1.1 x.2.1.1.2.1.1 x.2.2.1.1 x.2.2.2.1.1⟩)]
def slices_IndexFunc_int64_areWithin_1.f (k : Nat) (a0 : List Int) (a1 : Int) (a2 : Int) : Option slices_IndexFunc_int64_areWithin_1.N := (slices_IndexFunc_int64_areWithin_1.cs k k) a0 a1 a2 (a0.length : Int) 0
def slices_IndexFunc_int64_areWithin_1.F (k : Nat) : Go.Rv.Fn := mkFn 2 slices_IndexFunc_int64_areWithin_1.pc slices_IndexFunc_int64_areWithin_1.pr (keepOf []) (fun (y : slices_IndexFunc_int64_areWithin_1.N) => (((y, ()), ()) : compT slices_IndexFunc_int64_areWithin_1.pr)) fun x => slices_IndexFunc_int64_areWithin_1.f k x.1.1 x.2.1.1.1.1 x.2.1.1.2.1.1
theorem slices_IndexFunc_int64_areWithin_1.env (k : Nat) : EnvOk Go.Proofs.Try.prog (fun f => (slices_IndexFunc_int64_areWithin_1.E k).lookup f) := envOk_of ⟨entry Go.Proofs.Try.call100 rfl (impl_areWithin_1.ok k), trivial⟩
theorem slices_IndexFunc_int64_areWithin_1.cuts (k : Nat) : CutsOk Go.Proofs.Try.prog X (fun f => (slices_IndexFunc_int64_areWithin_1.E k).lookup f) Go.Proofs.Try.f106 [] (decN slices_IndexFunc_int64_areWithin_1.pr (fun (y : compT slices_IndexFunc_int64_areWithin_1.pr) => (y.1.1 : slices_IndexFunc_int64_areWithin_1.N))) fun n => slices_IndexFunc_int64_areWithin_1.CC (slices_IndexFunc_int64_areWithin_1.cs k n) :=
  cutsOk_of (step := slices_IndexFunc_int64_areWithin_1.step k) rfl (fun _ => rfl) ⟨fun _ => rfl, trivial⟩ (fun c => by kernel_rfl) fun c => ⟨fun x => by kernel_rfl, trivial⟩
theorem slices_IndexFunc_int64_areWithin_1.ok (k : Nat) : FnOk Go.Proofs.Try.prog 106 (slices_IndexFunc_int64_areWithin_1.F k) :=
  fn_ok tab (slices_IndexFunc_int64_areWithin_1.env k) Go.Proofs.Try.func106 rfl (n := 2) (Nat.le_of_ble_eq_true rfl) (by kernel_rfl) (outs := []) (by kernel_rfl) (by kernel_rfl) (d := fun (y : compT slices_IndexFunc_int64_areWithin_1.pr) => (y.1.1 : slices_IndexFunc_int64_areWithin_1.N)) (fun _ => rfl) (C := fun n => slices_IndexFunc_int64_areWithin_1.CC (slices_IndexFunc_int64_areWithin_1.cs k n)) (k := k) (slices_IndexFunc_int64_areWithin_1.cuts k) fun x => by kernel_rfl
/-! slices.ContainsFunc[[]int64,int64] -/
@[reducible] def slices_ContainsFunc_int64_areWithin_1.pc : CutP := [(0, some false, [.fl (.lo (.int .i64))]), (1, some false, [.fn 100 [[(.int .i64)], [(.int .i64)]]])]
@[reducible] def slices_ContainsFunc_int64_areWithin_1.pr : CompPs := [(false, [.fl .bool])]
abbrev slices_ContainsFunc_int64_areWithin_1.N := Bool
def slices_ContainsFunc_int64_areWithin_1.E (k : Nat) : List (FuncId × Go.Rv.Fn) := [(106, slices_IndexFunc_int64_areWithin_1.F k)]
def slices_ContainsFunc_int64_areWithin_1.f (k : Nat) (a0 : List Int) (a1 : Int) (a2 : Int) : Option slices_ContainsFunc_int64_areWithin_1.N := (slices_IndexFunc_int64_areWithin_1.f k a0 a1 a2).bind fun (t1 : Int) => some (decide (0 ≤ t1))
def slices_ContainsFunc_int64_areWithin_1.F (k : Nat) : Go.Rv.Fn := mkFn 2 slices_ContainsFunc_int64_areWithin_1.pc slices_ContainsFunc_int64_areWithin_1.pr (keepOf []) (fun (y : slices_ContainsFunc_int64_areWithin_1.N) => (((y, ()), ()) : compT slices_ContainsFunc_int64_areWithin_1.pr)) fun x => slices_ContainsFunc_int64_areWithin_1.f k x.1.1 x.2.1.1.1.1 x.2.1.1.2.1.1
theorem slices_ContainsFunc_int64_areWithin_1.env (k : Nat) : EnvOk Go.Proofs.Try.prog (fun f => (slices_ContainsFunc_int64_areWithin_1.E k).lookup f) := envOk_of ⟨entry Go.Proofs.Try.call106 rfl (slices_IndexFunc_int64_areWithin_1.ok k), trivial⟩
theorem slices_ContainsFunc_int64_areWithin_1.ok (k : Nat) : FnOk Go.Proofs.Try.prog 99 (slices_ContainsFunc_int64_areWithin_1.F k) :=
  fn_ok tab (slices_ContainsFunc_int64_areWithin_1.env k) Go.Proofs.Try.func99 rfl (n := 2) (Nat.le_of_ble_eq_true rfl) (by kernel_rfl) (outs := []) (by kernel_rfl) (by kernel_rfl) (d := fun (y : compT slices_ContainsFunc_int64_areWithin_1.pr) => (y.1.1 : slices_ContainsFunc_int64_areWithin_1.N)) (fun _ => rfl) (C := fun _ => []) (k := k) noCuts fun x => by kernel_rfl
/-! impl.areWithin -/
@[reducible] def impl_areWithin.pc : CutP := [(0, some false, [.fl (.lo (.int .i64))]), (1, some false, [.fl (.int .i64)]), (2, some false, [.fl (.int .i64)])]
@[reducible] def impl_areWithin.pr : CompPs := [(false, [.fl .bool])]
abbrev impl_areWithin.N := Bool
def impl_areWithin.E (k : Nat) : List (FuncId × Go.Rv.Fn) := [(99, slices_ContainsFunc_int64_areWithin_1.F k)]
def impl_areWithin.f (k : Nat) (a0 : List Int) (a1 : Int) (a2 : Int) : Option impl_areWithin.N := (slices_ContainsFunc_int64_areWithin_1.f k a0 a1 a2).bind fun t1 => some (!t1)
def impl_areWithin.F (k : Nat) : Go.Rv.Fn := mkFn 3 impl_areWithin.pc impl_areWithin.pr (keepOf []) (fun (y : impl_areWithin.N) => (((y, ()), ()) : compT impl_areWithin.pr)) fun x => impl_areWithin.f k x.1.1 x.2.1.1 x.2.2.1.1
theorem impl_areWithin.env (k : Nat) : EnvOk Go.Proofs.Try.prog (fun f => (impl_areWithin.E k).lookup f) := envOk_of ⟨entry Go.Proofs.Try.call99 rfl (slices_ContainsFunc_int64_areWithin_1.ok k), trivial⟩
theorem impl_areWithin.ok (k : Nat) : FnOk Go.Proofs.Try.prog 71 (impl_areWithin.F k) :=
  fn_ok tab (impl_areWithin.env k) Go.Proofs.Try.func71 rfl (n := 3) (Nat.le_of_ble_eq_true rfl) (by kernel_rfl) (outs := []) (by kernel_rfl) (by kernel_rfl) (d := fun (y : compT impl_areWithin.pr) => (y.1.1 : impl_areWithin.N)) (fun _ => rfl) (C := fun _ => []) (k := k) noCuts fun x => by kernel_rfl
/-! impl.ValidPose -/
@[reducible] def impl_ValidPose.pc : CutP := [(0, some true, [.fl (.int .i64), .fl (.int .i64), .fl (.int .i64), .fl (.int .i64)])]
@[reducible] def impl_ValidPose.pr : CompPs := [(false, [.fl .bool])]
abbrev impl_ValidPose.N := Bool
def impl_ValidPose.E (k : Nat) : List (FuncId × Go.Rv.Fn) := [(71, impl_areWithin.F k)]
def impl_ValidPose.f (k : Nat) (a0 : Int) (a1 : Int) (a2 : Int) (a3 : Int) : Option impl_ValidPose.N := (impl_areWithin.f k [a0, a1] (-100000) 100000).bind fun t1 => (if t1 = true then (impl_areWithin.f k [a2, a3] (-400) 400).bind fun t2 => some t2 else some false)
def impl_ValidPose.F (k : Nat) : Go.Rv.Fn := mkFn 1 impl_ValidPose.pc impl_ValidPose.pr (keepOf []) (fun (y : impl_ValidPose.N) => (((y, ()), ()) : compT impl_ValidPose.pr)) fun x => impl_ValidPose.f k x.1.1 x.1.2.1 x.1.2.2.1 x.1.2.2.2.1
theorem impl_ValidPose.env (k : Nat) : EnvOk Go.Proofs.Try.prog (fun f => (impl_ValidPose.E k).lookup f) := envOk_of ⟨entry Go.Proofs.Try.call71 rfl (impl_areWithin.ok k), trivial⟩
theorem impl_ValidPose.ok (k : Nat) : FnOk Go.Proofs.Try.prog 73 (impl_ValidPose.F k) :=
  fn_ok tab (impl_ValidPose.env k) Go.Proofs.Try.func73 rfl (n := 1) (Nat.le_of_ble_eq_true rfl) (by kernel_rfl) (outs := []) (by kernel_rfl) (by kernel_rfl) (d := fun (y : compT impl_ValidPose.pr) => (y.1.1 : impl_ValidPose.N)) (fun _ => rfl) (C := fun _ => []) (k := k) noCuts fun x => by kernel_rfl
/-! impl.isTurn -/
@[reducible] def impl_isTurn.pc : CutP := [(0, some false, [.fl (.int .i64)]), (1, some false, [.fl (.int .i64)])]
@[reducible] def impl_isTurn.pr : CompPs := [(false, [.fl .bool])]
abbrev impl_isTurn.N := Bool
def impl_isTurn.E (k : Nat) : List (FuncId × Go.Rv.Fn) := [(71, impl_areWithin.F k)]
def impl_isTurn.f (k : Nat) (a0 : Int) (a1 : Int) : Option impl_isTurn.N := (impl_areWithin.f k [a0, a1] (-12) 12).bind fun t1 => some t1
def impl_isTurn.F (k : Nat) : Go.Rv.Fn := mkFn 2 impl_isTurn.pc impl_isTurn.pr (keepOf []) (fun (y : impl_isTurn.N) => (((y, ()), ()) : compT impl_isTurn.pr)) fun x => impl_isTurn.f k x.1.1 x.2.1.1
theorem impl_isTurn.env (k : Nat) : EnvOk Go.Proofs.Try.prog (fun f => (impl_isTurn.E k).lookup f) := envOk_of ⟨entry Go.Proofs.Try.call71 rfl (impl_areWithin.ok k), trivial⟩
theorem impl_isTurn.ok (k : Nat) : FnOk Go.Proofs.Try.prog 86 (impl_isTurn.F k) :=
  fn_ok tab (impl_isTurn.env k) Go.Proofs.Try.func86 rfl (n := 2) (Nat.le_of_ble_eq_true rfl) (by kernel_rfl) (outs := []) (by kernel_rfl) (by kernel_rfl) (d := fun (y : compT impl_isTurn.pr) => (y.1.1 : impl_isTurn.N)) (fun _ => rfl) (C := fun _ => []) (k := k) noCuts fun x => by kernel_rfl
/-! (impl.Pose).next -/
@[reducible] def impl_Pose_next.pc : CutP := [(0, some true, [.fl (.int .i64), .fl (.int .i64), .fl (.int .i64), .fl (.int .i64)]), (1, some false, [.fl (.int .i64)]), (2, some false, [.fl (.int .i64)])]
@[reducible] def impl_Pose_next.pr : CompPs := [(true, [.fl (.int .i64), .fl (.int .i64), .fl (.int .i64), .fl (.int .i64)])]
abbrev impl_Pose_next.N := Int × Int × Int × Int
def impl_Pose_next.E (k : Nat) : List (FuncId × Go.Rv.Fn) := []
def impl_Pose_next.f (k : Nat) (a0 : Int) (a1 : Int) (a2 : Int) (a3 : Int) (a4 : Int) (a5 : Int) : Option impl_Pose_next.N := some ((wrap64 (a0 + a2)), (wrap64 (a1 + a3)), (wrap64 (a2 + a4)), (wrap64 (a3 + a5)))
def impl_Pose_next.F (k : Nat) : Go.Rv.Fn := mkFn 3 impl_Pose_next.pc impl_Pose_next.pr (keepOf []) (fun (y : impl_Pose_next.N) => (((y.1, y.2.1, y.2.2.1, y.2.2.2, ()), ()) : compT impl_Pose_next.pr)) fun x => impl_Pose_next.f k x.1.1 x.1.2.1 x.1.2.2.1 x.1.2.2.2.1 x.2.1.1 x.2.2.1.1
theorem impl_Pose_next.env (k : Nat) : EnvOk Go.Proofs.Try.prog (fun f => (impl_Pose_next.E k).lookup f) := envOk_of trivial
theorem impl_Pose_next.ok (k : Nat) : FnOk Go.Proofs.Try.prog 87 (impl_Pose_next.F k) :=
  fn_ok tab (impl_Pose_next.env k) Go.Proofs.Try.func87 rfl (n := 3) (Nat.le_of_ble_eq_true rfl) (by kernel_rfl) (outs := []) (by kernel_rfl) (by kernel_rfl) (d := fun (y : compT impl_Pose_next.pr) => ((y.1.1, y.1.2.1, y.1.2.2.1, y.1.2.2.2.1) : impl_Pose_next.N)) (fun _ => rfl) (C := fun _ => []) (k := k) noCuts fun x => by kernel_rfl
/-! (impl.Axis).poses -/
@[reducible] def impl_Axis_poses.pc : CutP := [(0, some true, [.fl (.int .i64), .fl (.int .i64), .fl (.int .i64), .fl (.int .i64), .fl (.lo (.pair (.int .i64) (.pair (.int .i64) (.int .i64))))])]
@[reducible] def impl_Axis_poses.pr : CompPs := [(false, [.fl (.own (.pair (.int .i64) (.pair (.int .i64) (.pair (.int .i64) (.int .i64)))))]), (false, [.fl .bool])]
abbrev impl_Axis_poses.N := List (Int × Int × Int × Int) × Bool
def impl_Axis_poses.E (k : Nat) : List (FuncId × Go.Rv.Fn) := [(66, impl_within.F k), (73, impl_ValidPose.F k), (86, impl_isTurn.F k), (87, impl_Pose_next.F k)]
abbrev impl_Axis_poses.Cs := (Int → Int → Int → Int → List (Int × Int × Int) → List (Int × Int × Int × Int) → Option impl_Axis_poses.N) × (List (Int × Int × Int × Int) → List (Int × Int × Int) → Int → Int → Option impl_Axis_poses.N) × (List (Int × Int × Int × Int) → Int → Int → Int → List (Int × Int × Int) → Int → Int → Option impl_Axis_poses.N) × (List (Int × Int × Int × Int) → Int → Int → Int → List (Int × Int × Int) → Int → Int → Int → Int → Option impl_Axis_poses.N)
def impl_Axis_poses.zero : impl_Axis_poses.Cs := (fun _ _ _ _ _ _ => none, fun _ _ _ _ => none, fun _ _ _ _ _ _ _ => none, fun _ _ _ _ _ _ _ _ _ => none)
def impl_Axis_poses.step (k : Nat) (c : impl_Axis_poses.Cs) : impl_Axis_poses.Cs := (fun (x0 : Int) (x1 : Int) (x2 : Int) (x3 : Int) (x4 : List (Int × Int × Int)) (x5 : List (Int × Int × Int × Int)) => c.2.1 x5 x4 (x4.length : Int) 0,
  fun (x0 : List (Int × Int × Int × Int)) (x1 : List (Int × Int × Int)) (x2 : Int) (x3 : Int) => (if (decide (x3 < x2)) = true then if 0 ≤ x3 then if x3 < (x1.length : Int) then (impl_within.f k ((rd (0, (0, 0)) x1 x3).1) 1 60).bind fun t3 => (if (!t3) = true then some ([], false) else (impl_isTurn.f k (((rd (0, (0, 0)) x1 x3).2).1) (((rd (0, (0, 0)) x1 x3).2).2)).bind fun t4 => (if (!t4) = true then some ([], false) else (if (decide (61 < (wrap64 ((x0.length : Int) + (rd (0, (0, 0)) x1 x3).1)))) = true then some ([], false) else c.2.2.1 x0 ((rd (0, (0, 0)) x1 x3).1) (((rd (0, (0, 0)) x1 x3).2).1) (((rd (0, (0, 0)) x1 x3).2).2) x1 x2 x3))) else none else none else some (x0, true)),
  fun (x0 : List (Int × Int × Int × Int)) (x1 : Int) (x2 : Int) (x3 : Int) (x4 : List (Int × Int × Int)) (x5 : Int) (x6 : Int) => c.2.2.2 x0 x1 x2 x3 x4 x5 x6 x1 0,
  fun (x0 : List (Int × Int × Int × Int)) (x1 : Int) (x2 : Int) (x3 : Int) (x4 : List (Int × Int × Int)) (x5 : Int) (x6 : Int) (x7 : Int) (x8 : Int) => (if (decide (x8 < x7)) = true then if 0 ≤ (wrap64 ((x0.length : Int) - 1)) then if (wrap64 ((x0.length : Int) - 1)) < (x0.length : Int) then (impl_Pose_next.f k ((rd (0, (0, (0, 0))) x0 (wrap64 ((x0.length : Int) - 1))).1) (((rd (0, (0, (0, 0))) x0 (wrap64 ((x0.length : Int) - 1))).2).1) ((((rd (0, (0, (0, 0))) x0 (wrap64 ((x0.length : Int) - 1))).2).2).1) ((((rd (0, (0, (0, 0))) x0 (wrap64 ((x0.length : Int) - 1))).2).2).2) x2 x3).bind fun t5 => (impl_ValidPose.f k t5.1 t5.2.1 t5.2.2.1 t5.2.2.2).bind fun t6 => (if (!t6) = true then some ([], false) else if x0.length + [t5].length < 274877906944 then c.2.2.2 (x0 ++ [t5]) x1 x2 x3 x4 x5 x6 x7 (wrap64 (x8 + 1)) else none) else none else none else c.2.1 x0 x4 x5 (wrap64 (x6 + 1))))
def impl_Axis_poses.cs (k : Nat) : Nat → impl_Axis_poses.Cs
  | 0 => impl_Axis_poses.zero
  | n + 1 => impl_Axis_poses.step k (impl_Axis_poses.cs k n)
def impl_Axis_poses.CC (c : impl_Axis_poses.Cs) : Cuts impl_Axis_poses.N := [(4, ⟨[(1, none, [.fl (.int .i64), .fl (.int .i64), .fl (.int .i64), .fl (.int .i64), .fl (.lo (.pair (.int .i64) (.pair (.int .i64) (.int .i64))))]), (4, some false, [.fl (.own (.pair (.int .i64) (.pair (.int .i64) (.pair (.int .i64) (.int .i64)))))])], fun x => c.1 x.1.1 x.1.2.1 x.1.2.2.1 x.1.2.2.2.1 x.1.2.2.2.2.1 x.2.1.1⟩),
  (16, ⟨[(4, some false, [.fl (.own (.pair (.int .i64) (.pair (.int .i64) (.pair (.int .i64) (.int .i64)))))]), (23, some false, [.fl (.lo (.pair (.int .i64) (.pair (.int .i64) (.int .i64))))]), (24, some false, [.fl (.int .i64)]), (25, some false, [.fl (.int .i64)])], fun x => c.2.1 x.1.1 x.2.1.1 x.2.2.1.1 x.2.2.2.1.1⟩),
  (27, ⟨[(4, some false, [.fl (.own (.pair (.int .i64) (.pair (.int .i64) (.pair (.int .i64) (.int .i64)))))]), (6, none, [.fl (.int .i64), .fl (.int .i64), .fl (.int .i64)]), (23, some false, [.fl (.lo (.pair (.int .i64) (.pair (.int .i64) (.int .i64))))]), (24, some false, [.fl (.int .i64)]), (25, some false, [.fl (.int .i64)])], fun x => c.2.2.1 x.1.1 x.2.1.1 x.2.1.2.1 x.2.1.2.2.1 x.2.2.1.1 x.2.2.2.1.1 x.2.2.2.2.1.1⟩),
  (38, ⟨[(4, some false, [.fl (.own (.pair (.int .i64) (.pair (.int .i64) (.pair (.int .i64) (.int .i64)))))]), (6, none, [.fl (.int .i64), .fl (.int .i64), .fl (.int .i64)]), (23, some false, [.fl (.lo (.pair (.int .i64) (.pair (.int .i64) (.int .i64))))]), (24, some false, [.fl (.int .i64)]), (25, some false, [.fl (.int .i64)]), (50, some false, [.fl (.int .i64)]), (51, some false, [.fl (.int .i64)])], fun x => c.2.2.2 x.1.1 x.2.1.1 x.2.1.2.1 x.2.1.2.2.1 x.2.2.1.1 x.2.2.2.1.1 x.2.2.2.2.1.1 x.2.2.2.2.2.1.1 x.2.2.2.2.2.2.1.1⟩)]
def impl_Axis_poses.f (k : Nat) (a0 : Int) (a1 : Int) (a2 : Int) (a3 : Int) (a4 : List (Int × Int × Int)) : Option impl_Axis_poses.N := (impl_ValidPose.f k a0 a1 a2 a3).bind fun t1 => (if (!t1) = true then some ([], false) else (impl_within.f k (a4.length : Int) 1 8).bind fun t2 => (if (!t2) = true then some ([], false) else (impl_Axis_poses.cs k k).1 a0 a1 a2 a3 a4 [(a0, (a1, (a2, a3)))]))
def impl_Axis_poses.F (k : Nat) : Go.Rv.Fn := mkFn 1 impl_Axis_poses.pc impl_Axis_poses.pr (keepOf []) (fun (y : impl_Axis_poses.N) => (((y.1, ()), (y.2, ()), ()) : compT impl_Axis_poses.pr)) fun x => impl_Axis_poses.f k x.1.1 x.1.2.1 x.1.2.2.1 x.1.2.2.2.1 x.1.2.2.2.2.1
theorem impl_Axis_poses.env (k : Nat) : EnvOk Go.Proofs.Try.prog (fun f => (impl_Axis_poses.E k).lookup f) := envOk_of ⟨entry Go.Proofs.Try.call66 rfl (impl_within.ok k), entry Go.Proofs.Try.call73 rfl (impl_ValidPose.ok k), entry Go.Proofs.Try.call86 rfl (impl_isTurn.ok k), entry Go.Proofs.Try.call87 rfl (impl_Pose_next.ok k), trivial⟩
theorem impl_Axis_poses.cuts (k : Nat) : CutsOk Go.Proofs.Try.prog X (fun f => (impl_Axis_poses.E k).lookup f) Go.Proofs.Try.f65 [] (decN impl_Axis_poses.pr (fun (y : compT impl_Axis_poses.pr) => ((y.1.1, y.2.1.1) : impl_Axis_poses.N))) fun n => impl_Axis_poses.CC (impl_Axis_poses.cs k n) :=
  cutsOk_of (step := impl_Axis_poses.step k) rfl (fun _ => rfl) ⟨fun _ => rfl, fun _ => rfl, fun _ => rfl, fun _ => rfl, trivial⟩ (fun c => by kernel_rfl) fun c => ⟨fun x => by kernel_rfl, fun x => by kernel_rfl, fun x => by kernel_rfl, fun x => by kernel_rfl, trivial⟩
theorem impl_Axis_poses.ok (k : Nat) : FnOk Go.Proofs.Try.prog 65 (impl_Axis_poses.F k) :=
  fn_ok tab (impl_Axis_poses.env k) Go.Proofs.Try.func65 rfl (n := 1) (Nat.le_of_ble_eq_true rfl) (by kernel_rfl) (outs := []) (by kernel_rfl) (by kernel_rfl) (d := fun (y : compT impl_Axis_poses.pr) => ((y.1.1, y.2.1.1) : impl_Axis_poses.N)) (fun _ => rfl) (C := fun n => impl_Axis_poses.CC (impl_Axis_poses.cs k n)) (k := k) (impl_Axis_poses.cuts k) fun x => by kernel_rfl
/-! impl.PosesOf -/
@[reducible] def impl_PosesOf.pc : CutP := [(0, some true, [.fl (.int .i64), .fl (.int .i64), .fl (.int .i64), .fl (.int .i64), .fl (.lo (.pair (.int .i64) (.pair (.int .i64) (.int .i64))))])]
@[reducible] def impl_PosesOf.pr : CompPs := [(false, [.fl (.own (.pair (.int .i64) (.pair (.int .i64) (.pair (.int .i64) (.int .i64)))))]), (false, [.fl .bool])]
abbrev impl_PosesOf.N := List (Int × Int × Int × Int) × Bool
def impl_PosesOf.E (k : Nat) : List (FuncId × Go.Rv.Fn) := [(65, impl_Axis_poses.F k)]
def impl_PosesOf.f (k : Nat) (a0 : Int) (a1 : Int) (a2 : Int) (a3 : Int) (a4 : List (Int × Int × Int)) : Option impl_PosesOf.N := (impl_Axis_poses.f k a0 a1 a2 a3 a4).bind fun t1 => some (t1.1, t1.2)
def impl_PosesOf.F (k : Nat) : Go.Rv.Fn := mkFn 1 impl_PosesOf.pc impl_PosesOf.pr (keepOf []) (fun (y : impl_PosesOf.N) => (((y.1, ()), (y.2, ()), ()) : compT impl_PosesOf.pr)) fun x => impl_PosesOf.f k x.1.1 x.1.2.1 x.1.2.2.1 x.1.2.2.2.1 x.1.2.2.2.2.1
theorem impl_PosesOf.env (k : Nat) : EnvOk Go.Proofs.Try.prog (fun f => (impl_PosesOf.E k).lookup f) := envOk_of ⟨entry Go.Proofs.Try.call65 rfl (impl_Axis_poses.ok k), trivial⟩
theorem impl_PosesOf.ok (k : Nat) : FnOk Go.Proofs.Try.prog 24 (impl_PosesOf.F k) :=
  fn_ok tab (impl_PosesOf.env k) Go.Proofs.Try.func24 rfl (n := 1) (Nat.le_of_ble_eq_true rfl) (by kernel_rfl) (outs := []) (by kernel_rfl) (by kernel_rfl) (d := fun (y : compT impl_PosesOf.pr) => ((y.1.1, y.2.1.1) : impl_PosesOf.N)) (fun _ => rfl) (C := fun _ => []) (k := k) noCuts fun x => by kernel_rfl
/-! impl.ValidAxis -/
@[reducible] def impl_ValidAxis.pc : CutP := [(0, some true, [.fl (.int .i64), .fl (.int .i64), .fl (.int .i64), .fl (.int .i64), .fl (.lo (.pair (.int .i64) (.pair (.int .i64) (.int .i64))))])]
@[reducible] def impl_ValidAxis.pr : CompPs := [(false, [.fl .bool])]
abbrev impl_ValidAxis.N := Bool
def impl_ValidAxis.E (k : Nat) : List (FuncId × Go.Rv.Fn) := [(65, impl_Axis_poses.F k)]
def impl_ValidAxis.f (k : Nat) (a0 : Int) (a1 : Int) (a2 : Int) (a3 : Int) (a4 : List (Int × Int × Int)) : Option impl_ValidAxis.N := (impl_Axis_poses.f k a0 a1 a2 a3 a4).bind fun t1 => some t1.2
def impl_ValidAxis.F (k : Nat) : Go.Rv.Fn := mkFn 1 impl_ValidAxis.pc impl_ValidAxis.pr (keepOf []) (fun (y : impl_ValidAxis.N) => (((y, ()), ()) : compT impl_ValidAxis.pr)) fun x => impl_ValidAxis.f k x.1.1 x.1.2.1 x.1.2.2.1 x.1.2.2.2.1 x.1.2.2.2.2.1
theorem impl_ValidAxis.env (k : Nat) : EnvOk Go.Proofs.Try.prog (fun f => (impl_ValidAxis.E k).lookup f) := envOk_of ⟨entry Go.Proofs.Try.call65 rfl (impl_Axis_poses.ok k), trivial⟩
theorem impl_ValidAxis.ok (k : Nat) : FnOk Go.Proofs.Try.prog 76 (impl_ValidAxis.F k) :=
  fn_ok tab (impl_ValidAxis.env k) Go.Proofs.Try.func76 rfl (n := 1) (Nat.le_of_ble_eq_true rfl) (by kernel_rfl) (outs := []) (by kernel_rfl) (by kernel_rfl) (d := fun (y : compT impl_ValidAxis.pr) => (y.1.1 : impl_ValidAxis.N)) (fun _ => rfl) (C := fun _ => []) (k := k) noCuts fun x => by kernel_rfl
/-! impl.MirrorAxis -/
@[reducible] def impl_MirrorAxis.pc : CutP := [(0, some true, [.fl (.int .i64), .fl (.int .i64), .fl (.int .i64), .fl (.int .i64), .fl (.lo (.pair (.int .i64) (.pair (.int .i64) (.int .i64))))])]
@[reducible] def impl_MirrorAxis.pr : CompPs := [(true, [.fl (.int .i64), .fl (.int .i64), .fl (.int .i64), .fl (.int .i64), .fl (.own (.pair (.int .i64) (.pair (.int .i64) (.int .i64))))]), (false, [.fl .bool])]
abbrev impl_MirrorAxis.N := Int × Int × Int × Int × List (Int × Int × Int) × Bool
def impl_MirrorAxis.E (k : Nat) : List (FuncId × Go.Rv.Fn) := [(76, impl_ValidAxis.F k)]
abbrev impl_MirrorAxis.Cs := (Int → Int → Int → Int → Int → Int → Int → Int → List (Int × Int × Int) → List (Int × Int × Int) → Int → Int → Option impl_MirrorAxis.N)
def impl_MirrorAxis.zero : impl_MirrorAxis.Cs := (fun _ _ _ _ _ _ _ _ _ _ _ _ => none)
def impl_MirrorAxis.step (k : Nat) (c : impl_MirrorAxis.Cs) : impl_MirrorAxis.Cs := (fun (x0 : Int) (x1 : Int) (x2 : Int) (x3 : Int) (x4 : Int) (x5 : Int) (x6 : Int) (x7 : Int) (x8 : List (Int × Int × Int)) (x9 : List (Int × Int × Int)) (x10 : Int) (x11 : Int) => (if (decide (x11 < x10)) = true then if 0 ≤ x11 then if x11 < (x9.length : Int) then if x8.length + [((rd (0, (0, 0)) x9 x11).1, ((wrap64 (0 - ((rd (0, (0, 0)) x9 x11).2).1)), ((rd (0, (0, 0)) x9 x11).2).2))].length < 366503875925 then c x0 x1 x2 x3 x4 x5 x6 x7 (x8 ++ [((rd (0, (0, 0)) x9 x11).1, ((wrap64 (0 - ((rd (0, (0, 0)) x9 x11).2).1)), ((rd (0, (0, 0)) x9 x11).2).2))]) x9 x10 (wrap64 (x11 + 1)) else none else none else none else some (x4, x5, x6, x7, x8, true)))
def impl_MirrorAxis.cs (k : Nat) : Nat → impl_MirrorAxis.Cs
  | 0 => impl_MirrorAxis.zero
  | n + 1 => impl_MirrorAxis.step k (impl_MirrorAxis.cs k n)
def impl_MirrorAxis.CC (c : impl_MirrorAxis.Cs) : Cuts impl_MirrorAxis.N := [(16, ⟨[(2, none, [.fl (.int .i64), .fl (.int .i64), .fl (.int .i64), .fl (.int .i64), .fl .nils]), (4, none, [.fl (.int .i64), .fl (.int .i64), .fl (.int .i64), .fl (.int .i64), .fl (.own (.pair (.int .i64) (.pair (.int .i64) (.int .i64))))]), (28, some false, [.fl (.lo (.pair (.int .i64) (.pair (.int .i64) (.int .i64))))]), (29, some false, [.fl (.int .i64)]), (30, some false, [.fl (.int .i64)])], fun x => c x.1.1 x.1.2.1 x.1.2.2.1 x.1.2.2.2.1 x.2.1.1 x.2.1.2.1 x.2.1.2.2.1 x.2.1.2.2.2.1 x.2.1.2.2.2.2.1 x.2.2.1.1 x.2.2.2.1.1 x.2.2.2.2.1.1⟩)]
def impl_MirrorAxis.f (k : Nat) (a0 : Int) (a1 : Int) (a2 : Int) (a3 : Int) (a4 : List (Int × Int × Int)) : Option impl_MirrorAxis.N := (impl_ValidAxis.f k a0 a1 a2 a3 a4).bind fun t1 => (if (!t1) = true then some (0, 0, 0, 0, [], false) else (impl_MirrorAxis.cs k k) 0 0 0 0 (wrap64 (0 - a0)) a1 (wrap64 (0 - a2)) a3 [] a4 (a4.length : Int) 0)
def impl_MirrorAxis.F (k : Nat) : Go.Rv.Fn := mkFn 1 impl_MirrorAxis.pc impl_MirrorAxis.pr (keepOf []) (fun (y : impl_MirrorAxis.N) => (((y.1, y.2.1, y.2.2.1, y.2.2.2.1, y.2.2.2.2.1, ()), (y.2.2.2.2.2, ()), ()) : compT impl_MirrorAxis.pr)) fun x => impl_MirrorAxis.f k x.1.1 x.1.2.1 x.1.2.2.1 x.1.2.2.2.1 x.1.2.2.2.2.1
theorem impl_MirrorAxis.env (k : Nat) : EnvOk Go.Proofs.Try.prog (fun f => (impl_MirrorAxis.E k).lookup f) := envOk_of ⟨entry Go.Proofs.Try.call76 rfl (impl_ValidAxis.ok k), trivial⟩
theorem impl_MirrorAxis.cuts (k : Nat) : CutsOk Go.Proofs.Try.prog X (fun f => (impl_MirrorAxis.E k).lookup f) Go.Proofs.Try.f33 [] (decN impl_MirrorAxis.pr (fun (y : compT impl_MirrorAxis.pr) => ((y.1.1, y.1.2.1, y.1.2.2.1, y.1.2.2.2.1, y.1.2.2.2.2.1, y.2.1.1) : impl_MirrorAxis.N))) fun n => impl_MirrorAxis.CC (impl_MirrorAxis.cs k n) :=
  cutsOk_of (step := impl_MirrorAxis.step k) rfl (fun _ => rfl) ⟨fun _ => rfl, trivial⟩ (fun c => by kernel_rfl) fun c => ⟨fun x => by kernel_rfl, trivial⟩
theorem impl_MirrorAxis.ok (k : Nat) : FnOk Go.Proofs.Try.prog 33 (impl_MirrorAxis.F k) :=
  fn_ok tab (impl_MirrorAxis.env k) Go.Proofs.Try.func33 rfl (n := 1) (Nat.le_of_ble_eq_true rfl) (by kernel_rfl) (outs := []) (by kernel_rfl) (by kernel_rfl) (d := fun (y : compT impl_MirrorAxis.pr) => ((y.1.1, y.1.2.1, y.1.2.2.1, y.1.2.2.2.1, y.1.2.2.2.2.1, y.2.1.1) : impl_MirrorAxis.N)) (fun _ => rfl) (C := fun n => impl_MirrorAxis.CC (impl_MirrorAxis.cs k n)) (k := k) (impl_MirrorAxis.cuts k) fun x => by kernel_rfl
/-! impl.AxisOf$1 -/
@[reducible] def impl_AxisOf_1.pc : CutP := [(0, some true, [.fl (.int .i64), .fl (.int .i64), .fl (.int .i64), .fl (.int .i64)])]
@[reducible] def impl_AxisOf_1.pr : CompPs := [(false, [.fl .bool])]
abbrev impl_AxisOf_1.N := Bool
def impl_AxisOf_1.E (k : Nat) : List (FuncId × Go.Rv.Fn) := [(73, impl_ValidPose.F k)]
def impl_AxisOf_1.f (k : Nat) (a0 : Int) (a1 : Int) (a2 : Int) (a3 : Int) : Option impl_AxisOf_1.N := (impl_ValidPose.f k a0 a1 a2 a3).bind fun t1 => some (!t1)
def impl_AxisOf_1.F (k : Nat) : Go.Rv.Fn := mkFn 1 impl_AxisOf_1.pc impl_AxisOf_1.pr (keepOf []) (fun (y : impl_AxisOf_1.N) => (((y, ()), ()) : compT impl_AxisOf_1.pr)) fun x => impl_AxisOf_1.f k x.1.1 x.1.2.1 x.1.2.2.1 x.1.2.2.2.1
theorem impl_AxisOf_1.env (k : Nat) : EnvOk Go.Proofs.Try.prog (fun f => (impl_AxisOf_1.E k).lookup f) := envOk_of ⟨entry Go.Proofs.Try.call73 rfl (impl_ValidPose.ok k), trivial⟩
theorem impl_AxisOf_1.ok (k : Nat) : FnOk Go.Proofs.Try.prog 84 (impl_AxisOf_1.F k) :=
  fn_ok tab (impl_AxisOf_1.env k) Go.Proofs.Try.func84 rfl (n := 1) (Nat.le_of_ble_eq_true rfl) (by kernel_rfl) (outs := []) (by kernel_rfl) (by kernel_rfl) (d := fun (y : compT impl_AxisOf_1.pr) => (y.1.1 : impl_AxisOf_1.N)) (fun _ => rfl) (C := fun _ => []) (k := k) noCuts fun x => by kernel_rfl
/-! slices.IndexFunc[[]impl.Pose,impl.Pose] -/
@[reducible] def slices_IndexFunc_Pose_AxisOf_1.pc : CutP := [(0, some false, [.fl (.lo (.pair (.int .i64) (.pair (.int .i64) (.pair (.int .i64) (.int .i64)))))]), (1, some false, [.fn 84 []])]
@[reducible] def slices_IndexFunc_Pose_AxisOf_1.pr : CompPs := [(false, [.fl (.int .i64)])]
abbrev slices_IndexFunc_Pose_AxisOf_1.N := Int
def slices_IndexFunc_Pose_AxisOf_1.E (k : Nat) : List (FuncId × Go.Rv.Fn) := [(84, impl_AxisOf_1.F k)]
abbrev slices_IndexFunc_Pose_AxisOf_1.Cs := (List (Int × Int × Int × Int) → Int → Int → Option slices_IndexFunc_Pose_AxisOf_1.N)
def slices_IndexFunc_Pose_AxisOf_1.zero : slices_IndexFunc_Pose_AxisOf_1.Cs := (fun _ _ _ => none)
def slices_IndexFunc_Pose_AxisOf_1.step (k : Nat) (c : slices_IndexFunc_Pose_AxisOf_1.Cs) : slices_IndexFunc_Pose_AxisOf_1.Cs := (fun (x0 : List (Int × Int × Int × Int)) (x1 : Int) (x2 : Int) => (if (decide (x2 < x1)) = true then if 0 ≤ x2 then if x2 < (x0.length : Int) then (impl_AxisOf_1.f k ((rd (0, (0, (0, 0))) x0 x2).1) (((rd (0, (0, (0, 0))) x0 x2).2).1) ((((rd (0, (0, (0, 0))) x0 x2).2).2).1) ((((rd (0, (0, (0, 0))) x0 x2).2).2).2)).bind fun t1 => (if t1 = true then some x2 else c x0 x1 (wrap64 (x2 + 1))) else none else none else some (-1)))
def slices_IndexFunc_Pose_AxisOf_1.cs (k : Nat) : Nat → slices_IndexFunc_Pose_AxisOf_1.Cs
  | 0 => slices_IndexFunc_Pose_AxisOf_1.zero
  | n + 1 => slices_IndexFunc_Pose_AxisOf_1.step k (slices_IndexFunc_Pose_AxisOf_1.cs k n)
def slices_IndexFunc_Pose_AxisOf_1.CC (c : slices_IndexFunc_Pose_AxisOf_1.Cs) : Cuts slices_IndexFunc_Pose_AxisOf_1.N := [(6, ⟨[(0, some false, [.fl (.lo (.pair (.int .i64) (.pair (.int .i64) (.pair (.int .i64) (.int .i64)))))]), (1, some false, [.fn 84 []]), (7, some false, [.fl (.int .i64)]), (8, some false, [.fl (.int .i64)])], fun x => c x.1.1 x.2.2.1.1 x.2.2.2.1.1⟩)]
def slices_IndexFunc_Pose_AxisOf_1.f (k : Nat) (a0 : List (Int × Int × Int × Int)) : Option slices_IndexFunc_Pose_AxisOf_1.N := (slices_IndexFunc_Pose_AxisOf_1.cs k k) a0 (a0.length : Int) 0
def slices_IndexFunc_Pose_AxisOf_1.F (k : Nat) : Go.Rv.Fn := mkFn 2 slices_IndexFunc_Pose_AxisOf_1.pc slices_IndexFunc_Pose_AxisOf_1.pr (keepOf []) (fun (y : slices_IndexFunc_Pose_AxisOf_1.N) => (((y, ()), ()) : compT slices_IndexFunc_Pose_AxisOf_1.pr)) fun x => slices_IndexFunc_Pose_AxisOf_1.f k x.1.1
theorem slices_IndexFunc_Pose_AxisOf_1.env (k : Nat) : EnvOk Go.Proofs.Try.prog (fun f => (slices_IndexFunc_Pose_AxisOf_1.E k).lookup f) := envOk_of ⟨entry Go.Proofs.Try.call84 rfl (impl_AxisOf_1.ok k), trivial⟩
theorem slices_IndexFunc_Pose_AxisOf_1.cuts (k : Nat) : CutsOk Go.Proofs.Try.prog X (fun f => (slices_IndexFunc_Pose_AxisOf_1.E k).lookup f) Go.Proofs.Try.f104 [] (decN slices_IndexFunc_Pose_AxisOf_1.pr (fun (y : compT slices_IndexFunc_Pose_AxisOf_1.pr) => (y.1.1 : slices_IndexFunc_Pose_AxisOf_1.N))) fun n => slices_IndexFunc_Pose_AxisOf_1.CC (slices_IndexFunc_Pose_AxisOf_1.cs k n) :=
  cutsOk_of (step := slices_IndexFunc_Pose_AxisOf_1.step k) rfl (fun _ => rfl) ⟨fun _ => rfl, trivial⟩ (fun c => by kernel_rfl) fun c => ⟨fun x => by kernel_rfl, trivial⟩
theorem slices_IndexFunc_Pose_AxisOf_1.ok (k : Nat) : FnOk Go.Proofs.Try.prog 104 (slices_IndexFunc_Pose_AxisOf_1.F k) :=
  fn_ok tab (slices_IndexFunc_Pose_AxisOf_1.env k) Go.Proofs.Try.func104 rfl (n := 2) (Nat.le_of_ble_eq_true rfl) (by kernel_rfl) (outs := []) (by kernel_rfl) (by kernel_rfl) (d := fun (y : compT slices_IndexFunc_Pose_AxisOf_1.pr) => (y.1.1 : slices_IndexFunc_Pose_AxisOf_1.N)) (fun _ => rfl) (C := fun n => slices_IndexFunc_Pose_AxisOf_1.CC (slices_IndexFunc_Pose_AxisOf_1.cs k n)) (k := k) (slices_IndexFunc_Pose_AxisOf_1.cuts k) fun x => by kernel_rfl
/-! slices.ContainsFunc[[]impl.Pose,impl.Pose] -/
@[reducible] def slices_ContainsFunc_Pose_AxisOf_1.pc : CutP := [(0, some false, [.fl (.lo (.pair (.int .i64) (.pair (.int .i64) (.pair (.int .i64) (.int .i64)))))]), (1, some false, [.fn 84 []])]
@[reducible] def slices_ContainsFunc_Pose_AxisOf_1.pr : CompPs := [(false, [.fl .bool])]
abbrev slices_ContainsFunc_Pose_AxisOf_1.N := Bool
def slices_ContainsFunc_Pose_AxisOf_1.E (k : Nat) : List (FuncId × Go.Rv.Fn) := [(104, slices_IndexFunc_Pose_AxisOf_1.F k)]
def slices_ContainsFunc_Pose_AxisOf_1.f (k : Nat) (a0 : List (Int × Int × Int × Int)) : Option slices_ContainsFunc_Pose_AxisOf_1.N := (slices_IndexFunc_Pose_AxisOf_1.f k a0).bind fun (t1 : Int) => some (decide (0 ≤ t1))
def slices_ContainsFunc_Pose_AxisOf_1.F (k : Nat) : Go.Rv.Fn := mkFn 2 slices_ContainsFunc_Pose_AxisOf_1.pc slices_ContainsFunc_Pose_AxisOf_1.pr (keepOf []) (fun (y : slices_ContainsFunc_Pose_AxisOf_1.N) => (((y, ()), ()) : compT slices_ContainsFunc_Pose_AxisOf_1.pr)) fun x => slices_ContainsFunc_Pose_AxisOf_1.f k x.1.1
theorem slices_ContainsFunc_Pose_AxisOf_1.env (k : Nat) : EnvOk Go.Proofs.Try.prog (fun f => (slices_ContainsFunc_Pose_AxisOf_1.E k).lookup f) := envOk_of ⟨entry Go.Proofs.Try.call104 rfl (slices_IndexFunc_Pose_AxisOf_1.ok k), trivial⟩
theorem slices_ContainsFunc_Pose_AxisOf_1.ok (k : Nat) : FnOk Go.Proofs.Try.prog 83 (slices_ContainsFunc_Pose_AxisOf_1.F k) :=
  fn_ok tab (slices_ContainsFunc_Pose_AxisOf_1.env k) Go.Proofs.Try.func83 rfl (n := 2) (Nat.le_of_ble_eq_true rfl) (by kernel_rfl) (outs := []) (by kernel_rfl) (by kernel_rfl) (d := fun (y : compT slices_ContainsFunc_Pose_AxisOf_1.pr) => (y.1.1 : slices_ContainsFunc_Pose_AxisOf_1.N)) (fun _ => rfl) (C := fun _ => []) (k := k) noCuts fun x => by kernel_rfl
/-! impl.merged -/
@[reducible] def impl_merged.pc : CutP := [(0, some false, [.fl (.lo (.pair (.int .i64) (.pair (.int .i64) (.int .i64))))])]
@[reducible] def impl_merged.pr : CompPs := [(false, [.fl (.own (.pair (.int .i64) (.pair (.int .i64) (.int .i64))))])]
abbrev impl_merged.N := List (Int × Int × Int)
def impl_merged.E (k : Nat) : List (FuncId × Go.Rv.Fn) := []
abbrev impl_merged.Cs := (List (Int × Int × Int) → List (Int × Int × Int) → Int → Int → Option impl_merged.N)
def impl_merged.zero : impl_merged.Cs := (fun _ _ _ _ => none)
def impl_merged.step (k : Nat) (c : impl_merged.Cs) : impl_merged.Cs := (fun (x0 : List (Int × Int × Int)) (x1 : List (Int × Int × Int)) (x2 : Int) (x3 : Int) => (if (decide (x3 < x2)) = true then if 0 ≤ x3 then if x3 < (x1.length : Int) then (if (decide (0 < (x0.length : Int))) = true then if 0 ≤ (wrap64 ((x0.length : Int) - 1)) then if (wrap64 ((x0.length : Int) - 1)) < (x0.length : Int) then (if (decide (((rd (0, (0, 0)) x0 (wrap64 ((x0.length : Int) - 1))).2).1 = ((rd (0, (0, 0)) x1 x3).2).1)) = true then if 0 ≤ (wrap64 ((x0.length : Int) - 1)) then if (wrap64 ((x0.length : Int) - 1)) < (x0.length : Int) then (if (decide (((rd (0, (0, 0)) x0 (wrap64 ((x0.length : Int) - 1))).2).2 = ((rd (0, (0, 0)) x1 x3).2).2)) = true then if 0 ≤ (wrap64 ((x0.length : Int) - 1)) then if (wrap64 ((x0.length : Int) - 1)) < (x0.length : Int) then if 0 ≤ (wrap64 ((x0.length : Int) - 1)) then if (wrap64 ((x0.length : Int) - 1)) < (x0.length : Int) then c (x0.set (wrap64 ((x0.length : Int) - 1)).toNat ((wrap64 ((rd (0, (0, 0)) x0 (wrap64 ((x0.length : Int) - 1))).1 + (rd (0, (0, 0)) x1 x3).1)), (((rd (0, (0, 0)) x0 (wrap64 ((x0.length : Int) - 1))).2).1, ((rd (0, (0, 0)) x0 (wrap64 ((x0.length : Int) - 1))).2).2))) x1 x2 (wrap64 (x3 + 1)) else none else none else none else none else if x0.length + [((rd (0, (0, 0)) x1 x3).1, (((rd (0, (0, 0)) x1 x3).2).1, ((rd (0, (0, 0)) x1 x3).2).2))].length < 366503875925 then c (x0 ++ [((rd (0, (0, 0)) x1 x3).1, (((rd (0, (0, 0)) x1 x3).2).1, ((rd (0, (0, 0)) x1 x3).2).2))]) x1 x2 (wrap64 (x3 + 1)) else none) else none else none else if x0.length + [((rd (0, (0, 0)) x1 x3).1, (((rd (0, (0, 0)) x1 x3).2).1, ((rd (0, (0, 0)) x1 x3).2).2))].length < 366503875925 then c (x0 ++ [((rd (0, (0, 0)) x1 x3).1, (((rd (0, (0, 0)) x1 x3).2).1, ((rd (0, (0, 0)) x1 x3).2).2))]) x1 x2 (wrap64 (x3 + 1)) else none) else none else none else if x0.length + [((rd (0, (0, 0)) x1 x3).1, (((rd (0, (0, 0)) x1 x3).2).1, ((rd (0, (0, 0)) x1 x3).2).2))].length < 366503875925 then c (x0 ++ [((rd (0, (0, 0)) x1 x3).1, (((rd (0, (0, 0)) x1 x3).2).1, ((rd (0, (0, 0)) x1 x3).2).2))]) x1 x2 (wrap64 (x3 + 1)) else none) else none else none else some x0))
def impl_merged.cs (k : Nat) : Nat → impl_merged.Cs
  | 0 => impl_merged.zero
  | n + 1 => impl_merged.step k (impl_merged.cs k n)
def impl_merged.CC (c : impl_merged.Cs) : Cuts impl_merged.N := [(8, ⟨[(3, some false, [.fl (.own (.pair (.int .i64) (.pair (.int .i64) (.int .i64))))]), (8, some false, [.fl (.lo (.pair (.int .i64) (.pair (.int .i64) (.int .i64))))]), (9, some false, [.fl (.int .i64)]), (10, some false, [.fl (.int .i64)])], fun x => c x.1.1 x.2.1.1 x.2.2.1.1 x.2.2.2.1.1⟩)]
def impl_merged.f (k : Nat) (a0 : List (Int × Int × Int)) : Option impl_merged.N := (impl_merged.cs k k) ([] : List (Int × Int × Int)) a0 (a0.length : Int) 0
def impl_merged.F (k : Nat) : Go.Rv.Fn := mkFn 1 impl_merged.pc impl_merged.pr (keepOf []) (fun (y : impl_merged.N) => (((y, ()), ()) : compT impl_merged.pr)) fun x => impl_merged.f k x.1.1
theorem impl_merged.env (k : Nat) : EnvOk Go.Proofs.Try.prog (fun f => (impl_merged.E k).lookup f) := envOk_of trivial
theorem impl_merged.cuts (k : Nat) : CutsOk Go.Proofs.Try.prog X (fun f => (impl_merged.E k).lookup f) Go.Proofs.Try.f82 [] (decN impl_merged.pr (fun (y : compT impl_merged.pr) => (y.1.1 : impl_merged.N))) fun n => impl_merged.CC (impl_merged.cs k n) :=
  cutsOk_of (step := impl_merged.step k) rfl (fun _ => rfl) ⟨fun _ => rfl, trivial⟩ (fun c => by kernel_rfl) fun c => ⟨fun x => by kernel_rfl, trivial⟩
theorem impl_merged.ok (k : Nat) : FnOk Go.Proofs.Try.prog 82 (impl_merged.F k) :=
  fn_ok tab (impl_merged.env k) Go.Proofs.Try.func82 rfl (n := 1) (Nat.le_of_ble_eq_true rfl) (by kernel_rfl) (outs := []) (by kernel_rfl) (by kernel_rfl) (d := fun (y : compT impl_merged.pr) => (y.1.1 : impl_merged.N)) (fun _ => rfl) (C := fun n => impl_merged.CC (impl_merged.cs k n)) (k := k) (impl_merged.cuts k) fun x => by kernel_rfl
/-! slices.Equal[[]impl.Pose,impl.Pose] -/
@[reducible] def slices_Equal_Pose.pc : CutP := [(0, some false, [.fl (.lo (.pair (.int .i64) (.pair (.int .i64) (.pair (.int .i64) (.int .i64)))))]), (1, some false, [.fl (.lo (.pair (.int .i64) (.pair (.int .i64) (.pair (.int .i64) (.int .i64)))))])]
@[reducible] def slices_Equal_Pose.pr : CompPs := [(false, [.fl .bool])]
abbrev slices_Equal_Pose.N := Bool
def slices_Equal_Pose.E (k : Nat) : List (FuncId × Go.Rv.Fn) := []
abbrev slices_Equal_Pose.Cs := (List (Int × Int × Int × Int) → List (Int × Int × Int × Int) → Int → Int → Option slices_Equal_Pose.N)
def slices_Equal_Pose.zero : slices_Equal_Pose.Cs := (fun _ _ _ _ => none)
def slices_Equal_Pose.step (k : Nat) (c : slices_Equal_Pose.Cs) : slices_Equal_Pose.Cs := (fun (x0 : List (Int × Int × Int × Int)) (x1 : List (Int × Int × Int × Int)) (x2 : Int) (x3 : Int) => (if (decide (x3 < x2)) = true then if 0 ≤ x3 then if x3 < (x0.length : Int) then if 0 ≤ x3 then if x3 < (x1.length : Int) then (if (!(decide ((rd (0, (0, (0, 0))) x0 x3).1 = (rd (0, (0, (0, 0))) x1 x3).1) && (decide (((rd (0, (0, (0, 0))) x0 x3).2).1 = ((rd (0, (0, (0, 0))) x1 x3).2).1) && (decide ((((rd (0, (0, (0, 0))) x0 x3).2).2).1 = (((rd (0, (0, (0, 0))) x1 x3).2).2).1) && (decide ((((rd (0, (0, (0, 0))) x0 x3).2).2).2 = (((rd (0, (0, (0, 0))) x1 x3).2).2).2) && true))))) = true then some false else c x0 x1 x2 (wrap64 (x3 + 1))) else none else none else none else none else some true))
def slices_Equal_Pose.cs (k : Nat) : Nat → slices_Equal_Pose.Cs
  | 0 => slices_Equal_Pose.zero
  | n + 1 => slices_Equal_Pose.step k (slices_Equal_Pose.cs k n)
def slices_Equal_Pose.CC (c : slices_Equal_Pose.Cs) : Cuts slices_Equal_Pose.N := [(14, ⟨[(0, some false, [.fl (.lo (.pair (.int .i64) (.pair (.int .i64) (.pair (.int .i64) (.int .i64)))))]), (1, some false, [.fl (.lo (.pair (.int .i64) (.pair (.int .i64) (.pair (.int .i64) (.int .i64)))))]), (12, some false, [.fl (.int .i64)]), (13, some false, [.fl (.int .i64)])], fun x => c x.1.1 x.2.1.1 x.2.2.1.1 x.2.2.2.1.1⟩)]
def slices_Equal_Pose.f (k : Nat) (a0 : List (Int × Int × Int × Int)) (a1 : List (Int × Int × Int × Int)) : Option slices_Equal_Pose.N := (if (!decide ((a0.length : Int) = (a1.length : Int))) = true then some false else (slices_Equal_Pose.cs k k) a0 a1 (a0.length : Int) 0)
def slices_Equal_Pose.F (k : Nat) : Go.Rv.Fn := mkFn 2 slices_Equal_Pose.pc slices_Equal_Pose.pr (keepOf []) (fun (y : slices_Equal_Pose.N) => (((y, ()), ()) : compT slices_Equal_Pose.pr)) fun x => slices_Equal_Pose.f k x.1.1 x.2.1.1
theorem slices_Equal_Pose.env (k : Nat) : EnvOk Go.Proofs.Try.prog (fun f => (slices_Equal_Pose.E k).lookup f) := envOk_of trivial
theorem slices_Equal_Pose.cuts (k : Nat) : CutsOk Go.Proofs.Try.prog X (fun f => (slices_Equal_Pose.E k).lookup f) Go.Proofs.Try.f85 [] (decN slices_Equal_Pose.pr (fun (y : compT slices_Equal_Pose.pr) => (y.1.1 : slices_Equal_Pose.N))) fun n => slices_Equal_Pose.CC (slices_Equal_Pose.cs k n) :=
  cutsOk_of (step := slices_Equal_Pose.step k) rfl (fun _ => rfl) ⟨fun _ => rfl, trivial⟩ (fun c => by kernel_rfl) fun c => ⟨fun x => by kernel_rfl, trivial⟩
theorem slices_Equal_Pose.ok (k : Nat) : FnOk Go.Proofs.Try.prog 85 (slices_Equal_Pose.F k) :=
  fn_ok tab (slices_Equal_Pose.env k) Go.Proofs.Try.func85 rfl (n := 2) (Nat.le_of_ble_eq_true rfl) (by kernel_rfl) (outs := []) (by kernel_rfl) (by kernel_rfl) (d := fun (y : compT slices_Equal_Pose.pr) => (y.1.1 : slices_Equal_Pose.N)) (fun _ => rfl) (C := fun n => slices_Equal_Pose.CC (slices_Equal_Pose.cs k n)) (k := k) (slices_Equal_Pose.cuts k) fun x => by kernel_rfl
/-! impl.AxisOf -/
@[reducible] def impl_AxisOf.pc : CutP := [(0, some false, [.fl (.lo (.pair (.int .i64) (.pair (.int .i64) (.pair (.int .i64) (.int .i64)))))])]
@[reducible] def impl_AxisOf.pr : CompPs := [(true, [.fl (.int .i64), .fl (.int .i64), .fl (.int .i64), .fl (.int .i64), .fl (.hi (.pair (.int .i64) (.pair (.int .i64) (.int .i64))))]), (false, [.fl .bool])]
abbrev impl_AxisOf.N := Int × Int × Int × Int × List (Int × Int × Int) × Bool
def impl_AxisOf.E (k : Nat) : List (FuncId × Go.Rv.Fn) := [(65, impl_Axis_poses.F k), (82, impl_merged.F k), (83, slices_ContainsFunc_Pose_AxisOf_1.F k), (85, slices_Equal_Pose.F k)]
abbrev impl_AxisOf.Cs := (List (Int × Int × Int × Int) → Int → Int → Int → Int → Option impl_AxisOf.N) × (List (Int × Int × Int × Int) → Int → Int → Int → Int → List (Int × Int × Int) → List (Int × Int × Int × Int) → Int → Int → Option impl_AxisOf.N)
def impl_AxisOf.zero : impl_AxisOf.Cs := (fun _ _ _ _ _ => none, fun _ _ _ _ _ _ _ _ _ => none)
def impl_AxisOf.step (k : Nat) (c : impl_AxisOf.Cs) : impl_AxisOf.Cs := (fun (x0 : List (Int × Int × Int × Int)) (x1 : Int) (x2 : Int) (x3 : Int) (x4 : Int) => if 0 ≤ 1 then if 1 ≤ (x0.length : Int) then c.2 x0 x1 x2 x3 x4 ([] : List (Int × Int × Int)) (x0.drop (1 : Int).toNat) ((x0.drop (1 : Int).toNat).length : Int) 0 else none else none,
  fun (x0 : List (Int × Int × Int × Int)) (x1 : Int) (x2 : Int) (x3 : Int) (x4 : Int) (x5 : List (Int × Int × Int)) (x6 : List (Int × Int × Int × Int)) (x7 : Int) (x8 : Int) => (if (decide (x8 < x7)) = true then if 0 ≤ x8 then if x8 < (x6.length : Int) then if 0 ≤ x8 then if x8 < (x0.length : Int) then if 0 ≤ x8 then if x8 < (x0.length : Int) then if x5.length + [(1, ((wrap64 ((((rd (0, (0, (0, 0))) x6 x8).2).2).1 - (((rd (0, (0, (0, 0))) x0 x8).2).2).1)), (wrap64 ((((rd (0, (0, (0, 0))) x6 x8).2).2).2 - (((rd (0, (0, (0, 0))) x0 x8).2).2).2))))].length < 366503875925 then c.2 x0 x1 x2 x3 x4 (x5 ++ [(1, ((wrap64 ((((rd (0, (0, (0, 0))) x6 x8).2).2).1 - (((rd (0, (0, (0, 0))) x0 x8).2).2).1)), (wrap64 ((((rd (0, (0, (0, 0))) x6 x8).2).2).2 - (((rd (0, (0, (0, 0))) x0 x8).2).2).2))))]) x6 x7 (wrap64 (x8 + 1)) else none else none else none else none else none else none else none else if 0 ≤ 0 then if 0 < (x0.length : Int) then (impl_merged.f k x5).bind fun t2 => (impl_Axis_poses.f k ((rd (0, (0, (0, 0))) x0 0).1) (((rd (0, (0, (0, 0))) x0 0).2).1) ((((rd (0, (0, (0, 0))) x0 0).2).2).1) ((((rd (0, (0, (0, 0))) x0 0).2).2).2) t2).bind fun t3 => (if (!t3.2) = true then some (0, 0, 0, 0, ([] : List (Int × Int × Int)), false) else (slices_Equal_Pose.f k t3.1 x0).bind fun t4 => (if (!t4) = true then some (0, 0, 0, 0, ([] : List (Int × Int × Int)), false) else some ((rd (0, (0, (0, 0))) x0 0).1, ((rd (0, (0, (0, 0))) x0 0).2).1, (((rd (0, (0, (0, 0))) x0 0).2).2).1, (((rd (0, (0, (0, 0))) x0 0).2).2).2, t2, true))) else none else none))
def impl_AxisOf.cs (k : Nat) : Nat → impl_AxisOf.Cs
  | 0 => impl_AxisOf.zero
  | n + 1 => impl_AxisOf.step k (impl_AxisOf.cs k n)
def impl_AxisOf.CC (c : impl_AxisOf.Cs) : Cuts impl_AxisOf.N := [(2, ⟨[(0, some false, [.fl (.lo (.pair (.int .i64) (.pair (.int .i64) (.pair (.int .i64) (.int .i64)))))]), (2, none, [.fl (.int .i64), .fl (.int .i64), .fl (.int .i64), .fl (.int .i64), .fl .nils])], fun x => c.1 x.1.1 x.2.1.1 x.2.1.2.1 x.2.1.2.2.1 x.2.1.2.2.2.1⟩),
  (16, ⟨[(0, some false, [.fl (.lo (.pair (.int .i64) (.pair (.int .i64) (.pair (.int .i64) (.int .i64)))))]), (2, none, [.fl (.int .i64), .fl (.int .i64), .fl (.int .i64), .fl (.int .i64), .fl .nils]), (4, some false, [.fl (.own (.pair (.int .i64) (.pair (.int .i64) (.int .i64))))]), (25, some false, [.fl (.lo (.pair (.int .i64) (.pair (.int .i64) (.pair (.int .i64) (.int .i64)))))]), (26, some false, [.fl (.int .i64)]), (27, some false, [.fl (.int .i64)])], fun x => c.2 x.1.1 x.2.1.1 x.2.1.2.1 x.2.1.2.2.1 x.2.1.2.2.2.1 x.2.2.1.1 x.2.2.2.1.1 x.2.2.2.2.1.1 x.2.2.2.2.2.1.1⟩)]
def impl_AxisOf.f (k : Nat) (a0 : List (Int × Int × Int × Int)) : Option impl_AxisOf.N := (if (decide ((a0.length : Int) < 2)) = true then some (0, 0, 0, 0, ([] : List (Int × Int × Int)), false) else (if (decide (61 < (a0.length : Int))) = true then some (0, 0, 0, 0, ([] : List (Int × Int × Int)), false) else (slices_ContainsFunc_Pose_AxisOf_1.f k a0).bind fun t1 => (if t1 = true then some (0, 0, 0, 0, ([] : List (Int × Int × Int)), false) else (impl_AxisOf.cs k k).1 a0 0 0 0 0)))
def impl_AxisOf.F (k : Nat) : Go.Rv.Fn := mkFn 1 impl_AxisOf.pc impl_AxisOf.pr (keepOf []) (fun (y : impl_AxisOf.N) => (((y.1, y.2.1, y.2.2.1, y.2.2.2.1, y.2.2.2.2.1, ()), (y.2.2.2.2.2, ()), ()) : compT impl_AxisOf.pr)) fun x => impl_AxisOf.f k x.1.1
theorem impl_AxisOf.env (k : Nat) : EnvOk Go.Proofs.Try.prog (fun f => (impl_AxisOf.E k).lookup f) := envOk_of ⟨entry Go.Proofs.Try.call65 rfl (impl_Axis_poses.ok k), entry Go.Proofs.Try.call82 rfl (impl_merged.ok k), entry Go.Proofs.Try.call83 rfl (slices_ContainsFunc_Pose_AxisOf_1.ok k), entry Go.Proofs.Try.call85 rfl (slices_Equal_Pose.ok k), trivial⟩
theorem impl_AxisOf.cuts (k : Nat) : CutsOk Go.Proofs.Try.prog X (fun f => (impl_AxisOf.E k).lookup f) Go.Proofs.Try.f42 [] (decN impl_AxisOf.pr (fun (y : compT impl_AxisOf.pr) => ((y.1.1, y.1.2.1, y.1.2.2.1, y.1.2.2.2.1, y.1.2.2.2.2.1, y.2.1.1) : impl_AxisOf.N))) fun n => impl_AxisOf.CC (impl_AxisOf.cs k n) :=
  cutsOk_of (step := impl_AxisOf.step k) rfl (fun _ => rfl) ⟨fun _ => rfl, fun _ => rfl, trivial⟩ (fun c => by kernel_rfl) fun c => ⟨fun x => by kernel_rfl, fun x => by kernel_rfl, trivial⟩
theorem impl_AxisOf.ok (k : Nat) : FnOk Go.Proofs.Try.prog 42 (impl_AxisOf.F k) :=
  fn_ok tab (impl_AxisOf.env k) Go.Proofs.Try.func42 rfl (n := 1) (Nat.le_of_ble_eq_true rfl) (by kernel_rfl) (outs := []) (by kernel_rfl) (by kernel_rfl) (d := fun (y : compT impl_AxisOf.pr) => ((y.1.1, y.1.2.1, y.1.2.2.1, y.1.2.2.2.1, y.1.2.2.2.2.1, y.2.1.1) : impl_AxisOf.N)) (fun _ => rfl) (C := fun n => impl_AxisOf.CC (impl_AxisOf.cs k n)) (k := k) (impl_AxisOf.cuts k) fun x => by kernel_rfl
/-! impl.ReverseAxis -/
@[reducible] def impl_ReverseAxis.pc : CutP := [(0, some true, [.fl (.int .i64), .fl (.int .i64), .fl (.int .i64), .fl (.int .i64), .fl (.lo (.pair (.int .i64) (.pair (.int .i64) (.int .i64))))])]
@[reducible] def impl_ReverseAxis.pr : CompPs := [(true, [.fl (.int .i64), .fl (.int .i64), .fl (.int .i64), .fl (.int .i64), .fl (.hi (.pair (.int .i64) (.pair (.int .i64) (.int .i64))))]), (false, [.fl .bool])]
abbrev impl_ReverseAxis.N := Int × Int × Int × Int × List (Int × Int × Int) × Bool
def impl_ReverseAxis.E (k : Nat) : List (FuncId × Go.Rv.Fn) := [(42, impl_AxisOf.F k), (65, impl_Axis_poses.F k)]
abbrev impl_ReverseAxis.Cs := (Int → Int → Int → Int → List (Int × Int × Int × Int) → List (Int × Int × Int × Int) → Int → Int → Int → Option impl_ReverseAxis.N)
def impl_ReverseAxis.zero : impl_ReverseAxis.Cs := (fun _ _ _ _ _ _ _ _ _ => none)
def impl_ReverseAxis.step (k : Nat) (c : impl_ReverseAxis.Cs) : impl_ReverseAxis.Cs := (fun (x0 : Int) (x1 : Int) (x2 : Int) (x3 : Int) (x4 : List (Int × Int × Int × Int)) (x5 : List (Int × Int × Int × Int)) (x6 : Int) (x7 : Int) (x8 : Int) => (if (decide (x8 < x7)) = true then if 0 ≤ (wrap64 ((wrap64 (x6 - 1)) - x8)) then if (wrap64 ((wrap64 (x6 - 1)) - x8)) < (x4.length : Int) then if 0 ≤ (wrap64 ((wrap64 (x6 - 1)) - x8)) then if (wrap64 ((wrap64 (x6 - 1)) - x8)) < (x4.length : Int) then (if (decide ((wrap64 (x8 + 1)) < x6)) = true then if 0 ≤ (wrap64 ((wrap64 (x6 - 2)) - x8)) then if (wrap64 ((wrap64 (x6 - 2)) - x8)) < (x4.length : Int) then if 0 ≤ (wrap64 ((wrap64 (x6 - 2)) - x8)) then if (wrap64 ((wrap64 (x6 - 2)) - x8)) < (x4.length : Int) then if x5.length + [((rd (0, (0, (0, 0))) x4 (wrap64 ((wrap64 (x6 - 1)) - x8))).1, (((rd (0, (0, (0, 0))) x4 (wrap64 ((wrap64 (x6 - 1)) - x8))).2).1, ((wrap64 ((rd (0, (0, (0, 0))) x4 (wrap64 ((wrap64 (x6 - 2)) - x8))).1 - (rd (0, (0, (0, 0))) x4 (wrap64 ((wrap64 (x6 - 1)) - x8))).1)), (wrap64 (((rd (0, (0, (0, 0))) x4 (wrap64 ((wrap64 (x6 - 2)) - x8))).2).1 - ((rd (0, (0, (0, 0))) x4 (wrap64 ((wrap64 (x6 - 1)) - x8))).2).1)))))].length < 274877906944 then c x0 x1 x2 x3 x4 (x5 ++ [((rd (0, (0, (0, 0))) x4 (wrap64 ((wrap64 (x6 - 1)) - x8))).1, (((rd (0, (0, (0, 0))) x4 (wrap64 ((wrap64 (x6 - 1)) - x8))).2).1, ((wrap64 ((rd (0, (0, (0, 0))) x4 (wrap64 ((wrap64 (x6 - 2)) - x8))).1 - (rd (0, (0, (0, 0))) x4 (wrap64 ((wrap64 (x6 - 1)) - x8))).1)), (wrap64 (((rd (0, (0, (0, 0))) x4 (wrap64 ((wrap64 (x6 - 2)) - x8))).2).1 - ((rd (0, (0, (0, 0))) x4 (wrap64 ((wrap64 (x6 - 1)) - x8))).2).1)))))]) x6 x7 (wrap64 (x8 + 1)) else none else none else none else none else none else if 0 ≤ (wrap64 (x8 - 1)) then if (wrap64 (x8 - 1)) < (x5.length : Int) then if 0 ≤ (wrap64 (x8 - 1)) then if (wrap64 (x8 - 1)) < (x5.length : Int) then if x5.length + [((rd (0, (0, (0, 0))) x4 (wrap64 ((wrap64 (x6 - 1)) - x8))).1, (((rd (0, (0, (0, 0))) x4 (wrap64 ((wrap64 (x6 - 1)) - x8))).2).1, ((((rd (0, (0, (0, 0))) x5 (wrap64 (x8 - 1))).2).2).1, (((rd (0, (0, (0, 0))) x5 (wrap64 (x8 - 1))).2).2).2)))].length < 274877906944 then c x0 x1 x2 x3 x4 (x5 ++ [((rd (0, (0, (0, 0))) x4 (wrap64 ((wrap64 (x6 - 1)) - x8))).1, (((rd (0, (0, (0, 0))) x4 (wrap64 ((wrap64 (x6 - 1)) - x8))).2).1, ((((rd (0, (0, (0, 0))) x5 (wrap64 (x8 - 1))).2).2).1, (((rd (0, (0, (0, 0))) x5 (wrap64 (x8 - 1))).2).2).2)))]) x6 x7 (wrap64 (x8 + 1)) else none else none else none else none else none) else none else none else none else none else (impl_AxisOf.f k x5).bind fun t2 => some (t2.1, t2.2.1, t2.2.2.1, t2.2.2.2.1, t2.2.2.2.2.1, t2.2.2.2.2.2)))
def impl_ReverseAxis.cs (k : Nat) : Nat → impl_ReverseAxis.Cs
  | 0 => impl_ReverseAxis.zero
  | n + 1 => impl_ReverseAxis.step k (impl_ReverseAxis.cs k n)
def impl_ReverseAxis.CC (c : impl_ReverseAxis.Cs) : Cuts impl_ReverseAxis.N := [(18, ⟨[(2, none, [.fl (.int .i64), .fl (.int .i64), .fl (.int .i64), .fl (.int .i64), .fl .nils]), (4, some false, [.fl (.own (.pair (.int .i64) (.pair (.int .i64) (.pair (.int .i64) (.int .i64)))))]), (6, some false, [.fl (.own (.pair (.int .i64) (.pair (.int .i64) (.pair (.int .i64) (.int .i64)))))]), (7, some false, [.fl (.int .i64)]), (21, some false, [.fl (.int .i64)]), (22, some false, [.fl (.int .i64)])], fun x => c x.1.1 x.1.2.1 x.1.2.2.1 x.1.2.2.2.1 x.2.1.1 x.2.2.1.1 x.2.2.2.1.1 x.2.2.2.2.1.1 x.2.2.2.2.2.1.1⟩)]
def impl_ReverseAxis.f (k : Nat) (a0 : Int) (a1 : Int) (a2 : Int) (a3 : Int) (a4 : List (Int × Int × Int)) : Option impl_ReverseAxis.N := (impl_Axis_poses.f k a0 a1 a2 a3 a4).bind fun t1 => (if (!t1.2) = true then some (0, 0, 0, 0, ([] : List (Int × Int × Int)), false) else (impl_ReverseAxis.cs k k) 0 0 0 0 t1.1 ([] : List (Int × Int × Int × Int)) (t1.1.length : Int) (t1.1.length : Int) 0)
def impl_ReverseAxis.F (k : Nat) : Go.Rv.Fn := mkFn 1 impl_ReverseAxis.pc impl_ReverseAxis.pr (keepOf []) (fun (y : impl_ReverseAxis.N) => (((y.1, y.2.1, y.2.2.1, y.2.2.2.1, y.2.2.2.2.1, ()), (y.2.2.2.2.2, ()), ()) : compT impl_ReverseAxis.pr)) fun x => impl_ReverseAxis.f k x.1.1 x.1.2.1 x.1.2.2.1 x.1.2.2.2.1 x.1.2.2.2.2.1
theorem impl_ReverseAxis.env (k : Nat) : EnvOk Go.Proofs.Try.prog (fun f => (impl_ReverseAxis.E k).lookup f) := envOk_of ⟨entry Go.Proofs.Try.call42 rfl (impl_AxisOf.ok k), entry Go.Proofs.Try.call65 rfl (impl_Axis_poses.ok k), trivial⟩
theorem impl_ReverseAxis.cuts (k : Nat) : CutsOk Go.Proofs.Try.prog X (fun f => (impl_ReverseAxis.E k).lookup f) Go.Proofs.Try.f34 [] (decN impl_ReverseAxis.pr (fun (y : compT impl_ReverseAxis.pr) => ((y.1.1, y.1.2.1, y.1.2.2.1, y.1.2.2.2.1, y.1.2.2.2.2.1, y.2.1.1) : impl_ReverseAxis.N))) fun n => impl_ReverseAxis.CC (impl_ReverseAxis.cs k n) :=
  cutsOk_of (step := impl_ReverseAxis.step k) rfl (fun _ => rfl) ⟨fun _ => rfl, trivial⟩ (fun c => by kernel_rfl) fun c => ⟨fun x => by kernel_rfl, trivial⟩
theorem impl_ReverseAxis.ok (k : Nat) : FnOk Go.Proofs.Try.prog 34 (impl_ReverseAxis.F k) :=
  fn_ok tab (impl_ReverseAxis.env k) Go.Proofs.Try.func34 rfl (n := 1) (Nat.le_of_ble_eq_true rfl) (by kernel_rfl) (outs := []) (by kernel_rfl) (by kernel_rfl) (d := fun (y : compT impl_ReverseAxis.pr) => ((y.1.1, y.1.2.1, y.1.2.2.1, y.1.2.2.2.1, y.1.2.2.2.2.1, y.2.1.1) : impl_ReverseAxis.N)) (fun _ => rfl) (C := fun n => impl_ReverseAxis.CC (impl_ReverseAxis.cs k n)) (k := k) (impl_ReverseAxis.cuts k) fun x => by kernel_rfl
/-! laws.FnReversed -/
@[reducible] def laws_FnReversed.pc : CutP := [(0, some false, [.fl (.lo (.int .u8))]), (1, some false, [.fl (.lo (.int .u8))])]
@[reducible] def laws_FnReversed.pr : CompPs := [(false, [.fl .bool])]
abbrev laws_FnReversed.N := Bool
def laws_FnReversed.E (k : Nat) : List (FuncId × Go.Rv.Fn) := [(21, laws_r8Long.F k), (22, spec_R8Axis.F k), (24, impl_PosesOf.F k), (33, impl_MirrorAxis.F k), (34, impl_ReverseAxis.F k)]
abbrev laws_FnReversed.Cs := (Int → Int → Int → Int → List (Int × Int × Int) → List (Int × Int × Int × Int) → List (Int × Int × Int × Int) → Option laws_FnReversed.N) × (Int → Int → Int → Int → List (Int × Int × Int) → List (Int × Int × Int × Int) → List (Int × Int × Int × Int) → Int → Option laws_FnReversed.N) × (List (Int × Int × Int × Int) → List (Int × Int × Int × Int) → Option laws_FnReversed.N) × (List (Int × Int × Int × Int) → List (Int × Int × Int × Int) → Int → Option laws_FnReversed.N)
def laws_FnReversed.zero : laws_FnReversed.Cs := (fun _ _ _ _ _ _ _ => none, fun _ _ _ _ _ _ _ _ => none, fun _ _ => none, fun _ _ _ => none)
def laws_FnReversed.step (k : Nat) (c : laws_FnReversed.Cs) : laws_FnReversed.Cs := (fun (x0 : Int) (x1 : Int) (x2 : Int) (x3 : Int) (x4 : List (Int × Int × Int)) (x5 : List (Int × Int × Int × Int)) (x6 : List (Int × Int × Int × Int)) => c.2.1 x0 x1 x2 x3 x4 x5 x6 0,
  fun (x0 : Int) (x1 : Int) (x2 : Int) (x3 : Int) (x4 : List (Int × Int × Int)) (x5 : List (Int × Int × Int × Int)) (x6 : List (Int × Int × Int × Int)) (x7 : Int) => (if (decide (x7 < (x5.length : Int))) = true then if 0 ≤ x7 then if x7 < (x5.length : Int) then if 0 ≤ x7 then if x7 < (x6.length : Int) then (if (!(decide ((rd (0, (0, (0, 0))) x6 x7).1 = (wrap64 (0 - (rd (0, (0, (0, 0))) x5 x7).1))) && (decide (((rd (0, (0, (0, 0))) x6 x7).2).1 = ((rd (0, (0, (0, 0))) x5 x7).2).1) && (decide ((((rd (0, (0, (0, 0))) x6 x7).2).2).1 = (wrap64 (0 - (((rd (0, (0, (0, 0))) x5 x7).2).2).1))) && (decide ((((rd (0, (0, (0, 0))) x6 x7).2).2).2 = (((rd (0, (0, (0, 0))) x5 x7).2).2).2) && true))))) = true then some false else c.2.1 x0 x1 x2 x3 x4 x5 x6 (wrap64 (x7 + 1))) else none else none else none else none else (impl_ReverseAxis.f k x0 x1 x2 x3 x4).bind fun t6 => (if (!t6.2.2.2.2.2) = true then some (decide (8 ≤ (x4.length : Int))) else (impl_PosesOf.f k t6.1 t6.2.1 t6.2.2.1 t6.2.2.2.1 t6.2.2.2.2.1).bind fun t7 => (if (!t7.2) = true then some false else (if (!decide ((t7.1.length : Int) = (x5.length : Int))) = true then some false else c.2.2.1 x5 t7.1)))),
  fun (x0 : List (Int × Int × Int × Int)) (x1 : List (Int × Int × Int × Int)) => c.2.2.2 x0 x1 0,
  fun (x0 : List (Int × Int × Int × Int)) (x1 : List (Int × Int × Int × Int)) (x2 : Int) => (if (decide (x2 < (x0.length : Int))) = true then if 0 ≤ (wrap64 ((wrap64 ((x0.length : Int) - 1)) - x2)) then if (wrap64 ((wrap64 ((x0.length : Int) - 1)) - x2)) < (x0.length : Int) then if 0 ≤ x2 then if x2 < (x1.length : Int) then (if (!decide ((rd (0, (0, (0, 0))) x1 x2).1 = (rd (0, (0, (0, 0))) x0 (wrap64 ((wrap64 ((x0.length : Int) - 1)) - x2))).1)) = true then some false else if 0 ≤ x2 then if x2 < (x1.length : Int) then (if (!decide (((rd (0, (0, (0, 0))) x1 x2).2).1 = ((rd (0, (0, (0, 0))) x0 (wrap64 ((wrap64 ((x0.length : Int) - 1)) - x2))).2).1)) = true then some false else c.2.2.2 x0 x1 (wrap64 (x2 + 1))) else none else none) else none else none else none else none else some true))
def laws_FnReversed.cs (k : Nat) : Nat → laws_FnReversed.Cs
  | 0 => laws_FnReversed.zero
  | n + 1 => laws_FnReversed.step k (laws_FnReversed.cs k n)
def laws_FnReversed.CC (c : laws_FnReversed.Cs) : Cuts laws_FnReversed.N := [(18, ⟨[(5, none, [.fl (.int .i64), .fl (.int .i64), .fl (.int .i64), .fl (.int .i64), .fl (.own (.pair (.int .i64) (.pair (.int .i64) (.int .i64))))]), (6, some false, [.fl (.own (.pair (.int .i64) (.pair (.int .i64) (.pair (.int .i64) (.int .i64)))))]), (10, some false, [.fl (.own (.pair (.int .i64) (.pair (.int .i64) (.pair (.int .i64) (.int .i64)))))])], fun x => c.1 x.1.1 x.1.2.1 x.1.2.2.1 x.1.2.2.2.1 x.1.2.2.2.2.1 x.2.1.1 x.2.2.1.1⟩),
  (30, ⟨[(5, none, [.fl (.int .i64), .fl (.int .i64), .fl (.int .i64), .fl (.int .i64), .fl (.own (.pair (.int .i64) (.pair (.int .i64) (.int .i64))))]), (6, some false, [.fl (.own (.pair (.int .i64) (.pair (.int .i64) (.pair (.int .i64) (.int .i64)))))]), (10, some false, [.fl (.own (.pair (.int .i64) (.pair (.int .i64) (.pair (.int .i64) (.int .i64)))))]), (12, some false, [.fl (.int .i64)])], fun x => c.2.1 x.1.1 x.1.2.1 x.1.2.2.1 x.1.2.2.2.1 x.1.2.2.2.2.1 x.2.1.1 x.2.2.1.1 x.2.2.2.1.1⟩),
  (61, ⟨[(6, some false, [.fl (.own (.pair (.int .i64) (.pair (.int .i64) (.pair (.int .i64) (.int .i64)))))]), (16, some false, [.fl (.own (.pair (.int .i64) (.pair (.int .i64) (.pair (.int .i64) (.int .i64)))))])], fun x => c.2.2.1 x.1.1 x.2.1.1⟩),
  (73, ⟨[(6, some false, [.fl (.own (.pair (.int .i64) (.pair (.int .i64) (.pair (.int .i64) (.int .i64)))))]), (16, some false, [.fl (.own (.pair (.int .i64) (.pair (.int .i64) (.pair (.int .i64) (.int .i64)))))]), (18, some false, [.fl (.int .i64)])], fun x => c.2.2.2 x.1.1 x.2.1.1 x.2.2.1.1⟩)]
def laws_FnReversed.f (k : Nat) (a0 : List Int) (a1 : List Int) : Option laws_FnReversed.N := (laws_r8Long.f k a0 a1).bind fun t1 => (if t1 = true then some true else (spec_R8Axis.f k a0).bind fun t2 => (impl_PosesOf.f k t2.1 t2.2.1 t2.2.2.1 t2.2.2.2.1 t2.2.2.2.2).bind fun t3 => (impl_MirrorAxis.f k t2.1 t2.2.1 t2.2.2.1 t2.2.2.2.1 t2.2.2.2.2).bind fun t4 => (impl_PosesOf.f k t4.1 t4.2.1 t4.2.2.1 t4.2.2.2.1 t4.2.2.2.2.1).bind fun t5 => (if (!t3.2) = true then some false else (if (!t4.2.2.2.2.2) = true then some false else (if (!t5.2) = true then some false else (if (decide ((t3.1.length : Int) < 2)) = true then some false else (if (!decide ((t5.1.length : Int) = (t3.1.length : Int))) = true then some false else (laws_FnReversed.cs k k).1 t2.1 t2.2.1 t2.2.2.1 t2.2.2.2.1 t2.2.2.2.2 t3.1 t5.1))))))
def laws_FnReversed.F (k : Nat) : Go.Rv.Fn := mkFn 2 laws_FnReversed.pc laws_FnReversed.pr (keepOf []) (fun (y : laws_FnReversed.N) => (((y, ()), ()) : compT laws_FnReversed.pr)) fun x => laws_FnReversed.f k x.1.1 x.2.1.1
theorem laws_FnReversed.env (k : Nat) : EnvOk Go.Proofs.Try.prog (fun f => (laws_FnReversed.E k).lookup f) := envOk_of ⟨entry Go.Proofs.Try.call21 rfl (laws_r8Long.ok k), entry Go.Proofs.Try.call22 rfl (spec_R8Axis.ok k), entry Go.Proofs.Try.call24 rfl (impl_PosesOf.ok k), entry Go.Proofs.Try.call33 rfl (impl_MirrorAxis.ok k), entry Go.Proofs.Try.call34 rfl (impl_ReverseAxis.ok k), trivial⟩
theorem laws_FnReversed.cuts (k : Nat) : CutsOk Go.Proofs.Try.prog X (fun f => (laws_FnReversed.E k).lookup f) Go.Proofs.Try.f6 [] (decN laws_FnReversed.pr (fun (y : compT laws_FnReversed.pr) => (y.1.1 : laws_FnReversed.N))) fun n => laws_FnReversed.CC (laws_FnReversed.cs k n) :=
  cutsOk_of (step := laws_FnReversed.step k) rfl (fun _ => rfl) ⟨fun _ => rfl, fun _ => rfl, fun _ => rfl, fun _ => rfl, trivial⟩ (fun c => by kernel_rfl) fun c => ⟨fun x => by kernel_rfl, fun x => by kernel_rfl, fun x => by kernel_rfl, fun x => by kernel_rfl, trivial⟩
theorem laws_FnReversed.ok (k : Nat) : FnOk Go.Proofs.Try.prog 6 (laws_FnReversed.F k) :=
  fn_ok tab (laws_FnReversed.env k) Go.Proofs.Try.func6 rfl (n := 2) (Nat.le_of_ble_eq_true rfl) (by kernel_rfl) (outs := []) (by kernel_rfl) (by kernel_rfl) (d := fun (y : compT laws_FnReversed.pr) => (y.1.1 : laws_FnReversed.N)) (fun _ => rfl) (C := fun n => laws_FnReversed.CC (laws_FnReversed.cs k n)) (k := k) (laws_FnReversed.cuts k) fun x => by kernel_rfl
end Go.Proofs.Ytkmnllcccgnliaa.R
