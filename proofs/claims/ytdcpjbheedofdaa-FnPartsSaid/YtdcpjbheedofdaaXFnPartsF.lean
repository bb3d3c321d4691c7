-- written by wip/rev/gen2.py for this claim (out of the translation). Lean checks it.
import Derived.Test.YtdcpjbheedofdaaRvM2
import Derived.Test.YtdcpjbheedofdaaProg
import Derived.Test.YtdcpjbheedofdaaRvMid
namespace Go.Proofs.Ytdcpjbheedofdaa.R
open Go.Rv
set_option linter.unusedVariables false
set_option maxRecDepth 100000
def X : Env := { n := 0, keep := [], tab := [(2, { ty := (.int .i64) }),
  (3, { ty := (.int .i64) }),
  (5, { ty := (.int .u8) }),
  (22, { ty := (.sl (.int .u8)) }),
  (32, { ty := (.sl (.int .i64)) }),
  (52, { ty := (.int .u64) }),
  (54, { ty := (.pair (.sl (.int .u8)) (.pair (.int .i64) (.int .u64))), agg := true, offs := [(0, 1, false), (1, 1, false), (2, 1, false)] })] }
theorem tab : TabOk Go.Proofs.Try.prog X := ⟨by kernel_rfl, by kernel_rfl⟩
/-! laws.b10Long -/
@[reducible] def laws_b10Long.pc : CutP := [(0, some false, [.fl (.lo (.int .u8))]), (1, some false, [.fl (.lo (.int .u8))])]
@[reducible] def laws_b10Long.pr : CompPs := [(false, [.fl .bool])]
abbrev laws_b10Long.N := Bool
noncomputable def laws_b10Long.E (k : Nat) : List (FuncId × Go.Rv.Fn) := []
noncomputable def laws_b10Long.f (k : Nat) (a0 : List Int) (a1 : List Int) : Option laws_b10Long.N := (if (decide (1048576 < (a0.length : Int))) = true then some true else some (decide (1048576 < (a1.length : Int))))
noncomputable def laws_b10Long.F (k : Nat) : Go.Rv.Fn := mkFn 2 laws_b10Long.pc laws_b10Long.pr (keepOf []) (fun (y : laws_b10Long.N) => (((y, ()), ()) : compT laws_b10Long.pr)) fun x => laws_b10Long.f k x.1.1 x.2.1.1
theorem laws_b10Long.env (k : Nat) : EnvOk Go.Proofs.Try.prog (fun f => (laws_b10Long.E k).lookup f) := envOk_of trivial
theorem laws_b10Long.ok (k : Nat) : FnOk Go.Proofs.Try.prog 5 (laws_b10Long.F k) :=
  fn_ok tab (laws_b10Long.env k) Go.Proofs.Try.func5 rfl (n := 2) (Nat.le_of_ble_eq_true rfl) (by kernel_rfl) (outs := []) (by kernel_rfl) (by kernel_rfl) (d := fun (y : compT laws_b10Long.pr) => (y.1.1 : laws_b10Long.N)) (fun _ => rfl) (C := fun _ => []) (k := k) noCuts fun x => by kernel_rfl
/-! laws.b10At -/
@[reducible] def laws_b10At.pc : CutP := [(0, some false, [.fl (.lo (.int .u8))]), (1, some false, [.fl (.int .i64)]), (2, some false, [.fl (.int .i64)])]
@[reducible] def laws_b10At.pr : CompPs := [(false, [.fl (.int .i64)])]
abbrev laws_b10At.N := Int
noncomputable def laws_b10At.E (k : Nat) : List (FuncId × Go.Rv.Fn) := []
noncomputable def laws_b10At.f (k : Nat) (a0 : List Int) (a1 : Int) (a2 : Int) : Option laws_b10At.N := (if (decide (a2 ≤ 1)) = true then some 0 else (if (decide (a1 < (a0.length : Int))) = true then if 0 ≤ a1 then if a1 < (a0.length : Int) then (if a2 = 0 then none else some ((wrap64 ((rd 0 a0 a1))).tmod a2)) else none else none else (if a2 = 0 then none else some ((wrap64 ((wrap64 (a1 * 37)) + 11)).tmod a2))))
noncomputable def laws_b10At.F (k : Nat) : Go.Rv.Fn := mkFn 3 laws_b10At.pc laws_b10At.pr (keepOf []) (fun (y : laws_b10At.N) => (((y, ()), ()) : compT laws_b10At.pr)) fun x => laws_b10At.f k x.1.1 x.2.1.1 x.2.2.1.1
theorem laws_b10At.env (k : Nat) : EnvOk Go.Proofs.Try.prog (fun f => (laws_b10At.E k).lookup f) := envOk_of trivial
theorem laws_b10At.ok (k : Nat) : FnOk Go.Proofs.Try.prog 12 (laws_b10At.F k) :=
  fn_ok tab (laws_b10At.env k) Go.Proofs.Try.func12 rfl (n := 3) (Nat.le_of_ble_eq_true rfl) (by kernel_rfl) (outs := []) (by kernel_rfl) (by kernel_rfl) (d := fun (y : compT laws_b10At.pr) => (y.1.1 : laws_b10At.N)) (fun _ => rfl) (C := fun _ => []) (k := k) noCuts fun x => by kernel_rfl
/-! impl.within -/
@[reducible] def impl_within.pc : CutP := [(0, some false, [.fl (.int .i64)]), (1, some false, [.fl (.int .i64)]), (2, some false, [.fl (.int .i64)])]
@[reducible] def impl_within.pr : CompPs := [(false, [.fl .bool])]
abbrev impl_within.N := Bool
noncomputable def impl_within.E (k : Nat) : List (FuncId × Go.Rv.Fn) := []
noncomputable def impl_within.f (k : Nat) (a0 : Int) (a1 : Int) (a2 : Int) : Option impl_within.N := (if (decide (a1 ≤ a0)) = true then some (decide (a0 ≤ a2)) else some false)
noncomputable def impl_within.F (k : Nat) : Go.Rv.Fn := mkFn 3 impl_within.pc impl_within.pr (keepOf []) (fun (y : impl_within.N) => (((y, ()), ()) : compT impl_within.pr)) fun x => impl_within.f k x.1.1 x.2.1.1 x.2.2.1.1
theorem impl_within.env (k : Nat) : EnvOk Go.Proofs.Try.prog (fun f => (impl_within.E k).lookup f) := envOk_of trivial
theorem impl_within.ok (k : Nat) : FnOk Go.Proofs.Try.prog 24 (impl_within.F k) :=
  fn_ok tab (impl_within.env k) Go.Proofs.Try.func24 rfl (n := 3) (Nat.le_of_ble_eq_true rfl) (by kernel_rfl) (outs := []) (by kernel_rfl) (by kernel_rfl) (d := fun (y : compT impl_within.pr) => (y.1.1 : impl_within.N)) (fun _ => rfl) (C := fun _ => []) (k := k) noCuts fun x => by kernel_rfl
/-! impl.SplitEven -/
@[reducible] def impl_SplitEven.pc : CutP := [(0, some false, [.fl (.int .i64)]), (1, some false, [.fl (.int .i64)])]
@[reducible] def impl_SplitEven.pr : CompPs := [(false, [.fl (.own (.int .i64))]), (false, [.fl .bool])]
abbrev impl_SplitEven.N := List Int × Bool
noncomputable def impl_SplitEven.E (k : Nat) : List (FuncId × Go.Rv.Fn) := [(24, impl_within.F k)]
abbrev impl_SplitEven.Cs := (Int → Int → Option impl_SplitEven.N) × (Int → Int → List Int → Int → Int → Option impl_SplitEven.N)
def impl_SplitEven.zero : impl_SplitEven.Cs := (fun _ _ => none, fun _ _ _ _ _ => none)
noncomputable def impl_SplitEven.step (k : Nat) (c : impl_SplitEven.Cs) : impl_SplitEven.Cs := (fun (x0 : Int) (x1 : Int) => c.2 x0 x1 ([] : List Int) x1 0,
  fun (x0 : Int) (x1 : Int) (x2 : List Int) (x3 : Int) (x4 : Int) => (if (decide (x4 < x3)) = true then (if x1 = 0 then none else (if x1 = 0 then none else if x2.length + [(wrap64 ((wrap64 ((wrap64 ((wrap64 (x4 + 1)) * x0)).tdiv x1)) - (wrap64 ((wrap64 (x4 * x0)).tdiv x1))))].length < 1099511627776 then c.2 x0 x1 (x2 ++ [(wrap64 ((wrap64 ((wrap64 ((wrap64 (x4 + 1)) * x0)).tdiv x1)) - (wrap64 ((wrap64 (x4 * x0)).tdiv x1))))]) x3 (wrap64 (x4 + 1)) else none)) else some (x2, true)))
noncomputable def impl_SplitEven.cs (k : Nat) : Nat → impl_SplitEven.Cs
  | 0 => impl_SplitEven.zero
  | n + 1 => impl_SplitEven.step k (impl_SplitEven.cs k n)
def impl_SplitEven.CC (c : impl_SplitEven.Cs) : Cuts impl_SplitEven.N := [(2, ⟨[(0, some false, [.fl (.int .i64)]), (1, some false, [.fl (.int .i64)])], fun x => c.1 x.1.1 x.2.1.1⟩),
  (16, ⟨[(0, some false, [.fl (.int .i64)]), (1, some false, [.fl (.int .i64)]), (6, some false, [.fl (.own (.int .i64))]), (17, some false, [.fl (.int .i64)]), (18, some false, [.fl (.int .i64)])], fun x => c.2 x.1.1 x.2.1.1 x.2.2.1.1 x.2.2.2.1.1 x.2.2.2.2.1.1⟩)]
noncomputable def impl_SplitEven.f (k : Nat) (a0 : Int) (a1 : Int) : Option impl_SplitEven.N := (impl_within.f k a0 0 1000000000).bind fun t1 => (if (!t1) = true then some ([], false) else (impl_within.f k a1 1 64).bind fun t2 => (if (!t2) = true then some ([], false) else (impl_SplitEven.cs k k).1 a0 a1))
noncomputable def impl_SplitEven.F (k : Nat) : Go.Rv.Fn := mkFn 2 impl_SplitEven.pc impl_SplitEven.pr (keepOf []) (fun (y : impl_SplitEven.N) => (((y.1, ()), (y.2, ()), ()) : compT impl_SplitEven.pr)) fun x => impl_SplitEven.f k x.1.1 x.2.1.1
theorem impl_SplitEven.env (k : Nat) : EnvOk Go.Proofs.Try.prog (fun f => (impl_SplitEven.E k).lookup f) := envOk_of ⟨entry Go.Proofs.Try.call24 rfl (impl_within.ok k), trivial⟩
theorem impl_SplitEven.cuts (k : Nat) : CutsOk Go.Proofs.Try.prog X (fun f => (impl_SplitEven.E k).lookup f) Go.Proofs.Try.f13 [] (decN impl_SplitEven.pr (fun (y : compT impl_SplitEven.pr) => ((y.1.1, y.2.1.1) : impl_SplitEven.N))) fun n => impl_SplitEven.CC (impl_SplitEven.cs k n) :=
  cutsOk_of (step := impl_SplitEven.step k) rfl (fun _ => rfl) ⟨fun _ => rfl, fun _ => rfl, trivial⟩ (fun c => by kernel_rfl) fun c => ⟨fun x => by kernel_rfl, fun x => by kernel_rfl, trivial⟩
theorem impl_SplitEven.ok (k : Nat) : FnOk Go.Proofs.Try.prog 13 (impl_SplitEven.F k) :=
  fn_ok tab (impl_SplitEven.env k) Go.Proofs.Try.func13 rfl (n := 2) (Nat.le_of_ble_eq_true rfl) (by kernel_rfl) (outs := []) (by kernel_rfl) (by kernel_rfl) (d := fun (y : compT impl_SplitEven.pr) => ((y.1.1, y.2.1.1) : impl_SplitEven.N)) (fun _ => rfl) (C := fun n => impl_SplitEven.CC (impl_SplitEven.cs k n)) (k := k) (impl_SplitEven.cuts k) fun x => by kernel_rfl
/-! laws.b10Sum -/
@[reducible] def laws_b10Sum.pc : CutP := [(0, some false, [.fl (.lo (.int .i64))])]
@[reducible] def laws_b10Sum.pr : CompPs := [(false, [.fl (.int .i64)])]
abbrev laws_b10Sum.N := Int
noncomputable def laws_b10Sum.E (k : Nat) : List (FuncId × Go.Rv.Fn) := []
abbrev laws_b10Sum.Cs := (List Int → Int → Int → Option laws_b10Sum.N)
def laws_b10Sum.zero : laws_b10Sum.Cs := (fun _ _ _ => none)
noncomputable def laws_b10Sum.step (k : Nat) (c : laws_b10Sum.Cs) : laws_b10Sum.Cs := (fun (x0 : List Int) (x1 : Int) (x2 : Int) => (if (decide (x2 < (x0.length : Int))) = true then if 0 ≤ x2 then if x2 < (x0.length : Int) then c x0 (wrap64 (x1 + (rd 0 x0 x2))) (wrap64 (x2 + 1)) else none else none else some x1))
noncomputable def laws_b10Sum.cs (k : Nat) : Nat → laws_b10Sum.Cs
  | 0 => laws_b10Sum.zero
  | n + 1 => laws_b10Sum.step k (laws_b10Sum.cs k n)
def laws_b10Sum.CC (c : laws_b10Sum.Cs) : Cuts laws_b10Sum.N := [(8, ⟨[(0, some false, [.fl (.lo (.int .i64))]), (3, some false, [.fl (.int .i64)]), (4, some false, [.fl (.int .i64)])], fun x => c x.1.1 x.2.1.1 x.2.2.1.1⟩)]
noncomputable def laws_b10Sum.f (k : Nat) (a0 : List Int) : Option laws_b10Sum.N := (laws_b10Sum.cs k k) a0 0 0
noncomputable def laws_b10Sum.F (k : Nat) : Go.Rv.Fn := mkFn 1 laws_b10Sum.pc laws_b10Sum.pr (keepOf []) (fun (y : laws_b10Sum.N) => (((y, ()), ()) : compT laws_b10Sum.pr)) fun x => laws_b10Sum.f k x.1.1
theorem laws_b10Sum.env (k : Nat) : EnvOk Go.Proofs.Try.prog (fun f => (laws_b10Sum.E k).lookup f) := envOk_of trivial
theorem laws_b10Sum.cuts (k : Nat) : CutsOk Go.Proofs.Try.prog X (fun f => (laws_b10Sum.E k).lookup f) Go.Proofs.Try.f14 [] (decN laws_b10Sum.pr (fun (y : compT laws_b10Sum.pr) => (y.1.1 : laws_b10Sum.N))) fun n => laws_b10Sum.CC (laws_b10Sum.cs k n) :=
  cutsOk_of (step := laws_b10Sum.step k) rfl (fun _ => rfl) ⟨fun _ => rfl, trivial⟩ (fun c => by kernel_rfl) fun c => ⟨fun x => by kernel_rfl, trivial⟩
theorem laws_b10Sum.ok (k : Nat) : FnOk Go.Proofs.Try.prog 14 (laws_b10Sum.F k) :=
  fn_ok tab (laws_b10Sum.env k) Go.Proofs.Try.func14 rfl (n := 1) (Nat.le_of_ble_eq_true rfl) (by kernel_rfl) (outs := []) (by kernel_rfl) (by kernel_rfl) (d := fun (y : compT laws_b10Sum.pr) => (y.1.1 : laws_b10Sum.N)) (fun _ => rfl) (C := fun n => laws_b10Sum.CC (laws_b10Sum.cs k n)) (k := k) (laws_b10Sum.cuts k) fun x => by kernel_rfl
/-! spec.l00From -/
@[reducible] def spec_l00From.bp : List FPat := [(.lo (.int .u8)), (.int .i64), (.int .u64)]
@[reducible] def spec_l00From.pc : CutP := [(0, some false, [.fl (.lo (.int .u8))])]
@[reducible] def spec_l00From.pr : CompPs := []
abbrev spec_l00From.N := List Int × Int × Int
noncomputable def spec_l00From.E (k : Nat) : List (FuncId × Go.Rv.Fn) := []
noncomputable def spec_l00From.f (k : Nat) (a0 : List Int) : Option spec_l00From.N := some (a0, 0, 0)
noncomputable def spec_l00From.F (k : Nat) : Go.Rv.Fn := mkFnR 1 spec_l00From.pc spec_l00From.bp (fun (y : spec_l00From.N) => ((y.1, y.2.1, y.2.2, ()) : fpatsT spec_l00From.bp)) fun x => spec_l00From.f k x.1.1
theorem spec_l00From.env (k : Nat) : EnvOk Go.Proofs.Try.prog (fun f => (spec_l00From.E k).lookup f) := envOk_of trivial
theorem spec_l00From.ok (k : Nat) : FnOk Go.Proofs.Try.prog 19 (spec_l00From.F k) :=
  fn_okR tab (spec_l00From.env k) Go.Proofs.Try.func19 rfl (n := 1) (Nat.le_of_ble_eq_true rfl) (by kernel_rfl) (by kernel_rfl) (d := fun (y : fpatsT spec_l00From.bp) => ((y.1, y.2.1, y.2.2.1) : spec_l00From.N)) (fun _ => rfl) (C := (fun _ => [])) (k := k) noCutsG fun x => by kernel_rfl
/-! (*spec.l00Src).next -/
@[reducible] def spec_l00Src_next.bp : List FPat := [(.lo (.int .u8)), (.int .i64), (.int .u64)]
@[reducible] def spec_l00Src_next.pc : CutP := [(0, none, [.fl (.lo (.int .u8)), .fl (.int .i64), .fl (.int .u64)])]
@[reducible] def spec_l00Src_next.pr : CompPs := [(false, [.fl (.int .i64)])]
abbrev spec_l00Src_next.N := Int × List Int × Int × Int
noncomputable def spec_l00Src_next.E (k : Nat) : List (FuncId × Go.Rv.Fn) := []
abbrev spec_l00Src_next.Cs := (List Int → Int → Int → Int → Option spec_l00Src_next.N)
def spec_l00Src_next.zero : spec_l00Src_next.Cs := (fun _ _ _ _ => none)
noncomputable def spec_l00Src_next.step (k : Nat) (c : spec_l00Src_next.Cs) : spec_l00Src_next.Cs := (fun (x0 : List Int) (x1 : Int) (x2 : Int) (x3 : Int) => (if (decide ((wrap64 (x1 + 1)) ≤ (x0.length : Int))) = true then some (x3, x0, (wrap64 (x1 + 1)), (IntKind.u64.wrap ((IntKind.u64.wrap ((IntKind.u64.wrap (x2 * 6364136223846793005)) + (IntKind.u64.wrap (x3)))) + 1442695040888963407))) else (if 40 < 0 then none else some ((wrap64 ((IntKind.u64.wrap ((BitVec.ofInt IntKind.u64.bits ((IntKind.u64.wrap ((IntKind.u64.wrap ((IntKind.u64.wrap (x2 * 6364136223846793005)) + (IntKind.u64.wrap (x3)))) + 1442695040888963407)).fdiv (2 ^ min (40 : Int).toNat IntKind.u64.bits)) &&& BitVec.ofInt IntKind.u64.bits 255).toNat : Int)))), x0, (wrap64 (x1 + 1)), (IntKind.u64.wrap ((IntKind.u64.wrap ((IntKind.u64.wrap (x2 * 6364136223846793005)) + (IntKind.u64.wrap (x3)))) + 1442695040888963407))))))
noncomputable def spec_l00Src_next.cs (k : Nat) : Nat → spec_l00Src_next.Cs
  | 0 => spec_l00Src_next.zero
  | n + 1 => spec_l00Src_next.step k (spec_l00Src_next.cs k n)
def spec_l00Src_next.CC (c : spec_l00Src_next.Cs) : Cuts spec_l00Src_next.N := [(4, ⟨[(0, none, [.fl (.lo (.int .u8)), .fl (.int .i64), .fl (.int .u64)]), (3, some false, [.fl (.int .i64)])], fun x => c x.1.1 x.1.2.1 x.1.2.2.1 x.2.1.1⟩)]
noncomputable def spec_l00Src_next.f (k : Nat) (a0 : List Int) (a1 : Int) (a2 : Int) : Option spec_l00Src_next.N := (if (decide (a1 < (a0.length : Int))) = true then if 0 ≤ a1 then if a1 < (a0.length : Int) then (spec_l00Src_next.cs k k) a0 a1 a2 (wrap64 ((rd 0 a0 a1))) else none else none else (spec_l00Src_next.cs k k) a0 a1 a2 0)
noncomputable def spec_l00Src_next.F (k : Nat) : Go.Rv.Fn := mkFnB 0 spec_l00Src_next.pc spec_l00Src_next.pr spec_l00Src_next.bp (fun (y : spec_l00Src_next.N) => ((((y.1, ()), ()), (y.2.1, y.2.2.1, y.2.2.2, ())) : compT spec_l00Src_next.pr × fpatsT spec_l00Src_next.bp)) fun x => spec_l00Src_next.f k x.1.1 x.1.2.1 x.1.2.2.1
theorem spec_l00Src_next.env (k : Nat) : EnvOk Go.Proofs.Try.prog (fun f => (spec_l00Src_next.E k).lookup f) := envOk_of trivial
theorem spec_l00Src_next.cuts (k : Nat) : CutsOkG Go.Proofs.Try.prog { X with n := Go.Proofs.Try.f30.ntmps, keep := [0] } (fun f => (spec_l00Src_next.E k).lookup f) Go.Proofs.Try.f30 (endB { X with n := Go.Proofs.Try.f30.ntmps, keep := [0] } Go.Proofs.Try.f30 spec_l00Src_next.pr spec_l00Src_next.bp (fun (y : compT spec_l00Src_next.pr × fpatsT spec_l00Src_next.bp) => ((y.1.1.1, y.2.1, y.2.2.1, y.2.2.2.1) : spec_l00Src_next.N))) fun n => spec_l00Src_next.CC (spec_l00Src_next.cs k n) :=
  cutsOkG_of (step := spec_l00Src_next.step k) rfl (fun _ => rfl) ⟨fun _ => rfl, trivial⟩ (fun c => by kernel_rfl) fun c => ⟨fun x => by kernel_rfl, trivial⟩
theorem spec_l00Src_next.ok (k : Nat) : FnOkB Go.Proofs.Try.prog 30 (spec_l00Src_next.F k) :=
  fn_okB tab (spec_l00Src_next.env k) Go.Proofs.Try.func30 rfl (n := 0) (Nat.le_of_ble_eq_true rfl) (by kernel_rfl) (by kernel_rfl) (by kernel_rfl) (d := fun (y : compT spec_l00Src_next.pr × fpatsT spec_l00Src_next.bp) => ((y.1.1.1, y.2.1, y.2.2.1, y.2.2.2.1) : spec_l00Src_next.N)) (fun _ => rfl) (C := (fun n => spec_l00Src_next.CC (spec_l00Src_next.cs k n))) (k := k) (spec_l00Src_next.cuts k) fun x => by kernel_rfl
/-! (*spec.l00Src).pick -/
@[reducible] def spec_l00Src_pick.bp : List FPat := [(.lo (.int .u8)), (.int .i64), (.int .u64)]
@[reducible] def spec_l00Src_pick.pc : CutP := [(0, none, [.fl (.lo (.int .u8)), .fl (.int .i64), .fl (.int .u64)]), (1, some false, [.fl (.int .i64)])]
@[reducible] def spec_l00Src_pick.pr : CompPs := [(false, [.fl (.int .i64)])]
abbrev spec_l00Src_pick.N := Int × List Int × Int × Int
noncomputable def spec_l00Src_pick.E (k : Nat) : List (FuncId × Go.Rv.Fn) := [(30, spec_l00Src_next.F k)]
noncomputable def spec_l00Src_pick.f (k : Nat) (a0 : List Int) (a1 : Int) (a2 : Int) (a3 : Int) : Option spec_l00Src_pick.N := (if (decide (a3 ≤ 1)) = true then some (0, a0, a1, a2) else (spec_l00Src_next.f k a0 a1 a2).bind fun t1 => (if (decide (200 < a3)) = true then (spec_l00Src_next.f k t1.2.1 t1.2.2.1 t1.2.2.2).bind fun t2 => (if a3 = 0 then none else some (((wrap64 ((wrap64 (t1.1 * 256)) + t2.1)).tmod a3), t2.2.1, t2.2.2.1, t2.2.2.2)) else (if a3 = 0 then none else some ((t1.1.tmod a3), t1.2.1, t1.2.2.1, t1.2.2.2))))
noncomputable def spec_l00Src_pick.F (k : Nat) : Go.Rv.Fn := mkFnB 1 spec_l00Src_pick.pc spec_l00Src_pick.pr spec_l00Src_pick.bp (fun (y : spec_l00Src_pick.N) => ((((y.1, ()), ()), (y.2.1, y.2.2.1, y.2.2.2, ())) : compT spec_l00Src_pick.pr × fpatsT spec_l00Src_pick.bp)) fun x => spec_l00Src_pick.f k x.1.1 x.1.2.1 x.1.2.2.1 x.2.1.1
theorem spec_l00Src_pick.env (k : Nat) : EnvOk Go.Proofs.Try.prog (fun f => (spec_l00Src_pick.E k).lookup f) := envOk_of ⟨entryB Go.Proofs.Try.call30 rfl (spec_l00Src_next.ok k), trivial⟩
theorem spec_l00Src_pick.ok (k : Nat) : FnOkB Go.Proofs.Try.prog 20 (spec_l00Src_pick.F k) :=
  fn_okB tab (spec_l00Src_pick.env k) Go.Proofs.Try.func20 rfl (n := 1) (Nat.le_of_ble_eq_true rfl) (by kernel_rfl) (by kernel_rfl) (by kernel_rfl) (d := fun (y : compT spec_l00Src_pick.pr × fpatsT spec_l00Src_pick.bp) => ((y.1.1.1, y.2.1, y.2.2.1, y.2.2.2.1) : spec_l00Src_pick.N)) (fun _ => rfl) (C := (fun _ => [])) (k := k) noCutsG fun x => by kernel_rfl
/-! spec.B10List -/
@[reducible] def spec_B10List.pc : CutP := [(0, some false, [.fl (.lo (.int .u8))])]
@[reducible] def spec_B10List.pr : CompPs := [(false, [.fl (.own (.int .i64))])]
abbrev spec_B10List.N := List Int
noncomputable def spec_B10List.E (k : Nat) : List (FuncId × Go.Rv.Fn) := [(19, spec_l00From.F k), (20, spec_l00Src_pick.F k)]
abbrev spec_B10List.Cs := (List Int → Int → List Int → Int → Int → Option spec_B10List.N)
def spec_B10List.zero : spec_B10List.Cs := (fun _ _ _ _ _ => none)
noncomputable def spec_B10List.step (k : Nat) (c : spec_B10List.Cs) : spec_B10List.Cs := (fun (x0 : List Int) (x1 : Int) (x2 : List Int) (x3 : Int) (x4 : Int) => (if (decide (0 < x1)) = true then (spec_l00Src_pick.f k x2 x3 x4 30).bind fun t4 => if x0.length + [(wrap64 (t4.1 - 10))].length < 1099511627776 then c (x0 ++ [(wrap64 (t4.1 - 10))]) (wrap64 (x1 - 1)) t4.2.1 t4.2.2.1 t4.2.2.2 else none else some x0))
noncomputable def spec_B10List.cs (k : Nat) : Nat → spec_B10List.Cs
  | 0 => spec_B10List.zero
  | n + 1 => spec_B10List.step k (spec_B10List.cs k n)
def spec_B10List.CC (c : spec_B10List.Cs) : Cuts spec_B10List.N := [(10, ⟨[(3, some false, [.fl (.ptr 7 0)]), (4, some false, [.fl (.own (.int .i64))]), (5, some false, [.fl (.int .i64)]), (7, none, [.fl (.lo (.int .u8)), .fl (.int .i64), .fl (.int .u64)])], fun x => c x.2.1.1 x.2.2.1.1 x.2.2.2.1.1 x.2.2.2.1.2.1 x.2.2.2.1.2.2.1⟩)]
noncomputable def spec_B10List.f (k : Nat) (a0 : List Int) : Option spec_B10List.N := (spec_l00From.f k a0).bind fun t1 => (spec_l00Src_pick.f k t1.1 t1.2.1 t1.2.2 30).bind fun t2 => (spec_l00Src_pick.f k t2.2.1 t2.2.2.1 t2.2.2.2 9).bind fun t3 => (spec_B10List.cs k k) [(wrap64 (t2.1 - 10))] t3.1 t3.2.1 t3.2.2.1 t3.2.2.2
noncomputable def spec_B10List.F (k : Nat) : Go.Rv.Fn := mkFn 1 spec_B10List.pc spec_B10List.pr (keepOf []) (fun (y : spec_B10List.N) => (((y, ()), ()) : compT spec_B10List.pr)) fun x => spec_B10List.f k x.1.1
theorem spec_B10List.env (k : Nat) : EnvOk Go.Proofs.Try.prog (fun f => (spec_B10List.E k).lookup f) := envOk_of ⟨entry Go.Proofs.Try.call19 rfl (spec_l00From.ok k), entryB Go.Proofs.Try.call20 rfl (spec_l00Src_pick.ok k), trivial⟩
theorem spec_B10List.cuts (k : Nat) : CutsOk Go.Proofs.Try.prog X (fun f => (spec_B10List.E k).lookup f) Go.Proofs.Try.f15 [] (decN spec_B10List.pr (fun (y : compT spec_B10List.pr) => (y.1.1 : spec_B10List.N))) fun n => spec_B10List.CC (spec_B10List.cs k n) :=
  cutsOk_of (step := spec_B10List.step k) rfl (fun _ => rfl) ⟨fun _ => rfl, trivial⟩ (fun c => by kernel_rfl) fun c => ⟨fun x => by kernel_rfl, trivial⟩
theorem spec_B10List.ok (k : Nat) : FnOk Go.Proofs.Try.prog 15 (spec_B10List.F k) :=
  fn_ok tab (spec_B10List.env k) Go.Proofs.Try.func15 rfl (n := 1) (Nat.le_of_ble_eq_true rfl) (by kernel_rfl) (outs := []) (by kernel_rfl) (by kernel_rfl) (d := fun (y : compT spec_B10List.pr) => (y.1.1 : spec_B10List.N)) (fun _ => rfl) (C := fun n => spec_B10List.CC (spec_B10List.cs k n)) (k := k) (spec_B10List.cuts k) fun x => by kernel_rfl
/-! impl.areWithin$1 -/
@[reducible] def impl_areWithin_1.pc : CutP := [(0, some false, [.fl (.int .i64)]), (1, some false, [.rptr [(.int .i64)]]), (2, some false, [.rptr [(.int .i64)]])]
@[reducible] def impl_areWithin_1.pr : CompPs := [(false, [.fl .bool])]
abbrev impl_areWithin_1.N := Bool
noncomputable def impl_areWithin_1.E (k : Nat) : List (FuncId × Go.Rv.Fn) := [(24, impl_within.F k)]
noncomputable def impl_areWithin_1.f (k : Nat) (a0 : Int) (a1 : Int) (a2 : Int) : Option impl_areWithin_1.N := (impl_within.f k a0 a1 a2).bind fun t1 => some (!t1)
noncomputable def impl_areWithin_1.F (k : Nat) : Go.Rv.Fn := mkFn 3 impl_areWithin_1.pc impl_areWithin_1.pr (keepOf []) (fun (y : impl_areWithin_1.N) => (((y, ()), ()) : compT impl_areWithin_1.pr)) fun x => impl_areWithin_1.f k x.1.1 x.2.1.1.1 x.2.2.1.1.1
theorem impl_areWithin_1.env (k : Nat) : EnvOk Go.Proofs.Try.prog (fun f => (impl_areWithin_1.E k).lookup f) := envOk_of ⟨entry Go.Proofs.Try.call24 rfl (impl_within.ok k), trivial⟩
theorem impl_areWithin_1.ok (k : Nat) : FnOk Go.Proofs.Try.prog 45 (impl_areWithin_1.F k) :=
  fn_ok tab (impl_areWithin_1.env k) Go.Proofs.Try.func45 rfl (n := 3) (Nat.le_of_ble_eq_true rfl) (by kernel_rfl) (outs := []) (by kernel_rfl) (by kernel_rfl) (d := fun (y : compT impl_areWithin_1.pr) => (y.1.1 : impl_areWithin_1.N)) (fun _ => rfl) (C := fun _ => []) (k := k) noCuts fun x => by kernel_rfl
/-! slices.IndexFunc[[]int64,int64] -/
@[reducible] def slices_IndexFunc_int64_areWithin_1.pc : CutP := [(0, some false, [.fl (.lo (.int .i64))]), (1, some false, [.fn 45 [[(.int .i64)], [(.int .i64)]]])]
@[reducible] def slices_IndexFunc_int64_areWithin_1.pr : CompPs := [(false, [.fl (.int .i64)])]
abbrev slices_IndexFunc_int64_areWithin_1.N := Int
noncomputable def slices_IndexFunc_int64_areWithin_1.E (k : Nat) : List (FuncId × Go.Rv.Fn) := [(45, impl_areWithin_1.F k)]
abbrev slices_IndexFunc_int64_areWithin_1.Cs := (List Int → Int → Int → Int → Int → Option slices_IndexFunc_int64_areWithin_1.N)
def slices_IndexFunc_int64_areWithin_1.zero : slices_IndexFunc_int64_areWithin_1.Cs := (fun _ _ _ _ _ => none)
noncomputable def slices_IndexFunc_int64_areWithin_1.step (k : Nat) (c : slices_IndexFunc_int64_areWithin_1.Cs) : slices_IndexFunc_int64_areWithin_1.Cs := (fun (x0 : List Int) (x1 : Int) (x2 : Int) (x3 : Int) (x4 : Int) => (if (decide (x4 < x3)) = true then if 0 ≤ x4 then if x4 < (x0.length : Int) then (impl_areWithin_1.f k (rd 0 x0 x4) x1 x2).bind fun t1 => (if t1 = true then some x4 else c x0 x1 x2 x3 (wrap64 (x4 + 1))) else none else none else some (-1)))
noncomputable def slices_IndexFunc_int64_areWithin_1.cs (k : Nat) : Nat → slices_IndexFunc_int64_areWithin_1.Cs
  | 0 => slices_IndexFunc_int64_areWithin_1.zero
  | n + 1 => slices_IndexFunc_int64_areWithin_1.step k (slices_IndexFunc_int64_areWithin_1.cs k n)
def slices_IndexFunc_int64_areWithin_1.CC (c : slices_IndexFunc_int64_areWithin_1.Cs) : Cuts slices_IndexFunc_int64_areWithin_1.N := [(6, ⟨[(0, some false, [.fl (.lo (.int .i64))]), (1, some false, [.fn 45 [[(.int .i64)], [(.int .i64)]]]), (7, some false, [.fl (.int .i64)]), (8, some false, [.fl (.int .i64)])], fun x => c x.1.1 x.2.1.1.1.1 x.2.1.1.2.1.1 x.2.2.1.1 x.2.2.2.1.1⟩)]
noncomputable def slices_IndexFunc_int64_areWithin_1.f (k : Nat) (a0 : List Int) (a1 : Int) (a2 : Int) : Option slices_IndexFunc_int64_areWithin_1.N := (slices_IndexFunc_int64_areWithin_1.cs k k) a0 a1 a2 (a0.length : Int) 0
noncomputable def slices_IndexFunc_int64_areWithin_1.F (k : Nat) : Go.Rv.Fn := mkFn 2 slices_IndexFunc_int64_areWithin_1.pc slices_IndexFunc_int64_areWithin_1.pr (keepOf []) (fun (y : slices_IndexFunc_int64_areWithin_1.N) => (((y, ()), ()) : compT slices_IndexFunc_int64_areWithin_1.pr)) fun x => slices_IndexFunc_int64_areWithin_1.f k x.1.1 x.2.1.1.1.1 x.2.1.1.2.1.1
theorem slices_IndexFunc_int64_areWithin_1.env (k : Nat) : EnvOk Go.Proofs.Try.prog (fun f => (slices_IndexFunc_int64_areWithin_1.E k).lookup f) := envOk_of ⟨entry Go.Proofs.Try.call45 rfl (impl_areWithin_1.ok k), trivial⟩
theorem slices_IndexFunc_int64_areWithin_1.cuts (k : Nat) : CutsOk Go.Proofs.Try.prog X (fun f => (slices_IndexFunc_int64_areWithin_1.E k).lookup f) Go.Proofs.Try.f58 [] (decN slices_IndexFunc_int64_areWithin_1.pr (fun (y : compT slices_IndexFunc_int64_areWithin_1.pr) => (y.1.1 : slices_IndexFunc_int64_areWithin_1.N))) fun n => slices_IndexFunc_int64_areWithin_1.CC (slices_IndexFunc_int64_areWithin_1.cs k n) :=
  cutsOk_of (step := slices_IndexFunc_int64_areWithin_1.step k) rfl (fun _ => rfl) ⟨fun _ => rfl, trivial⟩ (fun c => by kernel_rfl) fun c => ⟨fun x => by kernel_rfl, trivial⟩
theorem slices_IndexFunc_int64_areWithin_1.ok (k : Nat) : FnOk Go.Proofs.Try.prog 58 (slices_IndexFunc_int64_areWithin_1.F k) :=
  fn_ok tab (slices_IndexFunc_int64_areWithin_1.env k) Go.Proofs.Try.func58 rfl (n := 2) (Nat.le_of_ble_eq_true rfl) (by kernel_rfl) (outs := []) (by kernel_rfl) (by kernel_rfl) (d := fun (y : compT slices_IndexFunc_int64_areWithin_1.pr) => (y.1.1 : slices_IndexFunc_int64_areWithin_1.N)) (fun _ => rfl) (C := fun n => slices_IndexFunc_int64_areWithin_1.CC (slices_IndexFunc_int64_areWithin_1.cs k n)) (k := k) (slices_IndexFunc_int64_areWithin_1.cuts k) fun x => by kernel_rfl
/-! slices.ContainsFunc[[]int64,int64] -/
@[reducible] def slices_ContainsFunc_int64_areWithin_1.pc : CutP := [(0, some false, [.fl (.lo (.int .i64))]), (1, some false, [.fn 45 [[(.int .i64)], [(.int .i64)]]])]
@[reducible] def slices_ContainsFunc_int64_areWithin_1.pr : CompPs := [(false, [.fl .bool])]
abbrev slices_ContainsFunc_int64_areWithin_1.N := Bool
noncomputable def slices_ContainsFunc_int64_areWithin_1.E (k : Nat) : List (FuncId × Go.Rv.Fn) := [(58, slices_IndexFunc_int64_areWithin_1.F k)]
noncomputable def slices_ContainsFunc_int64_areWithin_1.f (k : Nat) (a0 : List Int) (a1 : Int) (a2 : Int) : Option slices_ContainsFunc_int64_areWithin_1.N := (slices_IndexFunc_int64_areWithin_1.f k a0 a1 a2).bind fun (t1 : Int) => some (decide (0 ≤ t1))
noncomputable def slices_ContainsFunc_int64_areWithin_1.F (k : Nat) : Go.Rv.Fn := mkFn 2 slices_ContainsFunc_int64_areWithin_1.pc slices_ContainsFunc_int64_areWithin_1.pr (keepOf []) (fun (y : slices_ContainsFunc_int64_areWithin_1.N) => (((y, ()), ()) : compT slices_ContainsFunc_int64_areWithin_1.pr)) fun x => slices_ContainsFunc_int64_areWithin_1.f k x.1.1 x.2.1.1.1.1 x.2.1.1.2.1.1
theorem slices_ContainsFunc_int64_areWithin_1.env (k : Nat) : EnvOk Go.Proofs.Try.prog (fun f => (slices_ContainsFunc_int64_areWithin_1.E k).lookup f) := envOk_of ⟨entry Go.Proofs.Try.call58 rfl (slices_IndexFunc_int64_areWithin_1.ok k), trivial⟩
theorem slices_ContainsFunc_int64_areWithin_1.ok (k : Nat) : FnOk Go.Proofs.Try.prog 44 (slices_ContainsFunc_int64_areWithin_1.F k) :=
  fn_ok tab (slices_ContainsFunc_int64_areWithin_1.env k) Go.Proofs.Try.func44 rfl (n := 2) (Nat.le_of_ble_eq_true rfl) (by kernel_rfl) (outs := []) (by kernel_rfl) (by kernel_rfl) (d := fun (y : compT slices_ContainsFunc_int64_areWithin_1.pr) => (y.1.1 : slices_ContainsFunc_int64_areWithin_1.N)) (fun _ => rfl) (C := fun _ => []) (k := k) noCuts fun x => by kernel_rfl
/-! impl.areWithin -/
@[reducible] def impl_areWithin.pc : CutP := [(0, some false, [.fl (.lo (.int .i64))]), (1, some false, [.fl (.int .i64)]), (2, some false, [.fl (.int .i64)])]
@[reducible] def impl_areWithin.pr : CompPs := [(false, [.fl .bool])]
abbrev impl_areWithin.N := Bool
noncomputable def impl_areWithin.E (k : Nat) : List (FuncId × Go.Rv.Fn) := [(44, slices_ContainsFunc_int64_areWithin_1.F k)]
noncomputable def impl_areWithin.f (k : Nat) (a0 : List Int) (a1 : Int) (a2 : Int) : Option impl_areWithin.N := (slices_ContainsFunc_int64_areWithin_1.f k a0 a1 a2).bind fun t1 => some (!t1)
noncomputable def impl_areWithin.F (k : Nat) : Go.Rv.Fn := mkFn 3 impl_areWithin.pc impl_areWithin.pr (keepOf []) (fun (y : impl_areWithin.N) => (((y, ()), ()) : compT impl_areWithin.pr)) fun x => impl_areWithin.f k x.1.1 x.2.1.1 x.2.2.1.1
theorem impl_areWithin.env (k : Nat) : EnvOk Go.Proofs.Try.prog (fun f => (impl_areWithin.E k).lookup f) := envOk_of ⟨entry Go.Proofs.Try.call44 rfl (slices_ContainsFunc_int64_areWithin_1.ok k), trivial⟩
theorem impl_areWithin.ok (k : Nat) : FnOk Go.Proofs.Try.prog 34 (impl_areWithin.F k) :=
  fn_ok tab (impl_areWithin.env k) Go.Proofs.Try.func34 rfl (n := 3) (Nat.le_of_ble_eq_true rfl) (by kernel_rfl) (outs := []) (by kernel_rfl) (by kernel_rfl) (d := fun (y : compT impl_areWithin.pr) => (y.1.1 : impl_areWithin.N)) (fun _ => rfl) (C := fun _ => []) (k := k) noCuts fun x => by kernel_rfl
/-! impl.isList -/
@[reducible] def impl_isList.pc : CutP := [(0, some false, [.fl (.lo (.int .i64))])]
@[reducible] def impl_isList.pr : CompPs := [(false, [.fl .bool])]
abbrev impl_isList.N := Bool
noncomputable def impl_isList.E (k : Nat) : List (FuncId × Go.Rv.Fn) := [(34, impl_areWithin.F k)]
noncomputable def impl_isList.f (k : Nat) (a0 : List Int) : Option impl_isList.N := (if (decide ((a0.length : Int) ≤ 64)) = true then (impl_areWithin.f k a0 (-1000000000) 1000000000).bind fun t1 => some t1 else some false)
noncomputable def impl_isList.F (k : Nat) : Go.Rv.Fn := mkFn 1 impl_isList.pc impl_isList.pr (keepOf []) (fun (y : impl_isList.N) => (((y, ()), ()) : compT impl_isList.pr)) fun x => impl_isList.f k x.1.1
theorem impl_isList.env (k : Nat) : EnvOk Go.Proofs.Try.prog (fun f => (impl_isList.E k).lookup f) := envOk_of ⟨entry Go.Proofs.Try.call34 rfl (impl_areWithin.ok k), trivial⟩
theorem impl_isList.ok (k : Nat) : FnOk Go.Proofs.Try.prog 27 (impl_isList.F k) :=
  fn_ok tab (impl_isList.env k) Go.Proofs.Try.func27 rfl (n := 1) (Nat.le_of_ble_eq_true rfl) (by kernel_rfl) (outs := []) (by kernel_rfl) (by kernel_rfl) (d := fun (y : compT impl_isList.pr) => (y.1.1 : impl_isList.N)) (fun _ => rfl) (C := fun _ => []) (k := k) noCuts fun x => by kernel_rfl
/-! impl.MiddleOf -/
@[reducible] def impl_MiddleOf.pc : CutP := [(0, some false, [.fl (.lo (.int .i64))])]
@[reducible] def impl_MiddleOf.pr : CompPs := [(false, [.fl (.int .i64)]), (false, [.fl .bool])]
abbrev impl_MiddleOf.N := Int × Bool
noncomputable def impl_MiddleOf.E (k : Nat) : List (FuncId × Go.Rv.Fn) := []
noncomputable def impl_MiddleOf.f (k : Nat) (a0 : List Int) : Option impl_MiddleOf.N := T.middleF (impl_isList.f k) a0
noncomputable def impl_MiddleOf.F (k : Nat) : Go.Rv.Fn := mkFn 1 impl_MiddleOf.pc impl_MiddleOf.pr (keepOf []) (fun (y : impl_MiddleOf.N) => (((y.1, ()), (y.2, ()), ()) : compT impl_MiddleOf.pr)) fun x => impl_MiddleOf.f k x.1.1
theorem impl_MiddleOf.ok (k : Nat) : FnOk Go.Proofs.Try.prog 16 (impl_MiddleOf.F k) := T.middle_fn (impl_isList.ok k)
/-! laws.b10Has -/
@[reducible] def laws_b10Has.pc : CutP := [(0, some false, [.fl (.lo (.int .i64))]), (1, some false, [.fl (.int .i64)])]
@[reducible] def laws_b10Has.pr : CompPs := [(false, [.fl .bool])]
abbrev laws_b10Has.N := Bool
noncomputable def laws_b10Has.E (k : Nat) : List (FuncId × Go.Rv.Fn) := []
abbrev laws_b10Has.Cs := (List Int → Int → Int → Option laws_b10Has.N)
def laws_b10Has.zero : laws_b10Has.Cs := (fun _ _ _ => none)
noncomputable def laws_b10Has.step (k : Nat) (c : laws_b10Has.Cs) : laws_b10Has.Cs := (fun (x0 : List Int) (x1 : Int) (x2 : Int) => (if (decide (x2 < (x0.length : Int))) = true then if 0 ≤ x2 then if x2 < (x0.length : Int) then (if (decide ((rd 0 x0 x2) = x1)) = true then some true else c x0 x1 (wrap64 (x2 + 1))) else none else none else some false))
noncomputable def laws_b10Has.cs (k : Nat) : Nat → laws_b10Has.Cs
  | 0 => laws_b10Has.zero
  | n + 1 => laws_b10Has.step k (laws_b10Has.cs k n)
def laws_b10Has.CC (c : laws_b10Has.Cs) : Cuts laws_b10Has.N := [(6, ⟨[(0, some false, [.fl (.lo (.int .i64))]), (1, some false, [.fl (.int .i64)]), (5, some false, [.fl (.int .i64)])], fun x => c x.1.1 x.2.1.1 x.2.2.1.1⟩)]
noncomputable def laws_b10Has.f (k : Nat) (a0 : List Int) (a1 : Int) : Option laws_b10Has.N := (laws_b10Has.cs k k) a0 a1 0
noncomputable def laws_b10Has.F (k : Nat) : Go.Rv.Fn := mkFn 2 laws_b10Has.pc laws_b10Has.pr (keepOf []) (fun (y : laws_b10Has.N) => (((y, ()), ()) : compT laws_b10Has.pr)) fun x => laws_b10Has.f k x.1.1 x.2.1.1
theorem laws_b10Has.env (k : Nat) : EnvOk Go.Proofs.Try.prog (fun f => (laws_b10Has.E k).lookup f) := envOk_of trivial
theorem laws_b10Has.cuts (k : Nat) : CutsOk Go.Proofs.Try.prog X (fun f => (laws_b10Has.E k).lookup f) Go.Proofs.Try.f17 [] (decN laws_b10Has.pr (fun (y : compT laws_b10Has.pr) => (y.1.1 : laws_b10Has.N))) fun n => laws_b10Has.CC (laws_b10Has.cs k n) :=
  cutsOk_of (step := laws_b10Has.step k) rfl (fun _ => rfl) ⟨fun _ => rfl, trivial⟩ (fun c => by kernel_rfl) fun c => ⟨fun x => by kernel_rfl, trivial⟩
theorem laws_b10Has.ok (k : Nat) : FnOk Go.Proofs.Try.prog 17 (laws_b10Has.F k) :=
  fn_ok tab (laws_b10Has.env k) Go.Proofs.Try.func17 rfl (n := 2) (Nat.le_of_ble_eq_true rfl) (by kernel_rfl) (outs := []) (by kernel_rfl) (by kernel_rfl) (d := fun (y : compT laws_b10Has.pr) => (y.1.1 : laws_b10Has.N)) (fun _ => rfl) (C := fun n => laws_b10Has.CC (laws_b10Has.cs k n)) (k := k) (laws_b10Has.cuts k) fun x => by kernel_rfl
/-! impl.LongestRun -/
@[reducible] def impl_LongestRun.pc : CutP := [(0, some false, [.fl (.lo (.int .i64))]), (1, some false, [.fl (.int .i64)])]
@[reducible] def impl_LongestRun.pr : CompPs := [(false, [.fl (.int .i64)]), (false, [.fl (.int .i64)]), (false, [.fl .bool])]
abbrev impl_LongestRun.N := Int × Int × Bool
noncomputable def impl_LongestRun.E (k : Nat) : List (FuncId × Go.Rv.Fn) := [(27, impl_isList.F k)]
abbrev impl_LongestRun.Cs := (Int → Int → Int → Int → List Int → Int → Int → Option impl_LongestRun.N)
def impl_LongestRun.zero : impl_LongestRun.Cs := (fun _ _ _ _ _ _ _ => none)
noncomputable def impl_LongestRun.step (k : Nat) (c : impl_LongestRun.Cs) : impl_LongestRun.Cs := (fun (x0 : Int) (x1 : Int) (x2 : Int) (x3 : Int) (x4 : List Int) (x5 : Int) (x6 : Int) => (if (decide (x6 < x5)) = true then if 0 ≤ x6 then if x6 < (x4.length : Int) then (if (decide ((rd 0 x4 x6) < x0)) = true then c x0 x1 x2 (wrap64 (x6 + 1)) x4 x5 (wrap64 (x6 + 1)) else (if (decide (x2 < (wrap64 ((wrap64 (x6 + 1)) - x3)))) = true then c x0 x3 (wrap64 ((wrap64 (x6 + 1)) - x3)) x3 x4 x5 (wrap64 (x6 + 1)) else c x0 x1 x2 x3 x4 x5 (wrap64 (x6 + 1)))) else none else none else (if (decide (x2 = 0)) = true then some (0, 0, false) else some (x1, x2, true))))
noncomputable def impl_LongestRun.cs (k : Nat) : Nat → impl_LongestRun.Cs
  | 0 => impl_LongestRun.zero
  | n + 1 => impl_LongestRun.step k (impl_LongestRun.cs k n)
def impl_LongestRun.CC (c : impl_LongestRun.Cs) : Cuts impl_LongestRun.N := [(16, ⟨[(1, some false, [.fl (.int .i64)]), (7, some false, [.fl (.int .i64)]), (8, some false, [.fl (.int .i64)]), (9, some false, [.fl (.int .i64)]), (15, some false, [.fl (.lo (.int .i64))]), (16, some false, [.fl (.int .i64)]), (17, some false, [.fl (.int .i64)])], fun x => c x.1.1 x.2.1.1 x.2.2.1.1 x.2.2.2.1.1 x.2.2.2.2.1.1 x.2.2.2.2.2.1.1 x.2.2.2.2.2.2.1.1⟩)]
noncomputable def impl_LongestRun.f (k : Nat) (a0 : List Int) (a1 : Int) : Option impl_LongestRun.N := (impl_isList.f k a0).bind fun t1 => (if (!t1) = true then some (0, 0, false) else (impl_LongestRun.cs k k) a1 0 0 0 a0 (a0.length : Int) 0)
noncomputable def impl_LongestRun.F (k : Nat) : Go.Rv.Fn := mkFn 2 impl_LongestRun.pc impl_LongestRun.pr (keepOf []) (fun (y : impl_LongestRun.N) => (((y.1, ()), (y.2.1, ()), (y.2.2, ()), ()) : compT impl_LongestRun.pr)) fun x => impl_LongestRun.f k x.1.1 x.2.1.1
theorem impl_LongestRun.env (k : Nat) : EnvOk Go.Proofs.Try.prog (fun f => (impl_LongestRun.E k).lookup f) := envOk_of ⟨entry Go.Proofs.Try.call27 rfl (impl_isList.ok k), trivial⟩
theorem impl_LongestRun.cuts (k : Nat) : CutsOk Go.Proofs.Try.prog X (fun f => (impl_LongestRun.E k).lookup f) Go.Proofs.Try.f18 [] (decN impl_LongestRun.pr (fun (y : compT impl_LongestRun.pr) => ((y.1.1, y.2.1.1, y.2.2.1.1) : impl_LongestRun.N))) fun n => impl_LongestRun.CC (impl_LongestRun.cs k n) :=
  cutsOk_of (step := impl_LongestRun.step k) rfl (fun _ => rfl) ⟨fun _ => rfl, trivial⟩ (fun c => by kernel_rfl) fun c => ⟨fun x => by kernel_rfl, trivial⟩
theorem impl_LongestRun.ok (k : Nat) : FnOk Go.Proofs.Try.prog 18 (impl_LongestRun.F k) :=
  fn_ok tab (impl_LongestRun.env k) Go.Proofs.Try.func18 rfl (n := 2) (Nat.le_of_ble_eq_true rfl) (by kernel_rfl) (outs := []) (by kernel_rfl) (by kernel_rfl) (d := fun (y : compT impl_LongestRun.pr) => ((y.1.1, y.2.1.1, y.2.2.1.1) : impl_LongestRun.N)) (fun _ => rfl) (C := fun n => impl_LongestRun.CC (impl_LongestRun.cs k n)) (k := k) (impl_LongestRun.cuts k) fun x => by kernel_rfl
/-! laws.FnParts -/
@[reducible] def laws_FnParts.pc : CutP := [(0, some false, [.fl (.lo (.int .u8))]), (1, some false, [.fl (.lo (.int .u8))])]
@[reducible] def laws_FnParts.pr : CompPs := [(false, [.fl .bool])]
abbrev laws_FnParts.N := Bool
noncomputable def laws_FnParts.E (k : Nat) : List (FuncId × Go.Rv.Fn) := [(5, laws_b10Long.F k), (12, laws_b10At.F k), (13, impl_SplitEven.F k), (14, laws_b10Sum.F k), (15, spec_B10List.F k), (16, impl_MiddleOf.F k), (17, laws_b10Has.F k), (18, impl_LongestRun.F k)]
abbrev laws_FnParts.Cs := (List Int → Int → Int → List Int → Option laws_FnParts.N) × (List Int → Int → Int → List Int → Int → Option laws_FnParts.N) × (List Int → Int → Bool → Int → Int → Int → Option laws_FnParts.N) × (List Int → Int → Option laws_FnParts.N) × (List Int → Int → Int → Int → Option laws_FnParts.N) × (List Int → Int → Int → Int → Int → Option laws_FnParts.N)
def laws_FnParts.zero : laws_FnParts.Cs := (fun _ _ _ _ => none, fun _ _ _ _ _ => none, fun _ _ _ _ _ _ => none, fun _ _ => none, fun _ _ _ _ => none, fun _ _ _ _ _ => none)
noncomputable def laws_FnParts.step (k : Nat) (c : laws_FnParts.Cs) : laws_FnParts.Cs := (fun (x0 : List Int) (x1 : Int) (x2 : Int) (x3 : List Int) => c.2.1 x0 x1 x2 x3 0,
  fun (x0 : List Int) (x1 : Int) (x2 : Int) (x3 : List Int) (x4 : Int) => (if (decide (x4 < (x3.length : Int))) = true then if 0 ≤ x4 then if x4 < (x3.length : Int) then (if x2 = 0 then none else (if (!decide ((rd 0 x3 x4) = (wrap64 (x1.tdiv x2)))) = true then if 0 ≤ x4 then if x4 < (x3.length : Int) then (if x2 = 0 then none else (if (!decide ((rd 0 x3 x4) = (wrap64 ((wrap64 (x1.tdiv x2)) + 1)))) = true then some false else c.2.1 x0 x1 x2 x3 (wrap64 (x4 + 1)))) else none else none else c.2.1 x0 x1 x2 x3 (wrap64 (x4 + 1)))) else none else none else (spec_B10List.f k x0).bind fun t7 => (impl_MiddleOf.f k t7).bind fun t8 => c.2.2.1 t7 t8.1 t8.2 0 0 0),
  fun (x0 : List Int) (x1 : Int) (x2 : Bool) (x3 : Int) (x4 : Int) (x5 : Int) => (if (decide (x5 < (x0.length : Int))) = true then if 0 ≤ x5 then if x5 < (x0.length : Int) then (if (decide ((rd 0 x0 x5) < x1)) = true then if 0 ≤ x5 then if x5 < (x0.length : Int) then (if (decide (x1 < (rd 0 x0 x5))) = true then c.2.2.1 x0 x1 x2 (wrap64 (x3 + 1)) (wrap64 (x4 + 1)) (wrap64 (x5 + 1)) else c.2.2.1 x0 x1 x2 (wrap64 (x3 + 1)) x4 (wrap64 (x5 + 1))) else none else none else if 0 ≤ x5 then if x5 < (x0.length : Int) then (if (decide (x1 < (rd 0 x0 x5))) = true then c.2.2.1 x0 x1 x2 x3 (wrap64 (x4 + 1)) (wrap64 (x5 + 1)) else c.2.2.1 x0 x1 x2 x3 x4 (wrap64 (x5 + 1))) else none else none) else none else none else (if (!x2) = true then some false else (laws_b10Has.f k x0 x1).bind fun t9 => (if (!t9) = true then some false else (if (decide ((wrap64 ((x0.length : Int) - 1)) < (wrap64 (2 * x3)))) = true then some false else (if (decide ((x0.length : Int) < (wrap64 (2 * x4)))) = true then some false else c.2.2.2.1 x0 x1))))),
  fun (x0 : List Int) (x1 : Int) => (impl_LongestRun.f k x0 x1).bind fun t10 => (if (!t10.2.2) = true then some false else (if (decide (t10.1 < 0)) = true then some false else (if (decide (t10.2.1 < 1)) = true then some false else (if (decide ((x0.length : Int) < (wrap64 (t10.1 + t10.2.1)))) = true then some false else c.2.2.2.2.1 x0 x1 t10.1 t10.2.1)))),
  fun (x0 : List Int) (x1 : Int) (x2 : Int) (x3 : Int) => c.2.2.2.2.2 x0 x1 x2 x3 x2,
  fun (x0 : List Int) (x1 : Int) (x2 : Int) (x3 : Int) (x4 : Int) => (if (decide (x4 < (wrap64 (x2 + x3)))) = true then if 0 ≤ x4 then if x4 < (x0.length : Int) then (if (decide ((rd 0 x0 x4) < x1)) = true then some false else c.2.2.2.2.2 x0 x1 x2 x3 (wrap64 (x4 + 1))) else none else none else (if (decide (x2 = 0)) = true then (if (decide ((wrap64 (x2 + x3)) = (x0.length : Int))) = true then some true else if 0 ≤ (wrap64 (x2 + x3)) then if (wrap64 (x2 + x3)) < (x0.length : Int) then some (decide ((rd 0 x0 (wrap64 (x2 + x3))) < x1)) else none else none) else if 0 ≤ (wrap64 (x2 - 1)) then if (wrap64 (x2 - 1)) < (x0.length : Int) then (if (decide ((rd 0 x0 (wrap64 (x2 - 1))) < x1)) = true then (if (decide ((wrap64 (x2 + x3)) = (x0.length : Int))) = true then some true else if 0 ≤ (wrap64 (x2 + x3)) then if (wrap64 (x2 + x3)) < (x0.length : Int) then some (decide ((rd 0 x0 (wrap64 (x2 + x3))) < x1)) else none else none) else some false) else none else none)))
noncomputable def laws_FnParts.cs (k : Nat) : Nat → laws_FnParts.Cs
  | 0 => laws_FnParts.zero
  | n + 1 => laws_FnParts.step k (laws_FnParts.cs k n)
def laws_FnParts.CC (c : laws_FnParts.Cs) : Cuts laws_FnParts.N := [(16, ⟨[(0, some false, [.fl (.lo (.int .u8))]), (5, some false, [.fl (.int .i64)]), (6, some false, [.fl (.int .i64)]), (7, some false, [.fl (.own (.int .i64))])], fun x => c.1 x.1.1 x.2.1.1 x.2.2.1.1 x.2.2.2.1.1⟩),
  (28, ⟨[(0, some false, [.fl (.lo (.int .u8))]), (5, some false, [.fl (.int .i64)]), (6, some false, [.fl (.int .i64)]), (7, some false, [.fl (.own (.int .i64))]), (9, some false, [.fl (.int .i64)])], fun x => c.2.1 x.1.1 x.2.1.1 x.2.2.1.1 x.2.2.2.1.1 x.2.2.2.2.1.1⟩),
  (57, ⟨[(10, some false, [.fl (.own (.int .i64))]), (11, some false, [.fl (.int .i64)]), (12, some false, [.fl .bool]), (13, some false, [.fl (.int .i64)]), (14, some false, [.fl (.int .i64)]), (15, some false, [.fl (.int .i64)])], fun x => c.2.2.1 x.1.1 x.2.1.1 x.2.2.1.1 x.2.2.2.1.1 x.2.2.2.2.1.1 x.2.2.2.2.2.1.1⟩),
  (78, ⟨[(10, some false, [.fl (.own (.int .i64))]), (11, some false, [.fl (.int .i64)])], fun x => c.2.2.2.1 x.1.1 x.2.1.1⟩),
  (88, ⟨[(10, some false, [.fl (.own (.int .i64))]), (11, some false, [.fl (.int .i64)]), (16, some false, [.fl (.int .i64)]), (17, some false, [.fl (.int .i64)])], fun x => c.2.2.2.2.1 x.1.1 x.2.1.1 x.2.2.1.1 x.2.2.2.1.1⟩),
  (100, ⟨[(10, some false, [.fl (.own (.int .i64))]), (11, some false, [.fl (.int .i64)]), (16, some false, [.fl (.int .i64)]), (17, some false, [.fl (.int .i64)]), (19, some false, [.fl (.int .i64)])], fun x => c.2.2.2.2.2 x.1.1 x.2.1.1 x.2.2.1.1 x.2.2.2.1.1 x.2.2.2.2.1.1⟩)]
noncomputable def laws_FnParts.f (k : Nat) (a0 : List Int) (a1 : List Int) : Option laws_FnParts.N := (laws_b10Long.f k a0 a1).bind fun t1 => (if t1 = true then some true else (laws_b10At.f k a1 0 256).bind fun (t2 : Int) => (laws_b10At.f k a1 1 256).bind fun (t3 : Int) => (laws_b10At.f k a1 2 64).bind fun (t4 : Int) => (impl_SplitEven.f k (wrap64 ((wrap64 (256 * t2)) + t3)) (wrap64 (1 + t4))).bind fun t5 => (if (!t5.2) = true then some false else (if (!decide ((t5.1.length : Int) = (wrap64 (1 + t4)))) = true then some false else (laws_b10Sum.f k t5.1).bind fun (t6 : Int) => (if (!decide (t6 = (wrap64 ((wrap64 (256 * t2)) + t3)))) = true then some false else (laws_FnParts.cs k k).1 a0 (wrap64 ((wrap64 (256 * t2)) + t3)) (wrap64 (1 + t4)) t5.1))))
noncomputable def laws_FnParts.F (k : Nat) : Go.Rv.Fn := mkFn 2 laws_FnParts.pc laws_FnParts.pr (keepOf []) (fun (y : laws_FnParts.N) => (((y, ()), ()) : compT laws_FnParts.pr)) fun x => laws_FnParts.f k x.1.1 x.2.1.1
theorem laws_FnParts.env (k : Nat) : EnvOk Go.Proofs.Try.prog (fun f => (laws_FnParts.E k).lookup f) := envOk_of ⟨entry Go.Proofs.Try.call5 rfl (laws_b10Long.ok k), entry Go.Proofs.Try.call12 rfl (laws_b10At.ok k), entry Go.Proofs.Try.call13 rfl (impl_SplitEven.ok k), entry Go.Proofs.Try.call14 rfl (laws_b10Sum.ok k), entry Go.Proofs.Try.call15 rfl (spec_B10List.ok k), entry Go.Proofs.Try.call16 rfl (impl_MiddleOf.ok k), entry Go.Proofs.Try.call17 rfl (laws_b10Has.ok k), entry Go.Proofs.Try.call18 rfl (impl_LongestRun.ok k), trivial⟩
theorem laws_FnParts.cuts (k : Nat) : CutsOk Go.Proofs.Try.prog X (fun f => (laws_FnParts.E k).lookup f) Go.Proofs.Try.f4 [] (decN laws_FnParts.pr (fun (y : compT laws_FnParts.pr) => (y.1.1 : laws_FnParts.N))) fun n => laws_FnParts.CC (laws_FnParts.cs k n) :=
  cutsOk_of (step := laws_FnParts.step k) rfl (fun _ => rfl) ⟨fun _ => rfl, fun _ => rfl, fun _ => rfl, fun _ => rfl, fun _ => rfl, fun _ => rfl, trivial⟩ (fun c => by kernel_rfl) fun c => ⟨fun x => by kernel_rfl, fun x => by kernel_rfl, fun x => by kernel_rfl, fun x => by kernel_rfl, fun x => by kernel_rfl, fun x => by kernel_rfl, trivial⟩
theorem laws_FnParts.ok (k : Nat) : FnOk Go.Proofs.Try.prog 4 (laws_FnParts.F k) :=
  fn_ok tab (laws_FnParts.env k) Go.Proofs.Try.func4 rfl (n := 2) (Nat.le_of_ble_eq_true rfl) (by kernel_rfl) (outs := []) (by kernel_rfl) (by kernel_rfl) (d := fun (y : compT laws_FnParts.pr) => (y.1.1 : laws_FnParts.N)) (fun _ => rfl) (C := fun n => laws_FnParts.CC (laws_FnParts.cs k n)) (k := k) (laws_FnParts.cuts k) fun x => by kernel_rfl
end Go.Proofs.Ytdcpjbheedofdaa.R
