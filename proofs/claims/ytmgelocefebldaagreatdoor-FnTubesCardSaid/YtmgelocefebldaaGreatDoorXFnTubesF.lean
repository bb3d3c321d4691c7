-- written by wip/rev/gen2.py for this claim (out of the translation). Lean checks it.
import Derived.Test.YtmgelocefebldaaGreatDoorRvM2
import Derived.Test.YtmgelocefebldaaGreatDoorProg
import Derived.Test.YtmgelocefebldaaGreatDoorRvTurn
import Derived.Test.YtmgelocefebldaaGreatDoorRvAmb
import Derived.Test.YtmgelocefebldaaGreatDoorRvStrF
import Derived.Test.YtmgelocefebldaaGreatDoorRvStrJ
import Derived.Test.YtmgelocefebldaaGreatDoorRvStrR
import Derived.Test.YtmgelocefebldaaGreatDoorRvStrS
import Derived.Test.YtmgelocefebldaaGreatDoorRvSh
namespace Go.Proofs.YtmgelocefebldaaGreatDoor.R
open Go.Rv
set_option linter.unusedVariables false
set_option maxRecDepth 100000
def X : Env := { n := 0, keep := [], tab := [(2, { ty := (.int .i64) }),
  (3, { ty := (.int .i64) }),
  (5, { ty := (.int .u8) }),
  (9, { ty := .str }),
  (22, { ty := (.sl (.int .u8)) }),
  (24, { ty := (.sl (.pair (.int .i64) (.int .i64))) }),
  (28, { ty := (.pair (.int .i64) (.pair (.int .i64) (.pair (.int .i64) (.int .i64)))), agg := true, offs := [(0, 1, false), (1, 1, false), (2, 1, false), (3, 1, false)], eq := true }),
  (29, { ty := (.sl (.pair (.int .i64) (.pair (.int .i64) (.pair (.int .i64) (.int .i64))))) }),
  (47, { ty := (.sl .str) }),
  (49, { ty := (.pair (.int .i64) (.int .i64)), agg := true, offs := [(0, 1, false), (1, 1, false)], eq := true }),
  (56, { ty := (.int .u64) }),
  (58, { ty := (.pair (.sl (.int .u8)) (.pair (.int .i64) (.int .u64))), agg := true, offs := [(0, 1, false), (1, 1, false), (2, 1, false)] }),
  (61, { ty := (.sl (.int .i64)) })] }
theorem tab : TabOk Go.Proofs.Tryz.prog X := ⟨by kernel_rfl, by kernel_rfl⟩
/-! laws.b10Long -/
@[reducible] def laws_b10Long.pc : CutP := [(0, some false, [.fl (.lo (.int .u8))]), (1, some false, [.fl (.lo (.int .u8))])]
@[reducible] def laws_b10Long.pr : CompPs := [(false, [.fl .bool])]
abbrev laws_b10Long.N := Bool
noncomputable def laws_b10Long.E (k : Nat) : List (FuncId × Go.Rv.Fn) := []
noncomputable def laws_b10Long.f (k : Nat) (a0 : List Int) (a1 : List Int) : Option laws_b10Long.N := (if (decide (1048576 < (a0.length : Int))) = true then some true else some (decide (1048576 < (a1.length : Int))))
noncomputable def laws_b10Long.F (k : Nat) : Go.Rv.Fn := mkFn 2 laws_b10Long.pc laws_b10Long.pr (keepOf []) (fun (y : laws_b10Long.N) => (((y, ()), ()) : compT laws_b10Long.pr)) fun x => laws_b10Long.f k x.1.1 x.2.1.1
theorem laws_b10Long.env (k : Nat) : EnvOk Go.Proofs.Tryz.prog (fun f => (laws_b10Long.E k).lookup f) := envOk_of trivial
theorem laws_b10Long.ok (k : Nat) : FnOk Go.Proofs.Tryz.prog 4 (laws_b10Long.F k) :=
  fn_ok tab (laws_b10Long.env k) Go.Proofs.Tryz.func4 rfl (n := 2) (Nat.le_of_ble_eq_true rfl) (by kernel_rfl) (outs := []) (by kernel_rfl) (by kernel_rfl) (d := fun (y : compT laws_b10Long.pr) => (y.1.1 : laws_b10Long.N)) (fun _ => rfl) (C := fun _ => []) (k := k) noCuts fun x => by kernel_rfl
/-! spec.l00From -/
@[reducible] def spec_l00From.bp : List FPat := [(.lo (.int .u8)), (.int .i64), (.int .u64)]
@[reducible] def spec_l00From.pc : CutP := [(0, some false, [.fl (.lo (.int .u8))])]
@[reducible] def spec_l00From.pr : CompPs := []
abbrev spec_l00From.N := List Int × Int × Int
noncomputable def spec_l00From.E (k : Nat) : List (FuncId × Go.Rv.Fn) := []
noncomputable def spec_l00From.f (k : Nat) (a0 : List Int) : Option spec_l00From.N := some (a0, 0, 0)
noncomputable def spec_l00From.F (k : Nat) : Go.Rv.Fn := mkFnR 1 spec_l00From.pc spec_l00From.bp (fun (y : spec_l00From.N) => ((y.1, y.2.1, y.2.2, ()) : fpatsT spec_l00From.bp)) fun x => spec_l00From.f k x.1.1
theorem spec_l00From.env (k : Nat) : EnvOk Go.Proofs.Tryz.prog (fun f => (spec_l00From.E k).lookup f) := envOk_of trivial
theorem spec_l00From.ok (k : Nat) : FnOk Go.Proofs.Tryz.prog 14 (spec_l00From.F k) :=
  fn_okR tab (spec_l00From.env k) Go.Proofs.Tryz.func14 rfl (n := 1) (Nat.le_of_ble_eq_true rfl) (by kernel_rfl) (by kernel_rfl) (d := fun (y : fpatsT spec_l00From.bp) => ((y.1, y.2.1, y.2.2.1) : spec_l00From.N)) (fun _ => rfl) (C := (fun _ => [])) (k := k) noCutsG fun x => by kernel_rfl
/-! (*spec.l00Src).next -/
@[reducible] def spec_l00Src_next.bp : List FPat := [(.lo (.int .u8)), (.int .i64), (.int .u64)]
@[reducible] def spec_l00Src_next.pc : CutP := [(0, none, [.fl (.lo (.int .u8)), .fl (.int .i64), .fl (.int .u64)])]
@[reducible] def spec_l00Src_next.pr : CompPs := [(false, [.fl (.int .i64)])]
abbrev spec_l00Src_next.N := Int × List Int × Int × Int
noncomputable def spec_l00Src_next.E (k : Nat) : List (FuncId × Go.Rv.Fn) := []
abbrev spec_l00Src_next.Cs := (List Int → Int → Int → Int → Option spec_l00Src_next.N)
def spec_l00Src_next.zero : spec_l00Src_next.Cs := (fun _ _ _ _ => none)
noncomputable def spec_l00Src_next.step (k : Nat) (c : spec_l00Src_next.Cs) : spec_l00Src_next.Cs := (fun (x0 : List Int) (x1 : Int) (x2 : Int) (x3 : Int) => (if (decide ((wrap64 (x1 + 1)) ≤ (x0.length : Int))) = true then some (x3, x0, (wrap64 (x1 + 1)), (IntKind.u64.wrap ((IntKind.u64.wrap ((IntKind.u64.wrap (x2 * 6364136223846793005)) + (IntKind.u64.wrap (x3)))) + 1442695040888963407))) else (if 40 < 0 then none else some ((wrap64 ((IntKind.u64.wrap ((BitVec.ofInt IntKind.u64.bits ((IntKind.u64.wrap ((IntKind.u64.wrap ((IntKind.u64.wrap (x2 * 6364136223846793005)) + (IntKind.u64.wrap (x3)))) + 1442695040888963407)).fdiv (2 ^ min (40 : Int).toNat IntKind.u64.bits)) &&& BitVec.ofInt IntKind.u64.bits 255).toNat : Int)))), x0, (wrap64 (x1 + 1)), (IntKind.u64.wrap ((IntKind.u64.wrap ((IntKind.u64.wrap (x2 * 6364136223846793005)) + (IntKind.u64.wrap (x3)))) + 1442695040888963407))))))
noncomputable def spec_l00Src_next.cs (k : Nat) : Nat → spec_l00Src_next.Cs
  | 0 => spec_l00Src_next.zero
  | n + 1 => spec_l00Src_next.step k (spec_l00Src_next.cs k n)
def spec_l00Src_next.CC (c : spec_l00Src_next.Cs) : Cuts spec_l00Src_next.N := [(4, ⟨[(0, none, [.fl (.lo (.int .u8)), .fl (.int .i64), .fl (.int .u64)]), (3, some false, [.fl (.int .i64)])], fun x => c x.1.1 x.1.2.1 x.1.2.2.1 x.2.1.1⟩)]
noncomputable def spec_l00Src_next.f (k : Nat) (a0 : List Int) (a1 : Int) (a2 : Int) : Option spec_l00Src_next.N := (if (decide (a1 < (a0.length : Int))) = true then if 0 ≤ a1 then if a1 < (a0.length : Int) then (spec_l00Src_next.cs k k) a0 a1 a2 (wrap64 ((rd 0 a0 a1))) else none else none else (spec_l00Src_next.cs k k) a0 a1 a2 0)
noncomputable def spec_l00Src_next.F (k : Nat) : Go.Rv.Fn := mkFnB 0 spec_l00Src_next.pc spec_l00Src_next.pr spec_l00Src_next.bp (fun (y : spec_l00Src_next.N) => ((((y.1, ()), ()), (y.2.1, y.2.2.1, y.2.2.2, ())) : compT spec_l00Src_next.pr × fpatsT spec_l00Src_next.bp)) fun x => spec_l00Src_next.f k x.1.1 x.1.2.1 x.1.2.2.1
theorem spec_l00Src_next.env (k : Nat) : EnvOk Go.Proofs.Tryz.prog (fun f => (spec_l00Src_next.E k).lookup f) := envOk_of trivial
theorem spec_l00Src_next.cuts (k : Nat) : CutsOkG Go.Proofs.Tryz.prog { X with n := Go.Proofs.Tryz.f27.ntmps, keep := [0] } (fun f => (spec_l00Src_next.E k).lookup f) Go.Proofs.Tryz.f27 (endB { X with n := Go.Proofs.Tryz.f27.ntmps, keep := [0] } Go.Proofs.Tryz.f27 spec_l00Src_next.pr spec_l00Src_next.bp (fun (y : compT spec_l00Src_next.pr × fpatsT spec_l00Src_next.bp) => ((y.1.1.1, y.2.1, y.2.2.1, y.2.2.2.1) : spec_l00Src_next.N))) fun n => spec_l00Src_next.CC (spec_l00Src_next.cs k n) :=
  cutsOkG_of (step := spec_l00Src_next.step k) rfl (fun _ => rfl) ⟨fun _ => rfl, trivial⟩ (fun c => by kernel_rfl) fun c => ⟨fun x => by kernel_rfl, trivial⟩
theorem spec_l00Src_next.ok (k : Nat) : FnOkB Go.Proofs.Tryz.prog 27 (spec_l00Src_next.F k) :=
  fn_okB tab (spec_l00Src_next.env k) Go.Proofs.Tryz.func27 rfl (n := 0) (Nat.le_of_ble_eq_true rfl) (by kernel_rfl) (by kernel_rfl) (by kernel_rfl) (d := fun (y : compT spec_l00Src_next.pr × fpatsT spec_l00Src_next.bp) => ((y.1.1.1, y.2.1, y.2.2.1, y.2.2.2.1) : spec_l00Src_next.N)) (fun _ => rfl) (C := (fun n => spec_l00Src_next.CC (spec_l00Src_next.cs k n))) (k := k) (spec_l00Src_next.cuts k) fun x => by kernel_rfl
/-! (*spec.l00Src).pick -/
@[reducible] def spec_l00Src_pick.bp : List FPat := [(.lo (.int .u8)), (.int .i64), (.int .u64)]
@[reducible] def spec_l00Src_pick.pc : CutP := [(0, none, [.fl (.lo (.int .u8)), .fl (.int .i64), .fl (.int .u64)]), (1, some false, [.fl (.int .i64)])]
@[reducible] def spec_l00Src_pick.pr : CompPs := [(false, [.fl (.int .i64)])]
abbrev spec_l00Src_pick.N := Int × List Int × Int × Int
noncomputable def spec_l00Src_pick.E (k : Nat) : List (FuncId × Go.Rv.Fn) := [(27, spec_l00Src_next.F k)]
noncomputable def spec_l00Src_pick.f (k : Nat) (a0 : List Int) (a1 : Int) (a2 : Int) (a3 : Int) : Option spec_l00Src_pick.N := (if (decide (a3 ≤ 1)) = true then some (0, a0, a1, a2) else (spec_l00Src_next.f k a0 a1 a2).bind fun t1 => (if (decide (200 < a3)) = true then (spec_l00Src_next.f k t1.2.1 t1.2.2.1 t1.2.2.2).bind fun t2 => (if a3 = 0 then none else some (((wrap64 ((wrap64 (t1.1 * 256)) + t2.1)).tmod a3), t2.2.1, t2.2.2.1, t2.2.2.2)) else (if a3 = 0 then none else some ((t1.1.tmod a3), t1.2.1, t1.2.2.1, t1.2.2.2))))
noncomputable def spec_l00Src_pick.F (k : Nat) : Go.Rv.Fn := mkFnB 1 spec_l00Src_pick.pc spec_l00Src_pick.pr spec_l00Src_pick.bp (fun (y : spec_l00Src_pick.N) => ((((y.1, ()), ()), (y.2.1, y.2.2.1, y.2.2.2, ())) : compT spec_l00Src_pick.pr × fpatsT spec_l00Src_pick.bp)) fun x => spec_l00Src_pick.f k x.1.1 x.1.2.1 x.1.2.2.1 x.2.1.1
theorem spec_l00Src_pick.env (k : Nat) : EnvOk Go.Proofs.Tryz.prog (fun f => (spec_l00Src_pick.E k).lookup f) := envOk_of ⟨entryB Go.Proofs.Tryz.call27 rfl (spec_l00Src_next.ok k), trivial⟩
theorem spec_l00Src_pick.ok (k : Nat) : FnOkB Go.Proofs.Tryz.prog 15 (spec_l00Src_pick.F k) :=
  fn_okB tab (spec_l00Src_pick.env k) Go.Proofs.Tryz.func15 rfl (n := 1) (Nat.le_of_ble_eq_true rfl) (by kernel_rfl) (by kernel_rfl) (by kernel_rfl) (d := fun (y : compT spec_l00Src_pick.pr × fpatsT spec_l00Src_pick.bp) => ((y.1.1.1, y.2.1, y.2.2.1, y.2.2.2.1) : spec_l00Src_pick.N)) (fun _ => rfl) (C := (fun _ => [])) (k := k) noCutsG fun x => by kernel_rfl
/-! spec.l00Put -/
@[reducible] def spec_l00Put.pc : CutP := [(0, some false, [.fl (.lo (.int .i64))]), (1, some false, [.fl (.int .i64)])]
@[reducible] def spec_l00Put.pr : CompPs := [(false, [.fl (.own (.int .i64))])]
abbrev spec_l00Put.N := List Int
noncomputable def spec_l00Put.E (k : Nat) : List (FuncId × Go.Rv.Fn) := []
abbrev spec_l00Put.Cs := (List Int → Int → List Int → Bool → Int → Option spec_l00Put.N)
def spec_l00Put.zero : spec_l00Put.Cs := (fun _ _ _ _ _ => none)
noncomputable def spec_l00Put.step (k : Nat) (c : spec_l00Put.Cs) : spec_l00Put.Cs := (fun (x0 : List Int) (x1 : Int) (x2 : List Int) (x3 : Bool) (x4 : Int) => (if (decide (x4 < (x0.length : Int))) = true then (if (!x3) = true then if 0 ≤ x4 then if x4 < (x0.length : Int) then (if (decide (x1 ≤ (rd 0 x0 x4))) = true then if 0 ≤ x4 then if x4 < (x0.length : Int) then (if (decide (x1 < (rd 0 x0 x4))) = true then if x2.length + [x1].length < 1099511627776 then if 0 ≤ x4 then if x4 < (x0.length : Int) then if (x2 ++ [x1]).length + [(rd 0 x0 x4)].length < 1099511627776 then c x0 x1 ((x2 ++ [x1]) ++ [(rd 0 x0 x4)]) true (wrap64 (x4 + 1)) else none else none else none else none else if 0 ≤ x4 then if x4 < (x0.length : Int) then if x2.length + [(rd 0 x0 x4)].length < 1099511627776 then c x0 x1 (x2 ++ [(rd 0 x0 x4)]) true (wrap64 (x4 + 1)) else none else none else none) else none else none else if 0 ≤ x4 then if x4 < (x0.length : Int) then if x2.length + [(rd 0 x0 x4)].length < 1099511627776 then c x0 x1 (x2 ++ [(rd 0 x0 x4)]) x3 (wrap64 (x4 + 1)) else none else none else none) else none else none else if 0 ≤ x4 then if x4 < (x0.length : Int) then if x2.length + [(rd 0 x0 x4)].length < 1099511627776 then c x0 x1 (x2 ++ [(rd 0 x0 x4)]) x3 (wrap64 (x4 + 1)) else none else none else none) else (if (!x3) = true then if x2.length + [x1].length < 1099511627776 then some (x2 ++ [x1]) else none else some x2)))
noncomputable def spec_l00Put.cs (k : Nat) : Nat → spec_l00Put.Cs
  | 0 => spec_l00Put.zero
  | n + 1 => spec_l00Put.step k (spec_l00Put.cs k n)
def spec_l00Put.CC (c : spec_l00Put.Cs) : Cuts spec_l00Put.N := [(10, ⟨[(0, some false, [.fl (.lo (.int .i64))]), (1, some false, [.fl (.int .i64)]), (5, some false, [.fl (.own (.int .i64))]), (6, some false, [.fl .bool]), (7, some false, [.fl (.int .i64)])], fun x => c x.1.1 x.2.1.1 x.2.2.1.1 x.2.2.2.1.1 x.2.2.2.2.1.1⟩)]
noncomputable def spec_l00Put.f (k : Nat) (a0 : List Int) (a1 : Int) : Option spec_l00Put.N := (spec_l00Put.cs k k) a0 a1 ([] : List Int) false 0
noncomputable def spec_l00Put.F (k : Nat) : Go.Rv.Fn := mkFn 2 spec_l00Put.pc spec_l00Put.pr (keepOf []) (fun (y : spec_l00Put.N) => (((y, ()), ()) : compT spec_l00Put.pr)) fun x => spec_l00Put.f k x.1.1 x.2.1.1
theorem spec_l00Put.env (k : Nat) : EnvOk Go.Proofs.Tryz.prog (fun f => (spec_l00Put.E k).lookup f) := envOk_of trivial
theorem spec_l00Put.cuts (k : Nat) : CutsOk Go.Proofs.Tryz.prog X (fun f => (spec_l00Put.E k).lookup f) Go.Proofs.Tryz.f44 [] (decN spec_l00Put.pr (fun (y : compT spec_l00Put.pr) => (y.1.1 : spec_l00Put.N))) fun n => spec_l00Put.CC (spec_l00Put.cs k n) :=
  cutsOk_of (step := spec_l00Put.step k) rfl (fun _ => rfl) ⟨fun _ => rfl, trivial⟩ (fun c => by kernel_rfl) fun c => ⟨fun x => by kernel_rfl, trivial⟩
theorem spec_l00Put.ok (k : Nat) : FnOk Go.Proofs.Tryz.prog 44 (spec_l00Put.F k) :=
  fn_ok tab (spec_l00Put.env k) Go.Proofs.Tryz.func44 rfl (n := 2) (Nat.le_of_ble_eq_true rfl) (by kernel_rfl) (outs := []) (by kernel_rfl) (by kernel_rfl) (d := fun (y : compT spec_l00Put.pr) => (y.1.1 : spec_l00Put.N)) (fun _ => rfl) (C := fun n => spec_l00Put.CC (spec_l00Put.cs k n)) (k := k) (spec_l00Put.cuts k) fun x => by kernel_rfl
/-! spec.l03Next -/
@[reducible] def spec_l03Next.pc : CutP := [(0, some false, [.fl (.int .i64)])]
@[reducible] def spec_l03Next.pr : CompPs := [(false, [.fl (.own (.int .i64))])]
abbrev spec_l03Next.N := List Int
noncomputable def spec_l03Next.E (k : Nat) : List (FuncId × Go.Rv.Fn) := [(44, spec_l00Put.F k)]
abbrev spec_l03Next.Cs := (Int → List Int → List Int → Int → Option spec_l03Next.N)
def spec_l03Next.zero : spec_l03Next.Cs := (fun _ _ _ _ => none)
noncomputable def spec_l03Next.step (k : Nat) (c : spec_l03Next.Cs) : spec_l03Next.Cs := (fun (x0 : Int) (x1 : List Int) (x2 : List Int) (x3 : Int) => (if (decide (x3 < (x2.length : Int))) = true then if 0 ≤ x3 then if x3 < (x2.length : Int) then (if 16 = 0 then none else (spec_l00Put.f k x1 ((wrap64 (x0 + (rd 0 x2 x3))).tmod 16)).bind fun t1 => c x0 t1 x2 (wrap64 (x3 + 1))) else none else none else some x1))
noncomputable def spec_l03Next.cs (k : Nat) : Nat → spec_l03Next.Cs
  | 0 => spec_l03Next.zero
  | n + 1 => spec_l03Next.step k (spec_l03Next.cs k n)
def spec_l03Next.CC (c : spec_l03Next.Cs) : Cuts spec_l03Next.N := [(10, ⟨[(0, some false, [.fl (.int .i64)]), (3, some false, [.fl (.own (.int .i64))]), (4, some false, [.fl (.own (.int .i64))]), (5, some false, [.fl (.int .i64)])], fun x => c x.1.1 x.2.1.1 x.2.2.1.1 x.2.2.2.1.1⟩)]
noncomputable def spec_l03Next.f (k : Nat) (a0 : Int) : Option spec_l03Next.N := (spec_l03Next.cs k k) a0 ([] : List Int) [2, 5, 8, 11, 14] 0
noncomputable def spec_l03Next.F (k : Nat) : Go.Rv.Fn := mkFn 1 spec_l03Next.pc spec_l03Next.pr (keepOf []) (fun (y : spec_l03Next.N) => (((y, ()), ()) : compT spec_l03Next.pr)) fun x => spec_l03Next.f k x.1.1
theorem spec_l03Next.env (k : Nat) : EnvOk Go.Proofs.Tryz.prog (fun f => (spec_l03Next.E k).lookup f) := envOk_of ⟨entry Go.Proofs.Tryz.call44 rfl (spec_l00Put.ok k), trivial⟩
theorem spec_l03Next.cuts (k : Nat) : CutsOk Go.Proofs.Tryz.prog X (fun f => (spec_l03Next.E k).lookup f) Go.Proofs.Tryz.f29 [] (decN spec_l03Next.pr (fun (y : compT spec_l03Next.pr) => (y.1.1 : spec_l03Next.N))) fun n => spec_l03Next.CC (spec_l03Next.cs k n) :=
  cutsOk_of (step := spec_l03Next.step k) rfl (fun _ => rfl) ⟨fun _ => rfl, trivial⟩ (fun c => by kernel_rfl) fun c => ⟨fun x => by kernel_rfl, trivial⟩
theorem spec_l03Next.ok (k : Nat) : FnOk Go.Proofs.Tryz.prog 29 (spec_l03Next.F k) :=
  fn_ok tab (spec_l03Next.env k) Go.Proofs.Tryz.func29 rfl (n := 1) (Nat.le_of_ble_eq_true rfl) (by kernel_rfl) (outs := []) (by kernel_rfl) (by kernel_rfl) (d := fun (y : compT spec_l03Next.pr) => (y.1.1 : spec_l03Next.N)) (fun _ => rfl) (C := fun n => spec_l03Next.CC (spec_l03Next.cs k n)) (k := k) (spec_l03Next.cuts k) fun x => by kernel_rfl
/-! (*spec.l00Src).among -/
@[reducible] def spec_l00Src_among.bp : List FPat := [(.lo (.int .u8)), (.int .i64), (.int .u64)]
@[reducible] def spec_l00Src_among.pc : CutP := [(0, none, [.fl (.lo (.int .u8)), .fl (.int .i64), .fl (.int .u64)]), (1, some false, [.fl (.lo (.int .i64))])]
@[reducible] def spec_l00Src_among.pr : CompPs := [(false, [.fl (.int .i64)])]
abbrev spec_l00Src_among.N := Int × List Int × Int × Int
noncomputable def spec_l00Src_among.E (k : Nat) : List (FuncId × Go.Rv.Fn) := [(15, spec_l00Src_pick.F k)]
noncomputable def spec_l00Src_among.f (k : Nat) (a0 : List Int) (a1 : Int) (a2 : Int) (a3 : List Int) : Option spec_l00Src_among.N := (spec_l00Src_pick.f k a0 a1 a2 (a3.length : Int)).bind fun t1 => if 0 ≤ t1.1 then if t1.1 < (a3.length : Int) then some ((rd 0 a3 t1.1), t1.2.1, t1.2.2.1, t1.2.2.2) else none else none
noncomputable def spec_l00Src_among.F (k : Nat) : Go.Rv.Fn := mkFnB 1 spec_l00Src_among.pc spec_l00Src_among.pr spec_l00Src_among.bp (fun (y : spec_l00Src_among.N) => ((((y.1, ()), ()), (y.2.1, y.2.2.1, y.2.2.2, ())) : compT spec_l00Src_among.pr × fpatsT spec_l00Src_among.bp)) fun x => spec_l00Src_among.f k x.1.1 x.1.2.1 x.1.2.2.1 x.2.1.1
theorem spec_l00Src_among.env (k : Nat) : EnvOk Go.Proofs.Tryz.prog (fun f => (spec_l00Src_among.E k).lookup f) := envOk_of ⟨entryB Go.Proofs.Tryz.call15 rfl (spec_l00Src_pick.ok k), trivial⟩
theorem spec_l00Src_among.ok (k : Nat) : FnOkB Go.Proofs.Tryz.prog 28 (spec_l00Src_among.F k) :=
  fn_okB tab (spec_l00Src_among.env k) Go.Proofs.Tryz.func28 rfl (n := 1) (Nat.le_of_ble_eq_true rfl) (by kernel_rfl) (by kernel_rfl) (by kernel_rfl) (d := fun (y : compT spec_l00Src_among.pr × fpatsT spec_l00Src_among.bp) => ((y.1.1.1, y.2.1, y.2.2.1, y.2.2.2.1) : spec_l00Src_among.N)) (fun _ => rfl) (C := (fun _ => [])) (k := k) noCutsG fun x => by kernel_rfl
/-! spec.l00Min -/
@[reducible] def spec_l00Min.pc : CutP := [(0, some false, [.fl (.int .i64)]), (1, some false, [.fl (.int .i64)])]
@[reducible] def spec_l00Min.pr : CompPs := [(false, [.fl (.int .i64)])]
abbrev spec_l00Min.N := Int
noncomputable def spec_l00Min.E (k : Nat) : List (FuncId × Go.Rv.Fn) := []
noncomputable def spec_l00Min.f (k : Nat) (a0 : Int) (a1 : Int) : Option spec_l00Min.N := (if (decide (a0 < a1)) = true then some a0 else some a1)
noncomputable def spec_l00Min.F (k : Nat) : Go.Rv.Fn := mkFn 2 spec_l00Min.pc spec_l00Min.pr (keepOf []) (fun (y : spec_l00Min.N) => (((y, ()), ()) : compT spec_l00Min.pr)) fun x => spec_l00Min.f k x.1.1 x.2.1.1
theorem spec_l00Min.env (k : Nat) : EnvOk Go.Proofs.Tryz.prog (fun f => (spec_l00Min.E k).lookup f) := envOk_of trivial
theorem spec_l00Min.ok (k : Nat) : FnOk Go.Proofs.Tryz.prog 30 (spec_l00Min.F k) :=
  fn_ok tab (spec_l00Min.env k) Go.Proofs.Tryz.func30 rfl (n := 2) (Nat.le_of_ble_eq_true rfl) (by kernel_rfl) (outs := []) (by kernel_rfl) (by kernel_rfl) (d := fun (y : compT spec_l00Min.pr) => (y.1.1 : spec_l00Min.N)) (fun _ => rfl) (C := fun _ => []) (k := k) noCuts fun x => by kernel_rfl
/-! spec.l03DrawOk -/
@[reducible] def spec_l03DrawOk.bp : List FPat := [(.hi (.int .u8)), (.int .i64), (.int .u64)]
@[reducible] def spec_l03DrawOk.pc : CutP := [(0, none, [.fl (.lo (.int .u8)), .fl (.int .i64), .fl (.int .u64)]), (1, some false, [.fl (.int .i64)]), (2, some false, [.fl (.int .i64)])]
@[reducible] def spec_l03DrawOk.pr : CompPs := [(false, [.fl (.own (.pair (.int .i64) (.int .i64)))])]
abbrev spec_l03DrawOk.N := List (Int × Int) × List Int × Int × Int
noncomputable def spec_l03DrawOk.E (k : Nat) : List (FuncId × Go.Rv.Fn) := [(15, spec_l00Src_pick.F k), (28, spec_l00Src_among.F k), (29, spec_l03Next.F k), (30, spec_l00Min.F k)]
abbrev spec_l03DrawOk.Cs := (List Int → Int → Int → Int → Int → List (Int × Int) → Option spec_l03DrawOk.N)
def spec_l03DrawOk.zero : spec_l03DrawOk.Cs := (fun _ _ _ _ _ _ => none)
noncomputable def spec_l03DrawOk.step (k : Nat) (c : spec_l03DrawOk.Cs) : spec_l03DrawOk.Cs := (fun (x0 : List Int) (x1 : Int) (x2 : Int) (x3 : Int) (x4 : Int) (x5 : List (Int × Int)) => (if (decide (0 < x3)) = true then (spec_l03Next.f k x4).bind fun t1 => (spec_l00Src_among.f k x0 x1 x2 t1).bind fun t2 => (spec_l00Src_pick.f k t2.2.1 t2.2.2.1 t2.2.2.2 3).bind fun t3 => (spec_l00Min.f k 1 t3.1).bind fun (t4 : Int) => if x5.length + [(t4, t2.1)].length < 549755813888 then c t3.2.1 t3.2.2.1 t3.2.2.2 (wrap64 (x3 - 1)) t2.1 (x5 ++ [(t4, t2.1)]) else none else some (x5, x0, x1, x2)))
noncomputable def spec_l03DrawOk.cs (k : Nat) : Nat → spec_l03DrawOk.Cs
  | 0 => spec_l03DrawOk.zero
  | n + 1 => spec_l03DrawOk.step k (spec_l03DrawOk.cs k n)
def spec_l03DrawOk.CC (c : spec_l03DrawOk.Cs) : Cuts spec_l03DrawOk.N := [(6, ⟨[(0, none, [.fl (.hi (.int .u8)), .fl (.int .i64), .fl (.int .u64)]), (1, some false, [.fl (.int .i64)]), (2, some false, [.fl (.int .i64)]), (7, some false, [.fl (.own (.pair (.int .i64) (.int .i64)))])], fun x => c x.1.1 x.1.2.1 x.1.2.2.1 x.2.1.1 x.2.2.1.1 x.2.2.2.1.1⟩)]
noncomputable def spec_l03DrawOk.f (k : Nat) (a0 : List Int) (a1 : Int) (a2 : Int) (a3 : Int) (a4 : Int) : Option spec_l03DrawOk.N := (spec_l03DrawOk.cs k k) a0 a1 a2 a3 a4 ([] : List (Int × Int))
noncomputable def spec_l03DrawOk.F (k : Nat) : Go.Rv.Fn := mkFnB 2 spec_l03DrawOk.pc spec_l03DrawOk.pr spec_l03DrawOk.bp (fun (y : spec_l03DrawOk.N) => ((((y.1, ()), ()), (y.2.1, y.2.2.1, y.2.2.2, ())) : compT spec_l03DrawOk.pr × fpatsT spec_l03DrawOk.bp)) fun x => spec_l03DrawOk.f k x.1.1 x.1.2.1 x.1.2.2.1 x.2.1.1 x.2.2.1.1
theorem spec_l03DrawOk.env (k : Nat) : EnvOk Go.Proofs.Tryz.prog (fun f => (spec_l03DrawOk.E k).lookup f) := envOk_of ⟨entryB Go.Proofs.Tryz.call15 rfl (spec_l00Src_pick.ok k), entryB Go.Proofs.Tryz.call28 rfl (spec_l00Src_among.ok k), entry Go.Proofs.Tryz.call29 rfl (spec_l03Next.ok k), entry Go.Proofs.Tryz.call30 rfl (spec_l00Min.ok k), trivial⟩
theorem spec_l03DrawOk.cuts (k : Nat) : CutsOkG Go.Proofs.Tryz.prog { X with n := Go.Proofs.Tryz.f16.ntmps, keep := [0] } (fun f => (spec_l03DrawOk.E k).lookup f) Go.Proofs.Tryz.f16 (endB { X with n := Go.Proofs.Tryz.f16.ntmps, keep := [0] } Go.Proofs.Tryz.f16 spec_l03DrawOk.pr spec_l03DrawOk.bp (fun (y : compT spec_l03DrawOk.pr × fpatsT spec_l03DrawOk.bp) => ((y.1.1.1, y.2.1, y.2.2.1, y.2.2.2.1) : spec_l03DrawOk.N))) fun n => spec_l03DrawOk.CC (spec_l03DrawOk.cs k n) :=
  cutsOkG_of (step := spec_l03DrawOk.step k) rfl (fun _ => rfl) ⟨fun _ => rfl, trivial⟩ (fun c => by kernel_rfl) fun c => ⟨fun x => by kernel_rfl, trivial⟩
theorem spec_l03DrawOk.ok (k : Nat) : FnOkB Go.Proofs.Tryz.prog 16 (spec_l03DrawOk.F k) :=
  fn_okB tab (spec_l03DrawOk.env k) Go.Proofs.Tryz.func16 rfl (n := 2) (Nat.le_of_ble_eq_true rfl) (by kernel_rfl) (by kernel_rfl) (by kernel_rfl) (d := fun (y : compT spec_l03DrawOk.pr × fpatsT spec_l03DrawOk.bp) => ((y.1.1.1, y.2.1, y.2.2.1, y.2.2.2.1) : spec_l03DrawOk.N)) (fun _ => rfl) (C := (fun n => spec_l03DrawOk.CC (spec_l03DrawOk.cs k n))) (k := k) (spec_l03DrawOk.cuts k) fun x => by kernel_rfl
/-! spec.B10Tube -/
@[reducible] def spec_B10Tube.pc : CutP := [(0, some false, [.fl (.lo (.int .u8))])]
@[reducible] def spec_B10Tube.pr : CompPs := [(false, [.fl (.own (.pair (.int .i64) (.int .i64)))])]
abbrev spec_B10Tube.N := List (Int × Int)
noncomputable def spec_B10Tube.E (k : Nat) : List (FuncId × Go.Rv.Fn) := [(14, spec_l00From.F k), (15, spec_l00Src_pick.F k), (16, spec_l03DrawOk.F k)]
noncomputable def spec_B10Tube.f (k : Nat) (a0 : List Int) : Option spec_B10Tube.N := (spec_l00From.f k a0).bind fun t1 => (spec_l00Src_pick.f k t1.1 t1.2.1 t1.2.2 6).bind fun t2 => (spec_l00Src_pick.f k t2.2.1 t2.2.2.1 t2.2.2.2 16).bind fun t3 => (spec_l03DrawOk.f k t3.2.1 t3.2.2.1 t3.2.2.2 (wrap64 (1 + t2.1)) t3.1).bind fun t4 => some t4.1
noncomputable def spec_B10Tube.F (k : Nat) : Go.Rv.Fn := mkFn 1 spec_B10Tube.pc spec_B10Tube.pr (keepOf []) (fun (y : spec_B10Tube.N) => (((y, ()), ()) : compT spec_B10Tube.pr)) fun x => spec_B10Tube.f k x.1.1
theorem spec_B10Tube.env (k : Nat) : EnvOk Go.Proofs.Tryz.prog (fun f => (spec_B10Tube.E k).lookup f) := envOk_of ⟨entry Go.Proofs.Tryz.call14 rfl (spec_l00From.ok k), entryB Go.Proofs.Tryz.call15 rfl (spec_l00Src_pick.ok k), entryB Go.Proofs.Tryz.call16 rfl (spec_l03DrawOk.ok k), trivial⟩
theorem spec_B10Tube.ok (k : Nat) : FnOk Go.Proofs.Tryz.prog 5 (spec_B10Tube.F k) :=
  fn_ok tab (spec_B10Tube.env k) Go.Proofs.Tryz.func5 rfl (n := 1) (Nat.le_of_ble_eq_true rfl) (by kernel_rfl) (outs := []) (by kernel_rfl) (by kernel_rfl) (d := fun (y : compT spec_B10Tube.pr) => (y.1.1 : spec_B10Tube.N)) (fun _ => rfl) (C := fun _ => []) (k := k) noCuts fun x => by kernel_rfl
/-! laws.b10At -/
@[reducible] def laws_b10At.pc : CutP := [(0, some false, [.fl (.lo (.int .u8))]), (1, some false, [.fl (.int .i64)]), (2, some false, [.fl (.int .i64)])]
@[reducible] def laws_b10At.pr : CompPs := [(false, [.fl (.int .i64)])]
abbrev laws_b10At.N := Int
noncomputable def laws_b10At.E (k : Nat) : List (FuncId × Go.Rv.Fn) := []
noncomputable def laws_b10At.f (k : Nat) (a0 : List Int) (a1 : Int) (a2 : Int) : Option laws_b10At.N := (if (decide (a2 ≤ 1)) = true then some 0 else (if (decide (a1 < (a0.length : Int))) = true then if 0 ≤ a1 then if a1 < (a0.length : Int) then (if a2 = 0 then none else some ((wrap64 ((rd 0 a0 a1))).tmod a2)) else none else none else (if a2 = 0 then none else some ((wrap64 ((wrap64 (a1 * 37)) + 11)).tmod a2))))
noncomputable def laws_b10At.F (k : Nat) : Go.Rv.Fn := mkFn 3 laws_b10At.pc laws_b10At.pr (keepOf []) (fun (y : laws_b10At.N) => (((y, ()), ()) : compT laws_b10At.pr)) fun x => laws_b10At.f k x.1.1 x.2.1.1 x.2.2.1.1
theorem laws_b10At.env (k : Nat) : EnvOk Go.Proofs.Tryz.prog (fun f => (laws_b10At.E k).lookup f) := envOk_of trivial
theorem laws_b10At.ok (k : Nat) : FnOk Go.Proofs.Tryz.prog 6 (laws_b10At.F k) :=
  fn_ok tab (laws_b10At.env k) Go.Proofs.Tryz.func6 rfl (n := 3) (Nat.le_of_ble_eq_true rfl) (by kernel_rfl) (outs := []) (by kernel_rfl) (by kernel_rfl) (d := fun (y : compT laws_b10At.pr) => (y.1.1 : laws_b10At.N)) (fun _ => rfl) (C := fun _ => []) (k := k) noCuts fun x => by kernel_rfl
/-! impl.within -/
@[reducible] def impl_within.pc : CutP := [(0, some false, [.fl (.int .i64)]), (1, some false, [.fl (.int .i64)]), (2, some false, [.fl (.int .i64)])]
@[reducible] def impl_within.pr : CompPs := [(false, [.fl .bool])]
abbrev impl_within.N := Bool
noncomputable def impl_within.E (k : Nat) : List (FuncId × Go.Rv.Fn) := []
noncomputable def impl_within.f (k : Nat) (a0 : Int) (a1 : Int) (a2 : Int) : Option impl_within.N := (if (decide (a1 ≤ a0)) = true then some (decide (a0 ≤ a2)) else some false)
noncomputable def impl_within.F (k : Nat) : Go.Rv.Fn := mkFn 3 impl_within.pc impl_within.pr (keepOf []) (fun (y : impl_within.N) => (((y, ()), ()) : compT impl_within.pr)) fun x => impl_within.f k x.1.1 x.2.1.1 x.2.2.1.1
theorem impl_within.env (k : Nat) : EnvOk Go.Proofs.Tryz.prog (fun f => (impl_within.E k).lookup f) := envOk_of trivial
theorem impl_within.ok (k : Nat) : FnOk Go.Proofs.Tryz.prog 45 (impl_within.F k) :=
  fn_ok tab (impl_within.env k) Go.Proofs.Tryz.func45 rfl (n := 3) (Nat.le_of_ble_eq_true rfl) (by kernel_rfl) (outs := []) (by kernel_rfl) (by kernel_rfl) (d := fun (y : compT impl_within.pr) => (y.1.1 : impl_within.N)) (fun _ => rfl) (C := fun _ => []) (k := k) noCuts fun x => by kernel_rfl
/-! impl.ValidRing -/
@[reducible] def impl_ValidRing.pc : CutP := [(0, some true, [.fl (.int .i64), .fl (.int .i64)])]
@[reducible] def impl_ValidRing.pr : CompPs := [(false, [.fl .bool])]
abbrev impl_ValidRing.N := Bool
noncomputable def impl_ValidRing.E (k : Nat) : List (FuncId × Go.Rv.Fn) := [(45, impl_within.F k)]
noncomputable def impl_ValidRing.f (k : Nat) (a0 : Int) (a1 : Int) : Option impl_ValidRing.N := (impl_within.f k a0 0 1).bind fun t1 => (if t1 = true then (impl_within.f k a1 0 15).bind fun t2 => some t2 else some false)
noncomputable def impl_ValidRing.F (k : Nat) : Go.Rv.Fn := mkFn 1 impl_ValidRing.pc impl_ValidRing.pr (keepOf []) (fun (y : impl_ValidRing.N) => (((y, ()), ()) : compT impl_ValidRing.pr)) fun x => impl_ValidRing.f k x.1.1 x.1.2.1
theorem impl_ValidRing.env (k : Nat) : EnvOk Go.Proofs.Tryz.prog (fun f => (impl_ValidRing.E k).lookup f) := envOk_of ⟨entry Go.Proofs.Tryz.call45 rfl (impl_within.ok k), trivial⟩
theorem impl_ValidRing.ok (k : Nat) : FnOk Go.Proofs.Tryz.prog 31 (impl_ValidRing.F k) :=
  fn_ok tab (impl_ValidRing.env k) Go.Proofs.Tryz.func31 rfl (n := 1) (Nat.le_of_ble_eq_true rfl) (by kernel_rfl) (outs := []) (by kernel_rfl) (by kernel_rfl) (d := fun (y : compT impl_ValidRing.pr) => (y.1.1 : impl_ValidRing.N)) (fun _ => rfl) (C := fun _ => []) (k := k) noCuts fun x => by kernel_rfl
/-! slices.Sort[[]int64,int64] -/
@[reducible] def slices_Sort_int64.pc : CutP := [(0, some false, [.fl (.own (.int .i64))])]
@[reducible] def slices_Sort_int64.pr : CompPs := [(false, [.fl (.own (.int .i64))])]
abbrev slices_Sort_int64.N := List Int
noncomputable def slices_Sort_int64.E (k : Nat) : List (FuncId × Go.Rv.Fn) := []
noncomputable def slices_Sort_int64.f (k : Nat) (a0 : List Int) : Option slices_Sort_int64.N := Go.Rv.sortF a0
noncomputable def slices_Sort_int64.F (k : Nat) : Go.Rv.Fn := mkFn 1 slices_Sort_int64.pc slices_Sort_int64.pr (keepOf [(0, 1)]) (fun (y : slices_Sort_int64.N) => (((y, ()), ()) : compT slices_Sort_int64.pr)) fun x => slices_Sort_int64.f k x.1.1
theorem slices_Sort_int64.ok (k : Nat) : FnOk Go.Proofs.Tryz.prog 58 (slices_Sort_int64.F k) := Go.Rv.sort_fn Sh.sort_58 Sh.sort0_58
/-! (impl.Ring).joints -/
@[reducible] def impl_Ring_joints.pc : CutP := [(0, some true, [.fl (.int .i64), .fl (.int .i64)])]
@[reducible] def impl_Ring_joints.pr : CompPs := [(false, [.fl (.own (.int .i64))])]
abbrev impl_Ring_joints.N := List Int
noncomputable def impl_Ring_joints.E (k : Nat) : List (FuncId × Go.Rv.Fn) := [(58, slices_Sort_int64.F k)]
abbrev impl_Ring_joints.Cs := (Int → Int → List Int → List Int → Int → Int → Option impl_Ring_joints.N)
def impl_Ring_joints.zero : impl_Ring_joints.Cs := (fun _ _ _ _ _ _ => none)
noncomputable def impl_Ring_joints.step (k : Nat) (c : impl_Ring_joints.Cs) : impl_Ring_joints.Cs := (fun (x0 : Int) (x1 : Int) (x2 : List Int) (x3 : List Int) (x4 : Int) (x5 : Int) => (if (decide (x5 < x4)) = true then if 0 ≤ x5 then if x5 < (x3.length : Int) then (if 16 = 0 then none else if x2.length + [((wrap64 (x1 + (rd 0 x3 x5))).tmod 16)].length < 1099511627776 then c x0 x1 (x2 ++ [((wrap64 (x1 + (rd 0 x3 x5))).tmod 16)]) x3 x4 (wrap64 (x5 + 1)) else none) else none else none else (slices_Sort_int64.f k x2).bind fun t1 => some t1))
noncomputable def impl_Ring_joints.cs (k : Nat) : Nat → impl_Ring_joints.Cs
  | 0 => impl_Ring_joints.zero
  | n + 1 => impl_Ring_joints.step k (impl_Ring_joints.cs k n)
def impl_Ring_joints.CC (c : impl_Ring_joints.Cs) : Cuts impl_Ring_joints.N := [(8, ⟨[(1, none, [.fl (.int .i64), .fl (.int .i64)]), (3, some false, [.fl (.own (.int .i64))]), (7, some false, [.fl (.own (.int .i64))]), (8, some false, [.fl (.int .i64)]), (9, some false, [.fl (.int .i64)])], fun x => c x.1.1 x.1.2.1 x.2.1.1 x.2.2.1.1 x.2.2.2.1.1 x.2.2.2.2.1.1⟩)]
noncomputable def impl_Ring_joints.f (k : Nat) (a0 : Int) (a1 : Int) : Option impl_Ring_joints.N := (impl_Ring_joints.cs k k) a0 a1 ([] : List Int) [0, 1, 4, 7, 10, 13] ([0, 1, 4, 7, 10, 13].length : Int) 0
noncomputable def impl_Ring_joints.F (k : Nat) : Go.Rv.Fn := mkFn 1 impl_Ring_joints.pc impl_Ring_joints.pr (keepOf []) (fun (y : impl_Ring_joints.N) => (((y, ()), ()) : compT impl_Ring_joints.pr)) fun x => impl_Ring_joints.f k x.1.1 x.1.2.1
theorem impl_Ring_joints.env (k : Nat) : EnvOk Go.Proofs.Tryz.prog (fun f => (impl_Ring_joints.E k).lookup f) := envOk_of ⟨entry Go.Proofs.Tryz.call58 rfl (slices_Sort_int64.ok k), trivial⟩
theorem impl_Ring_joints.cuts (k : Nat) : CutsOk Go.Proofs.Tryz.prog X (fun f => (impl_Ring_joints.E k).lookup f) Go.Proofs.Tryz.f46 [] (decN impl_Ring_joints.pr (fun (y : compT impl_Ring_joints.pr) => (y.1.1 : impl_Ring_joints.N))) fun n => impl_Ring_joints.CC (impl_Ring_joints.cs k n) :=
  cutsOk_of (step := impl_Ring_joints.step k) rfl (fun _ => rfl) ⟨fun _ => rfl, trivial⟩ (fun c => by kernel_rfl) fun c => ⟨fun x => by kernel_rfl, trivial⟩
theorem impl_Ring_joints.ok (k : Nat) : FnOk Go.Proofs.Tryz.prog 46 (impl_Ring_joints.F k) :=
  fn_ok tab (impl_Ring_joints.env k) Go.Proofs.Tryz.func46 rfl (n := 1) (Nat.le_of_ble_eq_true rfl) (by kernel_rfl) (outs := []) (by kernel_rfl) (by kernel_rfl) (d := fun (y : compT impl_Ring_joints.pr) => (y.1.1 : impl_Ring_joints.N)) (fun _ => rfl) (C := fun n => impl_Ring_joints.CC (impl_Ring_joints.cs k n)) (k := k) (impl_Ring_joints.cuts k) fun x => by kernel_rfl
/-! slices.Index[[]int64,int64] -/
@[reducible] def slices_Index_int64.pc : CutP := [(0, some false, [.fl (.lo (.int .i64))]), (1, some false, [.fl (.int .i64)])]
@[reducible] def slices_Index_int64.pr : CompPs := [(false, [.fl (.int .i64)])]
abbrev slices_Index_int64.N := Int
noncomputable def slices_Index_int64.E (k : Nat) : List (FuncId × Go.Rv.Fn) := []
abbrev slices_Index_int64.Cs := (List Int → Int → Int → Int → Option slices_Index_int64.N)
def slices_Index_int64.zero : slices_Index_int64.Cs := (fun _ _ _ _ => none)
noncomputable def slices_Index_int64.step (k : Nat) (c : slices_Index_int64.Cs) : slices_Index_int64.Cs := (fun (x0 : List Int) (x1 : Int) (x2 : Int) (x3 : Int) => (if (decide (x3 < x2)) = true then if 0 ≤ x3 then if x3 < (x0.length : Int) then (if (decide (x1 = (rd 0 x0 x3))) = true then some x3 else c x0 x1 x2 (wrap64 (x3 + 1))) else none else none else some (-1)))
noncomputable def slices_Index_int64.cs (k : Nat) : Nat → slices_Index_int64.Cs
  | 0 => slices_Index_int64.zero
  | n + 1 => slices_Index_int64.step k (slices_Index_int64.cs k n)
def slices_Index_int64.CC (c : slices_Index_int64.Cs) : Cuts slices_Index_int64.N := [(6, ⟨[(0, some false, [.fl (.lo (.int .i64))]), (1, some false, [.fl (.int .i64)]), (7, some false, [.fl (.int .i64)]), (8, some false, [.fl (.int .i64)])], fun x => c x.1.1 x.2.1.1 x.2.2.1.1 x.2.2.2.1.1⟩)]
noncomputable def slices_Index_int64.f (k : Nat) (a0 : List Int) (a1 : Int) : Option slices_Index_int64.N := (slices_Index_int64.cs k k) a0 a1 (a0.length : Int) 0
noncomputable def slices_Index_int64.F (k : Nat) : Go.Rv.Fn := mkFn 2 slices_Index_int64.pc slices_Index_int64.pr (keepOf []) (fun (y : slices_Index_int64.N) => (((y, ()), ()) : compT slices_Index_int64.pr)) fun x => slices_Index_int64.f k x.1.1 x.2.1.1
theorem slices_Index_int64.env (k : Nat) : EnvOk Go.Proofs.Tryz.prog (fun f => (slices_Index_int64.E k).lookup f) := envOk_of trivial
theorem slices_Index_int64.cuts (k : Nat) : CutsOk Go.Proofs.Tryz.prog X (fun f => (slices_Index_int64.E k).lookup f) Go.Proofs.Tryz.f59 [] (decN slices_Index_int64.pr (fun (y : compT slices_Index_int64.pr) => (y.1.1 : slices_Index_int64.N))) fun n => slices_Index_int64.CC (slices_Index_int64.cs k n) :=
  cutsOk_of (step := slices_Index_int64.step k) rfl (fun _ => rfl) ⟨fun _ => rfl, trivial⟩ (fun c => by kernel_rfl) fun c => ⟨fun x => by kernel_rfl, trivial⟩
theorem slices_Index_int64.ok (k : Nat) : FnOk Go.Proofs.Tryz.prog 59 (slices_Index_int64.F k) :=
  fn_ok tab (slices_Index_int64.env k) Go.Proofs.Tryz.func59 rfl (n := 2) (Nat.le_of_ble_eq_true rfl) (by kernel_rfl) (outs := []) (by kernel_rfl) (by kernel_rfl) (d := fun (y : compT slices_Index_int64.pr) => (y.1.1 : slices_Index_int64.N)) (fun _ => rfl) (C := fun n => slices_Index_int64.CC (slices_Index_int64.cs k n)) (k := k) (slices_Index_int64.cuts k) fun x => by kernel_rfl
/-! slices.Contains[[]int64,int64] -/
@[reducible] def slices_Contains_int64.pc : CutP := [(0, some false, [.fl (.lo (.int .i64))]), (1, some false, [.fl (.int .i64)])]
@[reducible] def slices_Contains_int64.pr : CompPs := [(false, [.fl .bool])]
abbrev slices_Contains_int64.N := Bool
noncomputable def slices_Contains_int64.E (k : Nat) : List (FuncId × Go.Rv.Fn) := [(59, slices_Index_int64.F k)]
noncomputable def slices_Contains_int64.f (k : Nat) (a0 : List Int) (a1 : Int) : Option slices_Contains_int64.N := (slices_Index_int64.f k a0 a1).bind fun (t1 : Int) => some (decide (0 ≤ t1))
noncomputable def slices_Contains_int64.F (k : Nat) : Go.Rv.Fn := mkFn 2 slices_Contains_int64.pc slices_Contains_int64.pr (keepOf []) (fun (y : slices_Contains_int64.N) => (((y, ()), ()) : compT slices_Contains_int64.pr)) fun x => slices_Contains_int64.f k x.1.1 x.2.1.1
theorem slices_Contains_int64.env (k : Nat) : EnvOk Go.Proofs.Tryz.prog (fun f => (slices_Contains_int64.E k).lookup f) := envOk_of ⟨entry Go.Proofs.Tryz.call59 rfl (slices_Index_int64.ok k), trivial⟩
theorem slices_Contains_int64.ok (k : Nat) : FnOk Go.Proofs.Tryz.prog 47 (slices_Contains_int64.F k) :=
  fn_ok tab (slices_Contains_int64.env k) Go.Proofs.Tryz.func47 rfl (n := 2) (Nat.le_of_ble_eq_true rfl) (by kernel_rfl) (outs := []) (by kernel_rfl) (by kernel_rfl) (d := fun (y : compT slices_Contains_int64.pr) => (y.1.1 : slices_Contains_int64.N)) (fun _ => rfl) (C := fun _ => []) (k := k) noCuts fun x => by kernel_rfl
/-! impl.meeting -/
@[reducible] def impl_meeting.pc : CutP := [(0, some true, [.fl (.int .i64), .fl (.int .i64)]), (1, some true, [.fl (.int .i64), .fl (.int .i64)])]
@[reducible] def impl_meeting.pr : CompPs := [(false, [.fl (.own (.int .i64))])]
abbrev impl_meeting.N := List Int
noncomputable def impl_meeting.E (k : Nat) : List (FuncId × Go.Rv.Fn) := [(46, impl_Ring_joints.F k), (47, slices_Contains_int64.F k)]
abbrev impl_meeting.Cs := (Int → Int → List Int → List Int → Int → Int → Option impl_meeting.N)
def impl_meeting.zero : impl_meeting.Cs := (fun _ _ _ _ _ _ => none)
noncomputable def impl_meeting.step (k : Nat) (c : impl_meeting.Cs) : impl_meeting.Cs := (fun (x0 : Int) (x1 : Int) (x2 : List Int) (x3 : List Int) (x4 : Int) (x5 : Int) => (if (decide (x5 < x4)) = true then if 0 ≤ x5 then if x5 < (x3.length : Int) then (impl_Ring_joints.f k x0 x1).bind fun t2 => (slices_Contains_int64.f k t2 (rd 0 x3 x5)).bind fun t3 => (if t3 = true then if x2.length + [(rd 0 x3 x5)].length < 1099511627776 then c x0 x1 (x2 ++ [(rd 0 x3 x5)]) x3 x4 (wrap64 (x5 + 1)) else none else c x0 x1 x2 x3 x4 (wrap64 (x5 + 1))) else none else none else some x2))
noncomputable def impl_meeting.cs (k : Nat) : Nat → impl_meeting.Cs
  | 0 => impl_meeting.zero
  | n + 1 => impl_meeting.step k (impl_meeting.cs k n)
def impl_meeting.CC (c : impl_meeting.Cs) : Cuts impl_meeting.N := [(8, ⟨[(3, none, [.fl (.int .i64), .fl (.int .i64)]), (5, some false, [.fl (.own (.int .i64))]), (10, some false, [.fl (.own (.int .i64))]), (11, some false, [.fl (.int .i64)]), (12, some false, [.fl (.int .i64)])], fun x => c x.1.1 x.1.2.1 x.2.1.1 x.2.2.1.1 x.2.2.2.1.1 x.2.2.2.2.1.1⟩)]
noncomputable def impl_meeting.f (k : Nat) (a0 : Int) (a1 : Int) (a2 : Int) (a3 : Int) : Option impl_meeting.N := (impl_Ring_joints.f k a0 a1).bind fun t1 => (impl_meeting.cs k k) a2 a3 ([] : List Int) t1 (t1.length : Int) 0
noncomputable def impl_meeting.F (k : Nat) : Go.Rv.Fn := mkFn 2 impl_meeting.pc impl_meeting.pr (keepOf []) (fun (y : impl_meeting.N) => (((y, ()), ()) : compT impl_meeting.pr)) fun x => impl_meeting.f k x.1.1 x.1.2.1 x.2.1.1 x.2.1.2.1
theorem impl_meeting.env (k : Nat) : EnvOk Go.Proofs.Tryz.prog (fun f => (impl_meeting.E k).lookup f) := envOk_of ⟨entry Go.Proofs.Tryz.call46 rfl (impl_Ring_joints.ok k), entry Go.Proofs.Tryz.call47 rfl (slices_Contains_int64.ok k), trivial⟩
theorem impl_meeting.cuts (k : Nat) : CutsOk Go.Proofs.Tryz.prog X (fun f => (impl_meeting.E k).lookup f) Go.Proofs.Tryz.f32 [] (decN impl_meeting.pr (fun (y : compT impl_meeting.pr) => (y.1.1 : impl_meeting.N))) fun n => impl_meeting.CC (impl_meeting.cs k n) :=
  cutsOk_of (step := impl_meeting.step k) rfl (fun _ => rfl) ⟨fun _ => rfl, trivial⟩ (fun c => by kernel_rfl) fun c => ⟨fun x => by kernel_rfl, trivial⟩
theorem impl_meeting.ok (k : Nat) : FnOk Go.Proofs.Tryz.prog 32 (impl_meeting.F k) :=
  fn_ok tab (impl_meeting.env k) Go.Proofs.Tryz.func32 rfl (n := 2) (Nat.le_of_ble_eq_true rfl) (by kernel_rfl) (outs := []) (by kernel_rfl) (by kernel_rfl) (d := fun (y : compT impl_meeting.pr) => (y.1.1 : impl_meeting.N)) (fun _ => rfl) (C := fun n => impl_meeting.CC (impl_meeting.cs k n)) (k := k) (impl_meeting.cuts k) fun x => by kernel_rfl
/-! impl.ValidTube -/
@[reducible] def impl_ValidTube.pc : CutP := [(0, some false, [.fl (.lo (.pair (.int .i64) (.int .i64)))])]
@[reducible] def impl_ValidTube.pr : CompPs := [(false, [.fl .bool])]
abbrev impl_ValidTube.N := Bool
noncomputable def impl_ValidTube.E (k : Nat) : List (FuncId × Go.Rv.Fn) := [(31, impl_ValidRing.F k), (32, impl_meeting.F k)]
abbrev impl_ValidTube.Cs := (List (Int × Int) → List (Int × Int) → Int → Int → Option impl_ValidTube.N)
def impl_ValidTube.zero : impl_ValidTube.Cs := (fun _ _ _ _ => none)
noncomputable def impl_ValidTube.step (k : Nat) (c : impl_ValidTube.Cs) : impl_ValidTube.Cs := (fun (x0 : List (Int × Int)) (x1 : List (Int × Int)) (x2 : Int) (x3 : Int) => (if (decide (x3 < x2)) = true then if 0 ≤ x3 then if x3 < (x1.length : Int) then (impl_ValidRing.f k ((rd (0, 0) x1 x3).1) ((rd (0, 0) x1 x3).2)).bind fun t1 => (if (!t1) = true then some false else (if (decide (0 < x3)) = true then if 0 ≤ (wrap64 (x3 - 1)) then if (wrap64 (x3 - 1)) < (x0.length : Int) then (impl_meeting.f k ((rd (0, 0) x0 (wrap64 (x3 - 1))).1) ((rd (0, 0) x0 (wrap64 (x3 - 1))).2) ((rd (0, 0) x1 x3).1) ((rd (0, 0) x1 x3).2)).bind fun t2 => (if (decide (0 < (t2.length : Int))) = true then some false else c x0 x1 x2 (wrap64 (x3 + 1))) else none else none else c x0 x1 x2 (wrap64 (x3 + 1)))) else none else none else some (decide ((x0.length : Int) ≤ 60))))
noncomputable def impl_ValidTube.cs (k : Nat) : Nat → impl_ValidTube.Cs
  | 0 => impl_ValidTube.zero
  | n + 1 => impl_ValidTube.step k (impl_ValidTube.cs k n)
def impl_ValidTube.CC (c : impl_ValidTube.Cs) : Cuts impl_ValidTube.N := [(6, ⟨[(0, some false, [.fl (.lo (.pair (.int .i64) (.int .i64)))]), (5, some false, [.fl (.lo (.pair (.int .i64) (.int .i64)))]), (6, some false, [.fl (.int .i64)]), (7, some false, [.fl (.int .i64)])], fun x => c x.1.1 x.2.1.1 x.2.2.1.1 x.2.2.2.1.1⟩)]
noncomputable def impl_ValidTube.f (k : Nat) (a0 : List (Int × Int)) : Option impl_ValidTube.N := (impl_ValidTube.cs k k) a0 a0 (a0.length : Int) 0
noncomputable def impl_ValidTube.F (k : Nat) : Go.Rv.Fn := mkFn 1 impl_ValidTube.pc impl_ValidTube.pr (keepOf []) (fun (y : impl_ValidTube.N) => (((y, ()), ()) : compT impl_ValidTube.pr)) fun x => impl_ValidTube.f k x.1.1
theorem impl_ValidTube.env (k : Nat) : EnvOk Go.Proofs.Tryz.prog (fun f => (impl_ValidTube.E k).lookup f) := envOk_of ⟨entry Go.Proofs.Tryz.call31 rfl (impl_ValidRing.ok k), entry Go.Proofs.Tryz.call32 rfl (impl_meeting.ok k), trivial⟩
theorem impl_ValidTube.cuts (k : Nat) : CutsOk Go.Proofs.Tryz.prog X (fun f => (impl_ValidTube.E k).lookup f) Go.Proofs.Tryz.f17 [] (decN impl_ValidTube.pr (fun (y : compT impl_ValidTube.pr) => (y.1.1 : impl_ValidTube.N))) fun n => impl_ValidTube.CC (impl_ValidTube.cs k n) :=
  cutsOk_of (step := impl_ValidTube.step k) rfl (fun _ => rfl) ⟨fun _ => rfl, trivial⟩ (fun c => by kernel_rfl) fun c => ⟨fun x => by kernel_rfl, trivial⟩
theorem impl_ValidTube.ok (k : Nat) : FnOk Go.Proofs.Tryz.prog 17 (impl_ValidTube.F k) :=
  fn_ok tab (impl_ValidTube.env k) Go.Proofs.Tryz.func17 rfl (n := 1) (Nat.le_of_ble_eq_true rfl) (by kernel_rfl) (outs := []) (by kernel_rfl) (by kernel_rfl) (d := fun (y : compT impl_ValidTube.pr) => (y.1.1 : impl_ValidTube.N)) (fun _ => rfl) (C := fun n => impl_ValidTube.CC (impl_ValidTube.cs k n)) (k := k) (impl_ValidTube.cuts k) fun x => by kernel_rfl
/-! impl.areWithin$1 -/
@[reducible] def impl_areWithin_1.pc : CutP := [(0, some false, [.fl (.int .i64)]), (1, some false, [.rptr [(.int .i64)]]), (2, some false, [.rptr [(.int .i64)]])]
@[reducible] def impl_areWithin_1.pr : CompPs := [(false, [.fl .bool])]
abbrev impl_areWithin_1.N := Bool
noncomputable def impl_areWithin_1.E (k : Nat) : List (FuncId × Go.Rv.Fn) := [(45, impl_within.F k)]
noncomputable def impl_areWithin_1.f (k : Nat) (a0 : Int) (a1 : Int) (a2 : Int) : Option impl_areWithin_1.N := (impl_within.f k a0 a1 a2).bind fun t1 => some (!t1)
noncomputable def impl_areWithin_1.F (k : Nat) : Go.Rv.Fn := mkFn 3 impl_areWithin_1.pc impl_areWithin_1.pr (keepOf []) (fun (y : impl_areWithin_1.N) => (((y, ()), ()) : compT impl_areWithin_1.pr)) fun x => impl_areWithin_1.f k x.1.1 x.2.1.1.1 x.2.2.1.1.1
theorem impl_areWithin_1.env (k : Nat) : EnvOk Go.Proofs.Tryz.prog (fun f => (impl_areWithin_1.E k).lookup f) := envOk_of ⟨entry Go.Proofs.Tryz.call45 rfl (impl_within.ok k), trivial⟩
theorem impl_areWithin_1.ok (k : Nat) : FnOk Go.Proofs.Tryz.prog 61 (impl_areWithin_1.F k) :=
  fn_ok tab (impl_areWithin_1.env k) Go.Proofs.Tryz.func61 rfl (n := 3) (Nat.le_of_ble_eq_true rfl) (by kernel_rfl) (outs := []) (by kernel_rfl) (by kernel_rfl) (d := fun (y : compT impl_areWithin_1.pr) => (y.1.1 : impl_areWithin_1.N)) (fun _ => rfl) (C := fun _ => []) (k := k) noCuts fun x => by kernel_rfl
/-! slices.IndexFunc[[]int64,int64] -/
@[reducible] def slices_IndexFunc_int64_areWithin_1.pc : CutP := [(0, some false, [.fl (.lo (.int .i64))]), (1, some false, [.fn 61 [[(.int .i64)], [(.int .i64)]]])]
@[reducible] def slices_IndexFunc_int64_areWithin_1.pr : CompPs := [(false, [.fl (.int .i64)])]
abbrev slices_IndexFunc_int64_areWithin_1.N := Int
noncomputable def slices_IndexFunc_int64_areWithin_1.E (k : Nat) : List (FuncId × Go.Rv.Fn) := [(61, impl_areWithin_1.F k)]
abbrev slices_IndexFunc_int64_areWithin_1.Cs := (List Int → Int → Int → Int → Int → Option slices_IndexFunc_int64_areWithin_1.N)
def slices_IndexFunc_int64_areWithin_1.zero : slices_IndexFunc_int64_areWithin_1.Cs := (fun _ _ _ _ _ => none)
noncomputable def slices_IndexFunc_int64_areWithin_1.step (k : Nat) (c : slices_IndexFunc_int64_areWithin_1.Cs) : slices_IndexFunc_int64_areWithin_1.Cs := (fun (x0 : List Int) (x1 : Int) (x2 : Int) (x3 : Int) (x4 : Int) => (if (decide (x4 < x3)) = true then if 0 ≤ x4 then if x4 < (x0.length : Int) then (impl_areWithin_1.f k (rd 0 x0 x4) x1 x2).bind fun t1 => (if t1 = true then some x4 else c x0 x1 x2 x3 (wrap64 (x4 + 1))) else none else none else some (-1)))
noncomputable def slices_IndexFunc_int64_areWithin_1.cs (k : Nat) : Nat → slices_IndexFunc_int64_areWithin_1.Cs
  | 0 => slices_IndexFunc_int64_areWithin_1.zero
  | n + 1 => slices_IndexFunc_int64_areWithin_1.step k (slices_IndexFunc_int64_areWithin_1.cs k n)
def slices_IndexFunc_int64_areWithin_1.CC (c : slices_IndexFunc_int64_areWithin_1.Cs) : Cuts slices_IndexFunc_int64_areWithin_1.N := [(6, ⟨[(0, some false, [.fl (.lo (.int .i64))]), (1, some false, [.fn 61 [[(.int .i64)], [(.int .i64)]]]), (7, some false, [.fl (.int .i64)]), (8, some false, [.fl (.int .i64)])], fun x => c x.1.1 x.2.1.1.1.1 x.2.1.1.2.1.1 x.2.2.1.1 x.2.2.2.1.1⟩)]
noncomputable def slices_IndexFunc_int64_areWithin_1.f (k : Nat) (a0 : List Int) (a1 : Int) (a2 : Int) : Option slices_IndexFunc_int64_areWithin_1.N := (slices_IndexFunc_int64_areWithin_1.cs k k) a0 a1 a2 (a0.length : Int) 0
noncomputable def slices_IndexFunc_int64_areWithin_1.F (k : Nat) : Go.Rv.Fn := mkFn 2 slices_IndexFunc_int64_areWithin_1.pc slices_IndexFunc_int64_areWithin_1.pr (keepOf []) (fun (y : slices_IndexFunc_int64_areWithin_1.N) => (((y, ()), ()) : compT slices_IndexFunc_int64_areWithin_1.pr)) fun x => slices_IndexFunc_int64_areWithin_1.f k x.1.1 x.2.1.1.1.1 x.2.1.1.2.1.1
theorem slices_IndexFunc_int64_areWithin_1.env (k : Nat) : EnvOk Go.Proofs.Tryz.prog (fun f => (slices_IndexFunc_int64_areWithin_1.E k).lookup f) := envOk_of ⟨entry Go.Proofs.Tryz.call61 rfl (impl_areWithin_1.ok k), trivial⟩
theorem slices_IndexFunc_int64_areWithin_1.cuts (k : Nat) : CutsOk Go.Proofs.Tryz.prog X (fun f => (slices_IndexFunc_int64_areWithin_1.E k).lookup f) Go.Proofs.Tryz.f72 [] (decN slices_IndexFunc_int64_areWithin_1.pr (fun (y : compT slices_IndexFunc_int64_areWithin_1.pr) => (y.1.1 : slices_IndexFunc_int64_areWithin_1.N))) fun n => slices_IndexFunc_int64_areWithin_1.CC (slices_IndexFunc_int64_areWithin_1.cs k n) :=
  cutsOk_of (step := slices_IndexFunc_int64_areWithin_1.step k) rfl (fun _ => rfl) ⟨fun _ => rfl, trivial⟩ (fun c => by kernel_rfl) fun c => ⟨fun x => by kernel_rfl, trivial⟩
theorem slices_IndexFunc_int64_areWithin_1.ok (k : Nat) : FnOk Go.Proofs.Tryz.prog 72 (slices_IndexFunc_int64_areWithin_1.F k) :=
  fn_ok tab (slices_IndexFunc_int64_areWithin_1.env k) Go.Proofs.Tryz.func72 rfl (n := 2) (Nat.le_of_ble_eq_true rfl) (by kernel_rfl) (outs := []) (by kernel_rfl) (by kernel_rfl) (d := fun (y : compT slices_IndexFunc_int64_areWithin_1.pr) => (y.1.1 : slices_IndexFunc_int64_areWithin_1.N)) (fun _ => rfl) (C := fun n => slices_IndexFunc_int64_areWithin_1.CC (slices_IndexFunc_int64_areWithin_1.cs k n)) (k := k) (slices_IndexFunc_int64_areWithin_1.cuts k) fun x => by kernel_rfl
/-! slices.ContainsFunc[[]int64,int64] -/
@[reducible] def slices_ContainsFunc_int64_areWithin_1.pc : CutP := [(0, some false, [.fl (.lo (.int .i64))]), (1, some false, [.fn 61 [[(.int .i64)], [(.int .i64)]]])]
@[reducible] def slices_ContainsFunc_int64_areWithin_1.pr : CompPs := [(false, [.fl .bool])]
abbrev slices_ContainsFunc_int64_areWithin_1.N := Bool
noncomputable def slices_ContainsFunc_int64_areWithin_1.E (k : Nat) : List (FuncId × Go.Rv.Fn) := [(72, slices_IndexFunc_int64_areWithin_1.F k)]
noncomputable def slices_ContainsFunc_int64_areWithin_1.f (k : Nat) (a0 : List Int) (a1 : Int) (a2 : Int) : Option slices_ContainsFunc_int64_areWithin_1.N := (slices_IndexFunc_int64_areWithin_1.f k a0 a1 a2).bind fun (t1 : Int) => some (decide (0 ≤ t1))
noncomputable def slices_ContainsFunc_int64_areWithin_1.F (k : Nat) : Go.Rv.Fn := mkFn 2 slices_ContainsFunc_int64_areWithin_1.pc slices_ContainsFunc_int64_areWithin_1.pr (keepOf []) (fun (y : slices_ContainsFunc_int64_areWithin_1.N) => (((y, ()), ()) : compT slices_ContainsFunc_int64_areWithin_1.pr)) fun x => slices_ContainsFunc_int64_areWithin_1.f k x.1.1 x.2.1.1.1.1 x.2.1.1.2.1.1
theorem slices_ContainsFunc_int64_areWithin_1.env (k : Nat) : EnvOk Go.Proofs.Tryz.prog (fun f => (slices_ContainsFunc_int64_areWithin_1.E k).lookup f) := envOk_of ⟨entry Go.Proofs.Tryz.call72 rfl (slices_IndexFunc_int64_areWithin_1.ok k), trivial⟩
theorem slices_ContainsFunc_int64_areWithin_1.ok (k : Nat) : FnOk Go.Proofs.Tryz.prog 60 (slices_ContainsFunc_int64_areWithin_1.F k) :=
  fn_ok tab (slices_ContainsFunc_int64_areWithin_1.env k) Go.Proofs.Tryz.func60 rfl (n := 2) (Nat.le_of_ble_eq_true rfl) (by kernel_rfl) (outs := []) (by kernel_rfl) (by kernel_rfl) (d := fun (y : compT slices_ContainsFunc_int64_areWithin_1.pr) => (y.1.1 : slices_ContainsFunc_int64_areWithin_1.N)) (fun _ => rfl) (C := fun _ => []) (k := k) noCuts fun x => by kernel_rfl
/-! impl.areWithin -/
@[reducible] def impl_areWithin.pc : CutP := [(0, some false, [.fl (.lo (.int .i64))]), (1, some false, [.fl (.int .i64)]), (2, some false, [.fl (.int .i64)])]
@[reducible] def impl_areWithin.pr : CompPs := [(false, [.fl .bool])]
abbrev impl_areWithin.N := Bool
noncomputable def impl_areWithin.E (k : Nat) : List (FuncId × Go.Rv.Fn) := [(60, slices_ContainsFunc_int64_areWithin_1.F k)]
noncomputable def impl_areWithin.f (k : Nat) (a0 : List Int) (a1 : Int) (a2 : Int) : Option impl_areWithin.N := (slices_ContainsFunc_int64_areWithin_1.f k a0 a1 a2).bind fun t1 => some (!t1)
noncomputable def impl_areWithin.F (k : Nat) : Go.Rv.Fn := mkFn 3 impl_areWithin.pc impl_areWithin.pr (keepOf []) (fun (y : impl_areWithin.N) => (((y, ()), ()) : compT impl_areWithin.pr)) fun x => impl_areWithin.f k x.1.1 x.2.1.1 x.2.2.1.1
theorem impl_areWithin.env (k : Nat) : EnvOk Go.Proofs.Tryz.prog (fun f => (impl_areWithin.E k).lookup f) := envOk_of ⟨entry Go.Proofs.Tryz.call60 rfl (slices_ContainsFunc_int64_areWithin_1.ok k), trivial⟩
theorem impl_areWithin.ok (k : Nat) : FnOk Go.Proofs.Tryz.prog 48 (impl_areWithin.F k) :=
  fn_ok tab (impl_areWithin.env k) Go.Proofs.Tryz.func48 rfl (n := 3) (Nat.le_of_ble_eq_true rfl) (by kernel_rfl) (outs := []) (by kernel_rfl) (by kernel_rfl) (d := fun (y : compT impl_areWithin.pr) => (y.1.1 : impl_areWithin.N)) (fun _ => rfl) (C := fun _ => []) (k := k) noCuts fun x => by kernel_rfl
/-! impl.ValidPose -/
@[reducible] def impl_ValidPose.pc : CutP := [(0, some true, [.fl (.int .i64), .fl (.int .i64), .fl (.int .i64), .fl (.int .i64)])]
@[reducible] def impl_ValidPose.pr : CompPs := [(false, [.fl .bool])]
abbrev impl_ValidPose.N := Bool
noncomputable def impl_ValidPose.E (k : Nat) : List (FuncId × Go.Rv.Fn) := [(48, impl_areWithin.F k)]
noncomputable def impl_ValidPose.f (k : Nat) (a0 : Int) (a1 : Int) (a2 : Int) (a3 : Int) : Option impl_ValidPose.N := (impl_areWithin.f k [a0, a1] (-100000) 100000).bind fun t1 => (if t1 = true then (impl_areWithin.f k [a2, a3] (-400) 400).bind fun t2 => some t2 else some false)
noncomputable def impl_ValidPose.F (k : Nat) : Go.Rv.Fn := mkFn 1 impl_ValidPose.pc impl_ValidPose.pr (keepOf []) (fun (y : impl_ValidPose.N) => (((y, ()), ()) : compT impl_ValidPose.pr)) fun x => impl_ValidPose.f k x.1.1 x.1.2.1 x.1.2.2.1 x.1.2.2.2.1
theorem impl_ValidPose.env (k : Nat) : EnvOk Go.Proofs.Tryz.prog (fun f => (impl_ValidPose.E k).lookup f) := envOk_of ⟨entry Go.Proofs.Tryz.call48 rfl (impl_areWithin.ok k), trivial⟩
theorem impl_ValidPose.ok (k : Nat) : FnOk Go.Proofs.Tryz.prog 33 (impl_ValidPose.F k) :=
  fn_ok tab (impl_ValidPose.env k) Go.Proofs.Tryz.func33 rfl (n := 1) (Nat.le_of_ble_eq_true rfl) (by kernel_rfl) (outs := []) (by kernel_rfl) (by kernel_rfl) (d := fun (y : compT impl_ValidPose.pr) => (y.1.1 : impl_ValidPose.N)) (fun _ => rfl) (C := fun _ => []) (k := k) noCuts fun x => by kernel_rfl
/-! (impl.Ring).turn -/
@[reducible] def impl_Ring_turn.pc : CutP := [(0, some true, [.fl (.int .i64), .fl (.int .i64)])]
@[reducible] def impl_Ring_turn.pr : CompPs := [(false, [.fl (.int .i64)]), (false, [.fl (.int .i64)])]
abbrev impl_Ring_turn.N := Int × Int
noncomputable def impl_Ring_turn.E (k : Nat) : List (FuncId × Go.Rv.Fn) := []
noncomputable def impl_Ring_turn.f (k : Nat) (a0 : Int) (a1 : Int) : Option impl_Ring_turn.N := T.impl_Ring_turn.f a0 a1
noncomputable def impl_Ring_turn.F (k : Nat) : Go.Rv.Fn := mkFn 1 impl_Ring_turn.pc impl_Ring_turn.pr (keepOf []) (fun (y : impl_Ring_turn.N) => (((y.1, ()), (y.2, ()), ()) : compT impl_Ring_turn.pr)) fun x => impl_Ring_turn.f k x.1.1 x.1.2.1
theorem impl_Ring_turn.ok (k : Nat) : FnOk Go.Proofs.Tryz.prog 36 (impl_Ring_turn.F k) := T.pair_fn (f2 := T.impl_Ring_turn.f) fun a b r1 r2 w h => T.impl_Ring_turn.calls a b r1 r2 w h
/-! impl.first -/
@[reducible] def impl_first.pc : CutP := [(0, some false, [.fl (.int .i64)]), (1, some false, [.fl (.int .i64)])]
@[reducible] def impl_first.pr : CompPs := [(false, [.fl (.int .i64)])]
abbrev impl_first.N := Int
noncomputable def impl_first.E (k : Nat) : List (FuncId × Go.Rv.Fn) := []
noncomputable def impl_first.f (k : Nat) (a0 : Int) (a1 : Int) : Option impl_first.N := some a0
noncomputable def impl_first.F (k : Nat) : Go.Rv.Fn := mkFn 2 impl_first.pc impl_first.pr (keepOf []) (fun (y : impl_first.N) => (((y, ()), ()) : compT impl_first.pr)) fun x => impl_first.f k x.1.1 x.2.1.1
theorem impl_first.env (k : Nat) : EnvOk Go.Proofs.Tryz.prog (fun f => (impl_first.E k).lookup f) := envOk_of trivial
theorem impl_first.ok (k : Nat) : FnOk Go.Proofs.Tryz.prog 35 (impl_first.F k) :=
  fn_ok tab (impl_first.env k) Go.Proofs.Tryz.func35 rfl (n := 2) (Nat.le_of_ble_eq_true rfl) (by kernel_rfl) (outs := []) (by kernel_rfl) (by kernel_rfl) (d := fun (y : compT impl_first.pr) => (y.1.1 : impl_first.N)) (fun _ => rfl) (C := fun _ => []) (k := k) noCuts fun x => by kernel_rfl
/-! impl.second -/
@[reducible] def impl_second.pc : CutP := [(0, some false, [.fl (.int .i64)]), (1, some false, [.fl (.int .i64)])]
@[reducible] def impl_second.pr : CompPs := [(false, [.fl (.int .i64)])]
abbrev impl_second.N := Int
noncomputable def impl_second.E (k : Nat) : List (FuncId × Go.Rv.Fn) := []
noncomputable def impl_second.f (k : Nat) (a0 : Int) (a1 : Int) : Option impl_second.N := some a1
noncomputable def impl_second.F (k : Nat) : Go.Rv.Fn := mkFn 2 impl_second.pc impl_second.pr (keepOf []) (fun (y : impl_second.N) => (((y, ()), ()) : compT impl_second.pr)) fun x => impl_second.f k x.1.1 x.2.1.1
theorem impl_second.env (k : Nat) : EnvOk Go.Proofs.Tryz.prog (fun f => (impl_second.E k).lookup f) := envOk_of trivial
theorem impl_second.ok (k : Nat) : FnOk Go.Proofs.Tryz.prog 37 (impl_second.F k) :=
  fn_ok tab (impl_second.env k) Go.Proofs.Tryz.func37 rfl (n := 2) (Nat.le_of_ble_eq_true rfl) (by kernel_rfl) (outs := []) (by kernel_rfl) (by kernel_rfl) (d := fun (y : compT impl_second.pr) => (y.1.1 : impl_second.N)) (fun _ => rfl) (C := fun _ => []) (k := k) noCuts fun x => by kernel_rfl
/-! impl.isTurn -/
@[reducible] def impl_isTurn.pc : CutP := [(0, some false, [.fl (.int .i64)]), (1, some false, [.fl (.int .i64)])]
@[reducible] def impl_isTurn.pr : CompPs := [(false, [.fl .bool])]
abbrev impl_isTurn.N := Bool
noncomputable def impl_isTurn.E (k : Nat) : List (FuncId × Go.Rv.Fn) := [(48, impl_areWithin.F k)]
noncomputable def impl_isTurn.f (k : Nat) (a0 : Int) (a1 : Int) : Option impl_isTurn.N := (impl_areWithin.f k [a0, a1] (-12) 12).bind fun t1 => some t1
noncomputable def impl_isTurn.F (k : Nat) : Go.Rv.Fn := mkFn 2 impl_isTurn.pc impl_isTurn.pr (keepOf []) (fun (y : impl_isTurn.N) => (((y, ()), ()) : compT impl_isTurn.pr)) fun x => impl_isTurn.f k x.1.1 x.2.1.1
theorem impl_isTurn.env (k : Nat) : EnvOk Go.Proofs.Tryz.prog (fun f => (impl_isTurn.E k).lookup f) := envOk_of ⟨entry Go.Proofs.Tryz.call48 rfl (impl_areWithin.ok k), trivial⟩
theorem impl_isTurn.ok (k : Nat) : FnOk Go.Proofs.Tryz.prog 49 (impl_isTurn.F k) :=
  fn_ok tab (impl_isTurn.env k) Go.Proofs.Tryz.func49 rfl (n := 2) (Nat.le_of_ble_eq_true rfl) (by kernel_rfl) (outs := []) (by kernel_rfl) (by kernel_rfl) (d := fun (y : compT impl_isTurn.pr) => (y.1.1 : impl_isTurn.N)) (fun _ => rfl) (C := fun _ => []) (k := k) noCuts fun x => by kernel_rfl
/-! (impl.Pose).next -/
@[reducible] def impl_Pose_next.pc : CutP := [(0, some true, [.fl (.int .i64), .fl (.int .i64), .fl (.int .i64), .fl (.int .i64)]), (1, some false, [.fl (.int .i64)]), (2, some false, [.fl (.int .i64)])]
@[reducible] def impl_Pose_next.pr : CompPs := [(true, [.fl (.int .i64), .fl (.int .i64), .fl (.int .i64), .fl (.int .i64)])]
abbrev impl_Pose_next.N := Int × Int × Int × Int
noncomputable def impl_Pose_next.E (k : Nat) : List (FuncId × Go.Rv.Fn) := []
noncomputable def impl_Pose_next.f (k : Nat) (a0 : Int) (a1 : Int) (a2 : Int) (a3 : Int) (a4 : Int) (a5 : Int) : Option impl_Pose_next.N := some ((wrap64 (a0 + a2)), (wrap64 (a1 + a3)), (wrap64 (a2 + a4)), (wrap64 (a3 + a5)))
noncomputable def impl_Pose_next.F (k : Nat) : Go.Rv.Fn := mkFn 3 impl_Pose_next.pc impl_Pose_next.pr (keepOf []) (fun (y : impl_Pose_next.N) => (((y.1, y.2.1, y.2.2.1, y.2.2.2, ()), ()) : compT impl_Pose_next.pr)) fun x => impl_Pose_next.f k x.1.1 x.1.2.1 x.1.2.2.1 x.1.2.2.2.1 x.2.1.1 x.2.2.1.1
theorem impl_Pose_next.env (k : Nat) : EnvOk Go.Proofs.Tryz.prog (fun f => (impl_Pose_next.E k).lookup f) := envOk_of trivial
theorem impl_Pose_next.ok (k : Nat) : FnOk Go.Proofs.Tryz.prog 50 (impl_Pose_next.F k) :=
  fn_ok tab (impl_Pose_next.env k) Go.Proofs.Tryz.func50 rfl (n := 3) (Nat.le_of_ble_eq_true rfl) (by kernel_rfl) (outs := []) (by kernel_rfl) (by kernel_rfl) (d := fun (y : compT impl_Pose_next.pr) => ((y.1.1, y.1.2.1, y.1.2.2.1, y.1.2.2.2.1) : impl_Pose_next.N)) (fun _ => rfl) (C := fun _ => []) (k := k) noCuts fun x => by kernel_rfl
/-! impl.NextPose -/
@[reducible] def impl_NextPose.pc : CutP := [(0, some true, [.fl (.int .i64), .fl (.int .i64), .fl (.int .i64), .fl (.int .i64)]), (1, some false, [.fl (.int .i64)]), (2, some false, [.fl (.int .i64)])]
@[reducible] def impl_NextPose.pr : CompPs := [(true, [.fl (.int .i64), .fl (.int .i64), .fl (.int .i64), .fl (.int .i64)]), (false, [.fl .bool])]
abbrev impl_NextPose.N := Int × Int × Int × Int × Bool
noncomputable def impl_NextPose.E (k : Nat) : List (FuncId × Go.Rv.Fn) := [(33, impl_ValidPose.F k), (49, impl_isTurn.F k), (50, impl_Pose_next.F k)]
noncomputable def impl_NextPose.f (k : Nat) (a0 : Int) (a1 : Int) (a2 : Int) (a3 : Int) (a4 : Int) (a5 : Int) : Option impl_NextPose.N := (impl_ValidPose.f k a0 a1 a2 a3).bind fun t1 => (if (!t1) = true then some (0, 0, 0, 0, false) else (impl_isTurn.f k a4 a5).bind fun t2 => (if (!t2) = true then some (0, 0, 0, 0, false) else (impl_Pose_next.f k a0 a1 a2 a3 a4 a5).bind fun t3 => (impl_ValidPose.f k t3.1 t3.2.1 t3.2.2.1 t3.2.2.2).bind fun t4 => (if (!t4) = true then some (0, 0, 0, 0, false) else (impl_Pose_next.f k a0 a1 a2 a3 a4 a5).bind fun t5 => some (t5.1, t5.2.1, t5.2.2.1, t5.2.2.2, true))))
noncomputable def impl_NextPose.F (k : Nat) : Go.Rv.Fn := mkFn 3 impl_NextPose.pc impl_NextPose.pr (keepOf []) (fun (y : impl_NextPose.N) => (((y.1, y.2.1, y.2.2.1, y.2.2.2.1, ()), (y.2.2.2.2, ()), ()) : compT impl_NextPose.pr)) fun x => impl_NextPose.f k x.1.1 x.1.2.1 x.1.2.2.1 x.1.2.2.2.1 x.2.1.1 x.2.2.1.1
theorem impl_NextPose.env (k : Nat) : EnvOk Go.Proofs.Tryz.prog (fun f => (impl_NextPose.E k).lookup f) := envOk_of ⟨entry Go.Proofs.Tryz.call33 rfl (impl_ValidPose.ok k), entry Go.Proofs.Tryz.call49 rfl (impl_isTurn.ok k), entry Go.Proofs.Tryz.call50 rfl (impl_Pose_next.ok k), trivial⟩
theorem impl_NextPose.ok (k : Nat) : FnOk Go.Proofs.Tryz.prog 34 (impl_NextPose.F k) :=
  fn_ok tab (impl_NextPose.env k) Go.Proofs.Tryz.func34 rfl (n := 3) (Nat.le_of_ble_eq_true rfl) (by kernel_rfl) (outs := []) (by kernel_rfl) (by kernel_rfl) (d := fun (y : compT impl_NextPose.pr) => ((y.1.1, y.1.2.1, y.1.2.2.1, y.1.2.2.2.1, y.2.1.1) : impl_NextPose.N)) (fun _ => rfl) (C := fun _ => []) (k := k) noCuts fun x => by kernel_rfl
/-! impl.tubePoses -/
@[reducible] def impl_tubePoses.pc : CutP := [(0, some true, [.fl (.int .i64), .fl (.int .i64), .fl (.int .i64), .fl (.int .i64)]), (1, some false, [.fl (.lo (.pair (.int .i64) (.int .i64)))])]
@[reducible] def impl_tubePoses.pr : CompPs := [(false, [.fl (.own (.pair (.int .i64) (.pair (.int .i64) (.pair (.int .i64) (.int .i64)))))]), (false, [.fl .bool])]
abbrev impl_tubePoses.N := List (Int × Int × Int × Int) × Bool
noncomputable def impl_tubePoses.E (k : Nat) : List (FuncId × Go.Rv.Fn) := [(33, impl_ValidPose.F k), (34, impl_NextPose.F k), (35, impl_first.F k), (36, impl_Ring_turn.F k), (37, impl_second.F k)]
abbrev impl_tubePoses.Cs := (List (Int × Int × Int × Int) → List (Int × Int) → Int → Int → Option impl_tubePoses.N)
def impl_tubePoses.zero : impl_tubePoses.Cs := (fun _ _ _ _ => none)
noncomputable def impl_tubePoses.step (k : Nat) (c : impl_tubePoses.Cs) : impl_tubePoses.Cs := (fun (x0 : List (Int × Int × Int × Int)) (x1 : List (Int × Int)) (x2 : Int) (x3 : Int) => (if (decide (x3 < x2)) = true then if 0 ≤ x3 then if x3 < (x1.length : Int) then if 0 ≤ (wrap64 ((x0.length : Int) - 1)) then if (wrap64 ((x0.length : Int) - 1)) < (x0.length : Int) then (impl_Ring_turn.f k ((rd (0, 0) x1 x3).1) ((rd (0, 0) x1 x3).2)).bind fun t2 => (impl_first.f k t2.1 t2.2).bind fun (t3 : Int) => (impl_Ring_turn.f k ((rd (0, 0) x1 x3).1) ((rd (0, 0) x1 x3).2)).bind fun t4 => (impl_second.f k t4.1 t4.2).bind fun (t5 : Int) => (impl_NextPose.f k ((rd (0, (0, (0, 0))) x0 (wrap64 ((x0.length : Int) - 1))).1) (((rd (0, (0, (0, 0))) x0 (wrap64 ((x0.length : Int) - 1))).2).1) ((((rd (0, (0, (0, 0))) x0 (wrap64 ((x0.length : Int) - 1))).2).2).1) ((((rd (0, (0, (0, 0))) x0 (wrap64 ((x0.length : Int) - 1))).2).2).2) t3 t5).bind fun t6 => (if (!t6.2.2.2.2) = true then some ([], false) else if x0.length + [(t6.1, (t6.2.1, (t6.2.2.1, t6.2.2.2.1)))].length < 274877906944 then c (x0 ++ [(t6.1, (t6.2.1, (t6.2.2.1, t6.2.2.2.1)))]) x1 x2 (wrap64 (x3 + 1)) else none) else none else none else none else none else some (x0, true)))
noncomputable def impl_tubePoses.cs (k : Nat) : Nat → impl_tubePoses.Cs
  | 0 => impl_tubePoses.zero
  | n + 1 => impl_tubePoses.step k (impl_tubePoses.cs k n)
def impl_tubePoses.CC (c : impl_tubePoses.Cs) : Cuts impl_tubePoses.N := [(16, ⟨[(6, some false, [.fl (.own (.pair (.int .i64) (.pair (.int .i64) (.pair (.int .i64) (.int .i64)))))]), (16, some false, [.fl (.lo (.pair (.int .i64) (.int .i64)))]), (17, some false, [.fl (.int .i64)]), (18, some false, [.fl (.int .i64)])], fun x => c x.1.1 x.2.1.1 x.2.2.1.1 x.2.2.2.1.1⟩)]
noncomputable def impl_tubePoses.f (k : Nat) (a0 : Int) (a1 : Int) (a2 : Int) (a3 : Int) (a4 : List (Int × Int)) : Option impl_tubePoses.N := (impl_ValidPose.f k a0 a1 a2 a3).bind fun t1 => (if (!t1) = true then some ([], false) else (impl_tubePoses.cs k k) [(a0, (a1, (a2, a3)))] a4 (a4.length : Int) 0)
noncomputable def impl_tubePoses.F (k : Nat) : Go.Rv.Fn := mkFn 2 impl_tubePoses.pc impl_tubePoses.pr (keepOf []) (fun (y : impl_tubePoses.N) => (((y.1, ()), (y.2, ()), ()) : compT impl_tubePoses.pr)) fun x => impl_tubePoses.f k x.1.1 x.1.2.1 x.1.2.2.1 x.1.2.2.2.1 x.2.1.1
theorem impl_tubePoses.env (k : Nat) : EnvOk Go.Proofs.Tryz.prog (fun f => (impl_tubePoses.E k).lookup f) := envOk_of ⟨entry Go.Proofs.Tryz.call33 rfl (impl_ValidPose.ok k), entry Go.Proofs.Tryz.call34 rfl (impl_NextPose.ok k), entry Go.Proofs.Tryz.call35 rfl (impl_first.ok k), entry Go.Proofs.Tryz.call36 rfl (impl_Ring_turn.ok k), entry Go.Proofs.Tryz.call37 rfl (impl_second.ok k), trivial⟩
theorem impl_tubePoses.cuts (k : Nat) : CutsOk Go.Proofs.Tryz.prog X (fun f => (impl_tubePoses.E k).lookup f) Go.Proofs.Tryz.f18 [] (decN impl_tubePoses.pr (fun (y : compT impl_tubePoses.pr) => ((y.1.1, y.2.1.1) : impl_tubePoses.N))) fun n => impl_tubePoses.CC (impl_tubePoses.cs k n) :=
  cutsOk_of (step := impl_tubePoses.step k) rfl (fun _ => rfl) ⟨fun _ => rfl, trivial⟩ (fun c => by kernel_rfl) fun c => ⟨fun x => by kernel_rfl, trivial⟩
theorem impl_tubePoses.ok (k : Nat) : FnOk Go.Proofs.Tryz.prog 18 (impl_tubePoses.F k) :=
  fn_ok tab (impl_tubePoses.env k) Go.Proofs.Tryz.func18 rfl (n := 2) (Nat.le_of_ble_eq_true rfl) (by kernel_rfl) (outs := []) (by kernel_rfl) (by kernel_rfl) (d := fun (y : compT impl_tubePoses.pr) => ((y.1.1, y.2.1.1) : impl_tubePoses.N)) (fun _ => rfl) (C := fun n => impl_tubePoses.CC (impl_tubePoses.cs k n)) (k := k) (impl_tubePoses.cuts k) fun x => by kernel_rfl
/-! impl.TubePoses -/
@[reducible] def impl_TubePoses.pc : CutP := [(0, some true, [.fl (.int .i64), .fl (.int .i64), .fl (.int .i64), .fl (.int .i64)]), (1, some false, [.fl (.lo (.pair (.int .i64) (.int .i64)))])]
@[reducible] def impl_TubePoses.pr : CompPs := [(false, [.fl (.own (.pair (.int .i64) (.pair (.int .i64) (.pair (.int .i64) (.int .i64)))))]), (false, [.fl .bool])]
abbrev impl_TubePoses.N := List (Int × Int × Int × Int) × Bool
noncomputable def impl_TubePoses.E (k : Nat) : List (FuncId × Go.Rv.Fn) := [(17, impl_ValidTube.F k), (18, impl_tubePoses.F k)]
noncomputable def impl_TubePoses.f (k : Nat) (a0 : Int) (a1 : Int) (a2 : Int) (a3 : Int) (a4 : List (Int × Int)) : Option impl_TubePoses.N := (impl_ValidTube.f k a4).bind fun t1 => (if (!t1) = true then some ([], false) else (impl_tubePoses.f k a0 a1 a2 a3 a4).bind fun t2 => some (t2.1, t2.2))
noncomputable def impl_TubePoses.F (k : Nat) : Go.Rv.Fn := mkFn 2 impl_TubePoses.pc impl_TubePoses.pr (keepOf []) (fun (y : impl_TubePoses.N) => (((y.1, ()), (y.2, ()), ()) : compT impl_TubePoses.pr)) fun x => impl_TubePoses.f k x.1.1 x.1.2.1 x.1.2.2.1 x.1.2.2.2.1 x.2.1.1
theorem impl_TubePoses.env (k : Nat) : EnvOk Go.Proofs.Tryz.prog (fun f => (impl_TubePoses.E k).lookup f) := envOk_of ⟨entry Go.Proofs.Tryz.call17 rfl (impl_ValidTube.ok k), entry Go.Proofs.Tryz.call18 rfl (impl_tubePoses.ok k), trivial⟩
theorem impl_TubePoses.ok (k : Nat) : FnOk Go.Proofs.Tryz.prog 7 (impl_TubePoses.F k) :=
  fn_ok tab (impl_TubePoses.env k) Go.Proofs.Tryz.func7 rfl (n := 2) (Nat.le_of_ble_eq_true rfl) (by kernel_rfl) (outs := []) (by kernel_rfl) (by kernel_rfl) (d := fun (y : compT impl_TubePoses.pr) => ((y.1.1, y.2.1.1) : impl_TubePoses.N)) (fun _ => rfl) (C := fun _ => []) (k := k) noCuts fun x => by kernel_rfl
/-! impl.totalTurn -/
@[reducible] def impl_totalTurn.pc : CutP := [(0, some false, [.fl (.lo (.pair (.int .i64) (.int .i64)))])]
@[reducible] def impl_totalTurn.pr : CompPs := [(false, [.fl (.int .i64)]), (false, [.fl (.int .i64)])]
abbrev impl_totalTurn.N := Int × Int
noncomputable def impl_totalTurn.E (k : Nat) : List (FuncId × Go.Rv.Fn) := [(36, impl_Ring_turn.F k)]
abbrev impl_totalTurn.Cs := (Int → Int → List (Int × Int) → Int → Int → Option impl_totalTurn.N)
def impl_totalTurn.zero : impl_totalTurn.Cs := (fun _ _ _ _ _ => none)
noncomputable def impl_totalTurn.step (k : Nat) (c : impl_totalTurn.Cs) : impl_totalTurn.Cs := (fun (x0 : Int) (x1 : Int) (x2 : List (Int × Int)) (x3 : Int) (x4 : Int) => (if (decide (x4 < x3)) = true then if 0 ≤ x4 then if x4 < (x2.length : Int) then (impl_Ring_turn.f k ((rd (0, 0) x2 x4).1) ((rd (0, 0) x2 x4).2)).bind fun t1 => c (wrap64 (x0 + t1.1)) (wrap64 (x1 + t1.2)) x2 x3 (wrap64 (x4 + 1)) else none else none else some (x0, x1)))
noncomputable def impl_totalTurn.cs (k : Nat) : Nat → impl_totalTurn.Cs
  | 0 => impl_totalTurn.zero
  | n + 1 => impl_totalTurn.step k (impl_totalTurn.cs k n)
def impl_totalTurn.CC (c : impl_totalTurn.Cs) : Cuts impl_totalTurn.N := [(8, ⟨[(4, some false, [.fl (.int .i64)]), (5, some false, [.fl (.int .i64)]), (10, some false, [.fl (.lo (.pair (.int .i64) (.int .i64)))]), (11, some false, [.fl (.int .i64)]), (12, some false, [.fl (.int .i64)])], fun x => c x.1.1 x.2.1.1 x.2.2.1.1 x.2.2.2.1.1 x.2.2.2.2.1.1⟩)]
noncomputable def impl_totalTurn.f (k : Nat) (a0 : List (Int × Int)) : Option impl_totalTurn.N := (impl_totalTurn.cs k k) 0 0 a0 (a0.length : Int) 0
noncomputable def impl_totalTurn.F (k : Nat) : Go.Rv.Fn := mkFn 1 impl_totalTurn.pc impl_totalTurn.pr (keepOf []) (fun (y : impl_totalTurn.N) => (((y.1, ()), (y.2, ()), ()) : compT impl_totalTurn.pr)) fun x => impl_totalTurn.f k x.1.1
theorem impl_totalTurn.env (k : Nat) : EnvOk Go.Proofs.Tryz.prog (fun f => (impl_totalTurn.E k).lookup f) := envOk_of ⟨entry Go.Proofs.Tryz.call36 rfl (impl_Ring_turn.ok k), trivial⟩
theorem impl_totalTurn.cuts (k : Nat) : CutsOk Go.Proofs.Tryz.prog X (fun f => (impl_totalTurn.E k).lookup f) Go.Proofs.Tryz.f19 [] (decN impl_totalTurn.pr (fun (y : compT impl_totalTurn.pr) => ((y.1.1, y.2.1.1) : impl_totalTurn.N))) fun n => impl_totalTurn.CC (impl_totalTurn.cs k n) :=
  cutsOk_of (step := impl_totalTurn.step k) rfl (fun _ => rfl) ⟨fun _ => rfl, trivial⟩ (fun c => by kernel_rfl) fun c => ⟨fun x => by kernel_rfl, trivial⟩
theorem impl_totalTurn.ok (k : Nat) : FnOk Go.Proofs.Tryz.prog 19 (impl_totalTurn.F k) :=
  fn_ok tab (impl_totalTurn.env k) Go.Proofs.Tryz.func19 rfl (n := 1) (Nat.le_of_ble_eq_true rfl) (by kernel_rfl) (outs := []) (by kernel_rfl) (by kernel_rfl) (d := fun (y : compT impl_totalTurn.pr) => ((y.1.1, y.2.1.1) : impl_totalTurn.N)) (fun _ => rfl) (C := fun n => impl_totalTurn.CC (impl_totalTurn.cs k n)) (k := k) (impl_totalTurn.cuts k) fun x => by kernel_rfl
/-! impl.TotalTurn -/
@[reducible] def impl_TotalTurn.pc : CutP := [(0, some false, [.fl (.lo (.pair (.int .i64) (.int .i64)))])]
@[reducible] def impl_TotalTurn.pr : CompPs := [(false, [.fl (.int .i64)]), (false, [.fl (.int .i64)]), (false, [.fl .bool])]
abbrev impl_TotalTurn.N := Int × Int × Bool
noncomputable def impl_TotalTurn.E (k : Nat) : List (FuncId × Go.Rv.Fn) := [(17, impl_ValidTube.F k), (19, impl_totalTurn.F k)]
noncomputable def impl_TotalTurn.f (k : Nat) (a0 : List (Int × Int)) : Option impl_TotalTurn.N := (impl_ValidTube.f k a0).bind fun t1 => (if (!t1) = true then some (0, 0, false) else (impl_totalTurn.f k a0).bind fun t2 => some (t2.1, t2.2, true))
noncomputable def impl_TotalTurn.F (k : Nat) : Go.Rv.Fn := mkFn 1 impl_TotalTurn.pc impl_TotalTurn.pr (keepOf []) (fun (y : impl_TotalTurn.N) => (((y.1, ()), (y.2.1, ()), (y.2.2, ()), ()) : compT impl_TotalTurn.pr)) fun x => impl_TotalTurn.f k x.1.1
theorem impl_TotalTurn.env (k : Nat) : EnvOk Go.Proofs.Tryz.prog (fun f => (impl_TotalTurn.E k).lookup f) := envOk_of ⟨entry Go.Proofs.Tryz.call17 rfl (impl_ValidTube.ok k), entry Go.Proofs.Tryz.call19 rfl (impl_totalTurn.ok k), trivial⟩
theorem impl_TotalTurn.ok (k : Nat) : FnOk Go.Proofs.Tryz.prog 8 (impl_TotalTurn.F k) :=
  fn_ok tab (impl_TotalTurn.env k) Go.Proofs.Tryz.func8 rfl (n := 1) (Nat.le_of_ble_eq_true rfl) (by kernel_rfl) (outs := []) (by kernel_rfl) (by kernel_rfl) (d := fun (y : compT impl_TotalTurn.pr) => ((y.1.1, y.2.1.1, y.2.2.1.1) : impl_TotalTurn.N)) (fun _ => rfl) (C := fun _ => []) (k := k) noCuts fun x => by kernel_rfl
/-! strconv.FormatInt -/
@[reducible] def strconv_FormatInt.pc : CutP := [(0, some false, [.fl (.int .i64)]), (1, some false, [.fl (.int .i64)])]
@[reducible] def strconv_FormatInt.pr : CompPs := [(false, [.fl .str])]
abbrev strconv_FormatInt.N := ByteArray
noncomputable def strconv_FormatInt.E (k : Nat) : List (FuncId × Go.Rv.Fn) := []
noncomputable def strconv_FormatInt.f (k : Nat) (a0 : Int) (a1 : Int) : Option strconv_FormatInt.N := T.fmtF a0 a1
noncomputable def strconv_FormatInt.F (k : Nat) : Go.Rv.Fn := mkFn 2 strconv_FormatInt.pc strconv_FormatInt.pr (keepOf []) (fun (y : strconv_FormatInt.N) => (((y, ()), ()) : compT strconv_FormatInt.pr)) fun x => strconv_FormatInt.f k x.1.1 x.2.1.1
theorem strconv_FormatInt.ok (k : Nat) : FnOk Go.Proofs.Tryz.prog 51 (strconv_FormatInt.F k) := T.fmt_fn
/-! impl.Decimal -/
@[reducible] def impl_Decimal.pc : CutP := [(0, some false, [.fl (.int .i64)])]
@[reducible] def impl_Decimal.pr : CompPs := [(false, [.fl .str])]
abbrev impl_Decimal.N := ByteArray
noncomputable def impl_Decimal.E (k : Nat) : List (FuncId × Go.Rv.Fn) := [(51, strconv_FormatInt.F k)]
noncomputable def impl_Decimal.f (k : Nat) (a0 : Int) : Option impl_Decimal.N := (strconv_FormatInt.f k a0 10).bind fun t1 => some t1
noncomputable def impl_Decimal.F (k : Nat) : Go.Rv.Fn := mkFn 1 impl_Decimal.pc impl_Decimal.pr (keepOf []) (fun (y : impl_Decimal.N) => (((y, ()), ()) : compT impl_Decimal.pr)) fun x => impl_Decimal.f k x.1.1
theorem impl_Decimal.env (k : Nat) : EnvOk Go.Proofs.Tryz.prog (fun f => (impl_Decimal.E k).lookup f) := envOk_of ⟨entry Go.Proofs.Tryz.call51 rfl (strconv_FormatInt.ok k), trivial⟩
theorem impl_Decimal.ok (k : Nat) : FnOk Go.Proofs.Tryz.prog 38 (impl_Decimal.F k) :=
  fn_ok tab (impl_Decimal.env k) Go.Proofs.Tryz.func38 rfl (n := 1) (Nat.le_of_ble_eq_true rfl) (by kernel_rfl) (outs := []) (by kernel_rfl) (by kernel_rfl) (d := fun (y : compT impl_Decimal.pr) => (y.1.1 : impl_Decimal.N)) (fun _ => rfl) (C := fun _ => []) (k := k) noCuts fun x => by kernel_rfl
/-! impl.ringText -/
@[reducible] def impl_ringText.pc : CutP := [(0, some true, [.fl (.int .i64), .fl (.int .i64)])]
@[reducible] def impl_ringText.pr : CompPs := [(false, [.fl .str])]
abbrev impl_ringText.N := ByteArray
noncomputable def impl_ringText.E (k : Nat) : List (FuncId × Go.Rv.Fn) := [(38, impl_Decimal.F k)]
noncomputable def impl_ringText.f (k : Nat) (a0 : Int) (a1 : Int) : Option impl_ringText.N := if 0 ≤ a0 then if a0 ≤ (wrap64 (a0 + 1)) then if (wrap64 (a0 + 1)) ≤ sLen (ByteArray.mk #[115, 116]) then (impl_Decimal.f k a1).bind fun t1 => if sFit (sCut (ByteArray.mk #[115, 116]) a0 (wrap64 (a0 + 1))) t1 = true then some (sCat (sCut (ByteArray.mk #[115, 116]) a0 (wrap64 (a0 + 1))) t1) else none else none else none else none
noncomputable def impl_ringText.F (k : Nat) : Go.Rv.Fn := mkFn 1 impl_ringText.pc impl_ringText.pr (keepOf []) (fun (y : impl_ringText.N) => (((y, ()), ()) : compT impl_ringText.pr)) fun x => impl_ringText.f k x.1.1 x.1.2.1
theorem impl_ringText.env (k : Nat) : EnvOk Go.Proofs.Tryz.prog (fun f => (impl_ringText.E k).lookup f) := envOk_of ⟨entry Go.Proofs.Tryz.call38 rfl (impl_Decimal.ok k), trivial⟩
theorem impl_ringText.ok (k : Nat) : FnOk Go.Proofs.Tryz.prog 20 (impl_ringText.F k) :=
  fn_ok tab (impl_ringText.env k) Go.Proofs.Tryz.func20 rfl (n := 1) (Nat.le_of_ble_eq_true rfl) (by kernel_rfl) (outs := []) (by kernel_rfl) (by kernel_rfl) (d := fun (y : compT impl_ringText.pr) => (y.1.1 : impl_ringText.N)) (fun _ => rfl) (C := fun _ => []) (k := k) noCuts fun x => by kernel_rfl
/-! strings.Join -/
@[reducible] def strings_Join.pc : CutP := [(0, some false, [.fl (.lo .str)]), (1, some false, [.fl .str])]
@[reducible] def strings_Join.pr : CompPs := [(false, [.fl .str])]
abbrev strings_Join.N := ByteArray
noncomputable def strings_Join.E (k : Nat) : List (FuncId × Go.Rv.Fn) := []
noncomputable def strings_Join.f (k : Nat) (a0 : List ByteArray) (a1 : ByteArray) : Option strings_Join.N := T.joinF a0 a1
noncomputable def strings_Join.F (k : Nat) : Go.Rv.Fn := mkFn 2 strings_Join.pc strings_Join.pr (keepOf []) (fun (y : strings_Join.N) => (((y, ()), ()) : compT strings_Join.pr)) fun x => strings_Join.f k x.1.1 x.2.1.1
theorem strings_Join.ok (k : Nat) : FnOk Go.Proofs.Tryz.prog 21 (strings_Join.F k) := T.join_fn
/-! impl.TubeText -/
@[reducible] def impl_TubeText.pc : CutP := [(0, some false, [.fl (.lo (.pair (.int .i64) (.int .i64)))])]
@[reducible] def impl_TubeText.pr : CompPs := [(false, [.fl .str]), (false, [.fl .bool])]
abbrev impl_TubeText.N := ByteArray × Bool
noncomputable def impl_TubeText.E (k : Nat) : List (FuncId × Go.Rv.Fn) := [(17, impl_ValidTube.F k), (20, impl_ringText.F k), (21, strings_Join.F k)]
abbrev impl_TubeText.Cs := (List ByteArray → List (Int × Int) → Int → Int → Option impl_TubeText.N)
def impl_TubeText.zero : impl_TubeText.Cs := (fun _ _ _ _ => none)
noncomputable def impl_TubeText.step (k : Nat) (c : impl_TubeText.Cs) : impl_TubeText.Cs := (fun (x0 : List ByteArray) (x1 : List (Int × Int)) (x2 : Int) (x3 : Int) => (if (decide (x3 < x2)) = true then if 0 ≤ x3 then if x3 < (x1.length : Int) then (impl_ringText.f k ((rd (0, 0) x1 x3).1) ((rd (0, 0) x1 x3).2)).bind fun t2 => if x0.length + [t2].length < 1099511627776 then c (x0 ++ [t2]) x1 x2 (wrap64 (x3 + 1)) else none else none else none else (strings_Join.f k x0 (ByteArray.mk #[32])).bind fun t3 => some (t3, true)))
noncomputable def impl_TubeText.cs (k : Nat) : Nat → impl_TubeText.Cs
  | 0 => impl_TubeText.zero
  | n + 1 => impl_TubeText.step k (impl_TubeText.cs k n)
def impl_TubeText.CC (c : impl_TubeText.Cs) : Cuts impl_TubeText.N := [(16, ⟨[(4, some false, [.fl (.own .str)]), (11, some false, [.fl (.lo (.pair (.int .i64) (.int .i64)))]), (12, some false, [.fl (.int .i64)]), (13, some false, [.fl (.int .i64)])], fun x => c x.1.1 x.2.1.1 x.2.2.1.1 x.2.2.2.1.1⟩)]
noncomputable def impl_TubeText.f (k : Nat) (a0 : List (Int × Int)) : Option impl_TubeText.N := (impl_ValidTube.f k a0).bind fun t1 => (if (!t1) = true then some (ByteArray.empty, false) else (impl_TubeText.cs k k) ([] : List ByteArray) a0 (a0.length : Int) 0)
noncomputable def impl_TubeText.F (k : Nat) : Go.Rv.Fn := mkFn 1 impl_TubeText.pc impl_TubeText.pr (keepOf []) (fun (y : impl_TubeText.N) => (((y.1, ()), (y.2, ()), ()) : compT impl_TubeText.pr)) fun x => impl_TubeText.f k x.1.1
theorem impl_TubeText.env (k : Nat) : EnvOk Go.Proofs.Tryz.prog (fun f => (impl_TubeText.E k).lookup f) := envOk_of ⟨entry Go.Proofs.Tryz.call17 rfl (impl_ValidTube.ok k), entry Go.Proofs.Tryz.call20 rfl (impl_ringText.ok k), entry Go.Proofs.Tryz.call21 rfl (strings_Join.ok k), trivial⟩
theorem impl_TubeText.cuts (k : Nat) : CutsOk Go.Proofs.Tryz.prog X (fun f => (impl_TubeText.E k).lookup f) Go.Proofs.Tryz.f9 [] (decN impl_TubeText.pr (fun (y : compT impl_TubeText.pr) => ((y.1.1, y.2.1.1) : impl_TubeText.N))) fun n => impl_TubeText.CC (impl_TubeText.cs k n) :=
  cutsOk_of (step := impl_TubeText.step k) rfl (fun _ => rfl) ⟨fun _ => rfl, trivial⟩ (fun c => by kernel_rfl) fun c => ⟨fun x => by kernel_rfl, trivial⟩
theorem impl_TubeText.ok (k : Nat) : FnOk Go.Proofs.Tryz.prog 9 (impl_TubeText.F k) :=
  fn_ok tab (impl_TubeText.env k) Go.Proofs.Tryz.func9 rfl (n := 1) (Nat.le_of_ble_eq_true rfl) (by kernel_rfl) (outs := []) (by kernel_rfl) (by kernel_rfl) (d := fun (y : compT impl_TubeText.pr) => ((y.1.1, y.2.1.1) : impl_TubeText.N)) (fun _ => rfl) (C := fun n => impl_TubeText.CC (impl_TubeText.cs k n)) (k := k) (impl_TubeText.cuts k) fun x => by kernel_rfl
/-! strings.Split -/
@[reducible] def strings_Split.pc : CutP := [(0, some false, [.fl .str]), (1, some false, [.fl .str])]
@[reducible] def strings_Split.pr : CompPs := [(false, [.fl (.own .str)])]
abbrev strings_Split.N := List ByteArray
noncomputable def strings_Split.E (k : Nat) : List (FuncId × Go.Rv.Fn) := []
noncomputable def strings_Split.f (k : Nat) (a0 : ByteArray) (a1 : ByteArray) : Option strings_Split.N := T.splitF a0 a1
noncomputable def strings_Split.F (k : Nat) : Go.Rv.Fn := mkFn 2 strings_Split.pc strings_Split.pr (keepOf []) (fun (y : strings_Split.N) => (((y, ()), ()) : compT strings_Split.pr)) fun x => strings_Split.f k x.1.1 x.2.1.1
theorem strings_Split.ok (k : Nat) : FnOk Go.Proofs.Tryz.prog 22 (strings_Split.F k) := T.split_fn
/-! impl.readIn -/
@[reducible] def impl_readIn.pc : CutP := [(0, some false, [.fl .str]), (1, some false, [.fl (.int .i64)]), (2, some false, [.fl (.int .i64)])]
@[reducible] def impl_readIn.pr : CompPs := [(false, [.fl (.int .i64)]), (false, [.fl .bool])]
abbrev impl_readIn.N := Int × Bool
noncomputable def impl_readIn.E (k : Nat) : List (FuncId × Go.Rv.Fn) := []
noncomputable def impl_readIn.f (k : Nat) (a0 : ByteArray) (a1 : Int) (a2 : Int) : Option impl_readIn.N := T.readInF a0 a1 a2
noncomputable def impl_readIn.F (k : Nat) : Go.Rv.Fn := mkFn 3 impl_readIn.pc impl_readIn.pr (keepOf []) (fun (y : impl_readIn.N) => (((y.1, ()), (y.2, ()), ()) : compT impl_readIn.pr)) fun x => impl_readIn.f k x.1.1 x.2.1.1 x.2.2.1.1
theorem impl_readIn.ok (k : Nat) : FnOk Go.Proofs.Tryz.prog 57 (impl_readIn.F k) := T.readIn_fn
/-! impl.ReadDecimal -/
@[reducible] def impl_ReadDecimal.pc : CutP := [(0, some false, [.fl .str])]
@[reducible] def impl_ReadDecimal.pr : CompPs := [(false, [.fl (.int .i64)]), (false, [.fl .bool])]
abbrev impl_ReadDecimal.N := Int × Bool
noncomputable def impl_ReadDecimal.E (k : Nat) : List (FuncId × Go.Rv.Fn) := [(57, impl_readIn.F k)]
noncomputable def impl_ReadDecimal.f (k : Nat) (a0 : ByteArray) : Option impl_ReadDecimal.N := (impl_readIn.f k a0 (-1000000000) 1000000000).bind fun t1 => some (t1.1, t1.2)
noncomputable def impl_ReadDecimal.F (k : Nat) : Go.Rv.Fn := mkFn 1 impl_ReadDecimal.pc impl_ReadDecimal.pr (keepOf []) (fun (y : impl_ReadDecimal.N) => (((y.1, ()), (y.2, ()), ()) : compT impl_ReadDecimal.pr)) fun x => impl_ReadDecimal.f k x.1.1
theorem impl_ReadDecimal.env (k : Nat) : EnvOk Go.Proofs.Tryz.prog (fun f => (impl_ReadDecimal.E k).lookup f) := envOk_of ⟨entry Go.Proofs.Tryz.call57 rfl (impl_readIn.ok k), trivial⟩
theorem impl_ReadDecimal.ok (k : Nat) : FnOk Go.Proofs.Tryz.prog 43 (impl_ReadDecimal.F k) :=
  fn_ok tab (impl_ReadDecimal.env k) Go.Proofs.Tryz.func43 rfl (n := 1) (Nat.le_of_ble_eq_true rfl) (by kernel_rfl) (outs := []) (by kernel_rfl) (by kernel_rfl) (d := fun (y : compT impl_ReadDecimal.pr) => ((y.1.1, y.2.1.1) : impl_ReadDecimal.N)) (fun _ => rfl) (C := fun _ => []) (k := k) noCuts fun x => by kernel_rfl
/-! impl.readRing -/
@[reducible] def impl_readRing.pc : CutP := [(0, some false, [.fl .str])]
@[reducible] def impl_readRing.pr : CompPs := [(true, [.fl (.int .i64), .fl (.int .i64)]), (false, [.fl .bool])]
abbrev impl_readRing.N := Int × Int × Bool
noncomputable def impl_readRing.E (k : Nat) : List (FuncId × Go.Rv.Fn) := [(31, impl_ValidRing.F k), (43, impl_ReadDecimal.F k)]
abbrev impl_readRing.Cs := (ByteArray → Int → Int → Option impl_readRing.N)
def impl_readRing.zero : impl_readRing.Cs := (fun _ _ _ => none)
noncomputable def impl_readRing.step (k : Nat) (c : impl_readRing.Cs) : impl_readRing.Cs := (fun (x0 : ByteArray) (x1 : Int) (x2 : Int) => if 0 ≤ 1 then if 1 ≤ (sLen x0) then if (sLen x0) ≤ sLen x0 then (impl_ReadDecimal.f k (sCut x0 1 (sLen x0))).bind fun t1 => if 0 ≤ 0 then if 0 < sLen x0 then (if (decide ((sAt x0 0) = 116)) = true then (if t1.2 = true then (impl_ValidRing.f k 1 t1.1).bind fun t2 => some (1, t1.1, t2) else some (1, t1.1, false)) else (if t1.2 = true then (impl_ValidRing.f k 0 t1.1).bind fun t3 => some (0, t1.1, t3) else some (0, t1.1, false))) else none else none else none else none else none)
noncomputable def impl_readRing.cs (k : Nat) : Nat → impl_readRing.Cs
  | 0 => impl_readRing.zero
  | n + 1 => impl_readRing.step k (impl_readRing.cs k n)
def impl_readRing.CC (c : impl_readRing.Cs) : Cuts impl_readRing.N := [(2, ⟨[(0, some false, [.fl .str]), (2, none, [.fl (.int .i64), .fl (.int .i64)])], fun x => c x.1.1 x.2.1.1 x.2.1.2.1⟩)]
noncomputable def impl_readRing.f (k : Nat) (a0 : ByteArray) : Option impl_readRing.N := (if (sEq a0 ByteArray.empty) = true then some (0, 0, false) else if 0 ≤ 0 then if 0 < sLen a0 then (if (!decide ((sAt a0 0) = 115)) = true then if 0 ≤ 0 then if 0 < sLen a0 then (if (!decide ((sAt a0 0) = 116)) = true then some (0, 0, false) else (impl_readRing.cs k k) a0 0 0) else none else none else (impl_readRing.cs k k) a0 0 0) else none else none)
noncomputable def impl_readRing.F (k : Nat) : Go.Rv.Fn := mkFn 1 impl_readRing.pc impl_readRing.pr (keepOf []) (fun (y : impl_readRing.N) => (((y.1, y.2.1, ()), (y.2.2, ()), ()) : compT impl_readRing.pr)) fun x => impl_readRing.f k x.1.1
theorem impl_readRing.env (k : Nat) : EnvOk Go.Proofs.Tryz.prog (fun f => (impl_readRing.E k).lookup f) := envOk_of ⟨entry Go.Proofs.Tryz.call31 rfl (impl_ValidRing.ok k), entry Go.Proofs.Tryz.call43 rfl (impl_ReadDecimal.ok k), trivial⟩
theorem impl_readRing.cuts (k : Nat) : CutsOk Go.Proofs.Tryz.prog X (fun f => (impl_readRing.E k).lookup f) Go.Proofs.Tryz.f23 [] (decN impl_readRing.pr (fun (y : compT impl_readRing.pr) => ((y.1.1, y.1.2.1, y.2.1.1) : impl_readRing.N))) fun n => impl_readRing.CC (impl_readRing.cs k n) :=
  cutsOk_of (step := impl_readRing.step k) rfl (fun _ => rfl) ⟨fun _ => rfl, trivial⟩ (fun c => by kernel_rfl) fun c => ⟨fun x => by kernel_rfl, trivial⟩
theorem impl_readRing.ok (k : Nat) : FnOk Go.Proofs.Tryz.prog 23 (impl_readRing.F k) :=
  fn_ok tab (impl_readRing.env k) Go.Proofs.Tryz.func23 rfl (n := 1) (Nat.le_of_ble_eq_true rfl) (by kernel_rfl) (outs := []) (by kernel_rfl) (by kernel_rfl) (d := fun (y : compT impl_readRing.pr) => ((y.1.1, y.1.2.1, y.2.1.1) : impl_readRing.N)) (fun _ => rfl) (C := fun n => impl_readRing.CC (impl_readRing.cs k n)) (k := k) (impl_readRing.cuts k) fun x => by kernel_rfl
/-! impl.ReadTube -/
@[reducible] def impl_ReadTube.pc : CutP := [(0, some false, [.fl .str])]
@[reducible] def impl_ReadTube.pr : CompPs := [(false, [.fl (.own (.pair (.int .i64) (.int .i64)))]), (false, [.fl .bool])]
abbrev impl_ReadTube.N := List (Int × Int) × Bool
noncomputable def impl_ReadTube.E (k : Nat) : List (FuncId × Go.Rv.Fn) := [(17, impl_ValidTube.F k), (22, strings_Split.F k), (23, impl_readRing.F k)]
abbrev impl_ReadTube.Cs := (List (Int × Int) → List ByteArray → Int → Int → Option impl_ReadTube.N)
def impl_ReadTube.zero : impl_ReadTube.Cs := (fun _ _ _ _ => none)
noncomputable def impl_ReadTube.step (k : Nat) (c : impl_ReadTube.Cs) : impl_ReadTube.Cs := (fun (x0 : List (Int × Int)) (x1 : List ByteArray) (x2 : Int) (x3 : Int) => (if (decide (x3 < x2)) = true then if 0 ≤ x3 then if x3 < (x1.length : Int) then (impl_readRing.f k (rd ByteArray.empty x1 x3)).bind fun t2 => (if (!t2.2.2) = true then some ([], false) else if x0.length + [(t2.1, t2.2.1)].length < 549755813888 then c (x0 ++ [(t2.1, t2.2.1)]) x1 x2 (wrap64 (x3 + 1)) else none) else none else none else (impl_ValidTube.f k x0).bind fun t3 => (if (!t3) = true then some ([], false) else some (x0, true))))
noncomputable def impl_ReadTube.cs (k : Nat) : Nat → impl_ReadTube.Cs
  | 0 => impl_ReadTube.zero
  | n + 1 => impl_ReadTube.step k (impl_ReadTube.cs k n)
def impl_ReadTube.CC (c : impl_ReadTube.Cs) : Cuts impl_ReadTube.N := [(16, ⟨[(4, some false, [.fl (.own (.pair (.int .i64) (.int .i64)))]), (14, some false, [.fl (.own .str)]), (15, some false, [.fl (.int .i64)]), (16, some false, [.fl (.int .i64)])], fun x => c x.1.1 x.2.1.1 x.2.2.1.1 x.2.2.2.1.1⟩)]
noncomputable def impl_ReadTube.f (k : Nat) (a0 : ByteArray) : Option impl_ReadTube.N := (if (sEq a0 ByteArray.empty) = true then some (([] : List (Int × Int)), true) else (strings_Split.f k a0 (ByteArray.mk #[32])).bind fun t1 => (impl_ReadTube.cs k k) ([] : List (Int × Int)) t1 (t1.length : Int) 0)
noncomputable def impl_ReadTube.F (k : Nat) : Go.Rv.Fn := mkFn 1 impl_ReadTube.pc impl_ReadTube.pr (keepOf []) (fun (y : impl_ReadTube.N) => (((y.1, ()), (y.2, ()), ()) : compT impl_ReadTube.pr)) fun x => impl_ReadTube.f k x.1.1
theorem impl_ReadTube.env (k : Nat) : EnvOk Go.Proofs.Tryz.prog (fun f => (impl_ReadTube.E k).lookup f) := envOk_of ⟨entry Go.Proofs.Tryz.call17 rfl (impl_ValidTube.ok k), entry Go.Proofs.Tryz.call22 rfl (strings_Split.ok k), entry Go.Proofs.Tryz.call23 rfl (impl_readRing.ok k), trivial⟩
theorem impl_ReadTube.cuts (k : Nat) : CutsOk Go.Proofs.Tryz.prog X (fun f => (impl_ReadTube.E k).lookup f) Go.Proofs.Tryz.f10 [] (decN impl_ReadTube.pr (fun (y : compT impl_ReadTube.pr) => ((y.1.1, y.2.1.1) : impl_ReadTube.N))) fun n => impl_ReadTube.CC (impl_ReadTube.cs k n) :=
  cutsOk_of (step := impl_ReadTube.step k) rfl (fun _ => rfl) ⟨fun _ => rfl, trivial⟩ (fun c => by kernel_rfl) fun c => ⟨fun x => by kernel_rfl, trivial⟩
theorem impl_ReadTube.ok (k : Nat) : FnOk Go.Proofs.Tryz.prog 10 (impl_ReadTube.F k) :=
  fn_ok tab (impl_ReadTube.env k) Go.Proofs.Tryz.func10 rfl (n := 1) (Nat.le_of_ble_eq_true rfl) (by kernel_rfl) (outs := []) (by kernel_rfl) (by kernel_rfl) (d := fun (y : compT impl_ReadTube.pr) => ((y.1.1, y.2.1.1) : impl_ReadTube.N)) (fun _ => rfl) (C := fun n => impl_ReadTube.CC (impl_ReadTube.cs k n)) (k := k) (impl_ReadTube.cuts k) fun x => by kernel_rfl
/-! impl.MirrorTube$1 -/
@[reducible] def impl_MirrorTube_1.pc : CutP := [(0, some false, [.fl (.int .i64)])]
@[reducible] def impl_MirrorTube_1.pr : CompPs := [(false, [.fl (.int .i64)])]
abbrev impl_MirrorTube_1.N := Int
noncomputable def impl_MirrorTube_1.E (k : Nat) : List (FuncId × Go.Rv.Fn) := []
noncomputable def impl_MirrorTube_1.f (k : Nat) (a0 : Int) : Option impl_MirrorTube_1.N := some (wrap64 (8 - a0))
noncomputable def impl_MirrorTube_1.F (k : Nat) : Go.Rv.Fn := mkFn 1 impl_MirrorTube_1.pc impl_MirrorTube_1.pr (keepOf []) (fun (y : impl_MirrorTube_1.N) => (((y, ()), ()) : compT impl_MirrorTube_1.pr)) fun x => impl_MirrorTube_1.f k x.1.1
theorem impl_MirrorTube_1.env (k : Nat) : EnvOk Go.Proofs.Tryz.prog (fun f => (impl_MirrorTube_1.E k).lookup f) := envOk_of trivial
theorem impl_MirrorTube_1.ok (k : Nat) : FnOk Go.Proofs.Tryz.prog 25 (impl_MirrorTube_1.F k) :=
  fn_ok tab (impl_MirrorTube_1.env k) Go.Proofs.Tryz.func25 rfl (n := 1) (Nat.le_of_ble_eq_true rfl) (by kernel_rfl) (outs := []) (by kernel_rfl) (by kernel_rfl) (d := fun (y : compT impl_MirrorTube_1.pr) => (y.1.1 : impl_MirrorTube_1.N)) (fun _ => rfl) (C := fun _ => []) (k := k) noCuts fun x => by kernel_rfl
/-! impl.turned -/
@[reducible] def impl_turned_MirrorTube_1.pc : CutP := [(0, some false, [.fl (.lo (.pair (.int .i64) (.int .i64)))]), (1, some false, [.fn 25 []])]
@[reducible] def impl_turned_MirrorTube_1.pr : CompPs := [(false, [.fl (.own (.pair (.int .i64) (.int .i64)))]), (false, [.fl .bool])]
abbrev impl_turned_MirrorTube_1.N := List (Int × Int) × Bool
noncomputable def impl_turned_MirrorTube_1.E (k : Nat) : List (FuncId × Go.Rv.Fn) := [(17, impl_ValidTube.F k), (25, impl_MirrorTube_1.F k)]
abbrev impl_turned_MirrorTube_1.Cs := (List (Int × Int) → List (Int × Int) → Int → Int → Option impl_turned_MirrorTube_1.N)
def impl_turned_MirrorTube_1.zero : impl_turned_MirrorTube_1.Cs := (fun _ _ _ _ => none)
noncomputable def impl_turned_MirrorTube_1.step (k : Nat) (c : impl_turned_MirrorTube_1.Cs) : impl_turned_MirrorTube_1.Cs := (fun (x0 : List (Int × Int)) (x1 : List (Int × Int)) (x2 : Int) (x3 : Int) => (if (decide (x3 < x2)) = true then if 0 ≤ x3 then if x3 < (x1.length : Int) then (impl_MirrorTube_1.f k ((rd (0, 0) x1 x3).2)).bind fun (t2 : Int) => (if 16 = 0 then none else if x0.length + [((rd (0, 0) x1 x3).1, ((wrap64 (t2 + 16)).tmod 16))].length < 549755813888 then c (x0 ++ [((rd (0, 0) x1 x3).1, ((wrap64 (t2 + 16)).tmod 16))]) x1 x2 (wrap64 (x3 + 1)) else none) else none else none else some (x0, true)))
noncomputable def impl_turned_MirrorTube_1.cs (k : Nat) : Nat → impl_turned_MirrorTube_1.Cs
  | 0 => impl_turned_MirrorTube_1.zero
  | n + 1 => impl_turned_MirrorTube_1.step k (impl_turned_MirrorTube_1.cs k n)
def impl_turned_MirrorTube_1.CC (c : impl_turned_MirrorTube_1.Cs) : Cuts impl_turned_MirrorTube_1.N := [(16, ⟨[(1, some false, [.fn 25 []]), (6, some false, [.fl (.own (.pair (.int .i64) (.int .i64)))]), (13, some false, [.fl (.lo (.pair (.int .i64) (.int .i64)))]), (14, some false, [.fl (.int .i64)]), (15, some false, [.fl (.int .i64)])], fun x => c x.2.1.1 x.2.2.1.1 x.2.2.2.1.1 x.2.2.2.2.1.1⟩)]
noncomputable def impl_turned_MirrorTube_1.f (k : Nat) (a0 : List (Int × Int)) : Option impl_turned_MirrorTube_1.N := (impl_ValidTube.f k a0).bind fun t1 => (if (!t1) = true then some ([], false) else (impl_turned_MirrorTube_1.cs k k) ([] : List (Int × Int)) a0 (a0.length : Int) 0)
noncomputable def impl_turned_MirrorTube_1.F (k : Nat) : Go.Rv.Fn := mkFn 2 impl_turned_MirrorTube_1.pc impl_turned_MirrorTube_1.pr (keepOf []) (fun (y : impl_turned_MirrorTube_1.N) => (((y.1, ()), (y.2, ()), ()) : compT impl_turned_MirrorTube_1.pr)) fun x => impl_turned_MirrorTube_1.f k x.1.1
theorem impl_turned_MirrorTube_1.env (k : Nat) : EnvOk Go.Proofs.Tryz.prog (fun f => (impl_turned_MirrorTube_1.E k).lookup f) := envOk_of ⟨entry Go.Proofs.Tryz.call17 rfl (impl_ValidTube.ok k), entry Go.Proofs.Tryz.call25 rfl (impl_MirrorTube_1.ok k), trivial⟩
theorem impl_turned_MirrorTube_1.cuts (k : Nat) : CutsOk Go.Proofs.Tryz.prog X (fun f => (impl_turned_MirrorTube_1.E k).lookup f) Go.Proofs.Tryz.f24 [] (decN impl_turned_MirrorTube_1.pr (fun (y : compT impl_turned_MirrorTube_1.pr) => ((y.1.1, y.2.1.1) : impl_turned_MirrorTube_1.N))) fun n => impl_turned_MirrorTube_1.CC (impl_turned_MirrorTube_1.cs k n) :=
  cutsOk_of (step := impl_turned_MirrorTube_1.step k) rfl (fun _ => rfl) ⟨fun _ => rfl, trivial⟩ (fun c => by kernel_rfl) fun c => ⟨fun x => by kernel_rfl, trivial⟩
theorem impl_turned_MirrorTube_1.ok (k : Nat) : FnOk Go.Proofs.Tryz.prog 24 (impl_turned_MirrorTube_1.F k) :=
  fn_ok tab (impl_turned_MirrorTube_1.env k) Go.Proofs.Tryz.func24 rfl (n := 2) (Nat.le_of_ble_eq_true rfl) (by kernel_rfl) (outs := []) (by kernel_rfl) (by kernel_rfl) (d := fun (y : compT impl_turned_MirrorTube_1.pr) => ((y.1.1, y.2.1.1) : impl_turned_MirrorTube_1.N)) (fun _ => rfl) (C := fun n => impl_turned_MirrorTube_1.CC (impl_turned_MirrorTube_1.cs k n)) (k := k) (impl_turned_MirrorTube_1.cuts k) fun x => by kernel_rfl
/-! impl.MirrorTube -/
@[reducible] def impl_MirrorTube.pc : CutP := [(0, some false, [.fl (.lo (.pair (.int .i64) (.int .i64)))])]
@[reducible] def impl_MirrorTube.pr : CompPs := [(false, [.fl (.own (.pair (.int .i64) (.int .i64)))]), (false, [.fl .bool])]
abbrev impl_MirrorTube.N := List (Int × Int) × Bool
noncomputable def impl_MirrorTube.E (k : Nat) : List (FuncId × Go.Rv.Fn) := [(24, impl_turned_MirrorTube_1.F k)]
noncomputable def impl_MirrorTube.f (k : Nat) (a0 : List (Int × Int)) : Option impl_MirrorTube.N := (impl_turned_MirrorTube_1.f k a0).bind fun t1 => some (t1.1, t1.2)
noncomputable def impl_MirrorTube.F (k : Nat) : Go.Rv.Fn := mkFn 1 impl_MirrorTube.pc impl_MirrorTube.pr (keepOf []) (fun (y : impl_MirrorTube.N) => (((y.1, ()), (y.2, ()), ()) : compT impl_MirrorTube.pr)) fun x => impl_MirrorTube.f k x.1.1
theorem impl_MirrorTube.env (k : Nat) : EnvOk Go.Proofs.Tryz.prog (fun f => (impl_MirrorTube.E k).lookup f) := envOk_of ⟨entry Go.Proofs.Tryz.call24 rfl (impl_turned_MirrorTube_1.ok k), trivial⟩
theorem impl_MirrorTube.ok (k : Nat) : FnOk Go.Proofs.Tryz.prog 11 (impl_MirrorTube.F k) :=
  fn_ok tab (impl_MirrorTube.env k) Go.Proofs.Tryz.func11 rfl (n := 1) (Nat.le_of_ble_eq_true rfl) (by kernel_rfl) (outs := []) (by kernel_rfl) (by kernel_rfl) (d := fun (y : compT impl_MirrorTube.pr) => ((y.1.1, y.2.1.1) : impl_MirrorTube.N)) (fun _ => rfl) (C := fun _ => []) (k := k) noCuts fun x => by kernel_rfl
/-! impl.QuarterTube$1 -/
@[reducible] def impl_QuarterTube_1.pc : CutP := [(0, some false, [.fl (.int .i64)])]
@[reducible] def impl_QuarterTube_1.pr : CompPs := [(false, [.fl (.int .i64)])]
abbrev impl_QuarterTube_1.N := Int
noncomputable def impl_QuarterTube_1.E (k : Nat) : List (FuncId × Go.Rv.Fn) := []
noncomputable def impl_QuarterTube_1.f (k : Nat) (a0 : Int) : Option impl_QuarterTube_1.N := some (wrap64 (a0 + 4))
noncomputable def impl_QuarterTube_1.F (k : Nat) : Go.Rv.Fn := mkFn 1 impl_QuarterTube_1.pc impl_QuarterTube_1.pr (keepOf []) (fun (y : impl_QuarterTube_1.N) => (((y, ()), ()) : compT impl_QuarterTube_1.pr)) fun x => impl_QuarterTube_1.f k x.1.1
theorem impl_QuarterTube_1.env (k : Nat) : EnvOk Go.Proofs.Tryz.prog (fun f => (impl_QuarterTube_1.E k).lookup f) := envOk_of trivial
theorem impl_QuarterTube_1.ok (k : Nat) : FnOk Go.Proofs.Tryz.prog 26 (impl_QuarterTube_1.F k) :=
  fn_ok tab (impl_QuarterTube_1.env k) Go.Proofs.Tryz.func26 rfl (n := 1) (Nat.le_of_ble_eq_true rfl) (by kernel_rfl) (outs := []) (by kernel_rfl) (by kernel_rfl) (d := fun (y : compT impl_QuarterTube_1.pr) => (y.1.1 : impl_QuarterTube_1.N)) (fun _ => rfl) (C := fun _ => []) (k := k) noCuts fun x => by kernel_rfl
/-! impl.turned -/
@[reducible] def impl_turned_QuarterTube_1.pc : CutP := [(0, some false, [.fl (.lo (.pair (.int .i64) (.int .i64)))]), (1, some false, [.fn 26 []])]
@[reducible] def impl_turned_QuarterTube_1.pr : CompPs := [(false, [.fl (.own (.pair (.int .i64) (.int .i64)))]), (false, [.fl .bool])]
abbrev impl_turned_QuarterTube_1.N := List (Int × Int) × Bool
noncomputable def impl_turned_QuarterTube_1.E (k : Nat) : List (FuncId × Go.Rv.Fn) := [(17, impl_ValidTube.F k), (26, impl_QuarterTube_1.F k)]
abbrev impl_turned_QuarterTube_1.Cs := (List (Int × Int) → List (Int × Int) → Int → Int → Option impl_turned_QuarterTube_1.N)
def impl_turned_QuarterTube_1.zero : impl_turned_QuarterTube_1.Cs := (fun _ _ _ _ => none)
noncomputable def impl_turned_QuarterTube_1.step (k : Nat) (c : impl_turned_QuarterTube_1.Cs) : impl_turned_QuarterTube_1.Cs := (fun (x0 : List (Int × Int)) (x1 : List (Int × Int)) (x2 : Int) (x3 : Int) => (if (decide (x3 < x2)) = true then if 0 ≤ x3 then if x3 < (x1.length : Int) then (impl_QuarterTube_1.f k ((rd (0, 0) x1 x3).2)).bind fun (t2 : Int) => (if 16 = 0 then none else if x0.length + [((rd (0, 0) x1 x3).1, ((wrap64 (t2 + 16)).tmod 16))].length < 549755813888 then c (x0 ++ [((rd (0, 0) x1 x3).1, ((wrap64 (t2 + 16)).tmod 16))]) x1 x2 (wrap64 (x3 + 1)) else none) else none else none else some (x0, true)))
noncomputable def impl_turned_QuarterTube_1.cs (k : Nat) : Nat → impl_turned_QuarterTube_1.Cs
  | 0 => impl_turned_QuarterTube_1.zero
  | n + 1 => impl_turned_QuarterTube_1.step k (impl_turned_QuarterTube_1.cs k n)
def impl_turned_QuarterTube_1.CC (c : impl_turned_QuarterTube_1.Cs) : Cuts impl_turned_QuarterTube_1.N := [(16, ⟨[(1, some false, [.fn 26 []]), (6, some false, [.fl (.own (.pair (.int .i64) (.int .i64)))]), (13, some false, [.fl (.lo (.pair (.int .i64) (.int .i64)))]), (14, some false, [.fl (.int .i64)]), (15, some false, [.fl (.int .i64)])], fun x => c x.2.1.1 x.2.2.1.1 x.2.2.2.1.1 x.2.2.2.2.1.1⟩)]
noncomputable def impl_turned_QuarterTube_1.f (k : Nat) (a0 : List (Int × Int)) : Option impl_turned_QuarterTube_1.N := (impl_ValidTube.f k a0).bind fun t1 => (if (!t1) = true then some ([], false) else (impl_turned_QuarterTube_1.cs k k) ([] : List (Int × Int)) a0 (a0.length : Int) 0)
noncomputable def impl_turned_QuarterTube_1.F (k : Nat) : Go.Rv.Fn := mkFn 2 impl_turned_QuarterTube_1.pc impl_turned_QuarterTube_1.pr (keepOf []) (fun (y : impl_turned_QuarterTube_1.N) => (((y.1, ()), (y.2, ()), ()) : compT impl_turned_QuarterTube_1.pr)) fun x => impl_turned_QuarterTube_1.f k x.1.1
theorem impl_turned_QuarterTube_1.env (k : Nat) : EnvOk Go.Proofs.Tryz.prog (fun f => (impl_turned_QuarterTube_1.E k).lookup f) := envOk_of ⟨entry Go.Proofs.Tryz.call17 rfl (impl_ValidTube.ok k), entry Go.Proofs.Tryz.call26 rfl (impl_QuarterTube_1.ok k), trivial⟩
theorem impl_turned_QuarterTube_1.cuts (k : Nat) : CutsOk Go.Proofs.Tryz.prog X (fun f => (impl_turned_QuarterTube_1.E k).lookup f) Go.Proofs.Tryz.f24 [] (decN impl_turned_QuarterTube_1.pr (fun (y : compT impl_turned_QuarterTube_1.pr) => ((y.1.1, y.2.1.1) : impl_turned_QuarterTube_1.N))) fun n => impl_turned_QuarterTube_1.CC (impl_turned_QuarterTube_1.cs k n) :=
  cutsOk_of (step := impl_turned_QuarterTube_1.step k) rfl (fun _ => rfl) ⟨fun _ => rfl, trivial⟩ (fun c => by kernel_rfl) fun c => ⟨fun x => by kernel_rfl, trivial⟩
theorem impl_turned_QuarterTube_1.ok (k : Nat) : FnOk Go.Proofs.Tryz.prog 24 (impl_turned_QuarterTube_1.F k) :=
  fn_ok tab (impl_turned_QuarterTube_1.env k) Go.Proofs.Tryz.func24 rfl (n := 2) (Nat.le_of_ble_eq_true rfl) (by kernel_rfl) (outs := []) (by kernel_rfl) (by kernel_rfl) (d := fun (y : compT impl_turned_QuarterTube_1.pr) => ((y.1.1, y.2.1.1) : impl_turned_QuarterTube_1.N)) (fun _ => rfl) (C := fun n => impl_turned_QuarterTube_1.CC (impl_turned_QuarterTube_1.cs k n)) (k := k) (impl_turned_QuarterTube_1.cuts k) fun x => by kernel_rfl
/-! impl.QuarterTube -/
@[reducible] def impl_QuarterTube.pc : CutP := [(0, some false, [.fl (.lo (.pair (.int .i64) (.int .i64)))])]
@[reducible] def impl_QuarterTube.pr : CompPs := [(false, [.fl (.own (.pair (.int .i64) (.int .i64)))]), (false, [.fl .bool])]
abbrev impl_QuarterTube.N := List (Int × Int) × Bool
noncomputable def impl_QuarterTube.E (k : Nat) : List (FuncId × Go.Rv.Fn) := [(24, impl_turned_QuarterTube_1.F k)]
noncomputable def impl_QuarterTube.f (k : Nat) (a0 : List (Int × Int)) : Option impl_QuarterTube.N := (impl_turned_QuarterTube_1.f k a0).bind fun t1 => some (t1.1, t1.2)
noncomputable def impl_QuarterTube.F (k : Nat) : Go.Rv.Fn := mkFn 1 impl_QuarterTube.pc impl_QuarterTube.pr (keepOf []) (fun (y : impl_QuarterTube.N) => (((y.1, ()), (y.2, ()), ()) : compT impl_QuarterTube.pr)) fun x => impl_QuarterTube.f k x.1.1
theorem impl_QuarterTube.env (k : Nat) : EnvOk Go.Proofs.Tryz.prog (fun f => (impl_QuarterTube.E k).lookup f) := envOk_of ⟨entry Go.Proofs.Tryz.call24 rfl (impl_turned_QuarterTube_1.ok k), trivial⟩
theorem impl_QuarterTube.ok (k : Nat) : FnOk Go.Proofs.Tryz.prog 12 (impl_QuarterTube.F k) :=
  fn_ok tab (impl_QuarterTube.env k) Go.Proofs.Tryz.func12 rfl (n := 1) (Nat.le_of_ble_eq_true rfl) (by kernel_rfl) (outs := []) (by kernel_rfl) (by kernel_rfl) (d := fun (y : compT impl_QuarterTube.pr) => ((y.1.1, y.2.1.1) : impl_QuarterTube.N)) (fun _ => rfl) (C := fun _ => []) (k := k) noCuts fun x => by kernel_rfl
/-! laws.b10Rings -/
@[reducible] def laws_b10Rings.pc : CutP := [(0, some false, [.fl (.lo (.pair (.int .i64) (.int .i64)))]), (1, some false, [.fl (.lo (.pair (.int .i64) (.int .i64)))])]
@[reducible] def laws_b10Rings.pr : CompPs := [(false, [.fl .bool])]
abbrev laws_b10Rings.N := Bool
noncomputable def laws_b10Rings.E (k : Nat) : List (FuncId × Go.Rv.Fn) := []
abbrev laws_b10Rings.Cs := (List (Int × Int) → List (Int × Int) → Int → Option laws_b10Rings.N)
def laws_b10Rings.zero : laws_b10Rings.Cs := (fun _ _ _ => none)
noncomputable def laws_b10Rings.step (k : Nat) (c : laws_b10Rings.Cs) : laws_b10Rings.Cs := (fun (x0 : List (Int × Int)) (x1 : List (Int × Int)) (x2 : Int) => (if (decide (x2 < (x0.length : Int))) = true then if 0 ≤ x2 then if x2 < (x0.length : Int) then if 0 ≤ x2 then if x2 < (x1.length : Int) then (if (!(decide ((rd (0, 0) x0 x2).1 = (rd (0, 0) x1 x2).1) && (decide ((rd (0, 0) x0 x2).2 = (rd (0, 0) x1 x2).2) && true))) = true then some false else c x0 x1 (wrap64 (x2 + 1))) else none else none else none else none else some true))
noncomputable def laws_b10Rings.cs (k : Nat) : Nat → laws_b10Rings.Cs
  | 0 => laws_b10Rings.zero
  | n + 1 => laws_b10Rings.step k (laws_b10Rings.cs k n)
def laws_b10Rings.CC (c : laws_b10Rings.Cs) : Cuts laws_b10Rings.N := [(14, ⟨[(0, some false, [.fl (.lo (.pair (.int .i64) (.int .i64)))]), (1, some false, [.fl (.lo (.pair (.int .i64) (.int .i64)))]), (5, some false, [.fl (.int .i64)])], fun x => c x.1.1 x.2.1.1 x.2.2.1.1⟩)]
noncomputable def laws_b10Rings.f (k : Nat) (a0 : List (Int × Int)) (a1 : List (Int × Int)) : Option laws_b10Rings.N := (if (!decide ((a0.length : Int) = (a1.length : Int))) = true then some false else (laws_b10Rings.cs k k) a0 a1 0)
noncomputable def laws_b10Rings.F (k : Nat) : Go.Rv.Fn := mkFn 2 laws_b10Rings.pc laws_b10Rings.pr (keepOf []) (fun (y : laws_b10Rings.N) => (((y, ()), ()) : compT laws_b10Rings.pr)) fun x => laws_b10Rings.f k x.1.1 x.2.1.1
theorem laws_b10Rings.env (k : Nat) : EnvOk Go.Proofs.Tryz.prog (fun f => (laws_b10Rings.E k).lookup f) := envOk_of trivial
theorem laws_b10Rings.cuts (k : Nat) : CutsOk Go.Proofs.Tryz.prog X (fun f => (laws_b10Rings.E k).lookup f) Go.Proofs.Tryz.f13 [] (decN laws_b10Rings.pr (fun (y : compT laws_b10Rings.pr) => (y.1.1 : laws_b10Rings.N))) fun n => laws_b10Rings.CC (laws_b10Rings.cs k n) :=
  cutsOk_of (step := laws_b10Rings.step k) rfl (fun _ => rfl) ⟨fun _ => rfl, trivial⟩ (fun c => by kernel_rfl) fun c => ⟨fun x => by kernel_rfl, trivial⟩
theorem laws_b10Rings.ok (k : Nat) : FnOk Go.Proofs.Tryz.prog 13 (laws_b10Rings.F k) :=
  fn_ok tab (laws_b10Rings.env k) Go.Proofs.Tryz.func13 rfl (n := 2) (Nat.le_of_ble_eq_true rfl) (by kernel_rfl) (outs := []) (by kernel_rfl) (by kernel_rfl) (d := fun (y : compT laws_b10Rings.pr) => (y.1.1 : laws_b10Rings.N)) (fun _ => rfl) (C := fun n => laws_b10Rings.CC (laws_b10Rings.cs k n)) (k := k) (laws_b10Rings.cuts k) fun x => by kernel_rfl
/-! laws.FnTubes -/
@[reducible] def laws_FnTubes.pc : CutP := [(0, some false, [.fl (.lo (.int .u8))]), (1, some false, [.fl (.lo (.int .u8))])]
@[reducible] def laws_FnTubes.pr : CompPs := [(false, [.fl .bool])]
abbrev laws_FnTubes.N := Bool
noncomputable def laws_FnTubes.E (k : Nat) : List (FuncId × Go.Rv.Fn) := [(4, laws_b10Long.F k), (5, spec_B10Tube.F k), (6, laws_b10At.F k), (7, impl_TubePoses.F k), (8, impl_TotalTurn.F k), (9, impl_TubeText.F k), (10, impl_ReadTube.F k), (11, impl_MirrorTube.F k), (12, impl_QuarterTube.F k), (13, laws_b10Rings.F k)]
abbrev laws_FnTubes.Cs := (List (Int × Int) → Int → Int → Int → Int → List (Int × Int × Int × Int) → Int → Int → List (Int × Int × Int × Int) → List (Int × Int × Int × Int) → Option laws_FnTubes.N) × (List (Int × Int) → Int → Int → Int → Int → List (Int × Int × Int × Int) → Int → Int → List (Int × Int × Int × Int) → List (Int × Int × Int × Int) → Int → Option laws_FnTubes.N)
def laws_FnTubes.zero : laws_FnTubes.Cs := (fun _ _ _ _ _ _ _ _ _ _ => none, fun _ _ _ _ _ _ _ _ _ _ _ => none)
noncomputable def laws_FnTubes.step (k : Nat) (c : laws_FnTubes.Cs) : laws_FnTubes.Cs := (fun (x0 : List (Int × Int)) (x1 : Int) (x2 : Int) (x3 : Int) (x4 : Int) (x5 : List (Int × Int × Int × Int)) (x6 : Int) (x7 : Int) (x8 : List (Int × Int × Int × Int)) (x9 : List (Int × Int × Int × Int)) => c.2 x0 x1 x2 x3 x4 x5 x6 x7 x8 x9 0,
  fun (x0 : List (Int × Int)) (x1 : Int) (x2 : Int) (x3 : Int) (x4 : Int) (x5 : List (Int × Int × Int × Int)) (x6 : Int) (x7 : Int) (x8 : List (Int × Int × Int × Int)) (x9 : List (Int × Int × Int × Int)) (x10 : Int) => (if (decide (x10 < (x5.length : Int))) = true then if 0 ≤ x10 then if x10 < (x8.length : Int) then if 0 ≤ x10 then if x10 < (x5.length : Int) then if 0 ≤ x10 then if x10 < (x5.length : Int) then if 0 ≤ x10 then if x10 < (x5.length : Int) then if 0 ≤ x10 then if x10 < (x5.length : Int) then (if (!(decide ((rd (0, (0, (0, 0))) x8 x10).1 = (wrap64 (0 - (rd (0, (0, (0, 0))) x5 x10).1))) && (decide (((rd (0, (0, (0, 0))) x8 x10).2).1 = ((rd (0, (0, (0, 0))) x5 x10).2).1) && (decide ((((rd (0, (0, (0, 0))) x8 x10).2).2).1 = (wrap64 (0 - (((rd (0, (0, (0, 0))) x5 x10).2).2).1))) && (decide ((((rd (0, (0, (0, 0))) x8 x10).2).2).2 = (((rd (0, (0, (0, 0))) x5 x10).2).2).2) && true))))) = true then some false else if 0 ≤ x10 then if x10 < (x9.length : Int) then if 0 ≤ x10 then if x10 < (x5.length : Int) then if 0 ≤ x10 then if x10 < (x5.length : Int) then if 0 ≤ x10 then if x10 < (x5.length : Int) then if 0 ≤ x10 then if x10 < (x5.length : Int) then (if (!(decide ((rd (0, (0, (0, 0))) x9 x10).1 = (wrap64 (0 - ((rd (0, (0, (0, 0))) x5 x10).2).1))) && (decide (((rd (0, (0, (0, 0))) x9 x10).2).1 = (rd (0, (0, (0, 0))) x5 x10).1) && (decide ((((rd (0, (0, (0, 0))) x9 x10).2).2).1 = (wrap64 (0 - (((rd (0, (0, (0, 0))) x5 x10).2).2).2))) && (decide ((((rd (0, (0, (0, 0))) x9 x10).2).2).2 = (((rd (0, (0, (0, 0))) x5 x10).2).2).1) && true))))) = true then some false else c.2 x0 x1 x2 x3 x4 x5 x6 x7 x8 x9 (wrap64 (x10 + 1))) else none else none else none else none else none else none else none else none else none else none) else none else none else none else none else none else none else none else none else none else none else if 0 ≤ (x0.length : Int) then if (x0.length : Int) < (x5.length : Int) then (if (decide ((((rd (0, (0, (0, 0))) x5 (x0.length : Int)).2).2).1 = (wrap64 (x3 + x6)))) = true then some (decide ((((rd (0, (0, (0, 0))) x5 (x0.length : Int)).2).2).2 = (wrap64 (x4 + x7)))) else some false) else none else none))
noncomputable def laws_FnTubes.cs (k : Nat) : Nat → laws_FnTubes.Cs
  | 0 => laws_FnTubes.zero
  | n + 1 => laws_FnTubes.step k (laws_FnTubes.cs k n)
def laws_FnTubes.CC (c : laws_FnTubes.Cs) : Cuts laws_FnTubes.N := [(30, ⟨[(5, some false, [.fl (.own (.pair (.int .i64) (.int .i64)))]), (6, none, [.fl (.int .i64), .fl (.int .i64), .fl (.int .i64), .fl (.int .i64)]), (7, some false, [.fl (.own (.pair (.int .i64) (.pair (.int .i64) (.pair (.int .i64) (.int .i64)))))]), (9, some false, [.fl (.int .i64)]), (10, some false, [.fl (.int .i64)]), (20, some false, [.fl (.own (.pair (.int .i64) (.pair (.int .i64) (.pair (.int .i64) (.int .i64)))))]), (22, some false, [.fl (.own (.pair (.int .i64) (.pair (.int .i64) (.pair (.int .i64) (.int .i64)))))])], fun x => c.1 x.1.1 x.2.1.1 x.2.1.2.1 x.2.1.2.2.1 x.2.1.2.2.2.1 x.2.2.1.1 x.2.2.2.1.1 x.2.2.2.2.1.1 x.2.2.2.2.2.1.1 x.2.2.2.2.2.2.1.1⟩),
  (42, ⟨[(5, some false, [.fl (.own (.pair (.int .i64) (.int .i64)))]), (6, none, [.fl (.int .i64), .fl (.int .i64), .fl (.int .i64), .fl (.int .i64)]), (7, some false, [.fl (.own (.pair (.int .i64) (.pair (.int .i64) (.pair (.int .i64) (.int .i64)))))]), (9, some false, [.fl (.int .i64)]), (10, some false, [.fl (.int .i64)]), (20, some false, [.fl (.own (.pair (.int .i64) (.pair (.int .i64) (.pair (.int .i64) (.int .i64)))))]), (22, some false, [.fl (.own (.pair (.int .i64) (.pair (.int .i64) (.pair (.int .i64) (.int .i64)))))]), (24, some false, [.fl (.int .i64)])], fun x => c.2 x.1.1 x.2.1.1 x.2.1.2.1 x.2.1.2.2.1 x.2.1.2.2.2.1 x.2.2.1.1 x.2.2.2.1.1 x.2.2.2.2.1.1 x.2.2.2.2.2.1.1 x.2.2.2.2.2.2.1.1 x.2.2.2.2.2.2.2.1.1⟩)]
noncomputable def laws_FnTubes.f (k : Nat) (a0 : List Int) (a1 : List Int) : Option laws_FnTubes.N := (laws_b10Long.f k a0 a1).bind fun t1 => (if t1 = true then some true else (spec_B10Tube.f k a0).bind fun t2 => (laws_b10At.f k a1 0 9).bind fun (t3 : Int) => (laws_b10At.f k a1 1 9).bind fun (t4 : Int) => (impl_TubePoses.f k 0 0 (wrap64 (t3 - 4)) (wrap64 (t4 - 4)) t2).bind fun t5 => (impl_TotalTurn.f k t2).bind fun t6 => (impl_TubeText.f k t2).bind fun t7 => (impl_ReadTube.f k t7.1).bind fun t8 => (impl_MirrorTube.f k t2).bind fun t9 => (impl_QuarterTube.f k t2).bind fun t10 => (impl_TubePoses.f k 0 0 (wrap64 (0 - (wrap64 (t3 - 4)))) (wrap64 (t4 - 4)) t9.1).bind fun t11 => (impl_TubePoses.f k 0 0 (wrap64 (0 - (wrap64 (t4 - 4)))) (wrap64 (t3 - 4)) t10.1).bind fun t12 => (if (!t5.2) = true then some false else (if (!t6.2.2) = true then some false else (if (!t7.2) = true then some false else (if (!t8.2) = true then some false else (if (!t9.2) = true then some false else (if (!t10.2) = true then some false else (if (!t11.2) = true then some false else (if (!t12.2) = true then some false else (laws_b10Rings.f k t8.1 t2).bind fun t13 => (if (!t13) = true then some false else (if (!decide ((t5.1.length : Int) = (wrap64 ((t2.length : Int) + 1)))) = true then some false else (if (!decide ((t11.1.length : Int) = (t5.1.length : Int))) = true then some false else (if (!decide ((t12.1.length : Int) = (t5.1.length : Int))) = true then some false else (laws_FnTubes.cs k k).1 t2 0 0 (wrap64 (t3 - 4)) (wrap64 (t4 - 4)) t5.1 t6.1 t6.2.1 t11.1 t12.1)))))))))))))
noncomputable def laws_FnTubes.F (k : Nat) : Go.Rv.Fn := mkFn 2 laws_FnTubes.pc laws_FnTubes.pr (keepOf []) (fun (y : laws_FnTubes.N) => (((y, ()), ()) : compT laws_FnTubes.pr)) fun x => laws_FnTubes.f k x.1.1 x.2.1.1
theorem laws_FnTubes.env (k : Nat) : EnvOk Go.Proofs.Tryz.prog (fun f => (laws_FnTubes.E k).lookup f) := envOk_of ⟨entry Go.Proofs.Tryz.call4 rfl (laws_b10Long.ok k), entry Go.Proofs.Tryz.call5 rfl (spec_B10Tube.ok k), entry Go.Proofs.Tryz.call6 rfl (laws_b10At.ok k), entry Go.Proofs.Tryz.call7 rfl (impl_TubePoses.ok k), entry Go.Proofs.Tryz.call8 rfl (impl_TotalTurn.ok k), entry Go.Proofs.Tryz.call9 rfl (impl_TubeText.ok k), entry Go.Proofs.Tryz.call10 rfl (impl_ReadTube.ok k), entry Go.Proofs.Tryz.call11 rfl (impl_MirrorTube.ok k), entry Go.Proofs.Tryz.call12 rfl (impl_QuarterTube.ok k), entry Go.Proofs.Tryz.call13 rfl (laws_b10Rings.ok k), trivial⟩
theorem laws_FnTubes.cuts (k : Nat) : CutsOk Go.Proofs.Tryz.prog X (fun f => (laws_FnTubes.E k).lookup f) Go.Proofs.Tryz.f3 [] (decN laws_FnTubes.pr (fun (y : compT laws_FnTubes.pr) => (y.1.1 : laws_FnTubes.N))) fun n => laws_FnTubes.CC (laws_FnTubes.cs k n) :=
  cutsOk_of (step := laws_FnTubes.step k) rfl (fun _ => rfl) ⟨fun _ => rfl, fun _ => rfl, trivial⟩ (fun c => by kernel_rfl) fun c => ⟨fun x => by kernel_rfl, fun x => by kernel_rfl, trivial⟩
theorem laws_FnTubes.ok (k : Nat) : FnOk Go.Proofs.Tryz.prog 3 (laws_FnTubes.F k) :=
  fn_ok tab (laws_FnTubes.env k) Go.Proofs.Tryz.func3 rfl (n := 2) (Nat.le_of_ble_eq_true rfl) (by kernel_rfl) (outs := []) (by kernel_rfl) (by kernel_rfl) (d := fun (y : compT laws_FnTubes.pr) => (y.1.1 : laws_FnTubes.N)) (fun _ => rfl) (C := fun n => laws_FnTubes.CC (laws_FnTubes.cs k n)) (k := k) (laws_FnTubes.cuts k) fun x => by kernel_rfl
end Go.Proofs.YtmgelocefebldaaGreatDoor.R
