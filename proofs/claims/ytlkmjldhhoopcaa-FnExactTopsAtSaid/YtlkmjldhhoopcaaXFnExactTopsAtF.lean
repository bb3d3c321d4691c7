-- written by wip/rev/gen2.py for this claim (out of the translation). Lean checks it.
import Derived.Test.YtlkmjldhhoopcaaRvM2
import Derived.Test.YtlkmjldhhoopcaaProg
import Derived.Test.YtlkmjldhhoopcaaRvToH
import Derived.Test.YtlkmjldhhoopcaaRvMkG
namespace Go.Proofs.Ytlkmjldhhoopcaa.R
open Go.Rv
set_option linter.unusedVariables false
set_option maxRecDepth 100000
def X : Env := { n := 0, keep := [], tab := [(2, { ty := (.int .i64) }),
  (3, { ty := (.int .i64) }),
  (4, { ty := .bool }),
  (22, { ty := (.sl (.int .i64)) }),
  (23, { ty := (.sl (.pair (.int .i64) (.sl (.int .i64)))) }),
  (25, { ty := (.pair (.sl (.int .i64)) (.sl (.pair (.int .i64) (.sl (.int .i64))))), agg := true, offs := [(0, 1, false), (1, 1, false)] }),
  (28, { ty := (.sl (.pair (.int .i64) (.sl (.int .i64)))) }),
  (30, { ty := (.pair (.sl (.int .i64)) (.sl (.pair (.int .i64) (.sl (.int .i64))))), agg := true, offs := [(0, 1, false), (1, 1, false)] }),
  (40, { ty := (.pair (.int .i64) (.sl (.int .i64))), agg := true, offs := [(0, 1, false), (1, 1, false)] }),
  (96, { ty := (.pair (.int .i64) (.sl (.int .i64))), agg := true, offs := [(0, 1, false), (1, 1, false)] })] }
theorem tab : TabOk Go.Proofs.Try.prog X := ⟨by kernel_rfl, by kernel_rfl⟩
/-! laws.szInt64S -/
@[reducible] def laws_szInt64S.pc : CutP := [(0, some false, [.fl (.lo (.int .i64))]), (1, some false, [.fl (.int .i64)])]
@[reducible] def laws_szInt64S.pr : CompPs := [(false, [.fl (.int .i64)])]
abbrev laws_szInt64S.N := Int
noncomputable def laws_szInt64S.E (k : Nat) : List (FuncId × Go.Rv.Fn) := []
noncomputable def laws_szInt64S.f (k : Nat) (a0 : List Int) (a1 : Int) : Option laws_szInt64S.N := (if (decide ((wrap64 (a1 - (a0.length : Int))) < 0)) = true then some (-1) else some (wrap64 (a1 - (a0.length : Int))))
noncomputable def laws_szInt64S.F (k : Nat) : Go.Rv.Fn := mkFn 2 laws_szInt64S.pc laws_szInt64S.pr (keepOf []) (fun (y : laws_szInt64S.N) => (((y, ()), ()) : compT laws_szInt64S.pr)) fun x => laws_szInt64S.f k x.1.1 x.2.1.1
theorem laws_szInt64S.env (k : Nat) : EnvOk Go.Proofs.Try.prog (fun f => (laws_szInt64S.E k).lookup f) := envOk_of trivial
theorem laws_szInt64S.ok (k : Nat) : FnOk Go.Proofs.Try.prog 42 (laws_szInt64S.F k) :=
  fn_ok tab (laws_szInt64S.env k) Go.Proofs.Try.func42 rfl (n := 2) (Nat.le_of_ble_eq_true rfl) (by kernel_rfl) (outs := []) (by kernel_rfl) (by kernel_rfl) (d := fun (y : compT laws_szInt64S.pr) => (y.1.1 : laws_szInt64S.N)) (fun _ => rfl) (C := fun _ => []) (k := k) noCuts fun x => by kernel_rfl
/-! laws.szHole -/
@[reducible] def laws_szHole.pc : CutP := [(0, some true, [.fl (.int .i64), .fl (.lo (.int .i64))]), (1, some false, [.fl (.int .i64)])]
@[reducible] def laws_szHole.pr : CompPs := [(false, [.fl (.int .i64)])]
abbrev laws_szHole.N := Int
noncomputable def laws_szHole.E (k : Nat) : List (FuncId × Go.Rv.Fn) := [(42, laws_szInt64S.F k)]
noncomputable def laws_szHole.f (k : Nat) (a0 : Int) (a1 : List Int) (a2 : Int) : Option laws_szHole.N := (laws_szInt64S.f k a1 a2).bind fun (t1 : Int) => (if (decide (t1 < 0)) = true then some (-1) else some t1)
noncomputable def laws_szHole.F (k : Nat) : Go.Rv.Fn := mkFn 2 laws_szHole.pc laws_szHole.pr (keepOf []) (fun (y : laws_szHole.N) => (((y, ()), ()) : compT laws_szHole.pr)) fun x => laws_szHole.f k x.1.1 x.1.2.1 x.2.1.1
theorem laws_szHole.env (k : Nat) : EnvOk Go.Proofs.Try.prog (fun f => (laws_szHole.E k).lookup f) := envOk_of ⟨entry Go.Proofs.Try.call42 rfl (laws_szInt64S.ok k), trivial⟩
theorem laws_szHole.ok (k : Nat) : FnOk Go.Proofs.Try.prog 76 (laws_szHole.F k) :=
  fn_ok tab (laws_szHole.env k) Go.Proofs.Try.func76 rfl (n := 2) (Nat.le_of_ble_eq_true rfl) (by kernel_rfl) (outs := []) (by kernel_rfl) (by kernel_rfl) (d := fun (y : compT laws_szHole.pr) => (y.1.1 : laws_szHole.N)) (fun _ => rfl) (C := fun _ => []) (k := k) noCuts fun x => by kernel_rfl
/-! laws.szHoleS -/
@[reducible] def laws_szHoleS.pc : CutP := [(0, some false, [.fl (.lo (.pair (.int .i64) (.sl (.int .i64))))]), (1, some false, [.fl (.int .i64)])]
@[reducible] def laws_szHoleS.pr : CompPs := [(false, [.fl (.int .i64)])]
abbrev laws_szHoleS.N := Int
noncomputable def laws_szHoleS.E (k : Nat) : List (FuncId × Go.Rv.Fn) := [(76, laws_szHole.F k)]
abbrev laws_szHoleS.Cs := (List (Int × List Int) → Int → Int → Option laws_szHoleS.N)
def laws_szHoleS.zero : laws_szHoleS.Cs := (fun _ _ _ => none)
noncomputable def laws_szHoleS.step (k : Nat) (c : laws_szHoleS.Cs) : laws_szHoleS.Cs := (fun (x0 : List (Int × List Int)) (x1 : Int) (x2 : Int) => (if (decide (x2 < (x0.length : Int))) = true then if 0 ≤ x2 then if x2 < (x0.length : Int) then (laws_szHole.f k ((rd (0, []) x0 x2).1) ((rd (0, []) x0 x2).2) x1).bind fun (t1 : Int) => (if (decide (t1 < 0)) = true then some (-1) else c x0 t1 (wrap64 (x2 + 1))) else none else none else some x1))
noncomputable def laws_szHoleS.cs (k : Nat) : Nat → laws_szHoleS.Cs
  | 0 => laws_szHoleS.zero
  | n + 1 => laws_szHoleS.step k (laws_szHoleS.cs k n)
def laws_szHoleS.CC (c : laws_szHoleS.Cs) : Cuts laws_szHoleS.N := [(16, ⟨[(0, some false, [.fl (.lo (.pair (.int .i64) (.sl (.int .i64))))]), (1, some false, [.fl (.int .i64)]), (5, some false, [.fl (.int .i64)])], fun x => c x.1.1 x.2.1.1 x.2.2.1.1⟩)]
noncomputable def laws_szHoleS.f (k : Nat) (a0 : List (Int × List Int)) (a1 : Int) : Option laws_szHoleS.N := (if (decide ((wrap64 (a1 - (a0.length : Int))) < 0)) = true then some (-1) else (laws_szHoleS.cs k k) a0 (wrap64 (a1 - (a0.length : Int))) 0)
noncomputable def laws_szHoleS.F (k : Nat) : Go.Rv.Fn := mkFn 2 laws_szHoleS.pc laws_szHoleS.pr (keepOf []) (fun (y : laws_szHoleS.N) => (((y, ()), ()) : compT laws_szHoleS.pr)) fun x => laws_szHoleS.f k x.1.1 x.2.1.1
theorem laws_szHoleS.env (k : Nat) : EnvOk Go.Proofs.Try.prog (fun f => (laws_szHoleS.E k).lookup f) := envOk_of ⟨entry Go.Proofs.Try.call76 rfl (laws_szHole.ok k), trivial⟩
theorem laws_szHoleS.cuts (k : Nat) : CutsOk Go.Proofs.Try.prog X (fun f => (laws_szHoleS.E k).lookup f) Go.Proofs.Try.f43 [] (decN laws_szHoleS.pr (fun (y : compT laws_szHoleS.pr) => (y.1.1 : laws_szHoleS.N))) fun n => laws_szHoleS.CC (laws_szHoleS.cs k n) :=
  cutsOk_of (step := laws_szHoleS.step k) rfl (fun _ => rfl) ⟨fun _ => rfl, trivial⟩ (fun c => by kernel_rfl) fun c => ⟨fun x => by kernel_rfl, trivial⟩
theorem laws_szHoleS.ok (k : Nat) : FnOk Go.Proofs.Try.prog 43 (laws_szHoleS.F k) :=
  fn_ok tab (laws_szHoleS.env k) Go.Proofs.Try.func43 rfl (n := 2) (Nat.le_of_ble_eq_true rfl) (by kernel_rfl) (outs := []) (by kernel_rfl) (by kernel_rfl) (d := fun (y : compT laws_szHoleS.pr) => (y.1.1 : laws_szHoleS.N)) (fun _ => rfl) (C := fun n => laws_szHoleS.CC (laws_szHoleS.cs k n)) (k := k) (laws_szHoleS.cuts k) fun x => by kernel_rfl
/-! laws.szGround -/
@[reducible] def laws_szGround.pc : CutP := [(0, some true, [.fl (.lo (.int .i64)), .fl (.lo (.pair (.int .i64) (.sl (.int .i64))))]), (1, some false, [.fl (.int .i64)])]
@[reducible] def laws_szGround.pr : CompPs := [(false, [.fl (.int .i64)])]
abbrev laws_szGround.N := Int
noncomputable def laws_szGround.E (k : Nat) : List (FuncId × Go.Rv.Fn) := [(42, laws_szInt64S.F k), (43, laws_szHoleS.F k)]
noncomputable def laws_szGround.f (k : Nat) (a0 : List Int) (a1 : List (Int × List Int)) (a2 : Int) : Option laws_szGround.N := (laws_szInt64S.f k a0 a2).bind fun (t1 : Int) => (if (decide (t1 < 0)) = true then some (-1) else (laws_szHoleS.f k a1 t1).bind fun (t2 : Int) => (if (decide (t2 < 0)) = true then some (-1) else some t2))
noncomputable def laws_szGround.F (k : Nat) : Go.Rv.Fn := mkFn 2 laws_szGround.pc laws_szGround.pr (keepOf []) (fun (y : laws_szGround.N) => (((y, ()), ()) : compT laws_szGround.pr)) fun x => laws_szGround.f k x.1.1 x.1.2.1 x.2.1.1
theorem laws_szGround.env (k : Nat) : EnvOk Go.Proofs.Try.prog (fun f => (laws_szGround.E k).lookup f) := envOk_of ⟨entry Go.Proofs.Try.call42 rfl (laws_szInt64S.ok k), entry Go.Proofs.Try.call43 rfl (laws_szHoleS.ok k), trivial⟩
theorem laws_szGround.ok (k : Nat) : FnOk Go.Proofs.Try.prog 11 (laws_szGround.F k) :=
  fn_ok tab (laws_szGround.env k) Go.Proofs.Try.func11 rfl (n := 2) (Nat.le_of_ble_eq_true rfl) (by kernel_rfl) (outs := []) (by kernel_rfl) (by kernel_rfl) (d := fun (y : compT laws_szGround.pr) => (y.1.1 : laws_szGround.N)) (fun _ => rfl) (C := fun _ => []) (k := k) noCuts fun x => by kernel_rfl
/-! laws.toInt64S -/
@[reducible] def laws_toInt64S.pc : CutP := [(0, some false, [.fl (.lo (.int .i64))])]
@[reducible] def laws_toInt64S.pr : CompPs := [(false, [.fl (.own (.int .i64))])]
abbrev laws_toInt64S.N := List Int
noncomputable def laws_toInt64S.E (k : Nat) : List (FuncId × Go.Rv.Fn) := []
abbrev laws_toInt64S.Cs := (List Int → List Int → Int → Option laws_toInt64S.N)
def laws_toInt64S.zero : laws_toInt64S.Cs := (fun _ _ _ => none)
noncomputable def laws_toInt64S.step (k : Nat) (c : laws_toInt64S.Cs) : laws_toInt64S.Cs := (fun (x0 : List Int) (x1 : List Int) (x2 : Int) => (if (decide (x2 < (x0.length : Int))) = true then if 0 ≤ x2 then if x2 < (x0.length : Int) then if 0 ≤ x2 then if x2 < (x1.length : Int) then c x0 (x1.set x2.toNat (rd 0 x0 x2)) (wrap64 (x2 + 1)) else none else none else none else none else some x1))
noncomputable def laws_toInt64S.cs (k : Nat) : Nat → laws_toInt64S.Cs
  | 0 => laws_toInt64S.zero
  | n + 1 => laws_toInt64S.step k (laws_toInt64S.cs k n)
def laws_toInt64S.CC (c : laws_toInt64S.Cs) : Cuts laws_toInt64S.N := [(8, ⟨[(0, some false, [.fl (.lo (.int .i64))]), (3, some false, [.fl (.own (.int .i64))]), (4, some false, [.fl (.int .i64)])], fun x => c x.1.1 x.2.1.1 x.2.2.1.1⟩)]
noncomputable def laws_toInt64S.f (k : Nat) (a0 : List Int) : Option laws_toInt64S.N := if 0 ≤ (a0.length : Int) then if (a0.length : Int) ≤ (a0.length : Int) then if (a0.length : Int) < 1099511627776 then (laws_toInt64S.cs k k) a0 (List.replicate (a0.length : Int).toNat 0) 0 else none else none else none
noncomputable def laws_toInt64S.F (k : Nat) : Go.Rv.Fn := mkFn 1 laws_toInt64S.pc laws_toInt64S.pr (keepOf []) (fun (y : laws_toInt64S.N) => (((y, ()), ()) : compT laws_toInt64S.pr)) fun x => laws_toInt64S.f k x.1.1
theorem laws_toInt64S.env (k : Nat) : EnvOk Go.Proofs.Try.prog (fun f => (laws_toInt64S.E k).lookup f) := envOk_of trivial
theorem laws_toInt64S.cuts (k : Nat) : CutsOk Go.Proofs.Try.prog X (fun f => (laws_toInt64S.E k).lookup f) Go.Proofs.Try.f45 [] (decN laws_toInt64S.pr (fun (y : compT laws_toInt64S.pr) => (y.1.1 : laws_toInt64S.N))) fun n => laws_toInt64S.CC (laws_toInt64S.cs k n) :=
  cutsOk_of (step := laws_toInt64S.step k) rfl (fun _ => rfl) ⟨fun _ => rfl, trivial⟩ (fun c => by kernel_rfl) fun c => ⟨fun x => by kernel_rfl, trivial⟩
theorem laws_toInt64S.ok (k : Nat) : FnOk Go.Proofs.Try.prog 45 (laws_toInt64S.F k) :=
  fn_ok tab (laws_toInt64S.env k) Go.Proofs.Try.func45 rfl (n := 1) (Nat.le_of_ble_eq_true rfl) (by kernel_rfl) (outs := []) (by kernel_rfl) (by kernel_rfl) (d := fun (y : compT laws_toInt64S.pr) => (y.1.1 : laws_toInt64S.N)) (fun _ => rfl) (C := fun n => laws_toInt64S.CC (laws_toInt64S.cs k n)) (k := k) (laws_toInt64S.cuts k) fun x => by kernel_rfl
/-! laws.toHoleS -/
@[reducible] def laws_toHoleS.pc : CutP := [(0, some false, [.fl (.lo (.pair (.int .i64) (.sl (.int .i64))))])]
@[reducible] def laws_toHoleS.pr : CompPs := [(false, [.fl (.own (.pair (.int .i64) (.sl (.int .i64))))])]
abbrev laws_toHoleS.N := List (Int × List Int)
noncomputable def laws_toHoleS.E (k : Nat) : List (FuncId × Go.Rv.Fn) := []
noncomputable def laws_toHoleS.f (k : Nat) (a0 : List (Int × List Int)) : Option laws_toHoleS.N := T.toHoleF a0
noncomputable def laws_toHoleS.F (k : Nat) : Go.Rv.Fn := mkFn 1 laws_toHoleS.pc laws_toHoleS.pr (keepOf []) (fun (y : laws_toHoleS.N) => (((y, ()), ()) : compT laws_toHoleS.pr)) fun x => laws_toHoleS.f k x.1.1
theorem laws_toHoleS.ok (k : Nat) : FnOk Go.Proofs.Try.prog 46 (laws_toHoleS.F k) := T.toHole_fn
/-! laws.toGround -/
@[reducible] def laws_toGround.pc : CutP := [(0, some true, [.fl (.lo (.int .i64)), .fl (.lo (.pair (.int .i64) (.sl (.int .i64))))])]
@[reducible] def laws_toGround.pr : CompPs := [(true, [.fl (.own (.int .i64)), .fl (.own (.pair (.int .i64) (.sl (.int .i64))))])]
abbrev laws_toGround.N := List Int × List (Int × List Int)
noncomputable def laws_toGround.E (k : Nat) : List (FuncId × Go.Rv.Fn) := [(45, laws_toInt64S.F k), (46, laws_toHoleS.F k)]
noncomputable def laws_toGround.f (k : Nat) (a0 : List Int) (a1 : List (Int × List Int)) : Option laws_toGround.N := (laws_toInt64S.f k a0).bind fun t1 => (laws_toHoleS.f k a1).bind fun t2 => some (t1, t2)
noncomputable def laws_toGround.F (k : Nat) : Go.Rv.Fn := mkFn 1 laws_toGround.pc laws_toGround.pr (keepOf []) (fun (y : laws_toGround.N) => (((y.1, y.2, ()), ()) : compT laws_toGround.pr)) fun x => laws_toGround.f k x.1.1 x.1.2.1
theorem laws_toGround.env (k : Nat) : EnvOk Go.Proofs.Try.prog (fun f => (laws_toGround.E k).lookup f) := envOk_of ⟨entry Go.Proofs.Try.call45 rfl (laws_toInt64S.ok k), entry Go.Proofs.Try.call46 rfl (laws_toHoleS.ok k), trivial⟩
theorem laws_toGround.ok (k : Nat) : FnOk Go.Proofs.Try.prog 13 (laws_toGround.F k) :=
  fn_ok tab (laws_toGround.env k) Go.Proofs.Try.func13 rfl (n := 1) (Nat.le_of_ble_eq_true rfl) (by kernel_rfl) (outs := []) (by kernel_rfl) (by kernel_rfl) (d := fun (y : compT laws_toGround.pr) => ((y.1.1, y.1.2.1) : laws_toGround.N)) (fun _ => rfl) (C := fun _ => []) (k := k) noCuts fun x => by kernel_rfl
/-! spec.l00In -/
@[reducible] def spec_l00In.pc : CutP := [(0, some false, [.fl (.int .i64)]), (1, some false, [.fl (.int .i64)]), (2, some false, [.fl (.int .i64)])]
@[reducible] def spec_l00In.pr : CompPs := [(false, [.fl .bool])]
abbrev spec_l00In.N := Bool
noncomputable def spec_l00In.E (k : Nat) : List (FuncId × Go.Rv.Fn) := []
noncomputable def spec_l00In.f (k : Nat) (a0 : Int) (a1 : Int) (a2 : Int) : Option spec_l00In.N := (if (decide (a1 ≤ a0)) = true then some (decide (a0 ≤ a2)) else some false)
noncomputable def spec_l00In.F (k : Nat) : Go.Rv.Fn := mkFn 3 spec_l00In.pc spec_l00In.pr (keepOf []) (fun (y : spec_l00In.N) => (((y, ()), ()) : compT spec_l00In.pr)) fun x => spec_l00In.f k x.1.1 x.2.1.1 x.2.2.1.1
theorem spec_l00In.env (k : Nat) : EnvOk Go.Proofs.Try.prog (fun f => (spec_l00In.E k).lookup f) := envOk_of trivial
theorem spec_l00In.ok (k : Nat) : FnOk Go.Proofs.Try.prog 62 (spec_l00In.F k) :=
  fn_ok tab (spec_l00In.env k) Go.Proofs.Try.func62 rfl (n := 3) (Nat.le_of_ble_eq_true rfl) (by kernel_rfl) (outs := []) (by kernel_rfl) (by kernel_rfl) (d := fun (y : compT spec_l00In.pr) => (y.1.1 : spec_l00In.N)) (fun _ => rfl) (C := fun _ => []) (k := k) noCuts fun x => by kernel_rfl
/-! spec.l06Tops -/
@[reducible] def spec_l06Tops.pc : CutP := [(0, some false, [.fl (.lo (.int .i64))]), (1, some false, [.fl (.int .i64)])]
@[reducible] def spec_l06Tops.pr : CompPs := [(false, [.fl .bool])]
abbrev spec_l06Tops.N := Bool
noncomputable def spec_l06Tops.E (k : Nat) : List (FuncId × Go.Rv.Fn) := [(62, spec_l00In.F k)]
abbrev spec_l06Tops.Cs := (List Int → Int → Int → Option spec_l06Tops.N)
def spec_l06Tops.zero : spec_l06Tops.Cs := (fun _ _ _ => none)
noncomputable def spec_l06Tops.step (k : Nat) (c : spec_l06Tops.Cs) : spec_l06Tops.Cs := (fun (x0 : List Int) (x1 : Int) (x2 : Int) => (if (decide (x2 < (x0.length : Int))) = true then if 0 ≤ x2 then if x2 < (x0.length : Int) then (spec_l00In.f k (rd 0 x0 x2) (-100000) 100000).bind fun t1 => (if (!t1) = true then some false else (if (decide (0 < x2)) = true then if 0 ≤ (wrap64 (x2 - 1)) then if (wrap64 (x2 - 1)) < (x0.length : Int) then if 0 ≤ x2 then if x2 < (x0.length : Int) then (if (decide ((rd 0 x0 (wrap64 (x2 - 1))) < (rd 0 x0 x2))) = true then some false else c x0 x1 (wrap64 (x2 + 1))) else none else none else none else none else c x0 x1 (wrap64 (x2 + 1)))) else none else none else some (decide ((x0.length : Int) = x1))))
noncomputable def spec_l06Tops.cs (k : Nat) : Nat → spec_l06Tops.Cs
  | 0 => spec_l06Tops.zero
  | n + 1 => spec_l06Tops.step k (spec_l06Tops.cs k n)
def spec_l06Tops.CC (c : spec_l06Tops.Cs) : Cuts spec_l06Tops.N := [(6, ⟨[(0, some false, [.fl (.lo (.int .i64))]), (1, some false, [.fl (.int .i64)]), (5, some false, [.fl (.int .i64)])], fun x => c x.1.1 x.2.1.1 x.2.2.1.1⟩)]
noncomputable def spec_l06Tops.f (k : Nat) (a0 : List Int) (a1 : Int) : Option spec_l06Tops.N := (spec_l06Tops.cs k k) a0 a1 0
noncomputable def spec_l06Tops.F (k : Nat) : Go.Rv.Fn := mkFn 2 spec_l06Tops.pc spec_l06Tops.pr (keepOf []) (fun (y : spec_l06Tops.N) => (((y, ()), ()) : compT spec_l06Tops.pr)) fun x => spec_l06Tops.f k x.1.1 x.2.1.1
theorem spec_l06Tops.env (k : Nat) : EnvOk Go.Proofs.Try.prog (fun f => (spec_l06Tops.E k).lookup f) := envOk_of ⟨entry Go.Proofs.Try.call62 rfl (spec_l00In.ok k), trivial⟩
theorem spec_l06Tops.cuts (k : Nat) : CutsOk Go.Proofs.Try.prog X (fun f => (spec_l06Tops.E k).lookup f) Go.Proofs.Try.f77 [] (decN spec_l06Tops.pr (fun (y : compT spec_l06Tops.pr) => (y.1.1 : spec_l06Tops.N))) fun n => spec_l06Tops.CC (spec_l06Tops.cs k n) :=
  cutsOk_of (step := spec_l06Tops.step k) rfl (fun _ => rfl) ⟨fun _ => rfl, trivial⟩ (fun c => by kernel_rfl) fun c => ⟨fun x => by kernel_rfl, trivial⟩
theorem spec_l06Tops.ok (k : Nat) : FnOk Go.Proofs.Try.prog 77 (spec_l06Tops.F k) :=
  fn_ok tab (spec_l06Tops.env k) Go.Proofs.Try.func77 rfl (n := 2) (Nat.le_of_ble_eq_true rfl) (by kernel_rfl) (outs := []) (by kernel_rfl) (by kernel_rfl) (d := fun (y : compT spec_l06Tops.pr) => (y.1.1 : spec_l06Tops.N)) (fun _ => rfl) (C := fun n => spec_l06Tops.CC (spec_l06Tops.cs k n)) (k := k) (spec_l06Tops.cuts k) fun x => by kernel_rfl
/-! spec.l06Is -/
@[reducible] def spec_l06Is.pc : CutP := [(0, some false, [.rptr [(.lo (.int .i64)), (.lo (.pair (.int .i64) (.sl (.int .i64))))]])]
@[reducible] def spec_l06Is.pr : CompPs := [(false, [.fl .bool])]
abbrev spec_l06Is.N := Bool
noncomputable def spec_l06Is.E (k : Nat) : List (FuncId × Go.Rv.Fn) := [(62, spec_l00In.F k), (77, spec_l06Tops.F k)]
abbrev spec_l06Is.Cs := (List Int → List (Int × List Int) → Option spec_l06Is.N) × (List Int → List (Int × List Int) → Int → Option spec_l06Is.N) × (List Int → List (Int × List Int) → Int → Option spec_l06Is.N)
def spec_l06Is.zero : spec_l06Is.Cs := (fun _ _ => none, fun _ _ _ => none, fun _ _ _ => none)
noncomputable def spec_l06Is.step (k : Nat) (c : spec_l06Is.Cs) : spec_l06Is.Cs := (fun (x0 : List Int) (x1 : List (Int × List Int)) => c.2.1 x0 x1 0,
  fun (x0 : List Int) (x1 : List (Int × List Int)) (x2 : Int) => (if (decide (x2 < (x0.length : Int))) = true then if 0 ≤ x2 then if x2 < (x0.length : Int) then (spec_l00In.f k (rd 0 x0 x2) 1 3000).bind fun t3 => (if (!t3) = true then some false else c.2.1 x0 x1 (wrap64 (x2 + 1))) else none else none else c.2.2 x0 x1 0),
  fun (x0 : List Int) (x1 : List (Int × List Int)) (x2 : Int) => (if (decide (x2 < (x1.length : Int))) = true then if 0 ≤ x2 then if x2 < (x1.length : Int) then (spec_l00In.f k ((rd (0, []) x1 x2).1) 0 60).bind fun t4 => (if (!t4) = true then some false else (if (decide (0 < x2)) = true then if 0 ≤ (wrap64 (x2 - 1)) then if (wrap64 (x2 - 1)) < (x1.length : Int) then (if (decide ((rd (0, []) x1 x2).1 ≤ (rd (0, []) x1 (wrap64 (x2 - 1))).1)) = true then some false else (spec_l06Tops.f k ((rd (0, []) x1 x2).2) (x0.length : Int)).bind fun t5 => (if (!t5) = true then some false else c.2.2 x0 x1 (wrap64 (x2 + 1)))) else none else none else (spec_l06Tops.f k ((rd (0, []) x1 x2).2) (x0.length : Int)).bind fun t6 => (if (!t6) = true then some false else c.2.2 x0 x1 (wrap64 (x2 + 1))))) else none else none else some true))
noncomputable def spec_l06Is.cs (k : Nat) : Nat → spec_l06Is.Cs
  | 0 => spec_l06Is.zero
  | n + 1 => spec_l06Is.step k (spec_l06Is.cs k n)
def spec_l06Is.CC (c : spec_l06Is.Cs) : Cuts spec_l06Is.N := [(2, ⟨[(0, some false, [.rptr [(.lo (.int .i64)), (.lo (.pair (.int .i64) (.sl (.int .i64))))]])], fun x => c.1 x.1.1.1 x.1.1.2.1⟩),
  (14, ⟨[(0, some false, [.rptr [(.lo (.int .i64)), (.lo (.pair (.int .i64) (.sl (.int .i64))))]]), (3, some false, [.fl (.int .i64)])], fun x => c.2.1 x.1.1.1 x.1.1.2.1 x.2.1.1⟩),
  (35, ⟨[(0, some false, [.rptr [(.lo (.int .i64)), (.lo (.pair (.int .i64) (.sl (.int .i64))))]]), (4, some false, [.fl (.int .i64)])], fun x => c.2.2 x.1.1.1 x.1.1.2.1 x.2.1.1⟩)]
noncomputable def spec_l06Is.f (k : Nat) (a0 : List Int) (a1 : List (Int × List Int)) : Option spec_l06Is.N := (spec_l00In.f k (a0.length : Int) 1 4).bind fun t1 => (if (!t1) = true then some false else (spec_l00In.f k (a1.length : Int) 1 6).bind fun t2 => (if (!t2) = true then some false else (spec_l06Is.cs k k).1 a0 a1))
noncomputable def spec_l06Is.F (k : Nat) : Go.Rv.Fn := mkFn 1 spec_l06Is.pc spec_l06Is.pr (keepOf []) (fun (y : spec_l06Is.N) => (((y, ()), ()) : compT spec_l06Is.pr)) fun x => spec_l06Is.f k x.1.1.1 x.1.1.2.1
theorem spec_l06Is.env (k : Nat) : EnvOk Go.Proofs.Try.prog (fun f => (spec_l06Is.E k).lookup f) := envOk_of ⟨entry Go.Proofs.Try.call62 rfl (spec_l00In.ok k), entry Go.Proofs.Try.call77 rfl (spec_l06Tops.ok k), trivial⟩
theorem spec_l06Is.cuts (k : Nat) : CutsOk Go.Proofs.Try.prog X (fun f => (spec_l06Is.E k).lookup f) Go.Proofs.Try.f44 [] (decN spec_l06Is.pr (fun (y : compT spec_l06Is.pr) => (y.1.1 : spec_l06Is.N))) fun n => spec_l06Is.CC (spec_l06Is.cs k n) :=
  cutsOk_of (step := spec_l06Is.step k) rfl (fun _ => rfl) ⟨fun _ => rfl, fun _ => rfl, fun _ => rfl, trivial⟩ (fun c => by kernel_rfl) fun c => ⟨fun x => by kernel_rfl, fun x => by kernel_rfl, fun x => by kernel_rfl, trivial⟩
theorem spec_l06Is.ok (k : Nat) : FnOk Go.Proofs.Try.prog 44 (spec_l06Is.F k) :=
  fn_ok tab (spec_l06Is.env k) Go.Proofs.Try.func44 rfl (n := 1) (Nat.le_of_ble_eq_true rfl) (by kernel_rfl) (outs := []) (by kernel_rfl) (by kernel_rfl) (d := fun (y : compT spec_l06Is.pr) => (y.1.1 : spec_l06Is.N)) (fun _ => rfl) (C := fun n => spec_l06Is.CC (spec_l06Is.cs k n)) (k := k) (spec_l06Is.cuts k) fun x => by kernel_rfl
/-! spec.l06Ring -/
@[reducible] def spec_l06Ring.pc : CutP := [(0, some false, [.fl (.int .i64)])]
@[reducible] def spec_l06Ring.pr : CompPs := [(false, [.fl .bool])]
abbrev spec_l06Ring.N := Bool
noncomputable def spec_l06Ring.E (k : Nat) : List (FuncId × Go.Rv.Fn) := [(62, spec_l00In.F k)]
noncomputable def spec_l06Ring.f (k : Nat) (a0 : Int) : Option spec_l06Ring.N := (spec_l00In.f k a0 0 60).bind fun t1 => some t1
noncomputable def spec_l06Ring.F (k : Nat) : Go.Rv.Fn := mkFn 1 spec_l06Ring.pc spec_l06Ring.pr (keepOf []) (fun (y : spec_l06Ring.N) => (((y, ()), ()) : compT spec_l06Ring.pr)) fun x => spec_l06Ring.f k x.1.1
theorem spec_l06Ring.env (k : Nat) : EnvOk Go.Proofs.Try.prog (fun f => (spec_l06Ring.E k).lookup f) := envOk_of ⟨entry Go.Proofs.Try.call62 rfl (spec_l00In.ok k), trivial⟩
theorem spec_l06Ring.ok (k : Nat) : FnOk Go.Proofs.Try.prog 58 (spec_l06Ring.F k) :=
  fn_ok tab (spec_l06Ring.env k) Go.Proofs.Try.func58 rfl (n := 1) (Nat.le_of_ble_eq_true rfl) (by kernel_rfl) (outs := []) (by kernel_rfl) (by kernel_rfl) (d := fun (y : compT spec_l06Ring.pr) => (y.1.1 : spec_l06Ring.N)) (fun _ => rfl) (C := fun _ => []) (k := k) noCuts fun x => by kernel_rfl
/-! spec.l00Own -/
@[reducible] def spec_l00Own.pc : CutP := [(0, some false, [.fl (.lo (.int .i64))])]
@[reducible] def spec_l00Own.pr : CompPs := [(false, [.fl (.own (.int .i64))])]
abbrev spec_l00Own.N := List Int
noncomputable def spec_l00Own.E (k : Nat) : List (FuncId × Go.Rv.Fn) := []
noncomputable def spec_l00Own.f (k : Nat) (a0 : List Int) : Option spec_l00Own.N := if ([] : List Int).length + a0.length < 1099511627776 then some (([] : List Int) ++ a0) else none
noncomputable def spec_l00Own.F (k : Nat) : Go.Rv.Fn := mkFn 1 spec_l00Own.pc spec_l00Own.pr (keepOf []) (fun (y : spec_l00Own.N) => (((y, ()), ()) : compT spec_l00Own.pr)) fun x => spec_l00Own.f k x.1.1
theorem spec_l00Own.env (k : Nat) : EnvOk Go.Proofs.Try.prog (fun f => (spec_l00Own.E k).lookup f) := envOk_of trivial
theorem spec_l00Own.ok (k : Nat) : FnOk Go.Proofs.Try.prog 63 (spec_l00Own.F k) :=
  fn_ok tab (spec_l00Own.env k) Go.Proofs.Try.func63 rfl (n := 1) (Nat.le_of_ble_eq_true rfl) (by kernel_rfl) (outs := []) (by kernel_rfl) (by kernel_rfl) (d := fun (y : compT spec_l00Own.pr) => (y.1.1 : spec_l00Own.N)) (fun _ => rfl) (C := fun _ => []) (k := k) noCuts fun x => by kernel_rfl
/-! spec.l01Floor -/
@[reducible] def spec_l01Floor.pc : CutP := [(0, some false, [.fl (.int .i64)]), (1, some false, [.fl (.int .i64)])]
@[reducible] def spec_l01Floor.pr : CompPs := [(false, [.fl (.int .i64)])]
abbrev spec_l01Floor.N := Int
noncomputable def spec_l01Floor.E (k : Nat) : List (FuncId × Go.Rv.Fn) := []
noncomputable def spec_l01Floor.f (k : Nat) (a0 : Int) (a1 : Int) : Option spec_l01Floor.N := (if a1 = 0 then none else (if a1 = 0 then none else (if (decide ((a0.tmod a1) < 0)) = true then some (wrap64 ((wrap64 (a0.tdiv a1)) - 1)) else some (wrap64 (a0.tdiv a1)))))
noncomputable def spec_l01Floor.F (k : Nat) : Go.Rv.Fn := mkFn 2 spec_l01Floor.pc spec_l01Floor.pr (keepOf []) (fun (y : spec_l01Floor.N) => (((y, ()), ()) : compT spec_l01Floor.pr)) fun x => spec_l01Floor.f k x.1.1 x.2.1.1
theorem spec_l01Floor.env (k : Nat) : EnvOk Go.Proofs.Try.prog (fun f => (spec_l01Floor.E k).lookup f) := envOk_of trivial
theorem spec_l01Floor.ok (k : Nat) : FnOk Go.Proofs.Try.prog 87 (spec_l01Floor.F k) :=
  fn_ok tab (spec_l01Floor.env k) Go.Proofs.Try.func87 rfl (n := 2) (Nat.le_of_ble_eq_true rfl) (by kernel_rfl) (outs := []) (by kernel_rfl) (by kernel_rfl) (d := fun (y : compT spec_l01Floor.pr) => (y.1.1 : spec_l01Floor.N)) (fun _ => rfl) (C := fun _ => []) (k := k) noCuts fun x => by kernel_rfl
/-! spec.l06At -/
@[reducible] def spec_l06At.pc : CutP := [(0, some false, [.rptr [(.lo (.int .i64)), (.lo (.pair (.int .i64) (.sl (.int .i64))))]]), (1, some false, [.fl (.int .i64)])]
@[reducible] def spec_l06At.pr : CompPs := [(false, [.fl (.own (.int .i64))])]
abbrev spec_l06At.N := List Int
noncomputable def spec_l06At.E (k : Nat) : List (FuncId × Go.Rv.Fn) := [(63, spec_l00Own.F k), (87, spec_l01Floor.F k)]
abbrev spec_l06At.Cs := (List Int → List (Int × List Int) → Int → Int → Option spec_l06At.N) × (List Int → List (Int × List Int) → Int → Int → Int → Option spec_l06At.N) × (Int → Int → List Int → Int → List Int → Option spec_l06At.N) × (Int → Int → List Int → Int → List Int → List Int → Int → Option spec_l06At.N)
def spec_l06At.zero : spec_l06At.Cs := (fun _ _ _ _ => none, fun _ _ _ _ _ => none, fun _ _ _ _ _ => none, fun _ _ _ _ _ _ _ => none)
noncomputable def spec_l06At.step (k : Nat) (c : spec_l06At.Cs) : spec_l06At.Cs := (fun (x0 : List Int) (x1 : List (Int × List Int)) (x2 : Int) (x3 : Int) => (if (decide ((wrap64 (x3 + 1)) < (x1.length : Int))) = true then if 0 ≤ (wrap64 (x3 + 1)) then if (wrap64 (x3 + 1)) < (x1.length : Int) then (if (decide ((rd (0, []) x1 (wrap64 (x3 + 1))).1 ≤ x2)) = true then c.1 x0 x1 x2 (wrap64 (x3 + 1)) else c.2.1 x0 x1 x2 x3 (wrap64 ((x1.length : Int) - 1))) else none else none else c.2.1 x0 x1 x2 x3 (wrap64 ((x1.length : Int) - 1))),
  fun (x0 : List Int) (x1 : List (Int × List Int)) (x2 : Int) (x3 : Int) (x4 : Int) => (if (decide (0 < x4)) = true then if 0 ≤ (wrap64 (x4 - 1)) then if (wrap64 (x4 - 1)) < (x1.length : Int) then (if (decide (x2 ≤ (rd (0, []) x1 (wrap64 (x4 - 1))).1)) = true then c.2.1 x0 x1 x2 x3 (wrap64 (x4 - 1)) else if 0 ≤ x3 then if x3 < (x1.length : Int) then if 0 ≤ x4 then if x4 < (x1.length : Int) then (if (decide (x2 < (rd (0, []) x1 x3).1)) = true then (spec_l00Own.f k ((rd (0, []) x1 x3).2)).bind fun t1 => some t1 else (if (decide ((rd (0, []) x1 x4).1 ≤ (rd (0, []) x1 x3).1)) = true then (spec_l00Own.f k ((rd (0, []) x1 x3).2)).bind fun t2 => some t2 else c.2.2.1 x2 ((rd (0, []) x1 x3).1) ((rd (0, []) x1 x3).2) ((rd (0, []) x1 x4).1) ((rd (0, []) x1 x4).2))) else none else none else none else none) else none else none else if 0 ≤ x3 then if x3 < (x1.length : Int) then if 0 ≤ x4 then if x4 < (x1.length : Int) then (if (decide (x2 < (rd (0, []) x1 x3).1)) = true then (spec_l00Own.f k ((rd (0, []) x1 x3).2)).bind fun t3 => some t3 else (if (decide ((rd (0, []) x1 x4).1 ≤ (rd (0, []) x1 x3).1)) = true then (spec_l00Own.f k ((rd (0, []) x1 x3).2)).bind fun t4 => some t4 else c.2.2.1 x2 ((rd (0, []) x1 x3).1) ((rd (0, []) x1 x3).2) ((rd (0, []) x1 x4).1) ((rd (0, []) x1 x4).2))) else none else none else none else none),
  fun (x0 : Int) (x1 : Int) (x2 : List Int) (x3 : Int) (x4 : List Int) => c.2.2.2 x0 x1 x2 x3 x4 ([] : List Int) 0,
  fun (x0 : Int) (x1 : Int) (x2 : List Int) (x3 : Int) (x4 : List Int) (x5 : List Int) (x6 : Int) => (if (decide (x6 < (x2.length : Int))) = true then if 0 ≤ x6 then if x6 < (x2.length : Int) then if 0 ≤ x6 then if x6 < (x4.length : Int) then if 0 ≤ x6 then if x6 < (x2.length : Int) then (spec_l01Floor.f k (wrap64 ((wrap64 ((rd 0 x4 x6) - (rd 0 x2 x6))) * (wrap64 (x0 - x1)))) (wrap64 (x3 - x1))).bind fun (t5 : Int) => if x5.length + [(wrap64 ((rd 0 x2 x6) + t5))].length < 1099511627776 then c.2.2.2 x0 x1 x2 x3 x4 (x5 ++ [(wrap64 ((rd 0 x2 x6) + t5))]) (wrap64 (x6 + 1)) else none else none else none else none else none else none else none else some x5))
noncomputable def spec_l06At.cs (k : Nat) : Nat → spec_l06At.Cs
  | 0 => spec_l06At.zero
  | n + 1 => spec_l06At.step k (spec_l06At.cs k n)
def spec_l06At.CC (c : spec_l06At.Cs) : Cuts spec_l06At.N := [(6, ⟨[(0, some false, [.rptr [(.lo (.int .i64)), (.lo (.pair (.int .i64) (.sl (.int .i64))))]]), (1, some false, [.fl (.int .i64)]), (5, some false, [.fl (.int .i64)])], fun x => c.1 x.1.1.1 x.1.1.2.1 x.2.1.1 x.2.2.1.1⟩),
  (19, ⟨[(0, some false, [.rptr [(.lo (.int .i64)), (.lo (.pair (.int .i64) (.sl (.int .i64))))]]), (1, some false, [.fl (.int .i64)]), (5, some false, [.fl (.int .i64)]), (6, some false, [.fl (.int .i64)])], fun x => c.2.1 x.1.1.1 x.1.1.2.1 x.2.1.1 x.2.2.1.1 x.2.2.2.1.1⟩),
  (32, ⟨[(1, some false, [.fl (.int .i64)]), (7, some false, [.rptr [(.int .i64), (.lo (.int .i64))]]), (8, some false, [.rptr [(.int .i64), (.lo (.int .i64))]])], fun x => c.2.2.1 x.1.1 x.2.1.1.1 x.2.1.1.2.1 x.2.2.1.1.1 x.2.2.1.1.2.1⟩),
  (46, ⟨[(1, some false, [.fl (.int .i64)]), (7, some false, [.rptr [(.int .i64), (.lo (.int .i64))]]), (8, some false, [.rptr [(.int .i64), (.lo (.int .i64))]]), (9, some false, [.fl (.own (.int .i64))]), (10, some false, [.fl (.int .i64)])], fun x => c.2.2.2 x.1.1 x.2.1.1.1 x.2.1.1.2.1 x.2.2.1.1.1 x.2.2.1.1.2.1 x.2.2.2.1.1 x.2.2.2.2.1.1⟩)]
noncomputable def spec_l06At.f (k : Nat) (a0 : List Int) (a1 : List (Int × List Int)) (a2 : Int) : Option spec_l06At.N := (spec_l06At.cs k k).1 a0 a1 a2 0
noncomputable def spec_l06At.F (k : Nat) : Go.Rv.Fn := mkFn 2 spec_l06At.pc spec_l06At.pr (keepOf []) (fun (y : spec_l06At.N) => (((y, ()), ()) : compT spec_l06At.pr)) fun x => spec_l06At.f k x.1.1.1 x.1.1.2.1 x.2.1.1
theorem spec_l06At.env (k : Nat) : EnvOk Go.Proofs.Try.prog (fun f => (spec_l06At.E k).lookup f) := envOk_of ⟨entry Go.Proofs.Try.call63 rfl (spec_l00Own.ok k), entry Go.Proofs.Try.call87 rfl (spec_l01Floor.ok k), trivial⟩
theorem spec_l06At.cuts (k : Nat) : CutsOk Go.Proofs.Try.prog X (fun f => (spec_l06At.E k).lookup f) Go.Proofs.Try.f61 [] (decN spec_l06At.pr (fun (y : compT spec_l06At.pr) => (y.1.1 : spec_l06At.N))) fun n => spec_l06At.CC (spec_l06At.cs k n) :=
  cutsOk_of (step := spec_l06At.step k) rfl (fun _ => rfl) ⟨fun _ => rfl, fun _ => rfl, fun _ => rfl, fun _ => rfl, trivial⟩ (fun c => by kernel_rfl) fun c => ⟨fun x => by kernel_rfl, fun x => by kernel_rfl, fun x => by kernel_rfl, fun x => by kernel_rfl, trivial⟩
theorem spec_l06At.ok (k : Nat) : FnOk Go.Proofs.Try.prog 61 (spec_l06At.F k) :=
  fn_ok tab (spec_l06At.env k) Go.Proofs.Try.func61 rfl (n := 2) (Nat.le_of_ble_eq_true rfl) (by kernel_rfl) (outs := []) (by kernel_rfl) (by kernel_rfl) (d := fun (y : compT spec_l06At.pr) => (y.1.1 : spec_l06At.N)) (fun _ => rfl) (C := fun n => spec_l06At.CC (spec_l06At.cs k n)) (k := k) (spec_l06At.cuts k) fun x => by kernel_rfl
/-! spec.TopsAt -/
@[reducible] def spec_TopsAt.pc : CutP := [(0, some true, [.fl (.lo (.int .i64)), .fl (.lo (.pair (.int .i64) (.sl (.int .i64))))]), (1, some false, [.fl (.int .i64)])]
@[reducible] def spec_TopsAt.pr : CompPs := [(false, [.fl (.own (.int .i64))]), (false, [.fl .bool])]
abbrev spec_TopsAt.N := List Int × Bool
noncomputable def spec_TopsAt.E (k : Nat) : List (FuncId × Go.Rv.Fn) := [(44, spec_l06Is.F k), (58, spec_l06Ring.F k), (61, spec_l06At.F k)]
noncomputable def spec_TopsAt.f (k : Nat) (a0 : List Int) (a1 : List (Int × List Int)) (a2 : Int) : Option spec_TopsAt.N := (spec_l06Is.f k a0 a1).bind fun t1 => (if (!t1) = true then some ([], false) else (spec_l06Ring.f k a2).bind fun t2 => (if (!t2) = true then some ([], false) else (spec_l06At.f k a0 a1 a2).bind fun t3 => some (t3, true)))
noncomputable def spec_TopsAt.F (k : Nat) : Go.Rv.Fn := mkFn 2 spec_TopsAt.pc spec_TopsAt.pr (keepOf []) (fun (y : spec_TopsAt.N) => (((y.1, ()), (y.2, ()), ()) : compT spec_TopsAt.pr)) fun x => spec_TopsAt.f k x.1.1 x.1.2.1 x.2.1.1
theorem spec_TopsAt.env (k : Nat) : EnvOk Go.Proofs.Try.prog (fun f => (spec_TopsAt.E k).lookup f) := envOk_of ⟨entry Go.Proofs.Try.call44 rfl (spec_l06Is.ok k), entry Go.Proofs.Try.call58 rfl (spec_l06Ring.ok k), entry Go.Proofs.Try.call61 rfl (spec_l06At.ok k), trivial⟩
theorem spec_TopsAt.ok (k : Nat) : FnOk Go.Proofs.Try.prog 32 (spec_TopsAt.F k) :=
  fn_ok tab (spec_TopsAt.env k) Go.Proofs.Try.func32 rfl (n := 2) (Nat.le_of_ble_eq_true rfl) (by kernel_rfl) (outs := []) (by kernel_rfl) (by kernel_rfl) (d := fun (y : compT spec_TopsAt.pr) => ((y.1.1, y.2.1.1) : spec_TopsAt.N)) (fun _ => rfl) (C := fun _ => []) (k := k) noCuts fun x => by kernel_rfl
/-! impl.within -/
@[reducible] def impl_within.pc : CutP := [(0, some false, [.fl (.int .i64)]), (1, some false, [.fl (.int .i64)]), (2, some false, [.fl (.int .i64)])]
@[reducible] def impl_within.pr : CompPs := [(false, [.fl .bool])]
abbrev impl_within.N := Bool
noncomputable def impl_within.E (k : Nat) : List (FuncId × Go.Rv.Fn) := []
noncomputable def impl_within.f (k : Nat) (a0 : Int) (a1 : Int) (a2 : Int) : Option impl_within.N := (if (decide (a1 ≤ a0)) = true then some (decide (a0 ≤ a2)) else some false)
noncomputable def impl_within.F (k : Nat) : Go.Rv.Fn := mkFn 3 impl_within.pc impl_within.pr (keepOf []) (fun (y : impl_within.N) => (((y, ()), ()) : compT impl_within.pr)) fun x => impl_within.f k x.1.1 x.2.1.1 x.2.2.1.1
theorem impl_within.env (k : Nat) : EnvOk Go.Proofs.Try.prog (fun f => (impl_within.E k).lookup f) := envOk_of trivial
theorem impl_within.ok (k : Nat) : FnOk Go.Proofs.Try.prog 47 (impl_within.F k) :=
  fn_ok tab (impl_within.env k) Go.Proofs.Try.func47 rfl (n := 3) (Nat.le_of_ble_eq_true rfl) (by kernel_rfl) (outs := []) (by kernel_rfl) (by kernel_rfl) (d := fun (y : compT impl_within.pr) => (y.1.1 : impl_within.N)) (fun _ => rfl) (C := fun _ => []) (k := k) noCuts fun x => by kernel_rfl
/-! impl.areWithin$1 -/
@[reducible] def impl_areWithin_1.pc : CutP := [(0, some false, [.fl (.int .i64)]), (1, some false, [.rptr [(.int .i64)]]), (2, some false, [.rptr [(.int .i64)]])]
@[reducible] def impl_areWithin_1.pr : CompPs := [(false, [.fl .bool])]
abbrev impl_areWithin_1.N := Bool
noncomputable def impl_areWithin_1.E (k : Nat) : List (FuncId × Go.Rv.Fn) := [(47, impl_within.F k)]
noncomputable def impl_areWithin_1.f (k : Nat) (a0 : Int) (a1 : Int) (a2 : Int) : Option impl_areWithin_1.N := (impl_within.f k a0 a1 a2).bind fun t1 => some (!t1)
noncomputable def impl_areWithin_1.F (k : Nat) : Go.Rv.Fn := mkFn 3 impl_areWithin_1.pc impl_areWithin_1.pr (keepOf []) (fun (y : impl_areWithin_1.N) => (((y, ()), ()) : compT impl_areWithin_1.pr)) fun x => impl_areWithin_1.f k x.1.1 x.2.1.1.1 x.2.2.1.1.1
theorem impl_areWithin_1.env (k : Nat) : EnvOk Go.Proofs.Try.prog (fun f => (impl_areWithin_1.E k).lookup f) := envOk_of ⟨entry Go.Proofs.Try.call47 rfl (impl_within.ok k), trivial⟩
theorem impl_areWithin_1.ok (k : Nat) : FnOk Go.Proofs.Try.prog 80 (impl_areWithin_1.F k) :=
  fn_ok tab (impl_areWithin_1.env k) Go.Proofs.Try.func80 rfl (n := 3) (Nat.le_of_ble_eq_true rfl) (by kernel_rfl) (outs := []) (by kernel_rfl) (by kernel_rfl) (d := fun (y : compT impl_areWithin_1.pr) => (y.1.1 : impl_areWithin_1.N)) (fun _ => rfl) (C := fun _ => []) (k := k) noCuts fun x => by kernel_rfl
/-! slices.IndexFunc[[]int64,int64] -/
@[reducible] def slices_IndexFunc_int64_areWithin_1.pc : CutP := [(0, some false, [.fl (.lo (.int .i64))]), (1, some false, [.fn 80 [[(.int .i64)], [(.int .i64)]]])]
@[reducible] def slices_IndexFunc_int64_areWithin_1.pr : CompPs := [(false, [.fl (.int .i64)])]
abbrev slices_IndexFunc_int64_areWithin_1.N := Int
noncomputable def slices_IndexFunc_int64_areWithin_1.E (k : Nat) : List (FuncId × Go.Rv.Fn) := [(80, impl_areWithin_1.F k)]
abbrev slices_IndexFunc_int64_areWithin_1.Cs := (List Int → Int → Int → Int → Int → Option slices_IndexFunc_int64_areWithin_1.N)
def slices_IndexFunc_int64_areWithin_1.zero : slices_IndexFunc_int64_areWithin_1.Cs := (fun _ _ _ _ _ => none)
noncomputable def slices_IndexFunc_int64_areWithin_1.step (k : Nat) (c : slices_IndexFunc_int64_areWithin_1.Cs) : slices_IndexFunc_int64_areWithin_1.Cs := (fun (x0 : List Int) (x1 : Int) (x2 : Int) (x3 : Int) (x4 : Int) => (if (decide (x4 < x3)) = true then if 0 ≤ x4 then if x4 < (x0.length : Int) then (impl_areWithin_1.f k (rd 0 x0 x4) x1 x2).bind fun t1 => (if t1 = true then some x4 else c x0 x1 x2 x3 (wrap64 (x4 + 1))) else none else none else some (-1)))
noncomputable def slices_IndexFunc_int64_areWithin_1.cs (k : Nat) : Nat → slices_IndexFunc_int64_areWithin_1.Cs
  | 0 => slices_IndexFunc_int64_areWithin_1.zero
  | n + 1 => slices_IndexFunc_int64_areWithin_1.step k (slices_IndexFunc_int64_areWithin_1.cs k n)
def slices_IndexFunc_int64_areWithin_1.CC (c : slices_IndexFunc_int64_areWithin_1.Cs) : Cuts slices_IndexFunc_int64_areWithin_1.N := [(6, ⟨[(0, some false, [.fl (.lo (.int .i64))]), (1, some false, [.fn 80 [[(.int .i64)], [(.int .i64)]]]), (7, some false, [.fl (.int .i64)]), (8, some false, [.fl (.int .i64)])], fun x => c x.1.1 x.2.1.1.1.1 x.2.1.1.2.1.1 x.2.2.1.1 x.2.2.2.1.1⟩)]
noncomputable def slices_IndexFunc_int64_areWithin_1.f (k : Nat) (a0 : List Int) (a1 : Int) (a2 : Int) : Option slices_IndexFunc_int64_areWithin_1.N := (slices_IndexFunc_int64_areWithin_1.cs k k) a0 a1 a2 (a0.length : Int) 0
noncomputable def slices_IndexFunc_int64_areWithin_1.F (k : Nat) : Go.Rv.Fn := mkFn 2 slices_IndexFunc_int64_areWithin_1.pc slices_IndexFunc_int64_areWithin_1.pr (keepOf []) (fun (y : slices_IndexFunc_int64_areWithin_1.N) => (((y, ()), ()) : compT slices_IndexFunc_int64_areWithin_1.pr)) fun x => slices_IndexFunc_int64_areWithin_1.f k x.1.1 x.2.1.1.1.1 x.2.1.1.2.1.1
theorem slices_IndexFunc_int64_areWithin_1.env (k : Nat) : EnvOk Go.Proofs.Try.prog (fun f => (slices_IndexFunc_int64_areWithin_1.E k).lookup f) := envOk_of ⟨entry Go.Proofs.Try.call80 rfl (impl_areWithin_1.ok k), trivial⟩
theorem slices_IndexFunc_int64_areWithin_1.cuts (k : Nat) : CutsOk Go.Proofs.Try.prog X (fun f => (slices_IndexFunc_int64_areWithin_1.E k).lookup f) Go.Proofs.Try.f95 [] (decN slices_IndexFunc_int64_areWithin_1.pr (fun (y : compT slices_IndexFunc_int64_areWithin_1.pr) => (y.1.1 : slices_IndexFunc_int64_areWithin_1.N))) fun n => slices_IndexFunc_int64_areWithin_1.CC (slices_IndexFunc_int64_areWithin_1.cs k n) :=
  cutsOk_of (step := slices_IndexFunc_int64_areWithin_1.step k) rfl (fun _ => rfl) ⟨fun _ => rfl, trivial⟩ (fun c => by kernel_rfl) fun c => ⟨fun x => by kernel_rfl, trivial⟩
theorem slices_IndexFunc_int64_areWithin_1.ok (k : Nat) : FnOk Go.Proofs.Try.prog 95 (slices_IndexFunc_int64_areWithin_1.F k) :=
  fn_ok tab (slices_IndexFunc_int64_areWithin_1.env k) Go.Proofs.Try.func95 rfl (n := 2) (Nat.le_of_ble_eq_true rfl) (by kernel_rfl) (outs := []) (by kernel_rfl) (by kernel_rfl) (d := fun (y : compT slices_IndexFunc_int64_areWithin_1.pr) => (y.1.1 : slices_IndexFunc_int64_areWithin_1.N)) (fun _ => rfl) (C := fun n => slices_IndexFunc_int64_areWithin_1.CC (slices_IndexFunc_int64_areWithin_1.cs k n)) (k := k) (slices_IndexFunc_int64_areWithin_1.cuts k) fun x => by kernel_rfl
/-! slices.ContainsFunc[[]int64,int64] -/
@[reducible] def slices_ContainsFunc_int64_areWithin_1.pc : CutP := [(0, some false, [.fl (.lo (.int .i64))]), (1, some false, [.fn 80 [[(.int .i64)], [(.int .i64)]]])]
@[reducible] def slices_ContainsFunc_int64_areWithin_1.pr : CompPs := [(false, [.fl .bool])]
abbrev slices_ContainsFunc_int64_areWithin_1.N := Bool
noncomputable def slices_ContainsFunc_int64_areWithin_1.E (k : Nat) : List (FuncId × Go.Rv.Fn) := [(95, slices_IndexFunc_int64_areWithin_1.F k)]
noncomputable def slices_ContainsFunc_int64_areWithin_1.f (k : Nat) (a0 : List Int) (a1 : Int) (a2 : Int) : Option slices_ContainsFunc_int64_areWithin_1.N := (slices_IndexFunc_int64_areWithin_1.f k a0 a1 a2).bind fun (t1 : Int) => some (decide (0 ≤ t1))
noncomputable def slices_ContainsFunc_int64_areWithin_1.F (k : Nat) : Go.Rv.Fn := mkFn 2 slices_ContainsFunc_int64_areWithin_1.pc slices_ContainsFunc_int64_areWithin_1.pr (keepOf []) (fun (y : slices_ContainsFunc_int64_areWithin_1.N) => (((y, ()), ()) : compT slices_ContainsFunc_int64_areWithin_1.pr)) fun x => slices_ContainsFunc_int64_areWithin_1.f k x.1.1 x.2.1.1.1.1 x.2.1.1.2.1.1
theorem slices_ContainsFunc_int64_areWithin_1.env (k : Nat) : EnvOk Go.Proofs.Try.prog (fun f => (slices_ContainsFunc_int64_areWithin_1.E k).lookup f) := envOk_of ⟨entry Go.Proofs.Try.call95 rfl (slices_IndexFunc_int64_areWithin_1.ok k), trivial⟩
theorem slices_ContainsFunc_int64_areWithin_1.ok (k : Nat) : FnOk Go.Proofs.Try.prog 79 (slices_ContainsFunc_int64_areWithin_1.F k) :=
  fn_ok tab (slices_ContainsFunc_int64_areWithin_1.env k) Go.Proofs.Try.func79 rfl (n := 2) (Nat.le_of_ble_eq_true rfl) (by kernel_rfl) (outs := []) (by kernel_rfl) (by kernel_rfl) (d := fun (y : compT slices_ContainsFunc_int64_areWithin_1.pr) => (y.1.1 : slices_ContainsFunc_int64_areWithin_1.N)) (fun _ => rfl) (C := fun _ => []) (k := k) noCuts fun x => by kernel_rfl
/-! impl.areWithin -/
@[reducible] def impl_areWithin.pc : CutP := [(0, some false, [.fl (.lo (.int .i64))]), (1, some false, [.fl (.int .i64)]), (2, some false, [.fl (.int .i64)])]
@[reducible] def impl_areWithin.pr : CompPs := [(false, [.fl .bool])]
abbrev impl_areWithin.N := Bool
noncomputable def impl_areWithin.E (k : Nat) : List (FuncId × Go.Rv.Fn) := [(79, slices_ContainsFunc_int64_areWithin_1.F k)]
noncomputable def impl_areWithin.f (k : Nat) (a0 : List Int) (a1 : Int) (a2 : Int) : Option impl_areWithin.N := (slices_ContainsFunc_int64_areWithin_1.f k a0 a1 a2).bind fun t1 => some (!t1)
noncomputable def impl_areWithin.F (k : Nat) : Go.Rv.Fn := mkFn 3 impl_areWithin.pc impl_areWithin.pr (keepOf []) (fun (y : impl_areWithin.N) => (((y, ()), ()) : compT impl_areWithin.pr)) fun x => impl_areWithin.f k x.1.1 x.2.1.1 x.2.2.1.1
theorem impl_areWithin.env (k : Nat) : EnvOk Go.Proofs.Try.prog (fun f => (impl_areWithin.E k).lookup f) := envOk_of ⟨entry Go.Proofs.Try.call79 rfl (slices_ContainsFunc_int64_areWithin_1.ok k), trivial⟩
theorem impl_areWithin.ok (k : Nat) : FnOk Go.Proofs.Try.prog 48 (impl_areWithin.F k) :=
  fn_ok tab (impl_areWithin.env k) Go.Proofs.Try.func48 rfl (n := 3) (Nat.le_of_ble_eq_true rfl) (by kernel_rfl) (outs := []) (by kernel_rfl) (by kernel_rfl) (d := fun (y : compT impl_areWithin.pr) => (y.1.1 : impl_areWithin.N)) (fun _ => rfl) (C := fun _ => []) (k := k) noCuts fun x => by kernel_rfl
/-! impl.isHole -/
@[reducible] def impl_isHole.pc : CutP := [(0, some true, [.fl (.int .i64), .fl (.lo (.int .i64))]), (1, some false, [.fl (.int .i64)])]
@[reducible] def impl_isHole.pr : CompPs := [(false, [.fl .bool])]
abbrev impl_isHole.N := Bool
noncomputable def impl_isHole.E (k : Nat) : List (FuncId × Go.Rv.Fn) := [(47, impl_within.F k), (48, impl_areWithin.F k)]
abbrev impl_isHole.Cs := (Int → Int → List Int → Option impl_isHole.N) × (Int → Int → List Int → Int → Option impl_isHole.N)
def impl_isHole.zero : impl_isHole.Cs := (fun _ _ _ => none, fun _ _ _ _ => none)
noncomputable def impl_isHole.step (k : Nat) (c : impl_isHole.Cs) : impl_isHole.Cs := (fun (x0 : Int) (x1 : Int) (x2 : List Int) => c.2 x0 x1 x2 1,
  fun (x0 : Int) (x1 : Int) (x2 : List Int) (x3 : Int) => (if (decide (x3 < x0)) = true then if 0 ≤ x3 then if x3 < (x2.length : Int) then if 0 ≤ (wrap64 (x3 - 1)) then if (wrap64 (x3 - 1)) < (x2.length : Int) then (if (decide ((rd 0 x2 (wrap64 (x3 - 1))) < (rd 0 x2 x3))) = true then some false else c.2 x0 x1 x2 (wrap64 (x3 + 1))) else none else none else none else none else some true))
noncomputable def impl_isHole.cs (k : Nat) : Nat → impl_isHole.Cs
  | 0 => impl_isHole.zero
  | n + 1 => impl_isHole.step k (impl_isHole.cs k n)
def impl_isHole.CC (c : impl_isHole.Cs) : Cuts impl_isHole.N := [(2, ⟨[(1, some false, [.fl (.int .i64)]), (2, none, [.fl (.int .i64), .fl (.lo (.int .i64))])], fun x => c.1 x.1.1 x.2.1.1 x.2.1.2.1⟩),
  (14, ⟨[(1, some false, [.fl (.int .i64)]), (2, none, [.fl (.int .i64), .fl (.lo (.int .i64))]), (5, some false, [.fl (.int .i64)])], fun x => c.2 x.1.1 x.2.1.1 x.2.1.2.1 x.2.2.1.1⟩)]
noncomputable def impl_isHole.f (k : Nat) (a0 : Int) (a1 : List Int) (a2 : Int) : Option impl_isHole.N := (impl_within.f k a0 0 60).bind fun t1 => (if (!t1) = true then some false else (if (!decide ((a1.length : Int) = a2)) = true then some false else (impl_areWithin.f k a1 (-100000) 100000).bind fun t2 => (if (!t2) = true then some false else (impl_isHole.cs k k).1 a2 a0 a1)))
noncomputable def impl_isHole.F (k : Nat) : Go.Rv.Fn := mkFn 2 impl_isHole.pc impl_isHole.pr (keepOf []) (fun (y : impl_isHole.N) => (((y, ()), ()) : compT impl_isHole.pr)) fun x => impl_isHole.f k x.1.1 x.1.2.1 x.2.1.1
theorem impl_isHole.env (k : Nat) : EnvOk Go.Proofs.Try.prog (fun f => (impl_isHole.E k).lookup f) := envOk_of ⟨entry Go.Proofs.Try.call47 rfl (impl_within.ok k), entry Go.Proofs.Try.call48 rfl (impl_areWithin.ok k), trivial⟩
theorem impl_isHole.cuts (k : Nat) : CutsOk Go.Proofs.Try.prog X (fun f => (impl_isHole.E k).lookup f) Go.Proofs.Try.f49 [] (decN impl_isHole.pr (fun (y : compT impl_isHole.pr) => (y.1.1 : impl_isHole.N))) fun n => impl_isHole.CC (impl_isHole.cs k n) :=
  cutsOk_of (step := impl_isHole.step k) rfl (fun _ => rfl) ⟨fun _ => rfl, fun _ => rfl, trivial⟩ (fun c => by kernel_rfl) fun c => ⟨fun x => by kernel_rfl, fun x => by kernel_rfl, trivial⟩
theorem impl_isHole.ok (k : Nat) : FnOk Go.Proofs.Try.prog 49 (impl_isHole.F k) :=
  fn_ok tab (impl_isHole.env k) Go.Proofs.Try.func49 rfl (n := 2) (Nat.le_of_ble_eq_true rfl) (by kernel_rfl) (outs := []) (by kernel_rfl) (by kernel_rfl) (d := fun (y : compT impl_isHole.pr) => (y.1.1 : impl_isHole.N)) (fun _ => rfl) (C := fun n => impl_isHole.CC (impl_isHole.cs k n)) (k := k) (impl_isHole.cuts k) fun x => by kernel_rfl
/-! impl.ValidGround -/
@[reducible] def impl_ValidGround.pc : CutP := [(0, some true, [.fl (.lo (.int .i64)), .fl (.lo (.pair (.int .i64) (.sl (.int .i64))))])]
@[reducible] def impl_ValidGround.pr : CompPs := [(false, [.fl .bool])]
abbrev impl_ValidGround.N := Bool
noncomputable def impl_ValidGround.E (k : Nat) : List (FuncId × Go.Rv.Fn) := [(47, impl_within.F k), (48, impl_areWithin.F k), (49, impl_isHole.F k)]
abbrev impl_ValidGround.Cs := (List Int → List (Int × List Int) → Option impl_ValidGround.N) × (List Int → List (Int × List Int) → List (Int × List Int) → Int → Int → Option impl_ValidGround.N)
def impl_ValidGround.zero : impl_ValidGround.Cs := (fun _ _ => none, fun _ _ _ _ _ => none)
noncomputable def impl_ValidGround.step (k : Nat) (c : impl_ValidGround.Cs) : impl_ValidGround.Cs := (fun (x0 : List Int) (x1 : List (Int × List Int)) => c.2 x0 x1 x1 (x1.length : Int) 0,
  fun (x0 : List Int) (x1 : List (Int × List Int)) (x2 : List (Int × List Int)) (x3 : Int) (x4 : Int) => (if (decide (x4 < x3)) = true then if 0 ≤ x4 then if x4 < (x2.length : Int) then (impl_isHole.f k ((rd (0, []) x2 x4).1) ((rd (0, []) x2 x4).2) (x0.length : Int)).bind fun t4 => (if (!t4) = true then some false else (if (decide (0 < x4)) = true then if 0 ≤ (wrap64 (x4 - 1)) then if (wrap64 (x4 - 1)) < (x1.length : Int) then (if (decide ((rd (0, []) x2 x4).1 ≤ (rd (0, []) x1 (wrap64 (x4 - 1))).1)) = true then some false else c.2 x0 x1 x2 x3 (wrap64 (x4 + 1))) else none else none else c.2 x0 x1 x2 x3 (wrap64 (x4 + 1)))) else none else none else some true))
noncomputable def impl_ValidGround.cs (k : Nat) : Nat → impl_ValidGround.Cs
  | 0 => impl_ValidGround.zero
  | n + 1 => impl_ValidGround.step k (impl_ValidGround.cs k n)
def impl_ValidGround.CC (c : impl_ValidGround.Cs) : Cuts impl_ValidGround.N := [(2, ⟨[(1, none, [.fl (.lo (.int .i64)), .fl (.lo (.pair (.int .i64) (.sl (.int .i64))))])], fun x => c.1 x.1.1 x.1.2.1⟩),
  (14, ⟨[(1, none, [.fl (.lo (.int .i64)), .fl (.lo (.pair (.int .i64) (.sl (.int .i64))))]), (24, some false, [.fl (.lo (.pair (.int .i64) (.sl (.int .i64))))]), (25, some false, [.fl (.int .i64)]), (26, some false, [.fl (.int .i64)])], fun x => c.2 x.1.1 x.1.2.1 x.2.1.1 x.2.2.1.1 x.2.2.2.1.1⟩)]
noncomputable def impl_ValidGround.f (k : Nat) (a0 : List Int) (a1 : List (Int × List Int)) : Option impl_ValidGround.N := (impl_within.f k (a0.length : Int) 1 4).bind fun t1 => (if (!t1) = true then some false else (impl_areWithin.f k a0 1 3000).bind fun t2 => (if (!t2) = true then some false else (impl_within.f k (a1.length : Int) 1 6).bind fun t3 => (if (!t3) = true then some false else (impl_ValidGround.cs k k).1 a0 a1)))
noncomputable def impl_ValidGround.F (k : Nat) : Go.Rv.Fn := mkFn 1 impl_ValidGround.pc impl_ValidGround.pr (keepOf []) (fun (y : impl_ValidGround.N) => (((y, ()), ()) : compT impl_ValidGround.pr)) fun x => impl_ValidGround.f k x.1.1 x.1.2.1
theorem impl_ValidGround.env (k : Nat) : EnvOk Go.Proofs.Try.prog (fun f => (impl_ValidGround.E k).lookup f) := envOk_of ⟨entry Go.Proofs.Try.call47 rfl (impl_within.ok k), entry Go.Proofs.Try.call48 rfl (impl_areWithin.ok k), entry Go.Proofs.Try.call49 rfl (impl_isHole.ok k), trivial⟩
theorem impl_ValidGround.cuts (k : Nat) : CutsOk Go.Proofs.Try.prog X (fun f => (impl_ValidGround.E k).lookup f) Go.Proofs.Try.f14 [] (decN impl_ValidGround.pr (fun (y : compT impl_ValidGround.pr) => (y.1.1 : impl_ValidGround.N))) fun n => impl_ValidGround.CC (impl_ValidGround.cs k n) :=
  cutsOk_of (step := impl_ValidGround.step k) rfl (fun _ => rfl) ⟨fun _ => rfl, fun _ => rfl, trivial⟩ (fun c => by kernel_rfl) fun c => ⟨fun x => by kernel_rfl, fun x => by kernel_rfl, trivial⟩
theorem impl_ValidGround.ok (k : Nat) : FnOk Go.Proofs.Try.prog 14 (impl_ValidGround.F k) :=
  fn_ok tab (impl_ValidGround.env k) Go.Proofs.Try.func14 rfl (n := 1) (Nat.le_of_ble_eq_true rfl) (by kernel_rfl) (outs := []) (by kernel_rfl) (by kernel_rfl) (d := fun (y : compT impl_ValidGround.pr) => (y.1.1 : impl_ValidGround.N)) (fun _ => rfl) (C := fun n => impl_ValidGround.CC (impl_ValidGround.cs k n)) (k := k) (impl_ValidGround.cuts k) fun x => by kernel_rfl
/-! (impl.Ground).tops$1 -/
@[reducible] def impl_Ground_tops_1.pc : CutP := [(0, some true, [.fl (.int .i64), .fl (.lo (.int .i64))]), (1, some false, [.rptr [(.int .i64)]])]
@[reducible] def impl_Ground_tops_1.pr : CompPs := [(false, [.fl .bool])]
abbrev impl_Ground_tops_1.N := Bool
noncomputable def impl_Ground_tops_1.E (k : Nat) : List (FuncId × Go.Rv.Fn) := []
noncomputable def impl_Ground_tops_1.f (k : Nat) (a0 : Int) (a1 : List Int) (a2 : Int) : Option impl_Ground_tops_1.N := some (decide (a2 ≤ a0))
noncomputable def impl_Ground_tops_1.F (k : Nat) : Go.Rv.Fn := mkFn 2 impl_Ground_tops_1.pc impl_Ground_tops_1.pr (keepOf []) (fun (y : impl_Ground_tops_1.N) => (((y, ()), ()) : compT impl_Ground_tops_1.pr)) fun x => impl_Ground_tops_1.f k x.1.1 x.1.2.1 x.2.1.1.1
theorem impl_Ground_tops_1.env (k : Nat) : EnvOk Go.Proofs.Try.prog (fun f => (impl_Ground_tops_1.E k).lookup f) := envOk_of trivial
theorem impl_Ground_tops_1.ok (k : Nat) : FnOk Go.Proofs.Try.prog 83 (impl_Ground_tops_1.F k) :=
  fn_ok tab (impl_Ground_tops_1.env k) Go.Proofs.Try.func83 rfl (n := 2) (Nat.le_of_ble_eq_true rfl) (by kernel_rfl) (outs := []) (by kernel_rfl) (by kernel_rfl) (d := fun (y : compT impl_Ground_tops_1.pr) => (y.1.1 : impl_Ground_tops_1.N)) (fun _ => rfl) (C := fun _ => []) (k := k) noCuts fun x => by kernel_rfl
/-! slices.IndexFunc[[]impl.Hole,impl.Hole] -/
@[reducible] def slices_IndexFunc_Hole_Ground_tops_1.pc : CutP := [(0, some false, [.fl (.lo (.pair (.int .i64) (.sl (.int .i64))))]), (1, some false, [.fn 83 [[(.int .i64)]]])]
@[reducible] def slices_IndexFunc_Hole_Ground_tops_1.pr : CompPs := [(false, [.fl (.int .i64)])]
abbrev slices_IndexFunc_Hole_Ground_tops_1.N := Int
noncomputable def slices_IndexFunc_Hole_Ground_tops_1.E (k : Nat) : List (FuncId × Go.Rv.Fn) := [(83, impl_Ground_tops_1.F k)]
abbrev slices_IndexFunc_Hole_Ground_tops_1.Cs := (List (Int × List Int) → Int → Int → Int → Option slices_IndexFunc_Hole_Ground_tops_1.N)
def slices_IndexFunc_Hole_Ground_tops_1.zero : slices_IndexFunc_Hole_Ground_tops_1.Cs := (fun _ _ _ _ => none)
noncomputable def slices_IndexFunc_Hole_Ground_tops_1.step (k : Nat) (c : slices_IndexFunc_Hole_Ground_tops_1.Cs) : slices_IndexFunc_Hole_Ground_tops_1.Cs := (fun (x0 : List (Int × List Int)) (x1 : Int) (x2 : Int) (x3 : Int) => (if (decide (x3 < x2)) = true then if 0 ≤ x3 then if x3 < (x0.length : Int) then (impl_Ground_tops_1.f k ((rd (0, []) x0 x3).1) ((rd (0, []) x0 x3).2) x1).bind fun t1 => (if t1 = true then some x3 else c x0 x1 x2 (wrap64 (x3 + 1))) else none else none else some (-1)))
noncomputable def slices_IndexFunc_Hole_Ground_tops_1.cs (k : Nat) : Nat → slices_IndexFunc_Hole_Ground_tops_1.Cs
  | 0 => slices_IndexFunc_Hole_Ground_tops_1.zero
  | n + 1 => slices_IndexFunc_Hole_Ground_tops_1.step k (slices_IndexFunc_Hole_Ground_tops_1.cs k n)
def slices_IndexFunc_Hole_Ground_tops_1.CC (c : slices_IndexFunc_Hole_Ground_tops_1.Cs) : Cuts slices_IndexFunc_Hole_Ground_tops_1.N := [(6, ⟨[(0, some false, [.fl (.lo (.pair (.int .i64) (.sl (.int .i64))))]), (1, some false, [.fn 83 [[(.int .i64)]]]), (7, some false, [.fl (.int .i64)]), (8, some false, [.fl (.int .i64)])], fun x => c x.1.1 x.2.1.1.1.1 x.2.2.1.1 x.2.2.2.1.1⟩)]
noncomputable def slices_IndexFunc_Hole_Ground_tops_1.f (k : Nat) (a0 : List (Int × List Int)) (a1 : Int) : Option slices_IndexFunc_Hole_Ground_tops_1.N := (slices_IndexFunc_Hole_Ground_tops_1.cs k k) a0 a1 (a0.length : Int) 0
noncomputable def slices_IndexFunc_Hole_Ground_tops_1.F (k : Nat) : Go.Rv.Fn := mkFn 2 slices_IndexFunc_Hole_Ground_tops_1.pc slices_IndexFunc_Hole_Ground_tops_1.pr (keepOf []) (fun (y : slices_IndexFunc_Hole_Ground_tops_1.N) => (((y, ()), ()) : compT slices_IndexFunc_Hole_Ground_tops_1.pr)) fun x => slices_IndexFunc_Hole_Ground_tops_1.f k x.1.1 x.2.1.1.1.1
theorem slices_IndexFunc_Hole_Ground_tops_1.env (k : Nat) : EnvOk Go.Proofs.Try.prog (fun f => (slices_IndexFunc_Hole_Ground_tops_1.E k).lookup f) := envOk_of ⟨entry Go.Proofs.Try.call83 rfl (impl_Ground_tops_1.ok k), trivial⟩
theorem slices_IndexFunc_Hole_Ground_tops_1.cuts (k : Nat) : CutsOk Go.Proofs.Try.prog X (fun f => (slices_IndexFunc_Hole_Ground_tops_1.E k).lookup f) Go.Proofs.Try.f73 [] (decN slices_IndexFunc_Hole_Ground_tops_1.pr (fun (y : compT slices_IndexFunc_Hole_Ground_tops_1.pr) => (y.1.1 : slices_IndexFunc_Hole_Ground_tops_1.N))) fun n => slices_IndexFunc_Hole_Ground_tops_1.CC (slices_IndexFunc_Hole_Ground_tops_1.cs k n) :=
  cutsOk_of (step := slices_IndexFunc_Hole_Ground_tops_1.step k) rfl (fun _ => rfl) ⟨fun _ => rfl, trivial⟩ (fun c => by kernel_rfl) fun c => ⟨fun x => by kernel_rfl, trivial⟩
theorem slices_IndexFunc_Hole_Ground_tops_1.ok (k : Nat) : FnOk Go.Proofs.Try.prog 73 (slices_IndexFunc_Hole_Ground_tops_1.F k) :=
  fn_ok tab (slices_IndexFunc_Hole_Ground_tops_1.env k) Go.Proofs.Try.func73 rfl (n := 2) (Nat.le_of_ble_eq_true rfl) (by kernel_rfl) (outs := []) (by kernel_rfl) (by kernel_rfl) (d := fun (y : compT slices_IndexFunc_Hole_Ground_tops_1.pr) => (y.1.1 : slices_IndexFunc_Hole_Ground_tops_1.N)) (fun _ => rfl) (C := fun n => slices_IndexFunc_Hole_Ground_tops_1.CC (slices_IndexFunc_Hole_Ground_tops_1.cs k n)) (k := k) (slices_IndexFunc_Hole_Ground_tops_1.cuts k) fun x => by kernel_rfl
/-! slices.Clone[[]int64,int64] -/
@[reducible] def slices_Clone_int64.pc : CutP := [(0, some false, [.fl (.lo (.int .i64))])]
@[reducible] def slices_Clone_int64.pr : CompPs := [(false, [.fl (.own (.int .i64))])]
abbrev slices_Clone_int64.N := List Int
noncomputable def slices_Clone_int64.E (k : Nat) : List (FuncId × Go.Rv.Fn) := []
noncomputable def slices_Clone_int64.f (k : Nat) (a0 : List Int) : Option slices_Clone_int64.N := if 0 < a0.length then if ([] : List Int).length + a0.length < 1099511627776 then some (([] : List Int) ++ a0) else none else none
noncomputable def slices_Clone_int64.F (k : Nat) : Go.Rv.Fn := mkFn 1 slices_Clone_int64.pc slices_Clone_int64.pr (keepOf []) (fun (y : slices_Clone_int64.N) => (((y, ()), ()) : compT slices_Clone_int64.pr)) fun x => slices_Clone_int64.f k x.1.1
theorem slices_Clone_int64.env (k : Nat) : EnvOk Go.Proofs.Try.prog (fun f => (slices_Clone_int64.E k).lookup f) := envOk_of trivial
theorem slices_Clone_int64.ok (k : Nat) : FnOk Go.Proofs.Try.prog 84 (slices_Clone_int64.F k) :=
  fn_ok tab (slices_Clone_int64.env k) Go.Proofs.Try.func84 rfl (n := 1) (Nat.le_of_ble_eq_true rfl) (by kernel_rfl) (outs := []) (by kernel_rfl) (by kernel_rfl) (d := fun (y : compT slices_Clone_int64.pr) => (y.1.1 : slices_Clone_int64.N)) (fun _ => rfl) (C := fun _ => []) (k := k) noCuts fun x => by kernel_rfl
/-! impl.floorOf -/
@[reducible] def impl_floorOf.pc : CutP := [(0, some false, [.fl (.int .i64)]), (1, some false, [.fl (.int .i64)])]
@[reducible] def impl_floorOf.pr : CompPs := [(false, [.fl (.int .i64)])]
abbrev impl_floorOf.N := Int
noncomputable def impl_floorOf.E (k : Nat) : List (FuncId × Go.Rv.Fn) := []
noncomputable def impl_floorOf.f (k : Nat) (a0 : Int) (a1 : Int) : Option impl_floorOf.N := (if a1 = 0 then none else (if a1 = 0 then none else (if (decide ((a0.tmod a1) < 0)) = true then some (wrap64 ((wrap64 (a0.tdiv a1)) - 1)) else some (wrap64 (a0.tdiv a1)))))
noncomputable def impl_floorOf.F (k : Nat) : Go.Rv.Fn := mkFn 2 impl_floorOf.pc impl_floorOf.pr (keepOf []) (fun (y : impl_floorOf.N) => (((y, ()), ()) : compT impl_floorOf.pr)) fun x => impl_floorOf.f k x.1.1 x.2.1.1
theorem impl_floorOf.env (k : Nat) : EnvOk Go.Proofs.Try.prog (fun f => (impl_floorOf.E k).lookup f) := envOk_of trivial
theorem impl_floorOf.ok (k : Nat) : FnOk Go.Proofs.Try.prog 85 (impl_floorOf.F k) :=
  fn_ok tab (impl_floorOf.env k) Go.Proofs.Try.func85 rfl (n := 2) (Nat.le_of_ble_eq_true rfl) (by kernel_rfl) (outs := []) (by kernel_rfl) (by kernel_rfl) (d := fun (y : compT impl_floorOf.pr) => (y.1.1 : impl_floorOf.N)) (fun _ => rfl) (C := fun _ => []) (k := k) noCuts fun x => by kernel_rfl
/-! (impl.Ground).tops -/
@[reducible] def impl_Ground_tops.pc : CutP := [(0, some true, [.fl (.lo (.int .i64)), .fl (.lo (.pair (.int .i64) (.sl (.int .i64))))]), (1, some false, [.fl (.int .i64)])]
@[reducible] def impl_Ground_tops.pr : CompPs := [(false, [.fl (.own (.int .i64))])]
abbrev impl_Ground_tops.N := List Int
noncomputable def impl_Ground_tops.E (k : Nat) : List (FuncId × Go.Rv.Fn) := [(73, slices_IndexFunc_Hole_Ground_tops_1.F k), (84, slices_Clone_int64.F k), (85, impl_floorOf.F k)]
abbrev impl_Ground_tops.Cs := (List Int → List (Int × List Int) → Int → Int → Option impl_Ground_tops.N) × (Int → Int → List Int → Int → List Int → List Int → List Int → Int → Int → Option impl_Ground_tops.N)
def impl_Ground_tops.zero : impl_Ground_tops.Cs := (fun _ _ _ _ => none, fun _ _ _ _ _ _ _ _ _ => none)
noncomputable def impl_Ground_tops.step (k : Nat) (c : impl_Ground_tops.Cs) : impl_Ground_tops.Cs := (fun (x0 : List Int) (x1 : List (Int × List Int)) (x2 : Int) (x3 : Int) => if 0 ≤ (wrap64 (x3 - 1)) then if (wrap64 (x3 - 1)) < (x1.length : Int) then if 0 ≤ x3 then if x3 < (x1.length : Int) then c.2 x2 ((rd (0, []) x1 (wrap64 (x3 - 1))).1) ((rd (0, []) x1 (wrap64 (x3 - 1))).2) ((rd (0, []) x1 x3).1) ((rd (0, []) x1 x3).2) ([] : List Int) ((rd (0, []) x1 (wrap64 (x3 - 1))).2) (((rd (0, []) x1 (wrap64 (x3 - 1))).2).length : Int) 0 else none else none else none else none,
  fun (x0 : Int) (x1 : Int) (x2 : List Int) (x3 : Int) (x4 : List Int) (x5 : List Int) (x6 : List Int) (x7 : Int) (x8 : Int) => (if (decide (x8 < x7)) = true then if 0 ≤ x8 then if x8 < (x6.length : Int) then if 0 ≤ x8 then if x8 < (x4.length : Int) then (impl_floorOf.f k (wrap64 ((wrap64 ((rd 0 x4 x8) - (rd 0 x6 x8))) * (wrap64 (x0 - x1)))) (wrap64 (x3 - x1))).bind fun (t5 : Int) => if x5.length + [(wrap64 ((rd 0 x6 x8) + t5))].length < 1099511627776 then c.2 x0 x1 x2 x3 x4 (x5 ++ [(wrap64 ((rd 0 x6 x8) + t5))]) x6 x7 (wrap64 (x8 + 1)) else none else none else none else none else none else some x5))
noncomputable def impl_Ground_tops.cs (k : Nat) : Nat → impl_Ground_tops.Cs
  | 0 => impl_Ground_tops.zero
  | n + 1 => impl_Ground_tops.step k (impl_Ground_tops.cs k n)
def impl_Ground_tops.CC (c : impl_Ground_tops.Cs) : Cuts impl_Ground_tops.N := [(6, ⟨[(2, none, [.fl (.lo (.int .i64)), .fl (.lo (.pair (.int .i64) (.sl (.int .i64))))]), (3, none, [.fl (.int .i64)]), (6, some false, [.fl (.int .i64)])], fun x => c.1 x.1.1 x.1.2.1 x.2.1.1 x.2.2.1.1⟩),
  (27, ⟨[(3, none, [.fl (.int .i64)]), (7, none, [.fl (.int .i64), .fl (.lo (.int .i64))]), (8, none, [.fl (.int .i64), .fl (.lo (.int .i64))]), (9, some false, [.fl (.own (.int .i64))]), (63, some false, [.fl (.lo (.int .i64))]), (64, some false, [.fl (.int .i64)]), (65, some false, [.fl (.int .i64)])], fun x => c.2 x.1.1 x.2.1.1 x.2.1.2.1 x.2.2.1.1 x.2.2.1.2.1 x.2.2.2.1.1 x.2.2.2.2.1.1 x.2.2.2.2.2.1.1 x.2.2.2.2.2.2.1.1⟩)]
noncomputable def impl_Ground_tops.f (k : Nat) (a0 : List Int) (a1 : List (Int × List Int)) (a2 : Int) : Option impl_Ground_tops.N := (slices_IndexFunc_Hole_Ground_tops_1.f k a1 a2).bind fun (t1 : Int) => (if (decide (t1 < 0)) = true then if 0 ≤ (wrap64 ((a1.length : Int) - 1)) then if (wrap64 ((a1.length : Int) - 1)) < (a1.length : Int) then (slices_Clone_int64.f k ((rd (0, []) a1 (wrap64 ((a1.length : Int) - 1))).2)).bind fun t2 => some t2 else none else none else (if (decide (t1 = 0)) = true then if 0 ≤ t1 then if t1 < (a1.length : Int) then (slices_Clone_int64.f k ((rd (0, []) a1 t1).2)).bind fun t3 => some t3 else none else none else if 0 ≤ t1 then if t1 < (a1.length : Int) then (if (decide ((rd (0, []) a1 t1).1 = a2)) = true then if 0 ≤ t1 then if t1 < (a1.length : Int) then (slices_Clone_int64.f k ((rd (0, []) a1 t1).2)).bind fun t4 => some t4 else none else none else (impl_Ground_tops.cs k k).1 a0 a1 a2 t1) else none else none))
noncomputable def impl_Ground_tops.F (k : Nat) : Go.Rv.Fn := mkFn 2 impl_Ground_tops.pc impl_Ground_tops.pr (keepOf []) (fun (y : impl_Ground_tops.N) => (((y, ()), ()) : compT impl_Ground_tops.pr)) fun x => impl_Ground_tops.f k x.1.1 x.1.2.1 x.2.1.1
theorem impl_Ground_tops.env (k : Nat) : EnvOk Go.Proofs.Try.prog (fun f => (impl_Ground_tops.E k).lookup f) := envOk_of ⟨entry Go.Proofs.Try.call73 rfl (slices_IndexFunc_Hole_Ground_tops_1.ok k), entry Go.Proofs.Try.call84 rfl (slices_Clone_int64.ok k), entry Go.Proofs.Try.call85 rfl (impl_floorOf.ok k), trivial⟩
theorem impl_Ground_tops.cuts (k : Nat) : CutsOk Go.Proofs.Try.prog X (fun f => (impl_Ground_tops.E k).lookup f) Go.Proofs.Try.f53 [] (decN impl_Ground_tops.pr (fun (y : compT impl_Ground_tops.pr) => (y.1.1 : impl_Ground_tops.N))) fun n => impl_Ground_tops.CC (impl_Ground_tops.cs k n) :=
  cutsOk_of (step := impl_Ground_tops.step k) rfl (fun _ => rfl) ⟨fun _ => rfl, fun _ => rfl, trivial⟩ (fun c => by kernel_rfl) fun c => ⟨fun x => by kernel_rfl, fun x => by kernel_rfl, trivial⟩
theorem impl_Ground_tops.ok (k : Nat) : FnOk Go.Proofs.Try.prog 53 (impl_Ground_tops.F k) :=
  fn_ok tab (impl_Ground_tops.env k) Go.Proofs.Try.func53 rfl (n := 2) (Nat.le_of_ble_eq_true rfl) (by kernel_rfl) (outs := []) (by kernel_rfl) (by kernel_rfl) (d := fun (y : compT impl_Ground_tops.pr) => (y.1.1 : impl_Ground_tops.N)) (fun _ => rfl) (C := fun n => impl_Ground_tops.CC (impl_Ground_tops.cs k n)) (k := k) (impl_Ground_tops.cuts k) fun x => by kernel_rfl
/-! impl.TopsAt -/
@[reducible] def impl_TopsAt.pc : CutP := [(0, some true, [.fl (.lo (.int .i64)), .fl (.lo (.pair (.int .i64) (.sl (.int .i64))))]), (1, some false, [.fl (.int .i64)])]
@[reducible] def impl_TopsAt.pr : CompPs := [(false, [.fl (.own (.int .i64))]), (false, [.fl .bool])]
abbrev impl_TopsAt.N := List Int × Bool
noncomputable def impl_TopsAt.E (k : Nat) : List (FuncId × Go.Rv.Fn) := [(14, impl_ValidGround.F k), (47, impl_within.F k), (53, impl_Ground_tops.F k)]
noncomputable def impl_TopsAt.f (k : Nat) (a0 : List Int) (a1 : List (Int × List Int)) (a2 : Int) : Option impl_TopsAt.N := (impl_ValidGround.f k a0 a1).bind fun t1 => (if (!t1) = true then some ([], false) else (impl_within.f k a2 0 60).bind fun t2 => (if (!t2) = true then some ([], false) else (impl_Ground_tops.f k a0 a1 a2).bind fun t3 => some (t3, true)))
noncomputable def impl_TopsAt.F (k : Nat) : Go.Rv.Fn := mkFn 2 impl_TopsAt.pc impl_TopsAt.pr (keepOf []) (fun (y : impl_TopsAt.N) => (((y.1, ()), (y.2, ()), ()) : compT impl_TopsAt.pr)) fun x => impl_TopsAt.f k x.1.1 x.1.2.1 x.2.1.1
theorem impl_TopsAt.env (k : Nat) : EnvOk Go.Proofs.Try.prog (fun f => (impl_TopsAt.E k).lookup f) := envOk_of ⟨entry Go.Proofs.Try.call14 rfl (impl_ValidGround.ok k), entry Go.Proofs.Try.call47 rfl (impl_within.ok k), entry Go.Proofs.Try.call53 rfl (impl_Ground_tops.ok k), trivial⟩
theorem impl_TopsAt.ok (k : Nat) : FnOk Go.Proofs.Try.prog 18 (impl_TopsAt.F k) :=
  fn_ok tab (impl_TopsAt.env k) Go.Proofs.Try.func18 rfl (n := 2) (Nat.le_of_ble_eq_true rfl) (by kernel_rfl) (outs := []) (by kernel_rfl) (by kernel_rfl) (d := fun (y : compT impl_TopsAt.pr) => ((y.1.1, y.2.1.1) : impl_TopsAt.N)) (fun _ => rfl) (C := fun _ => []) (k := k) noCuts fun x => by kernel_rfl
/-! laws.eqInt64S -/
@[reducible] def laws_eqInt64S.pc : CutP := [(0, some false, [.fl (.lo (.int .i64))]), (1, some false, [.fl (.lo (.int .i64))])]
@[reducible] def laws_eqInt64S.pr : CompPs := [(false, [.fl .bool])]
abbrev laws_eqInt64S.N := Bool
noncomputable def laws_eqInt64S.E (k : Nat) : List (FuncId × Go.Rv.Fn) := []
abbrev laws_eqInt64S.Cs := (List Int → List Int → Int → Option laws_eqInt64S.N)
def laws_eqInt64S.zero : laws_eqInt64S.Cs := (fun _ _ _ => none)
noncomputable def laws_eqInt64S.step (k : Nat) (c : laws_eqInt64S.Cs) : laws_eqInt64S.Cs := (fun (x0 : List Int) (x1 : List Int) (x2 : Int) => (if (decide (x2 < (x0.length : Int))) = true then if 0 ≤ x2 then if x2 < (x0.length : Int) then if 0 ≤ x2 then if x2 < (x1.length : Int) then (if (!decide ((rd 0 x0 x2) = (rd 0 x1 x2))) = true then some false else c x0 x1 (wrap64 (x2 + 1))) else none else none else none else none else some true))
noncomputable def laws_eqInt64S.cs (k : Nat) : Nat → laws_eqInt64S.Cs
  | 0 => laws_eqInt64S.zero
  | n + 1 => laws_eqInt64S.step k (laws_eqInt64S.cs k n)
def laws_eqInt64S.CC (c : laws_eqInt64S.Cs) : Cuts laws_eqInt64S.N := [(14, ⟨[(0, some false, [.fl (.lo (.int .i64))]), (1, some false, [.fl (.lo (.int .i64))]), (5, some false, [.fl (.int .i64)])], fun x => c x.1.1 x.2.1.1 x.2.2.1.1⟩)]
noncomputable def laws_eqInt64S.f (k : Nat) (a0 : List Int) (a1 : List Int) : Option laws_eqInt64S.N := (if (!decide ((a0.length : Int) = (a1.length : Int))) = true then some false else (laws_eqInt64S.cs k k) a0 a1 0)
noncomputable def laws_eqInt64S.F (k : Nat) : Go.Rv.Fn := mkFn 2 laws_eqInt64S.pc laws_eqInt64S.pr (keepOf []) (fun (y : laws_eqInt64S.N) => (((y, ()), ()) : compT laws_eqInt64S.pr)) fun x => laws_eqInt64S.f k x.1.1 x.2.1.1
theorem laws_eqInt64S.env (k : Nat) : EnvOk Go.Proofs.Try.prog (fun f => (laws_eqInt64S.E k).lookup f) := envOk_of trivial
theorem laws_eqInt64S.cuts (k : Nat) : CutsOk Go.Proofs.Try.prog X (fun f => (laws_eqInt64S.E k).lookup f) Go.Proofs.Try.f33 [] (decN laws_eqInt64S.pr (fun (y : compT laws_eqInt64S.pr) => (y.1.1 : laws_eqInt64S.N))) fun n => laws_eqInt64S.CC (laws_eqInt64S.cs k n) :=
  cutsOk_of (step := laws_eqInt64S.step k) rfl (fun _ => rfl) ⟨fun _ => rfl, trivial⟩ (fun c => by kernel_rfl) fun c => ⟨fun x => by kernel_rfl, trivial⟩
theorem laws_eqInt64S.ok (k : Nat) : FnOk Go.Proofs.Try.prog 33 (laws_eqInt64S.F k) :=
  fn_ok tab (laws_eqInt64S.env k) Go.Proofs.Try.func33 rfl (n := 2) (Nat.le_of_ble_eq_true rfl) (by kernel_rfl) (outs := []) (by kernel_rfl) (by kernel_rfl) (d := fun (y : compT laws_eqInt64S.pr) => (y.1.1 : laws_eqInt64S.N)) (fun _ => rfl) (C := fun n => laws_eqInt64S.CC (laws_eqInt64S.cs k n)) (k := k) (laws_eqInt64S.cuts k) fun x => by kernel_rfl
/-! laws.eqHole -/
@[reducible] def laws_eqHole.pc : CutP := [(0, some true, [.fl (.int .i64), .fl (.lo (.int .i64))]), (1, some true, [.fl (.int .i64), .fl (.lo (.int .i64))])]
@[reducible] def laws_eqHole.pr : CompPs := [(false, [.fl .bool])]
abbrev laws_eqHole.N := Bool
noncomputable def laws_eqHole.E (k : Nat) : List (FuncId × Go.Rv.Fn) := [(33, laws_eqInt64S.F k)]
noncomputable def laws_eqHole.f (k : Nat) (a0 : Int) (a1 : List Int) (a2 : Int) (a3 : List Int) : Option laws_eqHole.N := (if (!decide (a0 = a2)) = true then some false else (laws_eqInt64S.f k a1 a3).bind fun t1 => (if (!t1) = true then some false else some true))
noncomputable def laws_eqHole.F (k : Nat) : Go.Rv.Fn := mkFn 2 laws_eqHole.pc laws_eqHole.pr (keepOf []) (fun (y : laws_eqHole.N) => (((y, ()), ()) : compT laws_eqHole.pr)) fun x => laws_eqHole.f k x.1.1 x.1.2.1 x.2.1.1 x.2.1.2.1
theorem laws_eqHole.env (k : Nat) : EnvOk Go.Proofs.Try.prog (fun f => (laws_eqHole.E k).lookup f) := envOk_of ⟨entry Go.Proofs.Try.call33 rfl (laws_eqInt64S.ok k), trivial⟩
theorem laws_eqHole.ok (k : Nat) : FnOk Go.Proofs.Try.prog 81 (laws_eqHole.F k) :=
  fn_ok tab (laws_eqHole.env k) Go.Proofs.Try.func81 rfl (n := 2) (Nat.le_of_ble_eq_true rfl) (by kernel_rfl) (outs := []) (by kernel_rfl) (by kernel_rfl) (d := fun (y : compT laws_eqHole.pr) => (y.1.1 : laws_eqHole.N)) (fun _ => rfl) (C := fun _ => []) (k := k) noCuts fun x => by kernel_rfl
/-! laws.eqHoleS -/
@[reducible] def laws_eqHoleS.pc : CutP := [(0, some false, [.fl (.lo (.pair (.int .i64) (.sl (.int .i64))))]), (1, some false, [.fl (.lo (.pair (.int .i64) (.sl (.int .i64))))])]
@[reducible] def laws_eqHoleS.pr : CompPs := [(false, [.fl .bool])]
abbrev laws_eqHoleS.N := Bool
noncomputable def laws_eqHoleS.E (k : Nat) : List (FuncId × Go.Rv.Fn) := [(81, laws_eqHole.F k)]
abbrev laws_eqHoleS.Cs := (List (Int × List Int) → List (Int × List Int) → Int → Option laws_eqHoleS.N)
def laws_eqHoleS.zero : laws_eqHoleS.Cs := (fun _ _ _ => none)
noncomputable def laws_eqHoleS.step (k : Nat) (c : laws_eqHoleS.Cs) : laws_eqHoleS.Cs := (fun (x0 : List (Int × List Int)) (x1 : List (Int × List Int)) (x2 : Int) => (if (decide (x2 < (x0.length : Int))) = true then if 0 ≤ x2 then if x2 < (x0.length : Int) then if 0 ≤ x2 then if x2 < (x1.length : Int) then (laws_eqHole.f k ((rd (0, []) x0 x2).1) ((rd (0, []) x0 x2).2) ((rd (0, []) x1 x2).1) ((rd (0, []) x1 x2).2)).bind fun t1 => (if (!t1) = true then some false else c x0 x1 (wrap64 (x2 + 1))) else none else none else none else none else some true))
noncomputable def laws_eqHoleS.cs (k : Nat) : Nat → laws_eqHoleS.Cs
  | 0 => laws_eqHoleS.zero
  | n + 1 => laws_eqHoleS.step k (laws_eqHoleS.cs k n)
def laws_eqHoleS.CC (c : laws_eqHoleS.Cs) : Cuts laws_eqHoleS.N := [(14, ⟨[(0, some false, [.fl (.lo (.pair (.int .i64) (.sl (.int .i64))))]), (1, some false, [.fl (.lo (.pair (.int .i64) (.sl (.int .i64))))]), (5, some false, [.fl (.int .i64)])], fun x => c x.1.1 x.2.1.1 x.2.2.1.1⟩)]
noncomputable def laws_eqHoleS.f (k : Nat) (a0 : List (Int × List Int)) (a1 : List (Int × List Int)) : Option laws_eqHoleS.N := (if (!decide ((a0.length : Int) = (a1.length : Int))) = true then some false else (laws_eqHoleS.cs k k) a0 a1 0)
noncomputable def laws_eqHoleS.F (k : Nat) : Go.Rv.Fn := mkFn 2 laws_eqHoleS.pc laws_eqHoleS.pr (keepOf []) (fun (y : laws_eqHoleS.N) => (((y, ()), ()) : compT laws_eqHoleS.pr)) fun x => laws_eqHoleS.f k x.1.1 x.2.1.1
theorem laws_eqHoleS.env (k : Nat) : EnvOk Go.Proofs.Try.prog (fun f => (laws_eqHoleS.E k).lookup f) := envOk_of ⟨entry Go.Proofs.Try.call81 rfl (laws_eqHole.ok k), trivial⟩
theorem laws_eqHoleS.cuts (k : Nat) : CutsOk Go.Proofs.Try.prog X (fun f => (laws_eqHoleS.E k).lookup f) Go.Proofs.Try.f50 [] (decN laws_eqHoleS.pr (fun (y : compT laws_eqHoleS.pr) => (y.1.1 : laws_eqHoleS.N))) fun n => laws_eqHoleS.CC (laws_eqHoleS.cs k n) :=
  cutsOk_of (step := laws_eqHoleS.step k) rfl (fun _ => rfl) ⟨fun _ => rfl, trivial⟩ (fun c => by kernel_rfl) fun c => ⟨fun x => by kernel_rfl, trivial⟩
theorem laws_eqHoleS.ok (k : Nat) : FnOk Go.Proofs.Try.prog 50 (laws_eqHoleS.F k) :=
  fn_ok tab (laws_eqHoleS.env k) Go.Proofs.Try.func50 rfl (n := 2) (Nat.le_of_ble_eq_true rfl) (by kernel_rfl) (outs := []) (by kernel_rfl) (by kernel_rfl) (d := fun (y : compT laws_eqHoleS.pr) => (y.1.1 : laws_eqHoleS.N)) (fun _ => rfl) (C := fun n => laws_eqHoleS.CC (laws_eqHoleS.cs k n)) (k := k) (laws_eqHoleS.cuts k) fun x => by kernel_rfl
/-! laws.eqGround -/
@[reducible] def laws_eqGround.pc : CutP := [(0, some true, [.fl (.lo (.int .i64)), .fl (.lo (.pair (.int .i64) (.sl (.int .i64))))]), (1, some true, [.fl (.lo (.int .i64)), .fl (.lo (.pair (.int .i64) (.sl (.int .i64))))])]
@[reducible] def laws_eqGround.pr : CompPs := [(false, [.fl .bool])]
abbrev laws_eqGround.N := Bool
noncomputable def laws_eqGround.E (k : Nat) : List (FuncId × Go.Rv.Fn) := [(33, laws_eqInt64S.F k), (50, laws_eqHoleS.F k)]
noncomputable def laws_eqGround.f (k : Nat) (a0 : List Int) (a1 : List (Int × List Int)) (a2 : List Int) (a3 : List (Int × List Int)) : Option laws_eqGround.N := (laws_eqInt64S.f k a0 a2).bind fun t1 => (if (!t1) = true then some false else (laws_eqHoleS.f k a1 a3).bind fun t2 => (if (!t2) = true then some false else some true))
noncomputable def laws_eqGround.F (k : Nat) : Go.Rv.Fn := mkFn 2 laws_eqGround.pc laws_eqGround.pr (keepOf []) (fun (y : laws_eqGround.N) => (((y, ()), ()) : compT laws_eqGround.pr)) fun x => laws_eqGround.f k x.1.1 x.1.2.1 x.2.1.1 x.2.1.2.1
theorem laws_eqGround.env (k : Nat) : EnvOk Go.Proofs.Try.prog (fun f => (laws_eqGround.E k).lookup f) := envOk_of ⟨entry Go.Proofs.Try.call33 rfl (laws_eqInt64S.ok k), entry Go.Proofs.Try.call50 rfl (laws_eqHoleS.ok k), trivial⟩
theorem laws_eqGround.ok (k : Nat) : FnOk Go.Proofs.Try.prog 15 (laws_eqGround.F k) :=
  fn_ok tab (laws_eqGround.env k) Go.Proofs.Try.func15 rfl (n := 2) (Nat.le_of_ble_eq_true rfl) (by kernel_rfl) (outs := []) (by kernel_rfl) (by kernel_rfl) (d := fun (y : compT laws_eqGround.pr) => (y.1.1 : laws_eqGround.N)) (fun _ => rfl) (C := fun _ => []) (k := k) noCuts fun x => by kernel_rfl
/-! laws.markGround -/
@[reducible] def laws_markGround.pc : CutP := [(0, some true, [.fl (.own (.int .i64)), .fl (.own (.pair (.int .i64) (.sl (.int .i64))))]), (1, some false, [.fl (.int .i64)])]
@[reducible] def laws_markGround.pr : CompPs := [(false, [.fl (.int .i64)]), (false, [.fl .dead, .fl .dead])]
abbrev laws_markGround.N := Int
noncomputable def laws_markGround.E (k : Nat) : List (FuncId × Go.Rv.Fn) := []
noncomputable def laws_markGround.f (k : Nat) (a0 : List Int) (a1 : List (Int × List Int)) (a2 : Int) : Option laws_markGround.N := T.markGF a0 a1 a2
noncomputable def laws_markGround.F (k : Nat) : Go.Rv.Fn := mkFn 2 laws_markGround.pc laws_markGround.pr (keepOf [(0, 2)]) (fun (y : laws_markGround.N) => (((y, ()), ((), (), ()), ()) : compT laws_markGround.pr)) fun x => laws_markGround.f k x.1.1 x.1.2.1 x.2.1.1
theorem laws_markGround.ok (k : Nat) : FnOk Go.Proofs.Try.prog 30 (laws_markGround.F k) := T.markG_fn
/-! laws.markInt64S -/
@[reducible] def laws_markInt64S.pc : CutP := [(0, some false, [.fl (.own (.int .i64))]), (1, some false, [.fl (.int .i64)])]
@[reducible] def laws_markInt64S.pr : CompPs := [(false, [.fl (.int .i64)]), (false, [.fl (.own (.int .i64))])]
abbrev laws_markInt64S.N := Int × List Int
noncomputable def laws_markInt64S.E (k : Nat) : List (FuncId × Go.Rv.Fn) := []
abbrev laws_markInt64S.Cs := (List Int → Int → Int → Option laws_markInt64S.N)
def laws_markInt64S.zero : laws_markInt64S.Cs := (fun _ _ _ => none)
noncomputable def laws_markInt64S.step (k : Nat) (c : laws_markInt64S.Cs) : laws_markInt64S.Cs := (fun (x0 : List Int) (x1 : Int) (x2 : Int) => (if (decide (x2 < (x0.length : Int))) = true then if 0 ≤ x2 then if x2 < (x0.length : Int) then c (x0.set x2.toNat x1) (wrap64 (x1 + 1)) (wrap64 (x2 + 1)) else none else none else some (x1, x0)))
noncomputable def laws_markInt64S.cs (k : Nat) : Nat → laws_markInt64S.Cs
  | 0 => laws_markInt64S.zero
  | n + 1 => laws_markInt64S.step k (laws_markInt64S.cs k n)
def laws_markInt64S.CC (c : laws_markInt64S.Cs) : Cuts laws_markInt64S.N := [(6, ⟨[(0, some false, [.fl (.own (.int .i64))]), (1, some false, [.fl (.int .i64)]), (5, some false, [.fl (.int .i64)])], fun x => c x.1.1 x.2.1.1 x.2.2.1.1⟩)]
noncomputable def laws_markInt64S.f (k : Nat) (a0 : List Int) (a1 : Int) : Option laws_markInt64S.N := (laws_markInt64S.cs k k) a0 a1 0
noncomputable def laws_markInt64S.F (k : Nat) : Go.Rv.Fn := mkFn 2 laws_markInt64S.pc laws_markInt64S.pr (keepOf [(0, 1)]) (fun (y : laws_markInt64S.N) => (((y.1, ()), (y.2, ()), ()) : compT laws_markInt64S.pr)) fun x => laws_markInt64S.f k x.1.1 x.2.1.1
theorem laws_markInt64S.env (k : Nat) : EnvOk Go.Proofs.Try.prog (fun f => (laws_markInt64S.E k).lookup f) := envOk_of trivial
theorem laws_markInt64S.cuts (k : Nat) : CutsOk Go.Proofs.Try.prog X (fun f => (laws_markInt64S.E k).lookup f) Go.Proofs.Try.f34 [(0, 1)] (decN laws_markInt64S.pr (fun (y : compT laws_markInt64S.pr) => ((y.1.1, y.2.1.1) : laws_markInt64S.N))) fun n => laws_markInt64S.CC (laws_markInt64S.cs k n) :=
  cutsOk_of (step := laws_markInt64S.step k) rfl (fun _ => rfl) ⟨fun _ => rfl, trivial⟩ (fun c => by kernel_rfl) fun c => ⟨fun x => by kernel_rfl, trivial⟩
theorem laws_markInt64S.ok (k : Nat) : FnOk Go.Proofs.Try.prog 34 (laws_markInt64S.F k) :=
  fn_ok tab (laws_markInt64S.env k) Go.Proofs.Try.func34 rfl (n := 2) (Nat.le_of_ble_eq_true rfl) (by kernel_rfl) (outs := [(0, 1)]) (by kernel_rfl) (by kernel_rfl) (d := fun (y : compT laws_markInt64S.pr) => ((y.1.1, y.2.1.1) : laws_markInt64S.N)) (fun _ => rfl) (C := fun n => laws_markInt64S.CC (laws_markInt64S.cs k n)) (k := k) (laws_markInt64S.cuts k) fun x => by kernel_rfl
/-! laws.heldInt64S -/
@[reducible] def laws_heldInt64S.pc : CutP := [(0, some false, [.fl (.lo (.int .i64))]), (1, some false, [.fl (.int .i64)])]
@[reducible] def laws_heldInt64S.pr : CompPs := [(false, [.fl (.int .i64)])]
abbrev laws_heldInt64S.N := Int
noncomputable def laws_heldInt64S.E (k : Nat) : List (FuncId × Go.Rv.Fn) := []
abbrev laws_heldInt64S.Cs := (List Int → Int → Int → Option laws_heldInt64S.N)
def laws_heldInt64S.zero : laws_heldInt64S.Cs := (fun _ _ _ => none)
noncomputable def laws_heldInt64S.step (k : Nat) (c : laws_heldInt64S.Cs) : laws_heldInt64S.Cs := (fun (x0 : List Int) (x1 : Int) (x2 : Int) => (if (decide (x2 < (x0.length : Int))) = true then if 0 ≤ x2 then if x2 < (x0.length : Int) then (if (!decide ((rd 0 x0 x2) = x1)) = true then some (-1) else c x0 (wrap64 (x1 + 1)) (wrap64 (x2 + 1))) else none else none else some x1))
noncomputable def laws_heldInt64S.cs (k : Nat) : Nat → laws_heldInt64S.Cs
  | 0 => laws_heldInt64S.zero
  | n + 1 => laws_heldInt64S.step k (laws_heldInt64S.cs k n)
def laws_heldInt64S.CC (c : laws_heldInt64S.Cs) : Cuts laws_heldInt64S.N := [(6, ⟨[(0, some false, [.fl (.lo (.int .i64))]), (1, some false, [.fl (.int .i64)]), (5, some false, [.fl (.int .i64)])], fun x => c x.1.1 x.2.1.1 x.2.2.1.1⟩)]
noncomputable def laws_heldInt64S.f (k : Nat) (a0 : List Int) (a1 : Int) : Option laws_heldInt64S.N := (laws_heldInt64S.cs k k) a0 a1 0
noncomputable def laws_heldInt64S.F (k : Nat) : Go.Rv.Fn := mkFn 2 laws_heldInt64S.pc laws_heldInt64S.pr (keepOf []) (fun (y : laws_heldInt64S.N) => (((y, ()), ()) : compT laws_heldInt64S.pr)) fun x => laws_heldInt64S.f k x.1.1 x.2.1.1
theorem laws_heldInt64S.env (k : Nat) : EnvOk Go.Proofs.Try.prog (fun f => (laws_heldInt64S.E k).lookup f) := envOk_of trivial
theorem laws_heldInt64S.cuts (k : Nat) : CutsOk Go.Proofs.Try.prog X (fun f => (laws_heldInt64S.E k).lookup f) Go.Proofs.Try.f35 [] (decN laws_heldInt64S.pr (fun (y : compT laws_heldInt64S.pr) => (y.1.1 : laws_heldInt64S.N))) fun n => laws_heldInt64S.CC (laws_heldInt64S.cs k n) :=
  cutsOk_of (step := laws_heldInt64S.step k) rfl (fun _ => rfl) ⟨fun _ => rfl, trivial⟩ (fun c => by kernel_rfl) fun c => ⟨fun x => by kernel_rfl, trivial⟩
theorem laws_heldInt64S.ok (k : Nat) : FnOk Go.Proofs.Try.prog 35 (laws_heldInt64S.F k) :=
  fn_ok tab (laws_heldInt64S.env k) Go.Proofs.Try.func35 rfl (n := 2) (Nat.le_of_ble_eq_true rfl) (by kernel_rfl) (outs := []) (by kernel_rfl) (by kernel_rfl) (d := fun (y : compT laws_heldInt64S.pr) => (y.1.1 : laws_heldInt64S.N)) (fun _ => rfl) (C := fun n => laws_heldInt64S.CC (laws_heldInt64S.cs k n)) (k := k) (laws_heldInt64S.cuts k) fun x => by kernel_rfl
/-! laws.FnExactTopsAt -/
@[reducible] def laws_FnExactTopsAt.pc : CutP := [(0, some true, [.fl (.lo (.int .i64)), .fl (.lo (.pair (.int .i64) (.sl (.int .i64))))]), (1, some false, [.fl (.int .i64)])]
@[reducible] def laws_FnExactTopsAt.pr : CompPs := [(false, [.fl .bool])]
abbrev laws_FnExactTopsAt.N := Bool
noncomputable def laws_FnExactTopsAt.E (k : Nat) : List (FuncId × Go.Rv.Fn) := [(11, laws_szGround.F k), (13, laws_toGround.F k), (15, laws_eqGround.F k), (18, impl_TopsAt.F k), (30, laws_markGround.F k), (32, spec_TopsAt.F k), (33, laws_eqInt64S.F k), (34, laws_markInt64S.F k), (35, laws_heldInt64S.F k)]
abbrev laws_FnExactTopsAt.Cs := (Int → List Int → List (Int × List Int) → List Int → Bool → List Int → List (Int × List Int) → List Int → Bool → Option laws_FnExactTopsAt.N) × (Int → List Int → List (Int × List Int) → List Int → Bool → List Int → Option laws_FnExactTopsAt.N)
def laws_FnExactTopsAt.zero : laws_FnExactTopsAt.Cs := (fun _ _ _ _ _ _ _ _ _ => none, fun _ _ _ _ _ _ => none)
noncomputable def laws_FnExactTopsAt.step (k : Nat) (c : laws_FnExactTopsAt.Cs) : laws_FnExactTopsAt.Cs := (fun (x0 : Int) (x1 : List Int) (x2 : List (Int × List Int)) (x3 : List Int) (x4 : Bool) (x5 : List Int) (x6 : List (Int × List Int)) (x7 : List Int) (x8 : Bool) => (laws_toGround.f k x1 x2).bind fun t7 => (laws_eqGround.f k x5 x6 t7.1 t7.2).bind fun t8 => (if (!t8) = true then some false else (laws_markGround.f k x5 x6 1).bind fun (t9 : Int) => (if (decide (t9 < 0)) = true then some false else (laws_eqInt64S.f k x7 x3).bind fun t10 => (if (!t10) = true then some false else (if (!(x8 == x4)) = true then some false else c.2 x0 x1 x2 x3 x4 x7)))),
  fun (x0 : Int) (x1 : List Int) (x2 : List (Int × List Int)) (x3 : List Int) (x4 : Bool) (x5 : List Int) => (laws_markInt64S.f k x5 1).bind fun t11 => (laws_heldInt64S.f k t11.2 1).bind fun (t12 : Int) => (if (decide (t12 < 0)) = true then some false else (if (!decide (t12 = t11.1)) = true then some false else (laws_toGround.f k x1 x2).bind fun t13 => (impl_TopsAt.f k t13.1 t13.2 x0).bind fun t14 => (laws_eqInt64S.f k t14.1 x3).bind fun t15 => (if (!t15) = true then some false else (if (!(t14.2 == x4)) = true then some false else (laws_heldInt64S.f k t11.2 1).bind fun (t16 : Int) => (if (decide (t16 < 0)) = true then some false else (if (!decide (t16 = t11.1)) = true then some false else some true)))))))
noncomputable def laws_FnExactTopsAt.cs (k : Nat) : Nat → laws_FnExactTopsAt.Cs
  | 0 => laws_FnExactTopsAt.zero
  | n + 1 => laws_FnExactTopsAt.step k (laws_FnExactTopsAt.cs k n)
def laws_FnExactTopsAt.CC (c : laws_FnExactTopsAt.Cs) : Cuts laws_FnExactTopsAt.N := [(20, ⟨[(1, some false, [.fl (.int .i64)]), (2, none, [.fl (.lo (.int .i64)), .fl (.lo (.pair (.int .i64) (.sl (.int .i64))))]), (6, some false, [.fl (.own (.int .i64))]), (7, some false, [.fl .bool]), (8, none, [.fl (.own (.int .i64)), .fl (.own (.pair (.int .i64) (.sl (.int .i64))))]), (9, some false, [.fl (.own (.int .i64))]), (10, some false, [.fl .bool])], fun x => c.1 x.1.1 x.2.1.1 x.2.1.2.1 x.2.2.1.1 x.2.2.2.1.1 x.2.2.2.2.1.1 x.2.2.2.2.1.2.1 x.2.2.2.2.2.1.1 x.2.2.2.2.2.2.1.1⟩),
  (40, ⟨[(1, some false, [.fl (.int .i64)]), (2, none, [.fl (.lo (.int .i64)), .fl (.lo (.pair (.int .i64) (.sl (.int .i64))))]), (6, some false, [.fl (.own (.int .i64))]), (7, some false, [.fl .bool]), (9, some false, [.fl (.own (.int .i64))])], fun x => c.2 x.1.1 x.2.1.1 x.2.1.2.1 x.2.2.1.1 x.2.2.2.1.1 x.2.2.2.2.1.1⟩)]
noncomputable def laws_FnExactTopsAt.f (k : Nat) (a0 : List Int) (a1 : List (Int × List Int)) (a2 : Int) : Option laws_FnExactTopsAt.N := (laws_szGround.f k a0 a1 1048576).bind fun (t1 : Int) => (if (decide (t1 < 0)) = true then some true else (laws_toGround.f k a0 a1).bind fun t2 => (spec_TopsAt.f k t2.1 t2.2 a2).bind fun t3 => (laws_toGround.f k a0 a1).bind fun t4 => (impl_TopsAt.f k t4.1 t4.2 a2).bind fun t5 => (laws_eqInt64S.f k t5.1 t3.1).bind fun t6 => (if (!t6) = true then some false else (if (!(t5.2 == t3.2)) = true then some false else (laws_FnExactTopsAt.cs k k).1 a2 a0 a1 t3.1 t3.2 t4.1 t4.2 t5.1 t5.2)))
noncomputable def laws_FnExactTopsAt.F (k : Nat) : Go.Rv.Fn := mkFn 2 laws_FnExactTopsAt.pc laws_FnExactTopsAt.pr (keepOf []) (fun (y : laws_FnExactTopsAt.N) => (((y, ()), ()) : compT laws_FnExactTopsAt.pr)) fun x => laws_FnExactTopsAt.f k x.1.1 x.1.2.1 x.2.1.1
theorem laws_FnExactTopsAt.env (k : Nat) : EnvOk Go.Proofs.Try.prog (fun f => (laws_FnExactTopsAt.E k).lookup f) := envOk_of ⟨entry Go.Proofs.Try.call11 rfl (laws_szGround.ok k), entry Go.Proofs.Try.call13 rfl (laws_toGround.ok k), entry Go.Proofs.Try.call15 rfl (laws_eqGround.ok k), entry Go.Proofs.Try.call18 rfl (impl_TopsAt.ok k), entry Go.Proofs.Try.call30 rfl (laws_markGround.ok k), entry Go.Proofs.Try.call32 rfl (spec_TopsAt.ok k), entry Go.Proofs.Try.call33 rfl (laws_eqInt64S.ok k), entry Go.Proofs.Try.call34 rfl (laws_markInt64S.ok k), entry Go.Proofs.Try.call35 rfl (laws_heldInt64S.ok k), trivial⟩
theorem laws_FnExactTopsAt.cuts (k : Nat) : CutsOk Go.Proofs.Try.prog X (fun f => (laws_FnExactTopsAt.E k).lookup f) Go.Proofs.Try.f8 [] (decN laws_FnExactTopsAt.pr (fun (y : compT laws_FnExactTopsAt.pr) => (y.1.1 : laws_FnExactTopsAt.N))) fun n => laws_FnExactTopsAt.CC (laws_FnExactTopsAt.cs k n) :=
  cutsOk_of (step := laws_FnExactTopsAt.step k) rfl (fun _ => rfl) ⟨fun _ => rfl, fun _ => rfl, trivial⟩ (fun c => by kernel_rfl) fun c => ⟨fun x => by kernel_rfl, fun x => by kernel_rfl, trivial⟩
theorem laws_FnExactTopsAt.ok (k : Nat) : FnOk Go.Proofs.Try.prog 8 (laws_FnExactTopsAt.F k) :=
  fn_ok tab (laws_FnExactTopsAt.env k) Go.Proofs.Try.func8 rfl (n := 2) (Nat.le_of_ble_eq_true rfl) (by kernel_rfl) (outs := []) (by kernel_rfl) (by kernel_rfl) (d := fun (y : compT laws_FnExactTopsAt.pr) => (y.1.1 : laws_FnExactTopsAt.N)) (fun _ => rfl) (C := fun n => laws_FnExactTopsAt.CC (laws_FnExactTopsAt.cs k n)) (k := k) (laws_FnExactTopsAt.cuts k) fun x => by kernel_rfl
end Go.Proofs.Ytlkmjldhhoopcaa.R
