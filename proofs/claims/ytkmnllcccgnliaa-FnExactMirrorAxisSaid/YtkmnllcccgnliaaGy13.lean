-- laid by wip/tools/regroup.py: printed functions, grouped by the laws that need them. Lean checks it.
import Derived.Test.YtkmnllcccgnliaaGx0
import Derived.Test.YtkmnllcccgnliaaGy0
import Derived.Test.YtkmnllcccgnliaaGy1
import Derived.Test.YtkmnllcccgnliaaGy4
import Derived.Test.YtkmnllcccgnliaaGy6
import Derived.Test.YtkmnllcccgnliaaGy12
namespace Go.Proofs.Ytkmnllcccgnliaa.G
open Go.RowKit Go.Proofs.YtkmnllcccgnliaaW.PrintWords Go.Proofs.YtkmnllcccgnliaaW.PrintLast Go.Proofs.YtkmnllcccgnliaaW.PrintMore
attribute [local go_sem] max2_int min2_int max_two min_two max_three min_three max_four min_four   -- for this text's walks alone
set_option linter.unusedVariables false
set_option linter.unusedSimpArgs false

/-! ### laws_FnExactMirrorAxis: function 7 -/
mutual
def laws_FnExactMirrorAxis.j0 : Nat → Bool → Bool → Bool → Int → Int → Int → Int → List (S105) → Int → Int → Int → Int → List (S69) → Int → Int → Int → Int → List (S69) → Int → Int → Int → Int → List (S69) → Option (Bool)
 | 0, _, _, _, _, _, _, _, _, _, _, _, _, _, _, _, _, _, _, _, _, _, _, _ => none
 | k + 1, x5, x8, x40, x669000, x669001, x669002, x669003, x669004, x686000, x686001, x686002, x686003, x686004, x694000, x694001, x694002, x694003, x694004, x703000, x703001, x703002, x703003, x703004 => if x40 = true then (some false) else ((laws_toAxis.f k x669000 x669001 x669002 x669003 x669004).bind fun bt704 => ((laws_eqAxis.f k x694000 x694001 x694002 x694003 x694004 bt704.1 bt704.2.1 bt704.2.2.1 bt704.2.2.2.1 bt704.2.2.2.2).bind fun t711 => (if t711 = true then ((laws_markAxis.f k x694000 x694001 x694002 x694003 x694004 1).bind fun bt712 => (if bt712.1 < 0 then (laws_FnExactMirrorAxis.j1 k x5 true x669000 x669001 x669002 x669003 x669004 x686000 x686001 x686002 x686003 x686004 x703000 x703001 x703002 x703003 x703004) else ((laws_eqAxis.f k x703000 x703001 x703002 x703003 x703004 x686000 x686001 x686002 x686003 x686004).bind fun t714 => (if t714 = true then (laws_FnExactMirrorAxis.j1 k x5 (x8 != x5) x669000 x669001 x669002 x669003 x669004 x686000 x686001 x686002 x686003 x686004 x703000 x703001 x703002 x703003 x703004) else (laws_FnExactMirrorAxis.j1 k x5 true x669000 x669001 x669002 x669003 x669004 x686000 x686001 x686002 x686003 x686004 x703000 x703001 x703002 x703003 x703004))))) else (some false))))
def laws_FnExactMirrorAxis.j1 : Nat → Bool → Bool → Int → Int → Int → Int → List (S105) → Int → Int → Int → Int → List (S69) → Int → Int → Int → Int → List (S69) → Option (Bool)
 | 0, _, _, _, _, _, _, _, _, _, _, _, _, _, _, _, _, _ => none
 | k + 1, x5, x61, x669000, x669001, x669002, x669003, x669004, x686000, x686001, x686002, x686003, x686004, x703000, x703001, x703002, x703003, x703004 => if x61 = true then (some false) else ((laws_markAxis.f k x703000 x703001 x703002 x703003 x703004 1).bind fun bt715 => ((laws_heldAxis.f k x703000 x703001 x703002 x703003 bt715.2 1).bind fun t717 => (if t717 < 0 then (some false) else (if t717 = bt715.1 then ((laws_toAxis.f k x669000 x669001 x669002 x669003 x669004).bind fun bt718 => ((impl_MirrorAxis.f k bt718.1 bt718.2.1 bt718.2.2.1 bt718.2.2.2.1 bt718.2.2.2.2).bind fun bt725 => ((laws_eqAxis.f k bt725.1 bt725.2.1 bt725.2.2.1 bt725.2.2.2.1 bt725.2.2.2.2.1 x686000 x686001 x686002 x686003 x686004).bind fun t734 => (if t734 = true then (laws_FnExactMirrorAxis.j2 k bt715.1 (bt725.2.2.2.2.2 != x5) x703000 x703001 x703002 x703003 bt715.2) else (laws_FnExactMirrorAxis.j2 k bt715.1 true x703000 x703001 x703002 x703003 bt715.2))))) else (some false)))))
def laws_FnExactMirrorAxis.j2 : Nat → Int → Bool → Int → Int → Int → Int → List (S69) → Option (Bool)
 | 0, _, _, _, _, _, _, _ => none
 | k + 1, x10, x87, x703000, x703001, x703002, x703003, x703004 => if x87 = true then (some false) else ((laws_heldAxis.f k x703000 x703001 x703002 x703003 x703004 1).bind fun t735 => (if t735 < 0 then (some false) else (if t735 = x10 then (some true) else (some false))))
end
def laws_FnExactMirrorAxis.f (k : Nat) (a0_0 : Int) (a0_1 : Int) (a0_2 : Int) (a0_3 : Int) (l0_4 : List (S105)) : Option (Bool) := (laws_szAxis.f a0_0 a0_1 a0_2 a0_3 l0_4 1048576).bind fun t669 => (if t669 < 0 then (some true) else ((laws_toAxis.f k a0_0 a0_1 a0_2 a0_3 l0_4).bind fun bt670 => ((spec_MirrorAxis.f k bt670.1 bt670.2.1 bt670.2.2.1 bt670.2.2.2.1 bt670.2.2.2.2).bind fun bt677 => ((laws_toAxis.f k a0_0 a0_1 a0_2 a0_3 l0_4).bind fun bt686 => ((impl_MirrorAxis.f k bt686.1 bt686.2.1 bt686.2.2.1 bt686.2.2.2.1 bt686.2.2.2.2).bind fun bt694 => ((laws_eqAxis.f k bt694.1 bt694.2.1 bt694.2.2.1 bt694.2.2.2.1 bt694.2.2.2.2.1 bt677.1 bt677.2.1 bt677.2.2.1 bt677.2.2.2.1 bt677.2.2.2.2.1).bind fun t703 => (if t703 = true then (laws_FnExactMirrorAxis.j0 k bt677.2.2.2.2.2 bt694.2.2.2.2.2 (bt694.2.2.2.2.2 != bt677.2.2.2.2.2) a0_0 a0_1 a0_2 a0_3 l0_4 bt677.1 bt677.2.1 bt677.2.2.1 bt677.2.2.2.1 bt677.2.2.2.2.1 bt686.1 bt686.2.1 bt686.2.2.1 bt686.2.2.2.1 bt686.2.2.2.2 bt694.1 bt694.2.1 bt694.2.2.1 bt694.2.2.2.1 bt694.2.2.2.2.1) else (laws_FnExactMirrorAxis.j0 k bt677.2.2.2.2.2 bt694.2.2.2.2.2 true a0_0 a0_1 a0_2 a0_3 l0_4 bt677.1 bt677.2.1 bt677.2.2.1 bt677.2.2.2.1 bt677.2.2.2.2.1 bt686.1 bt686.2.1 bt686.2.2.1 bt686.2.2.2.1 bt686.2.2.2.2 bt694.1 bt694.2.1 bt694.2.2.1 bt694.2.2.2.1 bt694.2.2.2.2.1))))))))
theorem laws_FnExactMirrorAxis.mono_l : ∀ k, (∀ y0 y1 y2 y3 y4 y5 y6 y7 y8 y9 y10 y11 y12 y13 y14 y15 y16 y17 y18 y19 y20 y21 y22, LeO (laws_FnExactMirrorAxis.j0 k y0 y1 y2 y3 y4 y5 y6 y7 y8 y9 y10 y11 y12 y13 y14 y15 y16 y17 y18 y19 y20 y21 y22) (laws_FnExactMirrorAxis.j0 (k + 1) y0 y1 y2 y3 y4 y5 y6 y7 y8 y9 y10 y11 y12 y13 y14 y15 y16 y17 y18 y19 y20 y21 y22)) ∧ (∀ y0 y1 y2 y3 y4 y5 y6 y7 y8 y9 y10 y11 y12 y13 y14 y15 y16, LeO (laws_FnExactMirrorAxis.j1 k y0 y1 y2 y3 y4 y5 y6 y7 y8 y9 y10 y11 y12 y13 y14 y15 y16) (laws_FnExactMirrorAxis.j1 (k + 1) y0 y1 y2 y3 y4 y5 y6 y7 y8 y9 y10 y11 y12 y13 y14 y15 y16)) ∧ (∀ y0 y1 y2 y3 y4 y5 y6, LeO (laws_FnExactMirrorAxis.j2 k y0 y1 y2 y3 y4 y5 y6) (laws_FnExactMirrorAxis.j2 (k + 1) y0 y1 y2 y3 y4 y5 y6))
 | 0 => ⟨fun _ _ _ _ _ _ _ _ _ _ _ _ _ _ _ _ _ _ _ _ _ _ _ r h => by simp [laws_FnExactMirrorAxis.j0] at h, fun _ _ _ _ _ _ _ _ _ _ _ _ _ _ _ _ _ r h => by simp [laws_FnExactMirrorAxis.j1] at h, fun _ _ _ _ _ _ _ r h => by simp [laws_FnExactMirrorAxis.j2] at h⟩
 | k + 1 => by
  obtain ⟨ih0, ih1, ih2⟩ := laws_FnExactMirrorAxis.mono_l k
  refine ⟨?_, ?_, ?_⟩
  ·intro y0 y1 y2 y3 y4 y5 y6 y7 y8 y9 y10 y11 y12 y13 y14 y15 y16 y17 y18 y19 y20 y21 y22
   unfold laws_FnExactMirrorAxis.j0
   repeat' first
   | (with_reducible exact ih0 _ _ _ _ _ _ _ _ _ _ _ _ _ _ _ _ _ _ _ _ _ _ _)
   | (with_reducible exact ih1 _ _ _ _ _ _ _ _ _ _ _ _ _ _ _ _ _)
   | (with_reducible exact ih2 _ _ _ _ _ _ _)
   | (with_reducible exact impl_MirrorAxis.mono _ _ _ _ _ _)
   | (with_reducible exact laws_eqAxis.mono _ _ _ _ _ _ _ _ _ _ _)
   | (with_reducible exact laws_heldAxis.mono _ _ _ _ _ _ _)
   | (with_reducible exact laws_markAxis.mono _ _ _ _ _ _ _)
   | (with_reducible exact laws_toAxis.mono _ _ _ _ _ _)
   | (with_reducible exact spec_MirrorAxis.mono _ _ _ _ _ _)
   | (with_reducible exact LeO.refl _)
   | (with_reducible exact LeO.none _)
   | (with_reducible refine LeO.ite ?_ ?_)
   | (with_reducible refine LeO.bind ?_ (fun _ => ?_))
   | exact ih0 _ _ _ _ _ _ _ _ _ _ _ _ _ _ _ _ _ _ _ _ _ _ _
   | exact ih1 _ _ _ _ _ _ _ _ _ _ _ _ _ _ _ _ _
   | exact ih2 _ _ _ _ _ _ _
   | exact impl_MirrorAxis.mono _ _ _ _ _ _
   | exact laws_eqAxis.mono _ _ _ _ _ _ _ _ _ _ _
   | exact laws_heldAxis.mono _ _ _ _ _ _ _
   | exact laws_markAxis.mono _ _ _ _ _ _ _
   | exact laws_toAxis.mono _ _ _ _ _ _
   | exact spec_MirrorAxis.mono _ _ _ _ _ _
   | exact LeO.none _
   | refine LeO.ite ?_ ?_
   | refine LeO.bind ?_ (fun _ => ?_)
  ·intro y0 y1 y2 y3 y4 y5 y6 y7 y8 y9 y10 y11 y12 y13 y14 y15 y16
   unfold laws_FnExactMirrorAxis.j1
   repeat' first
   | (with_reducible exact ih0 _ _ _ _ _ _ _ _ _ _ _ _ _ _ _ _ _ _ _ _ _ _ _)
   | (with_reducible exact ih1 _ _ _ _ _ _ _ _ _ _ _ _ _ _ _ _ _)
   | (with_reducible exact ih2 _ _ _ _ _ _ _)
   | (with_reducible exact impl_MirrorAxis.mono _ _ _ _ _ _)
   | (with_reducible exact laws_eqAxis.mono _ _ _ _ _ _ _ _ _ _ _)
   | (with_reducible exact laws_heldAxis.mono _ _ _ _ _ _ _)
   | (with_reducible exact laws_markAxis.mono _ _ _ _ _ _ _)
   | (with_reducible exact laws_toAxis.mono _ _ _ _ _ _)
   | (with_reducible exact spec_MirrorAxis.mono _ _ _ _ _ _)
   | (with_reducible exact LeO.refl _)
   | (with_reducible exact LeO.none _)
   | (with_reducible refine LeO.ite ?_ ?_)
   | (with_reducible refine LeO.bind ?_ (fun _ => ?_))
   | exact ih0 _ _ _ _ _ _ _ _ _ _ _ _ _ _ _ _ _ _ _ _ _ _ _
   | exact ih1 _ _ _ _ _ _ _ _ _ _ _ _ _ _ _ _ _
   | exact ih2 _ _ _ _ _ _ _
   | exact impl_MirrorAxis.mono _ _ _ _ _ _
   | exact laws_eqAxis.mono _ _ _ _ _ _ _ _ _ _ _
   | exact laws_heldAxis.mono _ _ _ _ _ _ _
   | exact laws_markAxis.mono _ _ _ _ _ _ _
   | exact laws_toAxis.mono _ _ _ _ _ _
   | exact spec_MirrorAxis.mono _ _ _ _ _ _
   | exact LeO.none _
   | refine LeO.ite ?_ ?_
   | refine LeO.bind ?_ (fun _ => ?_)
  ·intro y0 y1 y2 y3 y4 y5 y6
   unfold laws_FnExactMirrorAxis.j2
   repeat' first
   | (with_reducible exact ih0 _ _ _ _ _ _ _ _ _ _ _ _ _ _ _ _ _ _ _ _ _ _ _)
   | (with_reducible exact ih1 _ _ _ _ _ _ _ _ _ _ _ _ _ _ _ _ _)
   | (with_reducible exact ih2 _ _ _ _ _ _ _)
   | (with_reducible exact impl_MirrorAxis.mono _ _ _ _ _ _)
   | (with_reducible exact laws_eqAxis.mono _ _ _ _ _ _ _ _ _ _ _)
   | (with_reducible exact laws_heldAxis.mono _ _ _ _ _ _ _)
   | (with_reducible exact laws_markAxis.mono _ _ _ _ _ _ _)
   | (with_reducible exact laws_toAxis.mono _ _ _ _ _ _)
   | (with_reducible exact spec_MirrorAxis.mono _ _ _ _ _ _)
   | (with_reducible exact LeO.refl _)
   | (with_reducible exact LeO.none _)
   | (with_reducible refine LeO.ite ?_ ?_)
   | (with_reducible refine LeO.bind ?_ (fun _ => ?_))
   | exact ih0 _ _ _ _ _ _ _ _ _ _ _ _ _ _ _ _ _ _ _ _ _ _ _
   | exact ih1 _ _ _ _ _ _ _ _ _ _ _ _ _ _ _ _ _
   | exact ih2 _ _ _ _ _ _ _
   | exact impl_MirrorAxis.mono _ _ _ _ _ _
   | exact laws_eqAxis.mono _ _ _ _ _ _ _ _ _ _ _
   | exact laws_heldAxis.mono _ _ _ _ _ _ _
   | exact laws_markAxis.mono _ _ _ _ _ _ _
   | exact laws_toAxis.mono _ _ _ _ _ _
   | exact spec_MirrorAxis.mono _ _ _ _ _ _
   | exact LeO.none _
   | refine LeO.ite ?_ ?_
   | refine LeO.bind ?_ (fun _ => ?_)
theorem laws_FnExactMirrorAxis.mono : ∀ a0 a1 a2 a3 a4 k, LeO (laws_FnExactMirrorAxis.f k a0 a1 a2 a3 a4) (laws_FnExactMirrorAxis.f (k + 1) a0 a1 a2 a3 a4) := by
 intro a0 a1 a2 a3 a4 k
 obtain ⟨ih0, ih1, ih2⟩ := laws_FnExactMirrorAxis.mono_l k
 unfold laws_FnExactMirrorAxis.f
 repeat' first
   | (with_reducible exact ih0 _ _ _ _ _ _ _ _ _ _ _ _ _ _ _ _ _ _ _ _ _ _ _)
   | (with_reducible exact ih1 _ _ _ _ _ _ _ _ _ _ _ _ _ _ _ _ _)
   | (with_reducible exact ih2 _ _ _ _ _ _ _)
   | (with_reducible exact impl_MirrorAxis.mono _ _ _ _ _ _)
   | (with_reducible exact laws_eqAxis.mono _ _ _ _ _ _ _ _ _ _ _)
   | (with_reducible exact laws_heldAxis.mono _ _ _ _ _ _ _)
   | (with_reducible exact laws_markAxis.mono _ _ _ _ _ _ _)
   | (with_reducible exact laws_toAxis.mono _ _ _ _ _ _)
   | (with_reducible exact spec_MirrorAxis.mono _ _ _ _ _ _)
   | (with_reducible exact LeO.refl _)
   | (with_reducible exact LeO.none _)
   | (with_reducible refine LeO.ite ?_ ?_)
   | (with_reducible refine LeO.bind ?_ (fun _ => ?_))
   | exact ih0 _ _ _ _ _ _ _ _ _ _ _ _ _ _ _ _ _ _ _ _ _ _ _
   | exact ih1 _ _ _ _ _ _ _ _ _ _ _ _ _ _ _ _ _
   | exact ih2 _ _ _ _ _ _ _
   | exact impl_MirrorAxis.mono _ _ _ _ _ _
   | exact laws_eqAxis.mono _ _ _ _ _ _ _ _ _ _ _
   | exact laws_heldAxis.mono _ _ _ _ _ _ _
   | exact laws_markAxis.mono _ _ _ _ _ _ _
   | exact laws_toAxis.mono _ _ _ _ _ _
   | exact spec_MirrorAxis.mono _ _ _ _ _ _
   | exact LeO.none _
   | refine LeO.ite ?_ ?_
   | refine LeO.bind ?_ (fun _ => ?_)
set_option maxHeartbeats 8000000 in
set_option maxRecDepth 100000 in
theorem laws_FnExactMirrorAxis.calls (k : Nat) (a0_0 : Int) (a0_1 : Int) (a0_2 : Int) (a0_3 : Int) (A0_4 : Option Addr) (c0_4 : Nat) (l0_4 : List (S105)) (r : Bool) (w : World) (hr0_4 : Kd.C k105 w A0_4 l0_4.length l0_4) (hc0_4 : l0_4.length ≤ c0_4) (h : laws_FnExactMirrorAxis.f k a0_0 a0_1 a0_2 a0_3 l0_4 = some r) :
  Calls Try.prog 7 #[.agg #[.int .i64 a0_0, .int .i64 a0_1, .int .i64 a0_2, .int .i64 a0_3, .slice A0_4 l0_4.length c0_4]] w fun e w' => e = .returned (.bool r) ∧ Below w.heap.size w w' := by
 have hu26 := Try.underlying26
 have hu33 := Try.underlying33
 have HR0_4 := Aside0.mk hr0_4
 have HC0_4 := Aside0.mk hc0_4
 clear hr0_4 hc0_4
 have HB := Aside0.mk (Below.refl w.heap.size w)
 have H : ((laws_szAxis.f a0_0 a0_1 a0_2 a0_3 l0_4 1048576).bind fun t669 => (if t669 < 0 then (some true) else ((laws_toAxis.f k a0_0 a0_1 a0_2 a0_3 l0_4).bind fun bt670 => ((spec_MirrorAxis.f k bt670.1 bt670.2.1 bt670.2.2.1 bt670.2.2.2.1 bt670.2.2.2.2).bind fun bt677 => ((laws_toAxis.f k a0_0 a0_1 a0_2 a0_3 l0_4).bind fun bt686 => ((impl_MirrorAxis.f k bt686.1 bt686.2.1 bt686.2.2.1 bt686.2.2.2.1 bt686.2.2.2.2).bind fun bt694 => ((laws_eqAxis.f k bt694.1 bt694.2.1 bt694.2.2.1 bt694.2.2.2.1 bt694.2.2.2.2.1 bt677.1 bt677.2.1 bt677.2.2.1 bt677.2.2.2.1 bt677.2.2.2.2.1).bind fun t703 => (if t703 = true then (laws_FnExactMirrorAxis.j0 k bt677.2.2.2.2.2 bt694.2.2.2.2.2 (bt694.2.2.2.2.2 != bt677.2.2.2.2.2) a0_0 a0_1 a0_2 a0_3 l0_4 bt677.1 bt677.2.1 bt677.2.2.1 bt677.2.2.2.1 bt677.2.2.2.2.1 bt686.1 bt686.2.1 bt686.2.2.1 bt686.2.2.2.1 bt686.2.2.2.2 bt694.1 bt694.2.1 bt694.2.2.1 bt694.2.2.2.1 bt694.2.2.2.2.1) else (laws_FnExactMirrorAxis.j0 k bt677.2.2.2.2.2 bt694.2.2.2.2.2 true a0_0 a0_1 a0_2 a0_3 l0_4 bt677.1 bt677.2.1 bt677.2.2.1 bt677.2.2.2.1 bt677.2.2.2.2.1 bt686.1 bt686.2.1 bt686.2.2.1 bt686.2.2.2.1 bt686.2.2.2.2 bt694.1 bt694.2.1 bt694.2.2.1 bt694.2.2.2.1 bt694.2.2.2.2.1))))))))) = some r := h
 clear h
 replace H := Option.bind_eq_some_iff.mp H
 obtain ⟨t669, A20, H⟩ := H
 replace H : (if t669 < 0 then (some true) else ((laws_toAxis.f k a0_0 a0_1 a0_2 a0_3 l0_4).bind fun bt670 => ((spec_MirrorAxis.f k bt670.1 bt670.2.1 bt670.2.2.1 bt670.2.2.2.1 bt670.2.2.2.2).bind fun bt677 => ((laws_toAxis.f k a0_0 a0_1 a0_2 a0_3 l0_4).bind fun bt686 => ((impl_MirrorAxis.f k bt686.1 bt686.2.1 bt686.2.2.1 bt686.2.2.2.1 bt686.2.2.2.2).bind fun bt694 => ((laws_eqAxis.f k bt694.1 bt694.2.1 bt694.2.2.1 bt694.2.2.2.1 bt694.2.2.2.2.1 bt677.1 bt677.2.1 bt677.2.2.1 bt677.2.2.2.1 bt677.2.2.2.2.1).bind fun t703 => (if t703 = true then (laws_FnExactMirrorAxis.j0 k bt677.2.2.2.2.2 bt694.2.2.2.2.2 (bt694.2.2.2.2.2 != bt677.2.2.2.2.2) a0_0 a0_1 a0_2 a0_3 l0_4 bt677.1 bt677.2.1 bt677.2.2.1 bt677.2.2.2.1 bt677.2.2.2.2.1 bt686.1 bt686.2.1 bt686.2.2.1 bt686.2.2.2.1 bt686.2.2.2.2 bt694.1 bt694.2.1 bt694.2.2.1 bt694.2.2.2.1 bt694.2.2.2.2.1) else (laws_FnExactMirrorAxis.j0 k bt677.2.2.2.2.2 bt694.2.2.2.2.2 true a0_0 a0_1 a0_2 a0_3 l0_4 bt677.1 bt677.2.1 bt677.2.2.1 bt677.2.2.2.1 bt677.2.2.2.2.1 bt686.1 bt686.2.1 bt686.2.2.1 bt686.2.2.2.1 bt686.2.2.2.2 bt694.1 bt694.2.1 bt694.2.2.1 bt694.2.2.2.1 bt694.2.2.2.2.1)))))))) = some r := H
 have A2 := Aside0.mk A20
 clear A20
 by_cases c3 : t669 < 0
 ·rw [if_pos c3] at H
  have c3b0 : decide (t669 < 0) = true := decide_eq_true c3
  clear c3
  obtain rfl := Option.some.inj H
  go_enter Try.func7, Try.ntmps7
  go_wp2_with (first | ((with_reducible refine gate_dst (N := 1) rfl ?_); refine box_event ?hg (N := 1) ?hd (cs := #[.int .i64 a0_0, .int .i64 a0_1, .int .i64 a0_2, .int .i64 a0_3, .slice A0_4 l0_4.length c0_4]) (t := 26) ?hr ?_; (case hd => rfl); (case hg => rfl); (case hr => first | (go_simp; done) | (go_simp; rfl)); intro gb668 hg w4 hbox hb; have n0_ := Aside0.mk (below_step (by repeat (first | (with_reducible first | exact HB.out | apply below_alloc | apply pw_below_drewN | apply below_drew1) | exact HB.out)) hb); have n1_ := Aside0.mk (hbox); have n2_ := Aside0.mk ((by rw [hg]; exact (below_size (by repeat (first | (with_reducible first | exact HB.out | apply below_alloc | apply pw_below_drewN | apply below_drew1) | exact HB.out))) : w.heap.size ≤ gb668)); have n3_ := Aside0.mk ((by rw [hg]; exact (below_size (by repeat (first | (with_reducible first | exact HB.out | apply below_alloc | apply pw_below_drewN | apply below_drew1) | exact HB.out))) : w.heap.size ≤ gb668)); clear HB; have HB := n0_; have BK668 := n1_; have GW668 := n2_; have GE668 := n3_; clear n0_ n1_ n2_ n3_; clear hb hbox hg; have hcz5_0 : w4.cell? ⟨gb668, 0, none⟩ = some (.int .i64 a0_0) := (blk_cell BK668.out 0).trans rfl; have hcz5_1 : w4.cell? ⟨gb668, 1, none⟩ = some (.int .i64 a0_1) := (blk_cell BK668.out 1).trans rfl; have hcz5_2 : w4.cell? ⟨gb668, 2, none⟩ = some (.int .i64 a0_2) := (blk_cell BK668.out 2).trans rfl; have hcz5_3 : w4.cell? ⟨gb668, 3, none⟩ = some (.int .i64 a0_3) := (blk_cell BK668.out 3).trans rfl; have hcz5_4 : w4.cell? ⟨gb668, 4, none⟩ = some (.slice A0_4 l0_4.length c0_4) := (blk_cell BK668.out 4).trans rfl; have hfz5_0 := blk_frozen BK668.out 0; have hfz5_1 := blk_frozen BK668.out 1; have hfz5_2 := blk_frozen BK668.out 2; have hfz5_3 := blk_frozen BK668.out 3; have hfz5_4 := blk_frozen BK668.out 4) | ((with_reducible refine gate_callee (f := 15) rfl ?_); refine goesL_ (some 16) rfl rfl Try.func15 (by kernel_rfl) rfl #[.agg #[.int .i64 a0_0, .int .i64 a0_1, .int .i64 a0_2, .int .i64 a0_3, .slice A0_4 l0_4.length c0_4], .int .i64 1048576] rfl (by (try simp only [List.map_toArray, List.map_cons, List.map_nil]); first | done | rfl | (simp only [List.length_drop, List.length_take]; rfl)) ?_; (with_reducible refine (laws_szAxis.calls a0_0 a0_1 a0_2 a0_3 _ _ l0_4 1048576 t669 _ ?side1 ?side2 A2.out).mono ?_); (case side1 => repeat (first | exact (Kd.C_below HR0_4.out HB.out) | (with_reducible refine Kd.C_alloc ?_ _) | (with_reducible refine Kd.C_drewN ?_ _) | (with_reducible refine Kd.C_drew ?_))); (case side2 => exact HC0_4.out); rintro e w6 ⟨rfl, hb⟩; refine ⟨_, rfl, ?_⟩; have n0_ := Aside0.mk (blk_below (g := gb668) (o := .cells #[.int .i64 a0_0, .int .i64 a0_1, .int .i64 a0_2, .int .i64 a0_3, .slice A0_4 l0_4.length c0_4] 26 (0, 0)) (by (with_reducible repeat (first | refine blk_drewN ?_ _ | refine blk_drew ?_ | refine blk_alloc ?_ _)); exact BK668.out) hb); have n1_ := Aside0.mk (below_step (by repeat (first | (with_reducible first | exact HB.out | apply below_alloc | apply pw_below_drewN | apply below_drew1 | refine below_set ?_ GE668.out) | exact HB.out)) hb); clear BK668; clear HB; have BK668 := n0_; have HB := n1_; clear n0_ n1_; (try clear hb); (try clear hb2); (try clear hk); (try clear hi)))
  go_ret
  exact ⟨by first | rfl | (simp [errW_none, errW_some] <;> rfl) | (simp [*, errW_none, errW_some] <;> rfl), by repeat (first | (with_reducible first | exact HB.out | apply below_alloc | apply pw_below_drewN | apply below_drew1 | refine below_set ?_ GE668.out) | exact HB.out)⟩
 ·rw [if_neg c3] at H
  have c3b0 : decide (t669 < 0) = false := decide_eq_false c3
  clear c3
  replace H := Option.bind_eq_some_iff.mp H
  obtain ⟨⟨t670, t671, t672, t673, t674⟩, A70, H⟩ := H
  replace H : ((spec_MirrorAxis.f k t670 t671 t672 t673 t674).bind fun bt677 => ((laws_toAxis.f k a0_0 a0_1 a0_2 a0_3 l0_4).bind fun bt686 => ((impl_MirrorAxis.f k bt686.1 bt686.2.1 bt686.2.2.1 bt686.2.2.2.1 bt686.2.2.2.2).bind fun bt694 => ((laws_eqAxis.f k bt694.1 bt694.2.1 bt694.2.2.1 bt694.2.2.2.1 bt694.2.2.2.2.1 bt677.1 bt677.2.1 bt677.2.2.1 bt677.2.2.2.1 bt677.2.2.2.2.1).bind fun t703 => (if t703 = true then (laws_FnExactMirrorAxis.j0 k bt677.2.2.2.2.2 bt694.2.2.2.2.2 (bt694.2.2.2.2.2 != bt677.2.2.2.2.2) a0_0 a0_1 a0_2 a0_3 l0_4 bt677.1 bt677.2.1 bt677.2.2.1 bt677.2.2.2.1 bt677.2.2.2.2.1 bt686.1 bt686.2.1 bt686.2.2.1 bt686.2.2.2.1 bt686.2.2.2.2 bt694.1 bt694.2.1 bt694.2.2.1 bt694.2.2.2.1 bt694.2.2.2.2.1) else (laws_FnExactMirrorAxis.j0 k bt677.2.2.2.2.2 bt694.2.2.2.2.2 true a0_0 a0_1 a0_2 a0_3 l0_4 bt677.1 bt677.2.1 bt677.2.2.1 bt677.2.2.2.1 bt677.2.2.2.2.1 bt686.1 bt686.2.1 bt686.2.2.1 bt686.2.2.2.1 bt686.2.2.2.2 bt694.1 bt694.2.1 bt694.2.2.1 bt694.2.2.2.1 bt694.2.2.2.2.1)))))) = some r := H
  have A7 := Aside0.mk A70
  clear A70
  replace H := Option.bind_eq_some_iff.mp H
  obtain ⟨⟨t677, t678, t679, t680, t681, t684⟩, A80, H⟩ := H
  replace H : ((laws_toAxis.f k a0_0 a0_1 a0_2 a0_3 l0_4).bind fun bt686 => ((impl_MirrorAxis.f k bt686.1 bt686.2.1 bt686.2.2.1 bt686.2.2.2.1 bt686.2.2.2.2).bind fun bt694 => ((laws_eqAxis.f k bt694.1 bt694.2.1 bt694.2.2.1 bt694.2.2.2.1 bt694.2.2.2.2.1 t677 t678 t679 t680 t681).bind fun t703 => (if t703 = true then (laws_FnExactMirrorAxis.j0 k t684 bt694.2.2.2.2.2 (bt694.2.2.2.2.2 != t684) a0_0 a0_1 a0_2 a0_3 l0_4 t677 t678 t679 t680 t681 bt686.1 bt686.2.1 bt686.2.2.1 bt686.2.2.2.1 bt686.2.2.2.2 bt694.1 bt694.2.1 bt694.2.2.1 bt694.2.2.2.1 bt694.2.2.2.2.1) else (laws_FnExactMirrorAxis.j0 k t684 bt694.2.2.2.2.2 true a0_0 a0_1 a0_2 a0_3 l0_4 t677 t678 t679 t680 t681 bt686.1 bt686.2.1 bt686.2.2.1 bt686.2.2.2.1 bt686.2.2.2.2 bt694.1 bt694.2.1 bt694.2.2.1 bt694.2.2.2.1 bt694.2.2.2.2.1))))) = some r := H
  have A8 := Aside0.mk A80
  clear A80
  replace H := Option.bind_eq_some_iff.mp H
  obtain ⟨⟨t686, t687, t688, t689, t690⟩, A90, H⟩ := H
  replace H : ((impl_MirrorAxis.f k t686 t687 t688 t689 t690).bind fun bt694 => ((laws_eqAxis.f k bt694.1 bt694.2.1 bt694.2.2.1 bt694.2.2.2.1 bt694.2.2.2.2.1 t677 t678 t679 t680 t681).bind fun t703 => (if t703 = true then (laws_FnExactMirrorAxis.j0 k t684 bt694.2.2.2.2.2 (bt694.2.2.2.2.2 != t684) a0_0 a0_1 a0_2 a0_3 l0_4 t677 t678 t679 t680 t681 t686 t687 t688 t689 t690 bt694.1 bt694.2.1 bt694.2.2.1 bt694.2.2.2.1 bt694.2.2.2.2.1) else (laws_FnExactMirrorAxis.j0 k t684 bt694.2.2.2.2.2 true a0_0 a0_1 a0_2 a0_3 l0_4 t677 t678 t679 t680 t681 t686 t687 t688 t689 t690 bt694.1 bt694.2.1 bt694.2.2.1 bt694.2.2.2.1 bt694.2.2.2.2.1)))) = some r := H
  have A9 := Aside0.mk A90
  clear A90
  replace H := Option.bind_eq_some_iff.mp H
  obtain ⟨⟨t694, t695, t696, t697, t698, t701⟩, A100, H⟩ := H
  replace H : ((laws_eqAxis.f k t694 t695 t696 t697 t698 t677 t678 t679 t680 t681).bind fun t703 => (if t703 = true then (laws_FnExactMirrorAxis.j0 k t684 t701 (t701 != t684) a0_0 a0_1 a0_2 a0_3 l0_4 t677 t678 t679 t680 t681 t686 t687 t688 t689 t690 t694 t695 t696 t697 t698) else (laws_FnExactMirrorAxis.j0 k t684 t701 true a0_0 a0_1 a0_2 a0_3 l0_4 t677 t678 t679 t680 t681 t686 t687 t688 t689 t690 t694 t695 t696 t697 t698))) = some r := H
  have A10 := Aside0.mk A100
  clear A100
  have HC11 := Aside0.mk H
  clear H
  go_enter Try.func7, Try.ntmps7
  go_upto_region 8 with (first | ((with_reducible refine gate_dst (N := 1) rfl ?_); refine box_event ?hg (N := 1) ?hd (cs := #[.int .i64 a0_0, .int .i64 a0_1, .int .i64 a0_2, .int .i64 a0_3, .slice A0_4 l0_4.length c0_4]) (t := 26) ?hr ?_; (case hd => rfl); (case hg => rfl); (case hr => first | (go_simp; done) | (go_simp; rfl)); intro gb668 hg w12 hbox hb; have n0_ := Aside0.mk (below_step (by repeat (first | (with_reducible first | exact HB.out | apply below_alloc | apply pw_below_drewN | apply below_drew1) | exact HB.out)) hb); have n1_ := Aside0.mk (hbox); have n2_ := Aside0.mk ((by rw [hg]; exact (below_size (by repeat (first | (with_reducible first | exact HB.out | apply below_alloc | apply pw_below_drewN | apply below_drew1) | exact HB.out))) : w.heap.size ≤ gb668)); have n3_ := Aside0.mk ((by rw [hg]; exact (below_size (by repeat (first | (with_reducible first | exact HB.out | apply below_alloc | apply pw_below_drewN | apply below_drew1) | exact HB.out))) : w.heap.size ≤ gb668)); clear HB; have HB := n0_; have BK668 := n1_; have GW668 := n2_; have GE668 := n3_; clear n0_ n1_ n2_ n3_; clear hb hbox hg; have hcz13_0 : w12.cell? ⟨gb668, 0, none⟩ = some (.int .i64 a0_0) := (blk_cell BK668.out 0).trans rfl; have hcz13_1 : w12.cell? ⟨gb668, 1, none⟩ = some (.int .i64 a0_1) := (blk_cell BK668.out 1).trans rfl; have hcz13_2 : w12.cell? ⟨gb668, 2, none⟩ = some (.int .i64 a0_2) := (blk_cell BK668.out 2).trans rfl; have hcz13_3 : w12.cell? ⟨gb668, 3, none⟩ = some (.int .i64 a0_3) := (blk_cell BK668.out 3).trans rfl; have hcz13_4 : w12.cell? ⟨gb668, 4, none⟩ = some (.slice A0_4 l0_4.length c0_4) := (blk_cell BK668.out 4).trans rfl; have hfz13_0 := blk_frozen BK668.out 0; have hfz13_1 := blk_frozen BK668.out 1; have hfz13_2 := blk_frozen BK668.out 2; have hfz13_3 := blk_frozen BK668.out 3; have hfz13_4 := blk_frozen BK668.out 4) | ((with_reducible refine gate_callee (f := 15) rfl ?_); refine goesL_ (some 16) rfl rfl Try.func15 (by kernel_rfl) rfl #[.agg #[.int .i64 a0_0, .int .i64 a0_1, .int .i64 a0_2, .int .i64 a0_3, .slice A0_4 l0_4.length c0_4], .int .i64 1048576] rfl (by (try simp only [List.map_toArray, List.map_cons, List.map_nil]); first | done | rfl | (simp only [List.length_drop, List.length_take]; rfl)) ?_; (with_reducible refine (laws_szAxis.calls a0_0 a0_1 a0_2 a0_3 _ _ l0_4 1048576 t669 _ ?side1 ?side2 A2.out).mono ?_); (case side1 => repeat (first | exact (Kd.C_below HR0_4.out HB.out) | (with_reducible refine Kd.C_alloc ?_ _) | (with_reducible refine Kd.C_drewN ?_ _) | (with_reducible refine Kd.C_drew ?_))); (case side2 => exact HC0_4.out); rintro e w14 ⟨rfl, hb⟩; refine ⟨_, rfl, ?_⟩; have n0_ := Aside0.mk (blk_below (g := gb668) (o := .cells #[.int .i64 a0_0, .int .i64 a0_1, .int .i64 a0_2, .int .i64 a0_3, .slice A0_4 l0_4.length c0_4] 26 (0, 0)) (by (with_reducible repeat (first | refine blk_drewN ?_ _ | refine blk_drew ?_ | refine blk_alloc ?_ _)); exact BK668.out) hb); have n1_ := Aside0.mk (below_step (by repeat (first | (with_reducible first | exact HB.out | apply below_alloc | apply pw_below_drewN | apply below_drew1 | refine below_set ?_ GE668.out) | exact HB.out)) hb); clear BK668; clear HB; have BK668 := n0_; have HB := n1_; clear n0_ n1_; (try clear hb); (try clear hb2); (try clear hk); (try clear hi); have hcz15_0 : w14.cell? ⟨gb668, 0, none⟩ = some (.int .i64 a0_0) := (blk_cell BK668.out 0).trans rfl; have hcz15_1 : w14.cell? ⟨gb668, 1, none⟩ = some (.int .i64 a0_1) := (blk_cell BK668.out 1).trans rfl; have hcz15_2 : w14.cell? ⟨gb668, 2, none⟩ = some (.int .i64 a0_2) := (blk_cell BK668.out 2).trans rfl; have hcz15_3 : w14.cell? ⟨gb668, 3, none⟩ = some (.int .i64 a0_3) := (blk_cell BK668.out 3).trans rfl; have hcz15_4 : w14.cell? ⟨gb668, 4, none⟩ = some (.slice A0_4 l0_4.length c0_4) := (blk_cell BK668.out 4).trans rfl; have hfz15_0 := blk_frozen BK668.out 0; have hfz15_1 := blk_frozen BK668.out 1; have hfz15_2 := blk_frozen BK668.out 2; have hfz15_3 := blk_frozen BK668.out 3; have hfz15_4 := blk_frozen BK668.out 4) | ((with_reducible refine gate_callee (f := 17) rfl ?_); refine goesL_ (some 21) rfl rfl Try.func17 (by kernel_rfl) rfl #[.agg #[.int .i64 a0_0, .int .i64 a0_1, .int .i64 a0_2, .int .i64 a0_3, .slice A0_4 l0_4.length c0_4]] rfl (by (try simp only [List.map_toArray, List.map_cons, List.map_nil]); first | done | rfl | (simp only [List.length_drop, List.length_take]; rfl)) ?_; (with_reducible refine (laws_toAxis.calls k a0_0 a0_1 a0_2 a0_3 _ _ l0_4 t670 t671 t672 t673 t674 _ ?side1 ?side2 A7.out).mono ?_); (case side1 => repeat (first | exact (Kd.C_below HR0_4.out HB.out) | (with_reducible refine Kd.C_alloc ?_ _) | (with_reducible refine Kd.C_drewN ?_ _) | (with_reducible refine Kd.C_drew ?_))); (case side2 => exact HC0_4.out); rintro e w16 ⟨v675, rfl, ho0, hb⟩; refine ⟨_, rfl, ?_⟩; have n0_ := Aside0.mk (Kd.R_lower ho0 (below_size (by repeat (first | (with_reducible first | exact HB.out | apply below_alloc | apply pw_below_drewN | apply below_drew1 | refine below_set ?_ GE668.out) | exact HB.out)))); have n1_ := Aside0.mk (blk_below (g := gb668) (o := .cells #[.int .i64 a0_0, .int .i64 a0_1, .int .i64 a0_2, .int .i64 a0_3, .slice A0_4 l0_4.length c0_4] 26 (0, 0)) (by (with_reducible repeat (first | refine blk_drewN ?_ _ | refine blk_drew ?_ | refine blk_alloc ?_ _)); exact BK668.out) hb); have n2_ := Aside0.mk (below_step (by repeat (first | (with_reducible first | exact HB.out | apply below_alloc | apply pw_below_drewN | apply below_drew1 | refine below_set ?_ GE668.out) | exact HB.out)) hb); clear BK668; clear HB; have HO676 := n0_; have BK668 := n1_; have HB := n2_; clear n0_ n1_ n2_; (try clear hb); (try clear hb2); (try clear hk); (try clear hi); (try clear ho0); obtain ⟨Ao17, co17, eo17⟩ := Kd.R_slice HO676.out; subst eo17) | ((with_reducible refine gate_callee (f := 35) rfl ?_); refine goesL_ (some 22) rfl rfl Try.func35 (by kernel_rfl) rfl #[.agg #[.int .i64 t670, .int .i64 t671, .int .i64 t672, .int .i64 t673, .slice Ao17 t674.length co17]] rfl (by (try simp only [List.map_toArray, List.map_cons, List.map_nil]); first | done | rfl | (simp only [List.length_drop, List.length_take]; rfl)) ?_; (with_reducible refine (spec_MirrorAxis.calls k t670 t671 t672 t673 _ _ t674 t677 t678 t679 t680 t681 t684 _ ?side1 ?side2 A8.out).mono ?_); (case side1 => repeat (first | exact (Kd.R_reads' HO676.out).2.2 | (with_reducible refine Kd.C_alloc ?_ _) | (with_reducible refine Kd.C_drewN ?_ _) | (with_reducible refine Kd.C_drew ?_))); (case side2 => exact (Kd.R_reads' HO676.out).2.1); rintro e w18 ⟨v682, rfl, ho0, hb⟩; refine ⟨_, rfl, ?_⟩; have n0_ := Aside0.mk (Kd.R_elder' (by (with_reducible repeat (first | apply Kd.R_alloc | apply Kd.R_drewN | apply Kd.R_drew)); exact HO676.out) (Kd.R_base ho0) hb); have n1_ := Aside0.mk (Kd.R_lower (Kd.R_new' ho0 (Kd.R_lt (by (with_reducible repeat (first | apply Kd.R_alloc | apply Kd.R_drewN | apply Kd.R_drew)); exact HO676.out))) (below_size (by repeat (first | (with_reducible first | exact HB.out | apply below_alloc | apply pw_below_drewN | apply below_drew1 | refine below_set ?_ GE668.out) | exact HB.out)))); have n2_ := Aside0.mk (blk_below (g := gb668) (o := .cells #[.int .i64 a0_0, .int .i64 a0_1, .int .i64 a0_2, .int .i64 a0_3, .slice A0_4 l0_4.length c0_4] 26 (0, 0)) (by (with_reducible repeat (first | refine blk_drewN ?_ _ | refine blk_drew ?_ | refine blk_alloc ?_ _)); exact BK668.out) hb); have n3_ := Aside0.mk (below_step (by repeat (first | (with_reducible first | exact HB.out | apply below_alloc | apply pw_below_drewN | apply below_drew1 | refine below_set ?_ GE668.out) | exact HB.out)) hb); clear HO676; clear BK668; clear HB; have HO676 := n0_; have HO683 := n1_; have BK668 := n2_; have HB := n3_; clear n0_ n1_ n2_ n3_; (try clear hb); (try clear hb2); (try clear hk); (try clear hi); (try clear ho0)) | ((with_reducible refine gate_dst (N := 4) rfl ?_); refine box_event ?hg (N := 4) ?hd (cs := #[.int .i64 0, .int .i64 0, .int .i64 0, .int .i64 0, .slice none 0 0]) (t := 33) ?hr ?_; (case hd => rfl); (case hg => rfl); (case hr => first | (go_simp; done) | (go_simp; rfl)); intro gb685 hg w19 hbox hb; have n0_ := Aside0.mk (Kd.R_below (by (with_reducible repeat (first | apply Kd.R_alloc | apply Kd.R_drewN | apply Kd.R_drew)); exact HO676.out) hb); have n1_ := Aside0.mk (Kd.R_below (by (with_reducible repeat (first | apply Kd.R_alloc | apply Kd.R_drewN | apply Kd.R_drew)); exact HO683.out) hb); have n2_ := Aside0.mk (blk_below (g := gb668) (o := .cells #[.int .i64 a0_0, .int .i64 a0_1, .int .i64 a0_2, .int .i64 a0_3, .slice A0_4 l0_4.length c0_4] 26 (0, 0)) (by (with_reducible repeat (first | refine blk_drewN ?_ _ | refine blk_drew ?_ | refine blk_alloc ?_ _)); exact BK668.out) hb); have n3_ := Aside0.mk (below_step (by repeat (first | (with_reducible first | exact HB.out | apply below_alloc | apply pw_below_drewN | apply below_drew1 | refine below_set ?_ GE668.out) | exact HB.out)) hb); have n4_ := Aside0.mk (hbox); have n5_ := Aside0.mk ((by rw [hg]; exact (below_size (by repeat (first | (with_reducible first | exact HB.out | apply below_alloc | apply pw_below_drewN | apply below_drew1 | refine below_set ?_ GE668.out) | exact HB.out))) : w.heap.size ≤ gb685)); have n6_ := Aside0.mk ((by rw [hg]; exact (below_size (by repeat (first | (with_reducible first | exact HB.out | apply below_alloc | apply pw_below_drewN | apply below_drew1 | refine below_set ?_ GE668.out) | exact HB.out))) : w.heap.size ≤ gb685)); have n7_ := Aside0.mk ((by rw [hg]; exact Nat.ne_of_lt (blk_lt (g := gb668) (o := .cells #[.int .i64 a0_0, .int .i64 a0_1, .int .i64 a0_2, .int .i64 a0_3, .slice A0_4 l0_4.length c0_4] 26 (0, 0)) (by (with_reducible repeat (first | refine blk_drewN ?_ _ | refine blk_drew ?_ | refine blk_alloc ?_ _)); exact BK668.out)) : gb668 ≠ gb685)); have n8_ := Aside0.mk ((by rw [hg]; exact Nat.ne_of_gt (blk_lt (g := gb668) (o := .cells #[.int .i64 a0_0, .int .i64 a0_1, .int .i64 a0_2, .int .i64 a0_3, .slice A0_4 l0_4.length c0_4] 26 (0, 0)) (by (with_reducible repeat (first | refine blk_drewN ?_ _ | refine blk_drew ?_ | refine blk_alloc ?_ _)); exact BK668.out)) : gb685 ≠ gb668)); clear HO676; clear HO683; clear BK668; clear HB; have HO676 := n0_; have HO683 := n1_; have BK668 := n2_; have HB := n3_; have BK685 := n4_; have GW685 := n5_; have GE685 := n6_; have NB668_685 := n7_; have NB685_668 := n8_; clear n0_ n1_ n2_ n3_ n4_ n5_ n6_ n7_ n8_; clear hb hbox hg; have hnb20 := NB685_668.out; have hnc20 := NB668_685.out; have hcz21_0 : w19.cell? ⟨gb685, 0, none⟩ = some (.int .i64 0) := (blk_cell BK685.out 0).trans rfl; have hcz21_1 : w19.cell? ⟨gb685, 1, none⟩ = some (.int .i64 0) := (blk_cell BK685.out 1).trans rfl; have hcz21_2 : w19.cell? ⟨gb685, 2, none⟩ = some (.int .i64 0) := (blk_cell BK685.out 2).trans rfl; have hcz21_3 : w19.cell? ⟨gb685, 3, none⟩ = some (.int .i64 0) := (blk_cell BK685.out 3).trans rfl; have hcz21_4 : w19.cell? ⟨gb685, 4, none⟩ = some (.slice none 0 0) := (blk_cell BK685.out 4).trans rfl; have hfz21_0 := blk_frozen BK685.out 0; have hfz21_1 := blk_frozen BK685.out 1; have hfz21_2 := blk_frozen BK685.out 2; have hfz21_3 := blk_frozen BK685.out 3; have hfz21_4 := blk_frozen BK685.out 4; obtain ⟨Ao22, co22, eo22⟩ := Kd.R_slice HO683.out; subst eo22; have hcz23_0 : w19.cell? ⟨gb668, 0, none⟩ = some (.int .i64 a0_0) := (blk_cell BK668.out 0).trans rfl; have hcz23_1 : w19.cell? ⟨gb668, 1, none⟩ = some (.int .i64 a0_1) := (blk_cell BK668.out 1).trans rfl; have hcz23_2 : w19.cell? ⟨gb668, 2, none⟩ = some (.int .i64 a0_2) := (blk_cell BK668.out 2).trans rfl; have hcz23_3 : w19.cell? ⟨gb668, 3, none⟩ = some (.int .i64 a0_3) := (blk_cell BK668.out 3).trans rfl; have hcz23_4 : w19.cell? ⟨gb668, 4, none⟩ = some (.slice A0_4 l0_4.length c0_4) := (blk_cell BK668.out 4).trans rfl; have hfz23_0 := blk_frozen BK668.out 0; have hfz23_1 := blk_frozen BK668.out 1; have hfz23_2 := blk_frozen BK668.out 2; have hfz23_3 := blk_frozen BK668.out 3; have hfz23_4 := blk_frozen BK668.out 4) | ((with_reducible refine gate_callee (f := 17) rfl ?_); refine goesL_ (some 26) rfl rfl Try.func17 (by kernel_rfl) rfl #[.agg #[.int .i64 a0_0, .int .i64 a0_1, .int .i64 a0_2, .int .i64 a0_3, .slice A0_4 l0_4.length c0_4]] rfl (by (try simp only [List.map_toArray, List.map_cons, List.map_nil]); first | done | rfl | (simp only [List.length_drop, List.length_take]; rfl)) ?_; (with_reducible refine (laws_toAxis.calls k a0_0 a0_1 a0_2 a0_3 _ _ l0_4 t686 t687 t688 t689 t690 _ ?side1 ?side2 A9.out).mono ?_); (case side1 => exact Kd.C_below HR0_4.out (by repeat (first | (with_reducible first | exact HB.out | apply below_alloc | apply pw_below_drewN | apply below_drew1 | refine below_set ?_ GE668.out | refine below_set ?_ GE685.out) | exact HB.out))); (case side2 => exact HC0_4.out); rintro e w24 ⟨v691, rfl, ho0, hb⟩; refine ⟨_, rfl, ?_⟩; have n0_ := Aside0.mk (Kd.R_elder' (by (with_reducible repeat (first | apply Kd.R_alloc | apply Kd.R_drewN | apply Kd.R_drew)); exact (Kd.R_mono (Kd.R_far (p := ⟨gb685, 4, none⟩) (Kd.R_far (p := ⟨gb685, 3, none⟩) (Kd.R_far (p := ⟨gb685, 2, none⟩) (Kd.R_far (p := ⟨gb685, 1, none⟩) (Kd.R_far (p := ⟨gb685, 0, none⟩) (Kd.R_types HO676.out BK685.out (by decide)) (fun _ hk => hk.2) (.int .i64 t677)) (fun _ hk => hk.2) (.int .i64 t678)) (fun _ hk => hk.2) (.int .i64 t679)) (fun _ hk => hk.2) (.int .i64 t680)) (fun _ hk => hk.2) (.slice Ao22 t681.length co22)) (fun _ h_ => h_.1))) (Kd.R_base ho0) hb); have n1_ := Aside0.mk (Kd.R_elder' (by (with_reducible repeat (first | apply Kd.R_alloc | apply Kd.R_drewN | apply Kd.R_drew)); exact (Kd.R_mono (Kd.R_far (p := ⟨gb685, 4, none⟩) (Kd.R_far (p := ⟨gb685, 3, none⟩) (Kd.R_far (p := ⟨gb685, 2, none⟩) (Kd.R_far (p := ⟨gb685, 1, none⟩) (Kd.R_far (p := ⟨gb685, 0, none⟩) (Kd.R_types HO683.out BK685.out (by decide)) (fun _ hk => hk.2) (.int .i64 t677)) (fun _ hk => hk.2) (.int .i64 t678)) (fun _ hk => hk.2) (.int .i64 t679)) (fun _ hk => hk.2) (.int .i64 t680)) (fun _ hk => hk.2) (.slice Ao22 t681.length co22)) (fun _ h_ => h_.1))) (Kd.R_base ho0) hb); have n2_ := Aside0.mk (Kd.R_lower (Kd.R_new' (Kd.R_new' ho0 (Kd.R_lt (by (with_reducible repeat (first | apply Kd.R_alloc | apply Kd.R_drewN | apply Kd.R_drew)); exact (Kd.R_mono (Kd.R_far (p := ⟨gb685, 4, none⟩) (Kd.R_far (p := ⟨gb685, 3, none⟩) (Kd.R_far (p := ⟨gb685, 2, none⟩) (Kd.R_far (p := ⟨gb685, 1, none⟩) (Kd.R_far (p := ⟨gb685, 0, none⟩) (Kd.R_types HO676.out BK685.out (by decide)) (fun _ hk => hk.2) (.int .i64 t677)) (fun _ hk => hk.2) (.int .i64 t678)) (fun _ hk => hk.2) (.int .i64 t679)) (fun _ hk => hk.2) (.int .i64 t680)) (fun _ hk => hk.2) (.slice Ao22 t681.length co22)) (fun _ h_ => h_.1))))) (Kd.R_lt (by (with_reducible repeat (first | apply Kd.R_alloc | apply Kd.R_drewN | apply Kd.R_drew)); exact (Kd.R_mono (Kd.R_far (p := ⟨gb685, 4, none⟩) (Kd.R_far (p := ⟨gb685, 3, none⟩) (Kd.R_far (p := ⟨gb685, 2, none⟩) (Kd.R_far (p := ⟨gb685, 1, none⟩) (Kd.R_far (p := ⟨gb685, 0, none⟩) (Kd.R_types HO683.out BK685.out (by decide)) (fun _ hk => hk.2) (.int .i64 t677)) (fun _ hk => hk.2) (.int .i64 t678)) (fun _ hk => hk.2) (.int .i64 t679)) (fun _ hk => hk.2) (.int .i64 t680)) (fun _ hk => hk.2) (.slice Ao22 t681.length co22)) (fun _ h_ => h_.1))))) (below_size (by repeat (first | (with_reducible first | exact HB.out | apply below_alloc | apply pw_below_drewN | apply below_drew1 | refine below_set ?_ GE668.out | refine below_set ?_ GE685.out) | exact HB.out)))); have n3_ := Aside0.mk (blk_below (g := gb668) (o := .cells #[.int .i64 a0_0, .int .i64 a0_1, .int .i64 a0_2, .int .i64 a0_3, .slice A0_4 l0_4.length c0_4] 26 (0, 0)) (by (with_reducible repeat (first | refine blk_drewN ?_ _ | refine blk_drew ?_ | refine blk_alloc ?_ _)); refine blk_far ?_ NB668_685.out _; (with_reducible repeat (first | refine blk_drewN ?_ _ | refine blk_drew ?_ | refine blk_alloc ?_ _)); refine blk_far ?_ NB668_685.out _; (with_reducible repeat (first | refine blk_drewN ?_ _ | refine blk_drew ?_ | refine blk_alloc ?_ _)); refine blk_far ?_ NB668_685.out _; (with_reducible repeat (first | refine blk_drewN ?_ _ | refine blk_drew ?_ | refine blk_alloc ?_ _)); refine blk_far ?_ NB668_685.out _; (with_reducible repeat (first | refine blk_drewN ?_ _ | refine blk_drew ?_ | refine blk_alloc ?_ _)); refine blk_far ?_ NB668_685.out _; (with_reducible repeat (first | refine blk_drewN ?_ _ | refine blk_drew ?_ | refine blk_alloc ?_ _)); exact BK668.out) hb); have n4_ := Aside0.mk (blk_below (g := gb685) (o := .cells #[.int .i64 t677, .int .i64 t678, .int .i64 t679, .int .i64 t680, .slice Ao22 t681.length co22] 33 (0, 0)) (by (with_reducible repeat (first | refine blk_drewN ?_ _ | refine blk_drew ?_ | refine blk_alloc ?_ _)); refine blk_put (cs := #[.int .i64 t677, .int .i64 t678, .int .i64 t679, .int .i64 t680, .slice none 0 0]) ?_ 4 _ rfl; (with_reducible repeat (first | refine blk_drewN ?_ _ | refine blk_drew ?_ | refine blk_alloc ?_ _)); refine blk_put (cs := #[.int .i64 t677, .int .i64 t678, .int .i64 t679, .int .i64 0, .slice none 0 0]) ?_ 3 _ rfl; (with_reducible repeat (first | refine blk_drewN ?_ _ | refine blk_drew ?_ | refine blk_alloc ?_ _)); refine blk_put (cs := #[.int .i64 t677, .int .i64 t678, .int .i64 0, .int .i64 0, .slice none 0 0]) ?_ 2 _ rfl; (with_reducible repeat (first | refine blk_drewN ?_ _ | refine blk_drew ?_ | refine blk_alloc ?_ _)); refine blk_put (cs := #[.int .i64 t677, .int .i64 0, .int .i64 0, .int .i64 0, .slice none 0 0]) ?_ 1 _ rfl; (with_reducible repeat (first | refine blk_drewN ?_ _ | refine blk_drew ?_ | refine blk_alloc ?_ _)); refine blk_put (cs := #[.int .i64 0, .int .i64 0, .int .i64 0, .int .i64 0, .slice none 0 0]) ?_ 0 _ rfl; (with_reducible repeat (first | refine blk_drewN ?_ _ | refine blk_drew ?_ | refine blk_alloc ?_ _)); exact BK685.out) hb); have n5_ := Aside0.mk (below_step (by repeat (first | (with_reducible first | exact HB.out | apply below_alloc | apply pw_below_drewN | apply below_drew1 | refine below_set ?_ GE668.out | refine below_set ?_ GE685.out) | exact HB.out)) hb); clear HO676; clear HO683; clear BK668; clear BK685; clear HB; have HO676 := n0_; have HO683 := n1_; have HO692 := n2_; have BK668 := n3_; have BK685 := n4_; have HB := n5_; clear n0_ n1_ n2_ n3_ n4_ n5_; (try clear hb); (try clear hb2); (try clear hk); (try clear hi); (try clear ho0)) | ((with_reducible refine gate_dst (N := 6) rfl ?_); refine box_event ?hg (N := 6) ?hd (cs := #[.int .i64 0, .int .i64 0, .int .i64 0, .int .i64 0, .slice none 0 0]) (t := 33) ?hr ?_; (case hd => rfl); (case hg => rfl); (case hr => first | (go_simp; done) | (go_simp; rfl)); intro gb693 hg w25 hbox hb; have n0_ := Aside0.mk (Kd.R_below (by (with_reducible repeat (first | apply Kd.R_alloc | apply Kd.R_drewN | apply Kd.R_drew)); exact HO676.out) hb); have n1_ := Aside0.mk (Kd.R_below (by (with_reducible repeat (first | apply Kd.R_alloc | apply Kd.R_drewN | apply Kd.R_drew)); exact HO683.out) hb); have n2_ := Aside0.mk (Kd.R_below (by (with_reducible repeat (first | apply Kd.R_alloc | apply Kd.R_drewN | apply Kd.R_drew)); exact HO692.out) hb); have n3_ := Aside0.mk (blk_below (g := gb668) (o := .cells #[.int .i64 a0_0, .int .i64 a0_1, .int .i64 a0_2, .int .i64 a0_3, .slice A0_4 l0_4.length c0_4] 26 (0, 0)) (by (with_reducible repeat (first | refine blk_drewN ?_ _ | refine blk_drew ?_ | refine blk_alloc ?_ _)); exact BK668.out) hb); have n4_ := Aside0.mk (blk_below (g := gb685) (o := .cells #[.int .i64 t677, .int .i64 t678, .int .i64 t679, .int .i64 t680, .slice Ao22 t681.length co22] 33 (0, 0)) (by (with_reducible repeat (first | refine blk_drewN ?_ _ | refine blk_drew ?_ | refine blk_alloc ?_ _)); exact BK685.out) hb); have n5_ := Aside0.mk (below_step (by repeat (first | (with_reducible first | exact HB.out | apply below_alloc | apply pw_below_drewN | apply below_drew1 | refine below_set ?_ GE668.out | refine below_set ?_ GE685.out) | exact HB.out)) hb); have n6_ := Aside0.mk (hbox); have n7_ := Aside0.mk ((by rw [hg]; exact (below_size (by repeat (first | (with_reducible first | exact HB.out | apply below_alloc | apply pw_below_drewN | apply below_drew1 | refine below_set ?_ GE668.out | refine below_set ?_ GE685.out) | exact HB.out))) : w.heap.size ≤ gb693)); have n8_ := Aside0.mk ((by rw [hg]; exact (below_size (by repeat (first | (with_reducible first | exact HB.out | apply below_alloc | apply pw_below_drewN | apply below_drew1 | refine below_set ?_ GE668.out | refine below_set ?_ GE685.out) | exact HB.out))) : w.heap.size ≤ gb693)); have n9_ := Aside0.mk ((by rw [hg]; exact Nat.ne_of_lt (blk_lt (g := gb668) (o := .cells #[.int .i64 a0_0, .int .i64 a0_1, .int .i64 a0_2, .int .i64 a0_3, .slice A0_4 l0_4.length c0_4] 26 (0, 0)) (by (with_reducible repeat (first | refine blk_drewN ?_ _ | refine blk_drew ?_ | refine blk_alloc ?_ _)); exact BK668.out)) : gb668 ≠ gb693)); have n10_ := Aside0.mk ((by rw [hg]; exact Nat.ne_of_gt (blk_lt (g := gb668) (o := .cells #[.int .i64 a0_0, .int .i64 a0_1, .int .i64 a0_2, .int .i64 a0_3, .slice A0_4 l0_4.length c0_4] 26 (0, 0)) (by (with_reducible repeat (first | refine blk_drewN ?_ _ | refine blk_drew ?_ | refine blk_alloc ?_ _)); exact BK668.out)) : gb693 ≠ gb668)); have n11_ := Aside0.mk ((by rw [hg]; exact Nat.ne_of_lt (blk_lt (g := gb685) (o := .cells #[.int .i64 t677, .int .i64 t678, .int .i64 t679, .int .i64 t680, .slice Ao22 t681.length co22] 33 (0, 0)) (by (with_reducible repeat (first | refine blk_drewN ?_ _ | refine blk_drew ?_ | refine blk_alloc ?_ _)); exact BK685.out)) : gb685 ≠ gb693)); have n12_ := Aside0.mk ((by rw [hg]; exact Nat.ne_of_gt (blk_lt (g := gb685) (o := .cells #[.int .i64 t677, .int .i64 t678, .int .i64 t679, .int .i64 t680, .slice Ao22 t681.length co22] 33 (0, 0)) (by (with_reducible repeat (first | refine blk_drewN ?_ _ | refine blk_drew ?_ | refine blk_alloc ?_ _)); exact BK685.out)) : gb693 ≠ gb685)); clear HO676; clear HO683; clear HO692; clear BK668; clear BK685; clear HB; have HO676 := n0_; have HO683 := n1_; have HO692 := n2_; have BK668 := n3_; have BK685 := n4_; have HB := n5_; have BK693 := n6_; have GW693 := n7_; have GE693 := n8_; have NB668_693 := n9_; have NB693_668 := n10_; have NB685_693 := n11_; have NB693_685 := n12_; clear n0_ n1_ n2_ n3_ n4_ n5_ n6_ n7_ n8_ n9_ n10_ n11_ n12_; clear hb hbox hg; have hnb26 := NB693_668.out; have hnc26 := NB668_693.out; have hnb27 := NB693_685.out; have hnc27 := NB685_693.out; have hcz28_0 : w25.cell? ⟨gb693, 0, none⟩ = some (.int .i64 0) := (blk_cell BK693.out 0).trans rfl; have hcz28_1 : w25.cell? ⟨gb693, 1, none⟩ = some (.int .i64 0) := (blk_cell BK693.out 1).trans rfl; have hcz28_2 : w25.cell? ⟨gb693, 2, none⟩ = some (.int .i64 0) := (blk_cell BK693.out 2).trans rfl; have hcz28_3 : w25.cell? ⟨gb693, 3, none⟩ = some (.int .i64 0) := (blk_cell BK693.out 3).trans rfl; have hcz28_4 : w25.cell? ⟨gb693, 4, none⟩ = some (.slice none 0 0) := (blk_cell BK693.out 4).trans rfl; have hfz28_0 := blk_frozen BK693.out 0; have hfz28_1 := blk_frozen BK693.out 1; have hfz28_2 := blk_frozen BK693.out 2; have hfz28_3 := blk_frozen BK693.out 3; have hfz28_4 := blk_frozen BK693.out 4; obtain ⟨Ao29, co29, eo29⟩ := Kd.R_slice HO692.out; subst eo29) | ((with_reducible refine gate_callee (f := 33) rfl ?_); refine goesL_ (some 29) rfl rfl Try.func33 (by kernel_rfl) rfl #[.agg #[.int .i64 t686, .int .i64 t687, .int .i64 t688, .int .i64 t689, .slice Ao29 t690.length co29]] rfl (by (try simp only [List.map_toArray, List.map_cons, List.map_nil]); first | done | rfl | (simp only [List.length_drop, List.length_take]; rfl)) ?_; (with_reducible refine (impl_MirrorAxis.calls k t686 t687 t688 t689 _ _ t690 t694 t695 t696 t697 t698 t701 _ ?side1 ?side2 A10.out).mono ?_); (case side1 => refine (Kd.R_reads' (e := 69) (base := w.heap.size) (ok := fun k_ => ((True ∧ some k_ ≠ (.slice Ao17 t674.length co17 : Value).ownBlock) ∧ some k_ ≠ (.slice Ao22 t681.length co22 : Value).ownBlock)) (n := t690.length) (c := co29) ?_).2.2; exact (by (with_reducible repeat (first | apply Kd.R_alloc | apply Kd.R_drewN | apply Kd.R_drew)); exact (Kd.R_mono (Kd.R_far (p := ⟨gb693, 4, none⟩) (Kd.R_far (p := ⟨gb693, 3, none⟩) (Kd.R_far (p := ⟨gb693, 2, none⟩) (Kd.R_far (p := ⟨gb693, 1, none⟩) (Kd.R_far (p := ⟨gb693, 0, none⟩) (Kd.R_types HO692.out BK693.out (by decide)) (fun _ hk => hk.2) (.int .i64 t686)) (fun _ hk => hk.2) (.int .i64 t687)) (fun _ hk => hk.2) (.int .i64 t688)) (fun _ hk => hk.2) (.int .i64 t689)) (fun _ hk => hk.2) (.slice Ao29 t690.length co29)) (fun _ h_ => h_.1)))); (case side2 => exact (Kd.R_reads' HO692.out).2.1); rintro e w30 ⟨v699, rfl, ho0, hb⟩; refine ⟨_, rfl, ?_⟩; have n0_ := Aside0.mk (Kd.R_elder' (by (with_reducible repeat (first | apply Kd.R_alloc | apply Kd.R_drewN | apply Kd.R_drew)); exact (Kd.R_mono (Kd.R_far (p := ⟨gb693, 4, none⟩) (Kd.R_far (p := ⟨gb693, 3, none⟩) (Kd.R_far (p := ⟨gb693, 2, none⟩) (Kd.R_far (p := ⟨gb693, 1, none⟩) (Kd.R_far (p := ⟨gb693, 0, none⟩) (Kd.R_types HO676.out BK693.out (by decide)) (fun _ hk => hk.2) (.int .i64 t686)) (fun _ hk => hk.2) (.int .i64 t687)) (fun _ hk => hk.2) (.int .i64 t688)) (fun _ hk => hk.2) (.int .i64 t689)) (fun _ hk => hk.2) (.slice Ao29 t690.length co29)) (fun _ h_ => h_.1))) (Kd.R_base ho0) hb); have n1_ := Aside0.mk (Kd.R_elder' (by (with_reducible repeat (first | apply Kd.R_alloc | apply Kd.R_drewN | apply Kd.R_drew)); exact (Kd.R_mono (Kd.R_far (p := ⟨gb693, 4, none⟩) (Kd.R_far (p := ⟨gb693, 3, none⟩) (Kd.R_far (p := ⟨gb693, 2, none⟩) (Kd.R_far (p := ⟨gb693, 1, none⟩) (Kd.R_far (p := ⟨gb693, 0, none⟩) (Kd.R_types HO683.out BK693.out (by decide)) (fun _ hk => hk.2) (.int .i64 t686)) (fun _ hk => hk.2) (.int .i64 t687)) (fun _ hk => hk.2) (.int .i64 t688)) (fun _ hk => hk.2) (.int .i64 t689)) (fun _ hk => hk.2) (.slice Ao29 t690.length co29)) (fun _ h_ => h_.1))) (Kd.R_base ho0) hb); have n2_ := Aside0.mk (Kd.R_elder' (by (with_reducible repeat (first | apply Kd.R_alloc | apply Kd.R_drewN | apply Kd.R_drew)); exact (Kd.R_mono (Kd.R_far (p := ⟨gb693, 4, none⟩) (Kd.R_far (p := ⟨gb693, 3, none⟩) (Kd.R_far (p := ⟨gb693, 2, none⟩) (Kd.R_far (p := ⟨gb693, 1, none⟩) (Kd.R_far (p := ⟨gb693, 0, none⟩) (Kd.R_types HO692.out BK693.out (by decide)) (fun _ hk => hk.2) (.int .i64 t686)) (fun _ hk => hk.2) (.int .i64 t687)) (fun _ hk => hk.2) (.int .i64 t688)) (fun _ hk => hk.2) (.int .i64 t689)) (fun _ hk => hk.2) (.slice Ao29 t690.length co29)) (fun _ h_ => h_.1))) (Kd.R_base ho0) hb); have n3_ := Aside0.mk (Kd.R_lower (Kd.R_new' (Kd.R_new' (Kd.R_new' ho0 (Kd.R_lt (by (with_reducible repeat (first | apply Kd.R_alloc | apply Kd.R_drewN | apply Kd.R_drew)); exact (Kd.R_mono (Kd.R_far (p := ⟨gb693, 4, none⟩) (Kd.R_far (p := ⟨gb693, 3, none⟩) (Kd.R_far (p := ⟨gb693, 2, none⟩) (Kd.R_far (p := ⟨gb693, 1, none⟩) (Kd.R_far (p := ⟨gb693, 0, none⟩) (Kd.R_types HO676.out BK693.out (by decide)) (fun _ hk => hk.2) (.int .i64 t686)) (fun _ hk => hk.2) (.int .i64 t687)) (fun _ hk => hk.2) (.int .i64 t688)) (fun _ hk => hk.2) (.int .i64 t689)) (fun _ hk => hk.2) (.slice Ao29 t690.length co29)) (fun _ h_ => h_.1))))) (Kd.R_lt (by (with_reducible repeat (first | apply Kd.R_alloc | apply Kd.R_drewN | apply Kd.R_drew)); exact (Kd.R_mono (Kd.R_far (p := ⟨gb693, 4, none⟩) (Kd.R_far (p := ⟨gb693, 3, none⟩) (Kd.R_far (p := ⟨gb693, 2, none⟩) (Kd.R_far (p := ⟨gb693, 1, none⟩) (Kd.R_far (p := ⟨gb693, 0, none⟩) (Kd.R_types HO683.out BK693.out (by decide)) (fun _ hk => hk.2) (.int .i64 t686)) (fun _ hk => hk.2) (.int .i64 t687)) (fun _ hk => hk.2) (.int .i64 t688)) (fun _ hk => hk.2) (.int .i64 t689)) (fun _ hk => hk.2) (.slice Ao29 t690.length co29)) (fun _ h_ => h_.1))))) (Kd.R_lt (by (with_reducible repeat (first | apply Kd.R_alloc | apply Kd.R_drewN | apply Kd.R_drew)); exact (Kd.R_mono (Kd.R_far (p := ⟨gb693, 4, none⟩) (Kd.R_far (p := ⟨gb693, 3, none⟩) (Kd.R_far (p := ⟨gb693, 2, none⟩) (Kd.R_far (p := ⟨gb693, 1, none⟩) (Kd.R_far (p := ⟨gb693, 0, none⟩) (Kd.R_types HO692.out BK693.out (by decide)) (fun _ hk => hk.2) (.int .i64 t686)) (fun _ hk => hk.2) (.int .i64 t687)) (fun _ hk => hk.2) (.int .i64 t688)) (fun _ hk => hk.2) (.int .i64 t689)) (fun _ hk => hk.2) (.slice Ao29 t690.length co29)) (fun _ h_ => h_.1))))) (below_size (by repeat (first | (with_reducible first | exact HB.out | apply below_alloc | apply pw_below_drewN | apply below_drew1 | refine below_set ?_ GE668.out | refine below_set ?_ GE685.out | refine below_set ?_ GE693.out) | exact HB.out)))); have n4_ := Aside0.mk (blk_below (g := gb668) (o := .cells #[.int .i64 a0_0, .int .i64 a0_1, .int .i64 a0_2, .int .i64 a0_3, .slice A0_4 l0_4.length c0_4] 26 (0, 0)) (by (with_reducible repeat (first | refine blk_drewN ?_ _ | refine blk_drew ?_ | refine blk_alloc ?_ _)); refine blk_far ?_ NB668_693.out _; (with_reducible repeat (first | refine blk_drewN ?_ _ | refine blk_drew ?_ | refine blk_alloc ?_ _)); refine blk_far ?_ NB668_693.out _; (with_reducible repeat (first | refine blk_drewN ?_ _ | refine blk_drew ?_ | refine blk_alloc ?_ _)); refine blk_far ?_ NB668_693.out _; (with_reducible repeat (first | refine blk_drewN ?_ _ | refine blk_drew ?_ | refine blk_alloc ?_ _)); refine blk_far ?_ NB668_693.out _; (with_reducible repeat (first | refine blk_drewN ?_ _ | refine blk_drew ?_ | refine blk_alloc ?_ _)); refine blk_far ?_ NB668_693.out _; (with_reducible repeat (first | refine blk_drewN ?_ _ | refine blk_drew ?_ | refine blk_alloc ?_ _)); exact BK668.out) hb); have n5_ := Aside0.mk (blk_below (g := gb685) (o := .cells #[.int .i64 t677, .int .i64 t678, .int .i64 t679, .int .i64 t680, .slice Ao22 t681.length co22] 33 (0, 0)) (by (with_reducible repeat (first | refine blk_drewN ?_ _ | refine blk_drew ?_ | refine blk_alloc ?_ _)); refine blk_far ?_ NB685_693.out _; (with_reducible repeat (first | refine blk_drewN ?_ _ | refine blk_drew ?_ | refine blk_alloc ?_ _)); refine blk_far ?_ NB685_693.out _; (with_reducible repeat (first | refine blk_drewN ?_ _ | refine blk_drew ?_ | refine blk_alloc ?_ _)); refine blk_far ?_ NB685_693.out _; (with_reducible repeat (first | refine blk_drewN ?_ _ | refine blk_drew ?_ | refine blk_alloc ?_ _)); refine blk_far ?_ NB685_693.out _; (with_reducible repeat (first | refine blk_drewN ?_ _ | refine blk_drew ?_ | refine blk_alloc ?_ _)); refine blk_far ?_ NB685_693.out _; (with_reducible repeat (first | refine blk_drewN ?_ _ | refine blk_drew ?_ | refine blk_alloc ?_ _)); exact BK685.out) hb); have n6_ := Aside0.mk (blk_below (g := gb693) (o := .cells #[.int .i64 t686, .int .i64 t687, .int .i64 t688, .int .i64 t689, .slice Ao29 t690.length co29] 33 (0, 0)) (by (with_reducible repeat (first | refine blk_drewN ?_ _ | refine blk_drew ?_ | refine blk_alloc ?_ _)); refine blk_put (cs := #[.int .i64 t686, .int .i64 t687, .int .i64 t688, .int .i64 t689, .slice none 0 0]) ?_ 4 _ rfl; (with_reducible repeat (first | refine blk_drewN ?_ _ | refine blk_drew ?_ | refine blk_alloc ?_ _)); refine blk_put (cs := #[.int .i64 t686, .int .i64 t687, .int .i64 t688, .int .i64 0, .slice none 0 0]) ?_ 3 _ rfl; (with_reducible repeat (first | refine blk_drewN ?_ _ | refine blk_drew ?_ | refine blk_alloc ?_ _)); refine blk_put (cs := #[.int .i64 t686, .int .i64 t687, .int .i64 0, .int .i64 0, .slice none 0 0]) ?_ 2 _ rfl; (with_reducible repeat (first | refine blk_drewN ?_ _ | refine blk_drew ?_ | refine blk_alloc ?_ _)); refine blk_put (cs := #[.int .i64 t686, .int .i64 0, .int .i64 0, .int .i64 0, .slice none 0 0]) ?_ 1 _ rfl; (with_reducible repeat (first | refine blk_drewN ?_ _ | refine blk_drew ?_ | refine blk_alloc ?_ _)); refine blk_put (cs := #[.int .i64 0, .int .i64 0, .int .i64 0, .int .i64 0, .slice none 0 0]) ?_ 0 _ rfl; (with_reducible repeat (first | refine blk_drewN ?_ _ | refine blk_drew ?_ | refine blk_alloc ?_ _)); exact BK693.out) hb); have n7_ := Aside0.mk (below_step (by repeat (first | (with_reducible first | exact HB.out | apply below_alloc | apply pw_below_drewN | apply below_drew1 | refine below_set ?_ GE668.out | refine below_set ?_ GE685.out | refine below_set ?_ GE693.out) | exact HB.out)) hb); clear HO676; clear HO683; clear HO692; clear BK668; clear BK685; clear BK693; clear HB; have HO676 := n0_; have HO683 := n1_; have HO692 := n2_; have HO700 := n3_; have BK668 := n4_; have BK685 := n5_; have BK693 := n6_; have HB := n7_; clear n0_ n1_ n2_ n3_ n4_ n5_ n6_ n7_; (try clear hb); (try clear hb2); (try clear hk); (try clear hi); (try clear ho0)) | ((with_reducible refine gate_dst (N := 7) rfl ?_); refine box_event ?hg (N := 7) ?hd (cs := #[.int .i64 0, .int .i64 0, .int .i64 0, .int .i64 0, .slice none 0 0]) (t := 33) ?hr ?_; (case hd => rfl); (case hg => rfl); (case hr => first | (go_simp; done) | (go_simp; rfl)); intro gb702 hg w31 hbox hb; have n0_ := Aside0.mk (Kd.R_below (by (with_reducible repeat (first | apply Kd.R_alloc | apply Kd.R_drewN | apply Kd.R_drew)); exact HO676.out) hb); have n1_ := Aside0.mk (Kd.R_below (by (with_reducible repeat (first | apply Kd.R_alloc | apply Kd.R_drewN | apply Kd.R_drew)); exact HO683.out) hb); have n2_ := Aside0.mk (Kd.R_below (by (with_reducible repeat (first | apply Kd.R_alloc | apply Kd.R_drewN | apply Kd.R_drew)); exact HO692.out) hb); have n3_ := Aside0.mk (Kd.R_below (by (with_reducible repeat (first | apply Kd.R_alloc | apply Kd.R_drewN | apply Kd.R_drew)); exact HO700.out) hb); have n4_ := Aside0.mk (blk_below (g := gb668) (o := .cells #[.int .i64 a0_0, .int .i64 a0_1, .int .i64 a0_2, .int .i64 a0_3, .slice A0_4 l0_4.length c0_4] 26 (0, 0)) (by (with_reducible repeat (first | refine blk_drewN ?_ _ | refine blk_drew ?_ | refine blk_alloc ?_ _)); exact BK668.out) hb); have n5_ := Aside0.mk (blk_below (g := gb685) (o := .cells #[.int .i64 t677, .int .i64 t678, .int .i64 t679, .int .i64 t680, .slice Ao22 t681.length co22] 33 (0, 0)) (by (with_reducible repeat (first | refine blk_drewN ?_ _ | refine blk_drew ?_ | refine blk_alloc ?_ _)); exact BK685.out) hb); have n6_ := Aside0.mk (blk_below (g := gb693) (o := .cells #[.int .i64 t686, .int .i64 t687, .int .i64 t688, .int .i64 t689, .slice Ao29 t690.length co29] 33 (0, 0)) (by (with_reducible repeat (first | refine blk_drewN ?_ _ | refine blk_drew ?_ | refine blk_alloc ?_ _)); exact BK693.out) hb); have n7_ := Aside0.mk (below_step (by repeat (first | (with_reducible first | exact HB.out | apply below_alloc | apply pw_below_drewN | apply below_drew1 | refine below_set ?_ GE668.out | refine below_set ?_ GE685.out | refine below_set ?_ GE693.out) | exact HB.out)) hb); have n8_ := Aside0.mk (hbox); have n9_ := Aside0.mk ((by rw [hg]; exact (below_size (by repeat (first | (with_reducible first | exact HB.out | apply below_alloc | apply pw_below_drewN | apply below_drew1 | refine below_set ?_ GE668.out | refine below_set ?_ GE685.out | refine below_set ?_ GE693.out) | exact HB.out))) : w.heap.size ≤ gb702)); have n10_ := Aside0.mk ((by rw [hg]; exact (below_size (by repeat (first | (with_reducible first | exact HB.out | apply below_alloc | apply pw_below_drewN | apply below_drew1 | refine below_set ?_ GE668.out | refine below_set ?_ GE685.out | refine below_set ?_ GE693.out) | exact HB.out))) : w.heap.size ≤ gb702)); have n11_ := Aside0.mk ((by rw [hg]; exact Nat.ne_of_lt (blk_lt (g := gb668) (o := .cells #[.int .i64 a0_0, .int .i64 a0_1, .int .i64 a0_2, .int .i64 a0_3, .slice A0_4 l0_4.length c0_4] 26 (0, 0)) (by (with_reducible repeat (first | refine blk_drewN ?_ _ | refine blk_drew ?_ | refine blk_alloc ?_ _)); exact BK668.out)) : gb668 ≠ gb702)); have n12_ := Aside0.mk ((by rw [hg]; exact Nat.ne_of_gt (blk_lt (g := gb668) (o := .cells #[.int .i64 a0_0, .int .i64 a0_1, .int .i64 a0_2, .int .i64 a0_3, .slice A0_4 l0_4.length c0_4] 26 (0, 0)) (by (with_reducible repeat (first | refine blk_drewN ?_ _ | refine blk_drew ?_ | refine blk_alloc ?_ _)); exact BK668.out)) : gb702 ≠ gb668)); have n13_ := Aside0.mk ((by rw [hg]; exact Nat.ne_of_lt (blk_lt (g := gb685) (o := .cells #[.int .i64 t677, .int .i64 t678, .int .i64 t679, .int .i64 t680, .slice Ao22 t681.length co22] 33 (0, 0)) (by (with_reducible repeat (first | refine blk_drewN ?_ _ | refine blk_drew ?_ | refine blk_alloc ?_ _)); exact BK685.out)) : gb685 ≠ gb702)); have n14_ := Aside0.mk ((by rw [hg]; exact Nat.ne_of_gt (blk_lt (g := gb685) (o := .cells #[.int .i64 t677, .int .i64 t678, .int .i64 t679, .int .i64 t680, .slice Ao22 t681.length co22] 33 (0, 0)) (by (with_reducible repeat (first | refine blk_drewN ?_ _ | refine blk_drew ?_ | refine blk_alloc ?_ _)); exact BK685.out)) : gb702 ≠ gb685)); have n15_ := Aside0.mk ((by rw [hg]; exact Nat.ne_of_lt (blk_lt (g := gb693) (o := .cells #[.int .i64 t686, .int .i64 t687, .int .i64 t688, .int .i64 t689, .slice Ao29 t690.length co29] 33 (0, 0)) (by (with_reducible repeat (first | refine blk_drewN ?_ _ | refine blk_drew ?_ | refine blk_alloc ?_ _)); exact BK693.out)) : gb693 ≠ gb702)); have n16_ := Aside0.mk ((by rw [hg]; exact Nat.ne_of_gt (blk_lt (g := gb693) (o := .cells #[.int .i64 t686, .int .i64 t687, .int .i64 t688, .int .i64 t689, .slice Ao29 t690.length co29] 33 (0, 0)) (by (with_reducible repeat (first | refine blk_drewN ?_ _ | refine blk_drew ?_ | refine blk_alloc ?_ _)); exact BK693.out)) : gb702 ≠ gb693)); clear HO676; clear HO683; clear HO692; clear HO700; clear BK668; clear BK685; clear BK693; clear HB; have HO676 := n0_; have HO683 := n1_; have HO692 := n2_; have HO700 := n3_; have BK668 := n4_; have BK685 := n5_; have BK693 := n6_; have HB := n7_; have BK702 := n8_; have GW702 := n9_; have GE702 := n10_; have NB668_702 := n11_; have NB702_668 := n12_; have NB685_702 := n13_; have NB702_685 := n14_; have NB693_702 := n15_; have NB702_693 := n16_; clear n0_ n1_ n2_ n3_ n4_ n5_ n6_ n7_ n8_ n9_ n10_ n11_ n12_ n13_ n14_ n15_ n16_; clear hb hbox hg; have hnb32 := NB702_668.out; have hnc32 := NB668_702.out; have hnb33 := NB702_685.out; have hnc33 := NB685_702.out; have hnb34 := NB702_693.out; have hnc34 := NB693_702.out; have hcz35_0 : w31.cell? ⟨gb702, 0, none⟩ = some (.int .i64 0) := (blk_cell BK702.out 0).trans rfl; have hcz35_1 : w31.cell? ⟨gb702, 1, none⟩ = some (.int .i64 0) := (blk_cell BK702.out 1).trans rfl; have hcz35_2 : w31.cell? ⟨gb702, 2, none⟩ = some (.int .i64 0) := (blk_cell BK702.out 2).trans rfl; have hcz35_3 : w31.cell? ⟨gb702, 3, none⟩ = some (.int .i64 0) := (blk_cell BK702.out 3).trans rfl; have hcz35_4 : w31.cell? ⟨gb702, 4, none⟩ = some (.slice none 0 0) := (blk_cell BK702.out 4).trans rfl; have hfz35_0 := blk_frozen BK702.out 0; have hfz35_1 := blk_frozen BK702.out 1; have hfz35_2 := blk_frozen BK702.out 2; have hfz35_3 := blk_frozen BK702.out 3; have hfz35_4 := blk_frozen BK702.out 4; obtain ⟨Ao36, co36, eo36⟩ := Kd.R_slice HO700.out; subst eo36))
  (try simp only [Act.put, List.setIfInBounds_toArray, List.set_cons_zero, List.set_cons_succ])
  go_cut [40] (fun v40 wc => ∃ (kq : Nat) (x40_10 : Bool), v40 = .bool x40_10 ∧ Aside0 (laws_FnExactMirrorAxis.j0 kq t684 t701 x40_10 a0_0 a0_1 a0_2 a0_3 l0_4 t677 t678 t679 t680 t681 t686 t687 t688 t689 t690 t694 t695 t696 t697 t698 = some r) ∧ Aside0 (kq ≤ k) ∧ Aside0 (Kd.R k69 69 wc w.heap.size (fun k_ => some k_ ≠ ((.slice Ao29 t690.length co29) : Value).ownBlock ∧ some k_ ≠ ((.slice Ao36 t698.length co36) : Value).ownBlock) (.slice Ao22 t681.length co22) t681) ∧ Aside0 (Kd.R k69 69 wc w.heap.size (fun k_ => some k_ ≠ ((.slice Ao22 t681.length co22) : Value).ownBlock ∧ some k_ ≠ ((.slice Ao36 t698.length co36) : Value).ownBlock) (.slice Ao29 t690.length co29) t690) ∧ Aside0 (Kd.R k69 69 wc w.heap.size (fun k_ => some k_ ≠ ((.slice Ao22 t681.length co22) : Value).ownBlock ∧ some k_ ≠ ((.slice Ao29 t690.length co29) : Value).ownBlock) (.slice Ao36 t698.length co36) t698) ∧ Aside0 (wc.heap[gb668]? = some (.cells #[.int .i64 a0_0, .int .i64 a0_1, .int .i64 a0_2, .int .i64 a0_3, (.slice A0_4 l0_4.length c0_4)] 26 (0, 0))) ∧ Aside0 (wc.heap[gb685]? = some (.cells #[.int .i64 t677, .int .i64 t678, .int .i64 t679, .int .i64 t680, (.slice Ao22 t681.length co22)] 33 (0, 0))) ∧ Aside0 (wc.heap[gb693]? = some (.cells #[.int .i64 t686, .int .i64 t687, .int .i64 t688, .int .i64 t689, (.slice Ao29 t690.length co29)] 33 (0, 0))) ∧ Aside0 (wc.heap[gb702]? = some (.cells #[.int .i64 t694, .int .i64 t695, .int .i64 t696, .int .i64 t697, (.slice Ao36 t698.length co36)] 33 (0, 0))) ∧ Aside0 (Below w.heap.size w wc))
  case first =>
   have H := HC11.out
   clear HC11
   replace H := Option.bind_eq_some_iff.mp H
   obtain ⟨t703, A370, H⟩ := H
   replace H : (if t703 = true then (laws_FnExactMirrorAxis.j0 k t684 t701 (t701 != t684) a0_0 a0_1 a0_2 a0_3 l0_4 t677 t678 t679 t680 t681 t686 t687 t688 t689 t690 t694 t695 t696 t697 t698) else (laws_FnExactMirrorAxis.j0 k t684 t701 true a0_0 a0_1 a0_2 a0_3 l0_4 t677 t678 t679 t680 t681 t686 t687 t688 t689 t690 t694 t695 t696 t697 t698)) = some r := H
   have A37 := Aside0.mk A370
   clear A370
   by_cases c38 : t703 = true
   ·subst c38
    have H1 : (laws_FnExactMirrorAxis.j0 k t684 t701 (t701 != t684) a0_0 a0_1 a0_2 a0_3 l0_4 t677 t678 t679 t680 t681 t686 t687 t688 t689 t690 t694 t695 t696 t697 t698) = some r := by rw [if_pos rfl] at H; exact H
    clear H
    have H := H1
    clear H1
    have H' := Aside0.mk H
    clear H
    have hnb39 := NB702_668.out
    have hnc39 := NB668_702.out
    have hnb40 := NB702_685.out
    have hnc40 := NB685_702.out
    have hnb41 := NB702_693.out
    have hnc41 := NB693_702.out
    have hcz42_0 : w31.cell? ⟨gb702, 0, none⟩ = some (.int .i64 0) := (blk_cell BK702.out 0).trans rfl
    have hcz42_1 : w31.cell? ⟨gb702, 1, none⟩ = some (.int .i64 0) := (blk_cell BK702.out 1).trans rfl
    have hcz42_2 : w31.cell? ⟨gb702, 2, none⟩ = some (.int .i64 0) := (blk_cell BK702.out 2).trans rfl
    have hcz42_3 : w31.cell? ⟨gb702, 3, none⟩ = some (.int .i64 0) := (blk_cell BK702.out 3).trans rfl
    have hcz42_4 : w31.cell? ⟨gb702, 4, none⟩ = some (.slice none 0 0) := (blk_cell BK702.out 4).trans rfl
    have hfz42_0 := blk_frozen BK702.out 0
    have hfz42_1 := blk_frozen BK702.out 1
    have hfz42_2 := blk_frozen BK702.out 2
    have hfz42_3 := blk_frozen BK702.out 3
    have hfz42_4 := blk_frozen BK702.out 4
    have hnb43 := NB685_668.out
    have hnc43 := NB668_685.out
    have hnb44 := NB685_693.out
    have hnc44 := NB693_685.out
    have hcz45_0 : w31.cell? ⟨gb685, 0, none⟩ = some (.int .i64 t677) := (blk_cell BK685.out 0).trans rfl
    have hcz45_1 : w31.cell? ⟨gb685, 1, none⟩ = some (.int .i64 t678) := (blk_cell BK685.out 1).trans rfl
    have hcz45_2 : w31.cell? ⟨gb685, 2, none⟩ = some (.int .i64 t679) := (blk_cell BK685.out 2).trans rfl
    have hcz45_3 : w31.cell? ⟨gb685, 3, none⟩ = some (.int .i64 t680) := (blk_cell BK685.out 3).trans rfl
    have hcz45_4 : w31.cell? ⟨gb685, 4, none⟩ = some (.slice Ao22 t681.length co22) := (blk_cell BK685.out 4).trans rfl
    have hfz45_0 := blk_frozen BK685.out 0
    have hfz45_1 := blk_frozen BK685.out 1
    have hfz45_2 := blk_frozen BK685.out 2
    have hfz45_3 := blk_frozen BK685.out 3
    have hfz45_4 := blk_frozen BK685.out 4
    go_wp2_with (first | ((with_reducible refine gate_callee (f := 20) rfl ?_); refine goesL_ (some 34) rfl rfl Try.func20 (by kernel_rfl) rfl #[.agg #[.int .i64 t694, .int .i64 t695, .int .i64 t696, .int .i64 t697, .slice Ao36 t698.length co36], .agg #[.int .i64 t677, .int .i64 t678, .int .i64 t679, .int .i64 t680, .slice Ao22 t681.length co22]] rfl (by (try simp only [List.map_toArray, List.map_cons, List.map_nil]); first | done | rfl | (simp only [List.length_drop, List.length_take]; rfl)) ?_; (with_reducible refine (laws_eqAxis.calls k t694 t695 t696 t697 _ _ t698 t677 t678 t679 t680 _ _ t681 true _ ?side1 ?side2 ?side3 ?side4 A37.out).mono ?_); (case side1 => refine (Kd.R_reads' (e := 69) (base := w.heap.size) (ok := fun k_ => (((True ∧ some k_ ≠ (.slice Ao17 t674.length co17 : Value).ownBlock) ∧ some k_ ≠ (.slice Ao22 t681.length co22 : Value).ownBlock) ∧ some k_ ≠ (.slice Ao29 t690.length co29 : Value).ownBlock)) (n := t698.length) (c := co36) ?_).2.2; exact (by (with_reducible repeat (first | apply Kd.R_alloc | apply Kd.R_drewN | apply Kd.R_drew)); exact (Kd.R_mono (Kd.R_far (p := ⟨gb702, 4, none⟩) (Kd.R_far (p := ⟨gb702, 3, none⟩) (Kd.R_far (p := ⟨gb702, 2, none⟩) (Kd.R_far (p := ⟨gb702, 1, none⟩) (Kd.R_far (p := ⟨gb702, 0, none⟩) (Kd.R_types HO700.out BK702.out (by decide)) (fun _ hk => hk.2) (.int .i64 t694)) (fun _ hk => hk.2) (.int .i64 t695)) (fun _ hk => hk.2) (.int .i64 t696)) (fun _ hk => hk.2) (.int .i64 t697)) (fun _ hk => hk.2) (.slice Ao36 t698.length co36)) (fun _ h_ => h_.1)))); (case side2 => exact (Kd.R_reads' HO700.out).2.1); (case side3 => refine (Kd.R_reads' (e := 69) (base := w.heap.size) (ok := fun k_ => (((True ∧ some k_ ≠ (.slice Ao17 t674.length co17 : Value).ownBlock) ∧ some k_ ≠ (.slice Ao29 t690.length co29 : Value).ownBlock) ∧ some k_ ≠ (.slice Ao36 t698.length co36 : Value).ownBlock)) (n := t681.length) (c := co22) ?_).2.2; exact (by (with_reducible repeat (first | apply Kd.R_alloc | apply Kd.R_drewN | apply Kd.R_drew)); exact (Kd.R_mono (Kd.R_far (p := ⟨gb702, 4, none⟩) (Kd.R_far (p := ⟨gb702, 3, none⟩) (Kd.R_far (p := ⟨gb702, 2, none⟩) (Kd.R_far (p := ⟨gb702, 1, none⟩) (Kd.R_far (p := ⟨gb702, 0, none⟩) (Kd.R_types HO683.out BK702.out (by decide)) (fun _ hk => hk.2) (.int .i64 t694)) (fun _ hk => hk.2) (.int .i64 t695)) (fun _ hk => hk.2) (.int .i64 t696)) (fun _ hk => hk.2) (.int .i64 t697)) (fun _ hk => hk.2) (.slice Ao36 t698.length co36)) (fun _ h_ => h_.1)))); (case side4 => exact (Kd.R_reads' HO683.out).2.1); rintro e w46 ⟨rfl, hb⟩; refine ⟨_, rfl, ?_⟩; have n0_ := Aside0.mk (Kd.R_below (by (with_reducible repeat (first | apply Kd.R_alloc | apply Kd.R_drewN | apply Kd.R_drew)); exact (Kd.R_mono (Kd.R_far (p := ⟨gb702, 4, none⟩) (Kd.R_far (p := ⟨gb702, 3, none⟩) (Kd.R_far (p := ⟨gb702, 2, none⟩) (Kd.R_far (p := ⟨gb702, 1, none⟩) (Kd.R_far (p := ⟨gb702, 0, none⟩) (Kd.R_types HO676.out BK702.out (by decide)) (fun _ hk => hk.2) (.int .i64 t694)) (fun _ hk => hk.2) (.int .i64 t695)) (fun _ hk => hk.2) (.int .i64 t696)) (fun _ hk => hk.2) (.int .i64 t697)) (fun _ hk => hk.2) (.slice Ao36 t698.length co36)) (fun _ h_ => h_.1))) hb); have n1_ := Aside0.mk (Kd.R_below (by (with_reducible repeat (first | apply Kd.R_alloc | apply Kd.R_drewN | apply Kd.R_drew)); exact (Kd.R_mono (Kd.R_far (p := ⟨gb702, 4, none⟩) (Kd.R_far (p := ⟨gb702, 3, none⟩) (Kd.R_far (p := ⟨gb702, 2, none⟩) (Kd.R_far (p := ⟨gb702, 1, none⟩) (Kd.R_far (p := ⟨gb702, 0, none⟩) (Kd.R_types HO683.out BK702.out (by decide)) (fun _ hk => hk.2) (.int .i64 t694)) (fun _ hk => hk.2) (.int .i64 t695)) (fun _ hk => hk.2) (.int .i64 t696)) (fun _ hk => hk.2) (.int .i64 t697)) (fun _ hk => hk.2) (.slice Ao36 t698.length co36)) (fun _ h_ => h_.1))) hb); have n2_ := Aside0.mk (Kd.R_below (by (with_reducible repeat (first | apply Kd.R_alloc | apply Kd.R_drewN | apply Kd.R_drew)); exact (Kd.R_mono (Kd.R_far (p := ⟨gb702, 4, none⟩) (Kd.R_far (p := ⟨gb702, 3, none⟩) (Kd.R_far (p := ⟨gb702, 2, none⟩) (Kd.R_far (p := ⟨gb702, 1, none⟩) (Kd.R_far (p := ⟨gb702, 0, none⟩) (Kd.R_types HO692.out BK702.out (by decide)) (fun _ hk => hk.2) (.int .i64 t694)) (fun _ hk => hk.2) (.int .i64 t695)) (fun _ hk => hk.2) (.int .i64 t696)) (fun _ hk => hk.2) (.int .i64 t697)) (fun _ hk => hk.2) (.slice Ao36 t698.length co36)) (fun _ h_ => h_.1))) hb); have n3_ := Aside0.mk (Kd.R_below (by (with_reducible repeat (first | apply Kd.R_alloc | apply Kd.R_drewN | apply Kd.R_drew)); exact (Kd.R_mono (Kd.R_far (p := ⟨gb702, 4, none⟩) (Kd.R_far (p := ⟨gb702, 3, none⟩) (Kd.R_far (p := ⟨gb702, 2, none⟩) (Kd.R_far (p := ⟨gb702, 1, none⟩) (Kd.R_far (p := ⟨gb702, 0, none⟩) (Kd.R_types HO700.out BK702.out (by decide)) (fun _ hk => hk.2) (.int .i64 t694)) (fun _ hk => hk.2) (.int .i64 t695)) (fun _ hk => hk.2) (.int .i64 t696)) (fun _ hk => hk.2) (.int .i64 t697)) (fun _ hk => hk.2) (.slice Ao36 t698.length co36)) (fun _ h_ => h_.1))) hb); have n4_ := Aside0.mk (blk_below (g := gb668) (o := .cells #[.int .i64 a0_0, .int .i64 a0_1, .int .i64 a0_2, .int .i64 a0_3, .slice A0_4 l0_4.length c0_4] 26 (0, 0)) (by (with_reducible repeat (first | refine blk_drewN ?_ _ | refine blk_drew ?_ | refine blk_alloc ?_ _)); refine blk_far ?_ NB668_702.out _; (with_reducible repeat (first | refine blk_drewN ?_ _ | refine blk_drew ?_ | refine blk_alloc ?_ _)); refine blk_far ?_ NB668_702.out _; (with_reducible repeat (first | refine blk_drewN ?_ _ | refine blk_drew ?_ | refine blk_alloc ?_ _)); refine blk_far ?_ NB668_702.out _; (with_reducible repeat (first | refine blk_drewN ?_ _ | refine blk_drew ?_ | refine blk_alloc ?_ _)); refine blk_far ?_ NB668_702.out _; (with_reducible repeat (first | refine blk_drewN ?_ _ | refine blk_drew ?_ | refine blk_alloc ?_ _)); refine blk_far ?_ NB668_702.out _; (with_reducible repeat (first | refine blk_drewN ?_ _ | refine blk_drew ?_ | refine blk_alloc ?_ _)); exact BK668.out) hb); have n5_ := Aside0.mk (blk_below (g := gb685) (o := .cells #[.int .i64 t677, .int .i64 t678, .int .i64 t679, .int .i64 t680, .slice Ao22 t681.length co22] 33 (0, 0)) (by (with_reducible repeat (first | refine blk_drewN ?_ _ | refine blk_drew ?_ | refine blk_alloc ?_ _)); refine blk_far ?_ NB685_702.out _; (with_reducible repeat (first | refine blk_drewN ?_ _ | refine blk_drew ?_ | refine blk_alloc ?_ _)); refine blk_far ?_ NB685_702.out _; (with_reducible repeat (first | refine blk_drewN ?_ _ | refine blk_drew ?_ | refine blk_alloc ?_ _)); refine blk_far ?_ NB685_702.out _; (with_reducible repeat (first | refine blk_drewN ?_ _ | refine blk_drew ?_ | refine blk_alloc ?_ _)); refine blk_far ?_ NB685_702.out _; (with_reducible repeat (first | refine blk_drewN ?_ _ | refine blk_drew ?_ | refine blk_alloc ?_ _)); refine blk_far ?_ NB685_702.out _; (with_reducible repeat (first | refine blk_drewN ?_ _ | refine blk_drew ?_ | refine blk_alloc ?_ _)); exact BK685.out) hb); have n6_ := Aside0.mk (blk_below (g := gb693) (o := .cells #[.int .i64 t686, .int .i64 t687, .int .i64 t688, .int .i64 t689, .slice Ao29 t690.length co29] 33 (0, 0)) (by (with_reducible repeat (first | refine blk_drewN ?_ _ | refine blk_drew ?_ | refine blk_alloc ?_ _)); refine blk_far ?_ NB693_702.out _; (with_reducible repeat (first | refine blk_drewN ?_ _ | refine blk_drew ?_ | refine blk_alloc ?_ _)); refine blk_far ?_ NB693_702.out _; (with_reducible repeat (first | refine blk_drewN ?_ _ | refine blk_drew ?_ | refine blk_alloc ?_ _)); refine blk_far ?_ NB693_702.out _; (with_reducible repeat (first | refine blk_drewN ?_ _ | refine blk_drew ?_ | refine blk_alloc ?_ _)); refine blk_far ?_ NB693_702.out _; (with_reducible repeat (first | refine blk_drewN ?_ _ | refine blk_drew ?_ | refine blk_alloc ?_ _)); refine blk_far ?_ NB693_702.out _; (with_reducible repeat (first | refine blk_drewN ?_ _ | refine blk_drew ?_ | refine blk_alloc ?_ _)); exact BK693.out) hb); have n7_ := Aside0.mk (blk_below (g := gb702) (o := .cells #[.int .i64 t694, .int .i64 t695, .int .i64 t696, .int .i64 t697, .slice Ao36 t698.length co36] 33 (0, 0)) (by (with_reducible repeat (first | refine blk_drewN ?_ _ | refine blk_drew ?_ | refine blk_alloc ?_ _)); refine blk_put (cs := #[.int .i64 t694, .int .i64 t695, .int .i64 t696, .int .i64 t697, .slice none 0 0]) ?_ 4 _ rfl; (with_reducible repeat (first | refine blk_drewN ?_ _ | refine blk_drew ?_ | refine blk_alloc ?_ _)); refine blk_put (cs := #[.int .i64 t694, .int .i64 t695, .int .i64 t696, .int .i64 0, .slice none 0 0]) ?_ 3 _ rfl; (with_reducible repeat (first | refine blk_drewN ?_ _ | refine blk_drew ?_ | refine blk_alloc ?_ _)); refine blk_put (cs := #[.int .i64 t694, .int .i64 t695, .int .i64 0, .int .i64 0, .slice none 0 0]) ?_ 2 _ rfl; (with_reducible repeat (first | refine blk_drewN ?_ _ | refine blk_drew ?_ | refine blk_alloc ?_ _)); refine blk_put (cs := #[.int .i64 t694, .int .i64 0, .int .i64 0, .int .i64 0, .slice none 0 0]) ?_ 1 _ rfl; (with_reducible repeat (first | refine blk_drewN ?_ _ | refine blk_drew ?_ | refine blk_alloc ?_ _)); refine blk_put (cs := #[.int .i64 0, .int .i64 0, .int .i64 0, .int .i64 0, .slice none 0 0]) ?_ 0 _ rfl; (with_reducible repeat (first | refine blk_drewN ?_ _ | refine blk_drew ?_ | refine blk_alloc ?_ _)); exact BK702.out) hb); have n8_ := Aside0.mk (below_step (by repeat (first | (with_reducible first | exact HB.out | apply below_alloc | apply pw_below_drewN | apply below_drew1 | refine below_set ?_ GE668.out | refine below_set ?_ GE685.out | refine below_set ?_ GE693.out | refine below_set ?_ GE702.out) | exact HB.out)) hb); clear HO676; clear HO683; clear HO692; clear HO700; clear BK668; clear BK685; clear BK693; clear BK702; clear HB; have HO676 := n0_; have HO683 := n1_; have HO692 := n2_; have HO700 := n3_; have BK668 := n4_; have BK685 := n5_; have BK693 := n6_; have BK702 := n7_; have HB := n8_; clear n0_ n1_ n2_ n3_ n4_ n5_ n6_ n7_ n8_; (try clear hb); (try clear hb2); (try clear hk); (try clear hi)))
    go_meet
    case rel => exact ⟨_, ((t701 != t684)), (by first | rfl | (simp; done) | (simp [*]; done)), H', ⟨by first | omega | exact Nat.le_refl _⟩, ⟨by (with_reducible repeat (first | apply Kd.R_alloc | apply Kd.R_drewN | apply Kd.R_drew)); exact Kd.R_mono HO683.out (fun _ hk => ⟨hk.1.2, hk.2⟩)⟩, ⟨by (with_reducible repeat (first | apply Kd.R_alloc | apply Kd.R_drewN | apply Kd.R_drew)); exact Kd.R_mono HO692.out (fun _ hk => ⟨hk.1.2, hk.2⟩)⟩, ⟨by (with_reducible repeat (first | apply Kd.R_alloc | apply Kd.R_drewN | apply Kd.R_drew)); exact Kd.R_mono HO700.out (fun _ hk => ⟨hk.1.2, hk.2⟩)⟩, ⟨by (with_reducible repeat (first | refine blk_drewN ?_ _ | refine blk_drew ?_ | refine blk_alloc ?_ _)); exact BK668.out⟩, ⟨by (with_reducible repeat (first | refine blk_drewN ?_ _ | refine blk_drew ?_ | refine blk_alloc ?_ _)); exact BK685.out⟩, ⟨by (with_reducible repeat (first | refine blk_drewN ?_ _ | refine blk_drew ?_ | refine blk_alloc ?_ _)); exact BK693.out⟩, ⟨by (with_reducible repeat (first | refine blk_drewN ?_ _ | refine blk_drew ?_ | refine blk_alloc ?_ _)); exact BK702.out⟩, ⟨by repeat (first | (with_reducible first | exact HB.out | apply below_alloc | apply pw_below_drewN | apply below_drew1 | refine below_set ?_ GE668.out | refine below_set ?_ GE685.out | refine below_set ?_ GE693.out | refine below_set ?_ GE702.out) | exact HB.out)⟩⟩
   ·replace c38 := Bool.eq_false_iff.mpr c38
    subst c38
    have H1 : (laws_FnExactMirrorAxis.j0 k t684 t701 true a0_0 a0_1 a0_2 a0_3 l0_4 t677 t678 t679 t680 t681 t686 t687 t688 t689 t690 t694 t695 t696 t697 t698) = some r := by rw [if_neg (show ¬ (false = true) by decide)] at H; exact H
    clear H
    have H := H1
    clear H1
    have H' := Aside0.mk H
    clear H
    have hnb47 := NB702_668.out
    have hnc47 := NB668_702.out
    have hnb48 := NB702_685.out
    have hnc48 := NB685_702.out
    have hnb49 := NB702_693.out
    have hnc49 := NB693_702.out
    have hcz50_0 : w31.cell? ⟨gb702, 0, none⟩ = some (.int .i64 0) := (blk_cell BK702.out 0).trans rfl
    have hcz50_1 : w31.cell? ⟨gb702, 1, none⟩ = some (.int .i64 0) := (blk_cell BK702.out 1).trans rfl
    have hcz50_2 : w31.cell? ⟨gb702, 2, none⟩ = some (.int .i64 0) := (blk_cell BK702.out 2).trans rfl
    have hcz50_3 : w31.cell? ⟨gb702, 3, none⟩ = some (.int .i64 0) := (blk_cell BK702.out 3).trans rfl
    have hcz50_4 : w31.cell? ⟨gb702, 4, none⟩ = some (.slice none 0 0) := (blk_cell BK702.out 4).trans rfl
    have hfz50_0 := blk_frozen BK702.out 0
    have hfz50_1 := blk_frozen BK702.out 1
    have hfz50_2 := blk_frozen BK702.out 2
    have hfz50_3 := blk_frozen BK702.out 3
    have hfz50_4 := blk_frozen BK702.out 4
    have hnb51 := NB685_668.out
    have hnc51 := NB668_685.out
    have hnb52 := NB685_693.out
    have hnc52 := NB693_685.out
    have hcz53_0 : w31.cell? ⟨gb685, 0, none⟩ = some (.int .i64 t677) := (blk_cell BK685.out 0).trans rfl
    have hcz53_1 : w31.cell? ⟨gb685, 1, none⟩ = some (.int .i64 t678) := (blk_cell BK685.out 1).trans rfl
    have hcz53_2 : w31.cell? ⟨gb685, 2, none⟩ = some (.int .i64 t679) := (blk_cell BK685.out 2).trans rfl
    have hcz53_3 : w31.cell? ⟨gb685, 3, none⟩ = some (.int .i64 t680) := (blk_cell BK685.out 3).trans rfl
    have hcz53_4 : w31.cell? ⟨gb685, 4, none⟩ = some (.slice Ao22 t681.length co22) := (blk_cell BK685.out 4).trans rfl
    have hfz53_0 := blk_frozen BK685.out 0
    have hfz53_1 := blk_frozen BK685.out 1
    have hfz53_2 := blk_frozen BK685.out 2
    have hfz53_3 := blk_frozen BK685.out 3
    have hfz53_4 := blk_frozen BK685.out 4
    go_wp2_with (first | ((with_reducible refine gate_callee (f := 20) rfl ?_); refine goesL_ (some 34) rfl rfl Try.func20 (by kernel_rfl) rfl #[.agg #[.int .i64 t694, .int .i64 t695, .int .i64 t696, .int .i64 t697, .slice Ao36 t698.length co36], .agg #[.int .i64 t677, .int .i64 t678, .int .i64 t679, .int .i64 t680, .slice Ao22 t681.length co22]] rfl (by (try simp only [List.map_toArray, List.map_cons, List.map_nil]); first | done | rfl | (simp only [List.length_drop, List.length_take]; rfl)) ?_; (with_reducible refine (laws_eqAxis.calls k t694 t695 t696 t697 _ _ t698 t677 t678 t679 t680 _ _ t681 false _ ?side1 ?side2 ?side3 ?side4 A37.out).mono ?_); (case side1 => refine (Kd.R_reads' (e := 69) (base := w.heap.size) (ok := fun k_ => (((True ∧ some k_ ≠ (.slice Ao17 t674.length co17 : Value).ownBlock) ∧ some k_ ≠ (.slice Ao22 t681.length co22 : Value).ownBlock) ∧ some k_ ≠ (.slice Ao29 t690.length co29 : Value).ownBlock)) (n := t698.length) (c := co36) ?_).2.2; exact (by (with_reducible repeat (first | apply Kd.R_alloc | apply Kd.R_drewN | apply Kd.R_drew)); exact (Kd.R_mono (Kd.R_far (p := ⟨gb702, 4, none⟩) (Kd.R_far (p := ⟨gb702, 3, none⟩) (Kd.R_far (p := ⟨gb702, 2, none⟩) (Kd.R_far (p := ⟨gb702, 1, none⟩) (Kd.R_far (p := ⟨gb702, 0, none⟩) (Kd.R_types HO700.out BK702.out (by decide)) (fun _ hk => hk.2) (.int .i64 t694)) (fun _ hk => hk.2) (.int .i64 t695)) (fun _ hk => hk.2) (.int .i64 t696)) (fun _ hk => hk.2) (.int .i64 t697)) (fun _ hk => hk.2) (.slice Ao36 t698.length co36)) (fun _ h_ => h_.1)))); (case side2 => exact (Kd.R_reads' HO700.out).2.1); (case side3 => refine (Kd.R_reads' (e := 69) (base := w.heap.size) (ok := fun k_ => (((True ∧ some k_ ≠ (.slice Ao17 t674.length co17 : Value).ownBlock) ∧ some k_ ≠ (.slice Ao29 t690.length co29 : Value).ownBlock) ∧ some k_ ≠ (.slice Ao36 t698.length co36 : Value).ownBlock)) (n := t681.length) (c := co22) ?_).2.2; exact (by (with_reducible repeat (first | apply Kd.R_alloc | apply Kd.R_drewN | apply Kd.R_drew)); exact (Kd.R_mono (Kd.R_far (p := ⟨gb702, 4, none⟩) (Kd.R_far (p := ⟨gb702, 3, none⟩) (Kd.R_far (p := ⟨gb702, 2, none⟩) (Kd.R_far (p := ⟨gb702, 1, none⟩) (Kd.R_far (p := ⟨gb702, 0, none⟩) (Kd.R_types HO683.out BK702.out (by decide)) (fun _ hk => hk.2) (.int .i64 t694)) (fun _ hk => hk.2) (.int .i64 t695)) (fun _ hk => hk.2) (.int .i64 t696)) (fun _ hk => hk.2) (.int .i64 t697)) (fun _ hk => hk.2) (.slice Ao36 t698.length co36)) (fun _ h_ => h_.1)))); (case side4 => exact (Kd.R_reads' HO683.out).2.1); rintro e w54 ⟨rfl, hb⟩; refine ⟨_, rfl, ?_⟩; have n0_ := Aside0.mk (Kd.R_below (by (with_reducible repeat (first | apply Kd.R_alloc | apply Kd.R_drewN | apply Kd.R_drew)); exact (Kd.R_mono (Kd.R_far (p := ⟨gb702, 4, none⟩) (Kd.R_far (p := ⟨gb702, 3, none⟩) (Kd.R_far (p := ⟨gb702, 2, none⟩) (Kd.R_far (p := ⟨gb702, 1, none⟩) (Kd.R_far (p := ⟨gb702, 0, none⟩) (Kd.R_types HO676.out BK702.out (by decide)) (fun _ hk => hk.2) (.int .i64 t694)) (fun _ hk => hk.2) (.int .i64 t695)) (fun _ hk => hk.2) (.int .i64 t696)) (fun _ hk => hk.2) (.int .i64 t697)) (fun _ hk => hk.2) (.slice Ao36 t698.length co36)) (fun _ h_ => h_.1))) hb); have n1_ := Aside0.mk (Kd.R_below (by (with_reducible repeat (first | apply Kd.R_alloc | apply Kd.R_drewN | apply Kd.R_drew)); exact (Kd.R_mono (Kd.R_far (p := ⟨gb702, 4, none⟩) (Kd.R_far (p := ⟨gb702, 3, none⟩) (Kd.R_far (p := ⟨gb702, 2, none⟩) (Kd.R_far (p := ⟨gb702, 1, none⟩) (Kd.R_far (p := ⟨gb702, 0, none⟩) (Kd.R_types HO683.out BK702.out (by decide)) (fun _ hk => hk.2) (.int .i64 t694)) (fun _ hk => hk.2) (.int .i64 t695)) (fun _ hk => hk.2) (.int .i64 t696)) (fun _ hk => hk.2) (.int .i64 t697)) (fun _ hk => hk.2) (.slice Ao36 t698.length co36)) (fun _ h_ => h_.1))) hb); have n2_ := Aside0.mk (Kd.R_below (by (with_reducible repeat (first | apply Kd.R_alloc | apply Kd.R_drewN | apply Kd.R_drew)); exact (Kd.R_mono (Kd.R_far (p := ⟨gb702, 4, none⟩) (Kd.R_far (p := ⟨gb702, 3, none⟩) (Kd.R_far (p := ⟨gb702, 2, none⟩) (Kd.R_far (p := ⟨gb702, 1, none⟩) (Kd.R_far (p := ⟨gb702, 0, none⟩) (Kd.R_types HO692.out BK702.out (by decide)) (fun _ hk => hk.2) (.int .i64 t694)) (fun _ hk => hk.2) (.int .i64 t695)) (fun _ hk => hk.2) (.int .i64 t696)) (fun _ hk => hk.2) (.int .i64 t697)) (fun _ hk => hk.2) (.slice Ao36 t698.length co36)) (fun _ h_ => h_.1))) hb); have n3_ := Aside0.mk (Kd.R_below (by (with_reducible repeat (first | apply Kd.R_alloc | apply Kd.R_drewN | apply Kd.R_drew)); exact (Kd.R_mono (Kd.R_far (p := ⟨gb702, 4, none⟩) (Kd.R_far (p := ⟨gb702, 3, none⟩) (Kd.R_far (p := ⟨gb702, 2, none⟩) (Kd.R_far (p := ⟨gb702, 1, none⟩) (Kd.R_far (p := ⟨gb702, 0, none⟩) (Kd.R_types HO700.out BK702.out (by decide)) (fun _ hk => hk.2) (.int .i64 t694)) (fun _ hk => hk.2) (.int .i64 t695)) (fun _ hk => hk.2) (.int .i64 t696)) (fun _ hk => hk.2) (.int .i64 t697)) (fun _ hk => hk.2) (.slice Ao36 t698.length co36)) (fun _ h_ => h_.1))) hb); have n4_ := Aside0.mk (blk_below (g := gb668) (o := .cells #[.int .i64 a0_0, .int .i64 a0_1, .int .i64 a0_2, .int .i64 a0_3, .slice A0_4 l0_4.length c0_4] 26 (0, 0)) (by (with_reducible repeat (first | refine blk_drewN ?_ _ | refine blk_drew ?_ | refine blk_alloc ?_ _)); refine blk_far ?_ NB668_702.out _; (with_reducible repeat (first | refine blk_drewN ?_ _ | refine blk_drew ?_ | refine blk_alloc ?_ _)); refine blk_far ?_ NB668_702.out _; (with_reducible repeat (first | refine blk_drewN ?_ _ | refine blk_drew ?_ | refine blk_alloc ?_ _)); refine blk_far ?_ NB668_702.out _; (with_reducible repeat (first | refine blk_drewN ?_ _ | refine blk_drew ?_ | refine blk_alloc ?_ _)); refine blk_far ?_ NB668_702.out _; (with_reducible repeat (first | refine blk_drewN ?_ _ | refine blk_drew ?_ | refine blk_alloc ?_ _)); refine blk_far ?_ NB668_702.out _; (with_reducible repeat (first | refine blk_drewN ?_ _ | refine blk_drew ?_ | refine blk_alloc ?_ _)); exact BK668.out) hb); have n5_ := Aside0.mk (blk_below (g := gb685) (o := .cells #[.int .i64 t677, .int .i64 t678, .int .i64 t679, .int .i64 t680, .slice Ao22 t681.length co22] 33 (0, 0)) (by (with_reducible repeat (first | refine blk_drewN ?_ _ | refine blk_drew ?_ | refine blk_alloc ?_ _)); refine blk_far ?_ NB685_702.out _; (with_reducible repeat (first | refine blk_drewN ?_ _ | refine blk_drew ?_ | refine blk_alloc ?_ _)); refine blk_far ?_ NB685_702.out _; (with_reducible repeat (first | refine blk_drewN ?_ _ | refine blk_drew ?_ | refine blk_alloc ?_ _)); refine blk_far ?_ NB685_702.out _; (with_reducible repeat (first | refine blk_drewN ?_ _ | refine blk_drew ?_ | refine blk_alloc ?_ _)); refine blk_far ?_ NB685_702.out _; (with_reducible repeat (first | refine blk_drewN ?_ _ | refine blk_drew ?_ | refine blk_alloc ?_ _)); refine blk_far ?_ NB685_702.out _; (with_reducible repeat (first | refine blk_drewN ?_ _ | refine blk_drew ?_ | refine blk_alloc ?_ _)); exact BK685.out) hb); have n6_ := Aside0.mk (blk_below (g := gb693) (o := .cells #[.int .i64 t686, .int .i64 t687, .int .i64 t688, .int .i64 t689, .slice Ao29 t690.length co29] 33 (0, 0)) (by (with_reducible repeat (first | refine blk_drewN ?_ _ | refine blk_drew ?_ | refine blk_alloc ?_ _)); refine blk_far ?_ NB693_702.out _; (with_reducible repeat (first | refine blk_drewN ?_ _ | refine blk_drew ?_ | refine blk_alloc ?_ _)); refine blk_far ?_ NB693_702.out _; (with_reducible repeat (first | refine blk_drewN ?_ _ | refine blk_drew ?_ | refine blk_alloc ?_ _)); refine blk_far ?_ NB693_702.out _; (with_reducible repeat (first | refine blk_drewN ?_ _ | refine blk_drew ?_ | refine blk_alloc ?_ _)); refine blk_far ?_ NB693_702.out _; (with_reducible repeat (first | refine blk_drewN ?_ _ | refine blk_drew ?_ | refine blk_alloc ?_ _)); refine blk_far ?_ NB693_702.out _; (with_reducible repeat (first | refine blk_drewN ?_ _ | refine blk_drew ?_ | refine blk_alloc ?_ _)); exact BK693.out) hb); have n7_ := Aside0.mk (blk_below (g := gb702) (o := .cells #[.int .i64 t694, .int .i64 t695, .int .i64 t696, .int .i64 t697, .slice Ao36 t698.length co36] 33 (0, 0)) (by (with_reducible repeat (first | refine blk_drewN ?_ _ | refine blk_drew ?_ | refine blk_alloc ?_ _)); refine blk_put (cs := #[.int .i64 t694, .int .i64 t695, .int .i64 t696, .int .i64 t697, .slice none 0 0]) ?_ 4 _ rfl; (with_reducible repeat (first | refine blk_drewN ?_ _ | refine blk_drew ?_ | refine blk_alloc ?_ _)); refine blk_put (cs := #[.int .i64 t694, .int .i64 t695, .int .i64 t696, .int .i64 0, .slice none 0 0]) ?_ 3 _ rfl; (with_reducible repeat (first | refine blk_drewN ?_ _ | refine blk_drew ?_ | refine blk_alloc ?_ _)); refine blk_put (cs := #[.int .i64 t694, .int .i64 t695, .int .i64 0, .int .i64 0, .slice none 0 0]) ?_ 2 _ rfl; (with_reducible repeat (first | refine blk_drewN ?_ _ | refine blk_drew ?_ | refine blk_alloc ?_ _)); refine blk_put (cs := #[.int .i64 t694, .int .i64 0, .int .i64 0, .int .i64 0, .slice none 0 0]) ?_ 1 _ rfl; (with_reducible repeat (first | refine blk_drewN ?_ _ | refine blk_drew ?_ | refine blk_alloc ?_ _)); refine blk_put (cs := #[.int .i64 0, .int .i64 0, .int .i64 0, .int .i64 0, .slice none 0 0]) ?_ 0 _ rfl; (with_reducible repeat (first | refine blk_drewN ?_ _ | refine blk_drew ?_ | refine blk_alloc ?_ _)); exact BK702.out) hb); have n8_ := Aside0.mk (below_step (by repeat (first | (with_reducible first | exact HB.out | apply below_alloc | apply pw_below_drewN | apply below_drew1 | refine below_set ?_ GE668.out | refine below_set ?_ GE685.out | refine below_set ?_ GE693.out | refine below_set ?_ GE702.out) | exact HB.out)) hb); clear HO676; clear HO683; clear HO692; clear HO700; clear BK668; clear BK685; clear BK693; clear BK702; clear HB; have HO676 := n0_; have HO683 := n1_; have HO692 := n2_; have HO700 := n3_; have BK668 := n4_; have BK685 := n5_; have BK693 := n6_; have BK702 := n7_; have HB := n8_; clear n0_ n1_ n2_ n3_ n4_ n5_ n6_ n7_ n8_; (try clear hb); (try clear hb2); (try clear hk); (try clear hi)))
    go_meet
    case rel => exact ⟨_, (true), (by first | rfl | (simp; done) | (simp [*]; done)), H', ⟨by first | omega | exact Nat.le_refl _⟩, ⟨by (with_reducible repeat (first | apply Kd.R_alloc | apply Kd.R_drewN | apply Kd.R_drew)); exact Kd.R_mono HO683.out (fun _ hk => ⟨hk.1.2, hk.2⟩)⟩, ⟨by (with_reducible repeat (first | apply Kd.R_alloc | apply Kd.R_drewN | apply Kd.R_drew)); exact Kd.R_mono HO692.out (fun _ hk => ⟨hk.1.2, hk.2⟩)⟩, ⟨by (with_reducible repeat (first | apply Kd.R_alloc | apply Kd.R_drewN | apply Kd.R_drew)); exact Kd.R_mono HO700.out (fun _ hk => ⟨hk.1.2, hk.2⟩)⟩, ⟨by (with_reducible repeat (first | refine blk_drewN ?_ _ | refine blk_drew ?_ | refine blk_alloc ?_ _)); exact BK668.out⟩, ⟨by (with_reducible repeat (first | refine blk_drewN ?_ _ | refine blk_drew ?_ | refine blk_alloc ?_ _)); exact BK685.out⟩, ⟨by (with_reducible repeat (first | refine blk_drewN ?_ _ | refine blk_drew ?_ | refine blk_alloc ?_ _)); exact BK693.out⟩, ⟨by (with_reducible repeat (first | refine blk_drewN ?_ _ | refine blk_drew ?_ | refine blk_alloc ?_ _)); exact BK702.out⟩, ⟨by repeat (first | (with_reducible first | exact HB.out | apply below_alloc | apply pw_below_drewN | apply below_drew1 | refine below_set ?_ GE668.out | refine below_set ?_ GE685.out | refine below_set ?_ GE693.out | refine below_set ?_ GE702.out) | exact HB.out)⟩⟩
  case rest =>
   clear HC11
   try clear c1
   try clear c2
   try clear p2
   try clear c3
   try clear c3b0
   try clear c4
   try clear c5
   try clear c7
   try clear c15
   try clear c17
   try clear c20
   try clear c26
   try clear c27
   try clear c32
   try clear c33
   try clear c34
   try clear c35
   try clear c38
   try clear c39
   try clear c40
   try clear c41
   try clear c43
   try clear c44
   try clear c47
   try clear c48
   try clear c49
   try clear c51
   try clear c52
   try clear hcz13_0
   try clear hcz13_1
   try clear hcz13_2
   try clear hcz13_3
   try clear hcz13_4
   try clear hcz15_0
   try clear hcz15_1
   try clear hcz15_2
   try clear hcz15_3
   try clear hcz15_4
   try clear hcz21_0
   try clear hcz21_1
   try clear hcz21_2
   try clear hcz21_3
   try clear hcz21_4
   try clear hcz23_0
   try clear hcz23_1
   try clear hcz23_2
   try clear hcz23_3
   try clear hcz23_4
   try clear hcz28_0
   try clear hcz28_1
   try clear hcz28_2
   try clear hcz28_3
   try clear hcz28_4
   try clear hcz35_0
   try clear hcz35_1
   try clear hcz35_2
   try clear hcz35_3
   try clear hcz35_4
   try clear hcz42_0
   try clear hcz42_1
   try clear hcz42_2
   try clear hcz42_3
   try clear hcz42_4
   try clear hcz45_0
   try clear hcz45_1
   try clear hcz45_2
   try clear hcz45_3
   try clear hcz45_4
   try clear hcz50_0
   try clear hcz50_1
   try clear hcz50_2
   try clear hcz50_3
   try clear hcz50_4
   try clear hcz53_0
   try clear hcz53_1
   try clear hcz53_2
   try clear hcz53_3
   try clear hcz53_4
   try clear hcz5_0
   try clear hcz5_1
   try clear hcz5_2
   try clear hcz5_3
   try clear hcz5_4
   try clear hfz13_0
   try clear hfz13_1
   try clear hfz13_2
   try clear hfz13_3
   try clear hfz13_4
   try clear hfz15_0
   try clear hfz15_1
   try clear hfz15_2
   try clear hfz15_3
   try clear hfz15_4
   try clear hfz21_0
   try clear hfz21_1
   try clear hfz21_2
   try clear hfz21_3
   try clear hfz21_4
   try clear hfz23_0
   try clear hfz23_1
   try clear hfz23_2
   try clear hfz23_3
   try clear hfz23_4
   try clear hfz28_0
   try clear hfz28_1
   try clear hfz28_2
   try clear hfz28_3
   try clear hfz28_4
   try clear hfz35_0
   try clear hfz35_1
   try clear hfz35_2
   try clear hfz35_3
   try clear hfz35_4
   try clear hfz42_0
   try clear hfz42_1
   try clear hfz42_2
   try clear hfz42_3
   try clear hfz42_4
   try clear hfz45_0
   try clear hfz45_1
   try clear hfz45_2
   try clear hfz45_3
   try clear hfz45_4
   try clear hfz50_0
   try clear hfz50_1
   try clear hfz50_2
   try clear hfz50_3
   try clear hfz50_4
   try clear hfz53_0
   try clear hfz53_1
   try clear hfz53_2
   try clear hfz53_3
   try clear hfz53_4
   try clear hfz5_0
   try clear hfz5_1
   try clear hfz5_2
   try clear hfz5_3
   try clear hfz5_4
   obtain ⟨kq, x40_10, rfl, HA, HJ10, HO_686004, HO_694004, HO_703004, BK668, BK685, BK693, BK702, HB⟩ := hcut
   cases kq with
   | zero => exact absurd HA.out (by simp [laws_FnExactMirrorAxis.j0])
   | succ kj10 =>
    have H := HA.out
    clear HA
    simp only [laws_FnExactMirrorAxis.j0] at H
    by_cases c55 : x40_10 = true
    ·subst c55
     have H1 : (some false) = some r := by rw [if_pos rfl] at H; exact H
     clear H
     have H := H1
     clear H1
     obtain rfl := Option.some.inj H
     go_wp2
     go_ret
     exact ⟨by first | rfl | (simp [errW_none, errW_some] <;> rfl) | (simp [*, errW_none, errW_some] <;> rfl), by repeat (first | (with_reducible first | exact HB.out | apply below_alloc | apply pw_below_drewN | apply below_drew1 | refine below_set ?_ GE668.out | refine below_set ?_ GE685.out | refine below_set ?_ GE693.out | refine below_set ?_ GE702.out) | exact HB.out)⟩
    ·replace c55 := Bool.eq_false_iff.mpr c55
     subst c55
     have H1 : ((laws_toAxis.f kj10 a0_0 a0_1 a0_2 a0_3 l0_4).bind fun bt704 => ((laws_eqAxis.f kj10 t686 t687 t688 t689 t690 bt704.1 bt704.2.1 bt704.2.2.1 bt704.2.2.2.1 bt704.2.2.2.2).bind fun t711 => (if t711 = true then ((laws_markAxis.f kj10 t686 t687 t688 t689 t690 1).bind fun bt712 => (if bt712.1 < 0 then (laws_FnExactMirrorAxis.j1 kj10 t684 true a0_0 a0_1 a0_2 a0_3 l0_4 t677 t678 t679 t680 t681 t694 t695 t696 t697 t698) else ((laws_eqAxis.f kj10 t694 t695 t696 t697 t698 t677 t678 t679 t680 t681).bind fun t714 => (if t714 = true then (laws_FnExactMirrorAxis.j1 kj10 t684 (t701 != t684) a0_0 a0_1 a0_2 a0_3 l0_4 t677 t678 t679 t680 t681 t694 t695 t696 t697 t698) else (laws_FnExactMirrorAxis.j1 kj10 t684 true a0_0 a0_1 a0_2 a0_3 l0_4 t677 t678 t679 t680 t681 t694 t695 t696 t697 t698))))) else (some false)))) = some r := by rw [if_neg (show ¬ (false = true) by decide)] at H; exact H
     clear H
     have H := H1
     clear H1
     replace H := Option.bind_eq_some_iff.mp H
     obtain ⟨⟨t704, t705, t706, t707, t708⟩, A560, H⟩ := H
     replace H : ((laws_eqAxis.f kj10 t686 t687 t688 t689 t690 t704 t705 t706 t707 t708).bind fun t711 => (if t711 = true then ((laws_markAxis.f kj10 t686 t687 t688 t689 t690 1).bind fun bt712 => (if bt712.1 < 0 then (laws_FnExactMirrorAxis.j1 kj10 t684 true a0_0 a0_1 a0_2 a0_3 l0_4 t677 t678 t679 t680 t681 t694 t695 t696 t697 t698) else ((laws_eqAxis.f kj10 t694 t695 t696 t697 t698 t677 t678 t679 t680 t681).bind fun t714 => (if t714 = true then (laws_FnExactMirrorAxis.j1 kj10 t684 (t701 != t684) a0_0 a0_1 a0_2 a0_3 l0_4 t677 t678 t679 t680 t681 t694 t695 t696 t697 t698) else (laws_FnExactMirrorAxis.j1 kj10 t684 true a0_0 a0_1 a0_2 a0_3 l0_4 t677 t678 t679 t680 t681 t694 t695 t696 t697 t698))))) else (some false))) = some r := H
     have A56 := Aside0.mk A560
     clear A560
     replace H := Option.bind_eq_some_iff.mp H
     obtain ⟨t711, A570, H⟩ := H
     replace H : (if t711 = true then ((laws_markAxis.f kj10 t686 t687 t688 t689 t690 1).bind fun bt712 => (if bt712.1 < 0 then (laws_FnExactMirrorAxis.j1 kj10 t684 true a0_0 a0_1 a0_2 a0_3 l0_4 t677 t678 t679 t680 t681 t694 t695 t696 t697 t698) else ((laws_eqAxis.f kj10 t694 t695 t696 t697 t698 t677 t678 t679 t680 t681).bind fun t714 => (if t714 = true then (laws_FnExactMirrorAxis.j1 kj10 t684 (t701 != t684) a0_0 a0_1 a0_2 a0_3 l0_4 t677 t678 t679 t680 t681 t694 t695 t696 t697 t698) else (laws_FnExactMirrorAxis.j1 kj10 t684 true a0_0 a0_1 a0_2 a0_3 l0_4 t677 t678 t679 t680 t681 t694 t695 t696 t697 t698))))) else (some false)) = some r := H
     have A57 := Aside0.mk A570
     clear A570
     by_cases c58 : t711 = true
     ·subst c58
      have H1 : ((laws_markAxis.f kj10 t686 t687 t688 t689 t690 1).bind fun bt712 => (if bt712.1 < 0 then (laws_FnExactMirrorAxis.j1 kj10 t684 true a0_0 a0_1 a0_2 a0_3 l0_4 t677 t678 t679 t680 t681 t694 t695 t696 t697 t698) else ((laws_eqAxis.f kj10 t694 t695 t696 t697 t698 t677 t678 t679 t680 t681).bind fun t714 => (if t714 = true then (laws_FnExactMirrorAxis.j1 kj10 t684 (t701 != t684) a0_0 a0_1 a0_2 a0_3 l0_4 t677 t678 t679 t680 t681 t694 t695 t696 t697 t698) else (laws_FnExactMirrorAxis.j1 kj10 t684 true a0_0 a0_1 a0_2 a0_3 l0_4 t677 t678 t679 t680 t681 t694 t695 t696 t697 t698))))) = some r := by rw [if_pos rfl] at H; exact H
      clear H
      have H := H1
      clear H1
      replace H := Option.bind_eq_some_iff.mp H
      obtain ⟨⟨t712, t713⟩, A590, H⟩ := H
      replace H : (if t712 < 0 then (laws_FnExactMirrorAxis.j1 kj10 t684 true a0_0 a0_1 a0_2 a0_3 l0_4 t677 t678 t679 t680 t681 t694 t695 t696 t697 t698) else ((laws_eqAxis.f kj10 t694 t695 t696 t697 t698 t677 t678 t679 t680 t681).bind fun t714 => (if t714 = true then (laws_FnExactMirrorAxis.j1 kj10 t684 (t701 != t684) a0_0 a0_1 a0_2 a0_3 l0_4 t677 t678 t679 t680 t681 t694 t695 t696 t697 t698) else (laws_FnExactMirrorAxis.j1 kj10 t684 true a0_0 a0_1 a0_2 a0_3 l0_4 t677 t678 t679 t680 t681 t694 t695 t696 t697 t698)))) = some r := H
      have A59 := Aside0.mk A590
      clear A590
      have HC60 := Aside0.mk H
      clear H
      try go_wp2
      have n0_ := Aside0.mk (Kd.R_drew HO_686004.out)
      have n1_ := Aside0.mk (Kd.R_drew HO_694004.out)
      have n2_ := Aside0.mk (Kd.R_drew HO_703004.out)
      have n3_ := Aside0.mk (blk_drew BK668.out)
      have n4_ := Aside0.mk (blk_drew BK685.out)
      have n5_ := Aside0.mk (blk_drew BK693.out)
      have n6_ := Aside0.mk (blk_drew BK702.out)
      have n7_ := Aside0.mk (below_drew1 HB.out)
      clear HO_686004
      clear HO_694004
      clear HO_703004
      clear BK668
      clear BK685
      clear BK693
      clear BK702
      clear HB
      have HO_686004 := n0_
      have HO_694004 := n1_
      have HO_703004 := n2_
      have BK668 := n3_
      have BK685 := n4_
      have BK693 := n5_
      have BK702 := n6_
      have HB := n7_
      clear n0_ n1_ n2_ n3_ n4_ n5_ n6_ n7_
      refine start_ (n := 5) (S := fun w' => w'.cell? ⟨gb693, 0, none⟩ = some (.int .i64 t686) ∧ w'.cell? ⟨gb693, 1, none⟩ = some (.int .i64 t687) ∧ w'.cell? ⟨gb693, 2, none⟩ = some (.int .i64 t688) ∧ w'.cell? ⟨gb693, 3, none⟩ = some (.int .i64 t689) ∧ w'.cell? ⟨gb693, 4, none⟩ = some (.slice Ao29 t690.length co29) ∧ w'.cell? ⟨gb668, 0, none⟩ = some (.int .i64 a0_0) ∧ w'.cell? ⟨gb668, 1, none⟩ = some (.int .i64 a0_1) ∧ w'.cell? ⟨gb668, 2, none⟩ = some (.int .i64 a0_2) ∧ w'.cell? ⟨gb668, 3, none⟩ = some (.int .i64 a0_3) ∧ w'.cell? ⟨gb668, 4, none⟩ = some (.slice A0_4 l0_4.length c0_4)) (ds := []) #[false, false, false, false, false] (by kernel_rfl) rfl rfl ⟨(blk_cell BK693.out 0).trans rfl, (blk_cell BK693.out 1).trans rfl, (blk_cell BK693.out 2).trans rfl, (blk_cell BK693.out 3).trans rfl, (blk_cell BK693.out 4).trans rfl, (blk_cell BK668.out 0).trans rfl, (blk_cell BK668.out 1).trans rfl, (blk_cell BK668.out 2).trans rfl, (blk_cell BK668.out 3).trans rfl, (blk_cell BK668.out 4).trans rfl⟩ (fun hHeld => ?_)
      generalize wc.drew = w61 at HO_686004 HO_694004 HO_703004 BK668 BK685 BK693 BK702 HB hHeld ⊢
      refine take_ (i := 0) (N := some 41) (v := ?_) (a' := ?_) #[true, false, false, false, false] rfl rfl (by kernel_rfl) (fun _ _ _ h => h) (Or.inl ⟨by rfl, ?_⟩) hHeld ?_ ?_
      rotate_left
      ·rintro w' ⟨s0, s1, s2, s3, s4, s5, s6, s7, s8, s9⟩
       go_simp
       with_reducible rfl
      rotate_left
      ·simp only [Act.put, List.setIfInBounds_toArray, List.set_cons_zero, List.set_cons_succ, i64_w, i32_w]
       rfl
      refine take_ (i := 1) (N := some 42) (v := ?_) (a' := ?_) #[true, true, false, false, false] rfl rfl (by kernel_rfl) (fun _ _ _ h => h) (Or.inl ⟨by rfl, ?_⟩) hHeld ?_ ?_
      rotate_left
      ·rintro w' ⟨s0, s1, s2, s3, s4, s5, s6, s7, s8, s9⟩
       go_simp
       with_reducible rfl
      rotate_left
      ·simp only [Act.put, List.setIfInBounds_toArray, List.set_cons_zero, List.set_cons_succ, i64_w, i32_w]
       rfl
      refine one_ (i := 2) (N := some 43) #[true, true, true, false, false] rfl rfl (by kernel_rfl) (by decide) (fun K hK => ?_)
      refine goes_ Try.func17 (by kernel_rfl) rfl #[.agg #[.int .i64 a0_0, .int .i64 a0_1, .int .i64 a0_2, .int .i64 a0_3, .slice A0_4 l0_4.length c0_4]] (by rfl) rfl rfl (by (try simp only [List.map_toArray, List.map_cons, List.map_nil]); first | done | rfl | (simp only [List.length_drop, List.length_take]; rfl)) ?_
      with_reducible refine (laws_toAxis.calls kj10 a0_0 a0_1 a0_2 a0_3 _ _ l0_4 t704 t705 t706 t707 t708 _ ?side1 ?side2 A56.out).mono ?_
      (case side1 => repeat (first | exact (Kd.C_below HR0_4.out HB.out) | (with_reducible refine Kd.C_alloc ?_ _) | (with_reducible refine Kd.C_drewN ?_ _) | (with_reducible refine Kd.C_drew ?_)))
      (case side2 => exact HC0_4.out)
      rintro e w62 ⟨v709, rfl, ho0, hb⟩
      refine ⟨_, rfl, ?_⟩
      have n0_ := Aside0.mk (Kd.R_elder' (by (with_reducible repeat (first | apply Kd.R_alloc | apply Kd.R_drewN | apply Kd.R_drew)); exact HO_686004.out) (Kd.R_base ho0) hb)
      have n1_ := Aside0.mk (Kd.R_elder' (by (with_reducible repeat (first | apply Kd.R_alloc | apply Kd.R_drewN | apply Kd.R_drew)); exact HO_694004.out) (Kd.R_base ho0) hb)
      have n2_ := Aside0.mk (Kd.R_elder' (by (with_reducible repeat (first | apply Kd.R_alloc | apply Kd.R_drewN | apply Kd.R_drew)); exact HO_703004.out) (Kd.R_base ho0) hb)
      have n3_ := Aside0.mk (Kd.R_lower (Kd.R_new' (Kd.R_new' (Kd.R_new' ho0 (Kd.R_lt (by (with_reducible repeat (first | apply Kd.R_alloc | apply Kd.R_drewN | apply Kd.R_drew)); exact HO_686004.out))) (Kd.R_lt (by (with_reducible repeat (first | apply Kd.R_alloc | apply Kd.R_drewN | apply Kd.R_drew)); exact HO_694004.out))) (Kd.R_lt (by (with_reducible repeat (first | apply Kd.R_alloc | apply Kd.R_drewN | apply Kd.R_drew)); exact HO_703004.out))) (below_size (by repeat (first | (with_reducible first | exact HB.out | apply below_alloc | apply pw_below_drewN | apply below_drew1 | refine below_set ?_ GE668.out | refine below_set ?_ GE685.out | refine below_set ?_ GE693.out | refine below_set ?_ GE702.out) | exact HB.out))))
      have n4_ := Aside0.mk (blk_below (g := gb668) (o := .cells #[.int .i64 a0_0, .int .i64 a0_1, .int .i64 a0_2, .int .i64 a0_3, .slice A0_4 l0_4.length c0_4] 26 (0, 0)) (by (with_reducible repeat (first | refine blk_drewN ?_ _ | refine blk_drew ?_ | refine blk_alloc ?_ _)); exact BK668.out) hb)
      have n5_ := Aside0.mk (blk_below (g := gb685) (o := .cells #[.int .i64 t677, .int .i64 t678, .int .i64 t679, .int .i64 t680, .slice Ao22 t681.length co22] 33 (0, 0)) (by (with_reducible repeat (first | refine blk_drewN ?_ _ | refine blk_drew ?_ | refine blk_alloc ?_ _)); exact BK685.out) hb)
      have n6_ := Aside0.mk (blk_below (g := gb693) (o := .cells #[.int .i64 t686, .int .i64 t687, .int .i64 t688, .int .i64 t689, .slice Ao29 t690.length co29] 33 (0, 0)) (by (with_reducible repeat (first | refine blk_drewN ?_ _ | refine blk_drew ?_ | refine blk_alloc ?_ _)); exact BK693.out) hb)
      have n7_ := Aside0.mk (blk_below (g := gb702) (o := .cells #[.int .i64 t694, .int .i64 t695, .int .i64 t696, .int .i64 t697, .slice Ao36 t698.length co36] 33 (0, 0)) (by (with_reducible repeat (first | refine blk_drewN ?_ _ | refine blk_drew ?_ | refine blk_alloc ?_ _)); exact BK702.out) hb)
      have n8_ := Aside0.mk (below_step (by repeat (first | (with_reducible first | exact HB.out | apply below_alloc | apply pw_below_drewN | apply below_drew1 | refine below_set ?_ GE668.out | refine below_set ?_ GE685.out | refine below_set ?_ GE693.out | refine below_set ?_ GE702.out) | exact HB.out)) hb)
      clear HO_686004
      clear HO_694004
      clear HO_703004
      clear BK668
      clear BK685
      clear BK693
      clear BK702
      clear HB
      have HO_686004 := n0_
      have HO_694004 := n1_
      have HO_703004 := n2_
      have HO710 := n3_
      have BK668 := n4_
      have BK685 := n5_
      have BK693 := n6_
      have BK702 := n7_
      have HB := n8_
      clear n0_ n1_ n2_ n3_ n4_ n5_ n6_ n7_ n8_
      (try clear hb)
      (try clear hb2)
      (try clear hk)
      (try clear hi)
      (try clear ho0)
      obtain ⟨Ao63, co63, eo63⟩ := Kd.R_slice HO710.out
      (first | subst eo63 | (injection eo63 with f1_ f2_ f3_; have f4_ := f1_.symm; have f5_ := f3_.symm; clear f1_ f2_ f3_; subst f4_; subst f5_))
      refine hK.out _ _ ⟨(blk_cell BK693.out 0).trans rfl, (blk_cell BK693.out 1).trans rfl, (blk_cell BK693.out 2).trans rfl, (blk_cell BK693.out 3).trans rfl, (blk_cell BK693.out 4).trans rfl, (blk_cell BK668.out 0).trans rfl, (blk_cell BK668.out 1).trans rfl, (blk_cell BK668.out 2).trans rfl, (blk_cell BK668.out 3).trans rfl, (blk_cell BK668.out 4).trans rfl⟩ (fun hHeld => ?_)
      clear hK K
      refine norm_ (a' := ?_) ?_ ?_
      rotate_left
      ·show Act.put _ (some 43) _ = _
       simp only [Act.put, List.setIfInBounds_toArray, List.set_cons_zero, List.set_cons_succ, i64_w, i32_w]
       rfl
      refine one_ (i := 3) (N := some 44) #[true, true, true, true, false] rfl rfl (by kernel_rfl) (by decide) (fun K hK => ?_)
      refine goes_ Try.func20 (by kernel_rfl) rfl #[.agg #[.int .i64 t686, .int .i64 t687, .int .i64 t688, .int .i64 t689, .slice Ao29 t690.length co29], .agg #[.int .i64 t704, .int .i64 t705, .int .i64 t706, .int .i64 t707, .slice Ao63 t708.length co63]] (by rfl) rfl rfl (by (try simp only [List.map_toArray, List.map_cons, List.map_nil]); first | done | rfl | (simp only [List.length_drop, List.length_take]; rfl)) ?_
      with_reducible refine (laws_eqAxis.calls kj10 t686 t687 t688 t689 _ _ t690 t704 t705 t706 t707 _ _ t708 true _ ?side1 ?side2 ?side3 ?side4 A57.out).mono ?_
      (case side1 => repeat (first | exact (Kd.R_reads' HO_694004.out).2.2 | (with_reducible refine Kd.C_alloc ?_ _) | (with_reducible refine Kd.C_drewN ?_ _) | (with_reducible refine Kd.C_drew ?_)))
      (case side2 => exact (Kd.R_reads' HO_694004.out).2.1)
      (case side3 => repeat (first | exact (Kd.R_reads' HO710.out).2.2 | (with_reducible refine Kd.C_alloc ?_ _) | (with_reducible refine Kd.C_drewN ?_ _) | (with_reducible refine Kd.C_drew ?_)))
      (case side4 => exact (Kd.R_reads' HO710.out).2.1)
      rintro e w64 ⟨rfl, hb⟩
      refine ⟨_, rfl, ?_⟩
      have n0_ := Aside0.mk (Kd.R_below (by (with_reducible repeat (first | apply Kd.R_alloc | apply Kd.R_drewN | apply Kd.R_drew)); exact HO_686004.out) hb)
      have n1_ := Aside0.mk (Kd.R_below (by (with_reducible repeat (first | apply Kd.R_alloc | apply Kd.R_drewN | apply Kd.R_drew)); exact HO_694004.out) hb)
      have n2_ := Aside0.mk (Kd.R_below (by (with_reducible repeat (first | apply Kd.R_alloc | apply Kd.R_drewN | apply Kd.R_drew)); exact HO_703004.out) hb)
      have n3_ := Aside0.mk (Kd.R_below (by (with_reducible repeat (first | apply Kd.R_alloc | apply Kd.R_drewN | apply Kd.R_drew)); exact HO710.out) hb)
      have n4_ := Aside0.mk (blk_below (g := gb668) (o := .cells #[.int .i64 a0_0, .int .i64 a0_1, .int .i64 a0_2, .int .i64 a0_3, .slice A0_4 l0_4.length c0_4] 26 (0, 0)) (by (with_reducible repeat (first | refine blk_drewN ?_ _ | refine blk_drew ?_ | refine blk_alloc ?_ _)); exact BK668.out) hb)
      have n5_ := Aside0.mk (blk_below (g := gb685) (o := .cells #[.int .i64 t677, .int .i64 t678, .int .i64 t679, .int .i64 t680, .slice Ao22 t681.length co22] 33 (0, 0)) (by (with_reducible repeat (first | refine blk_drewN ?_ _ | refine blk_drew ?_ | refine blk_alloc ?_ _)); exact BK685.out) hb)
      have n6_ := Aside0.mk (blk_below (g := gb693) (o := .cells #[.int .i64 t686, .int .i64 t687, .int .i64 t688, .int .i64 t689, .slice Ao29 t690.length co29] 33 (0, 0)) (by (with_reducible repeat (first | refine blk_drewN ?_ _ | refine blk_drew ?_ | refine blk_alloc ?_ _)); exact BK693.out) hb)
      have n7_ := Aside0.mk (blk_below (g := gb702) (o := .cells #[.int .i64 t694, .int .i64 t695, .int .i64 t696, .int .i64 t697, .slice Ao36 t698.length co36] 33 (0, 0)) (by (with_reducible repeat (first | refine blk_drewN ?_ _ | refine blk_drew ?_ | refine blk_alloc ?_ _)); exact BK702.out) hb)
      have n8_ := Aside0.mk (below_step (by repeat (first | (with_reducible first | exact HB.out | apply below_alloc | apply pw_below_drewN | apply below_drew1 | refine below_set ?_ GE668.out | refine below_set ?_ GE685.out | refine below_set ?_ GE693.out | refine below_set ?_ GE702.out) | exact HB.out)) hb)
      clear HO_686004
      clear HO_694004
      clear HO_703004
      clear HO710
      clear BK668
      clear BK685
      clear BK693
      clear BK702
      clear HB
      have HO_686004 := n0_
      have HO_694004 := n1_
      have HO_703004 := n2_
      have HO710 := n3_
      have BK668 := n4_
      have BK685 := n5_
      have BK693 := n6_
      have BK702 := n7_
      have HB := n8_
      clear n0_ n1_ n2_ n3_ n4_ n5_ n6_ n7_ n8_
      (try clear hb)
      (try clear hb2)
      (try clear hk)
      (try clear hi)
      refine hK.out _ _ ⟨(blk_cell BK693.out 0).trans rfl, (blk_cell BK693.out 1).trans rfl, (blk_cell BK693.out 2).trans rfl, (blk_cell BK693.out 3).trans rfl, (blk_cell BK693.out 4).trans rfl, (blk_cell BK668.out 0).trans rfl, (blk_cell BK668.out 1).trans rfl, (blk_cell BK668.out 2).trans rfl, (blk_cell BK668.out 3).trans rfl, (blk_cell BK668.out 4).trans rfl⟩ (fun hHeld => ?_)
      clear hK K
      refine norm_ (a' := ?_) ?_ ?_
      rotate_left
      ·show Act.put _ (some 44) _ = _
       simp only [Act.put, List.setIfInBounds_toArray, List.set_cons_zero, List.set_cons_succ, i64_w, i32_w]
       rfl
      refine pure_ (i := 4) (N := some 45) (v := ?_) (a' := ?_) #[true, true, true, true, true] rfl rfl (by kernel_rfl) (fun _ _ _ h => h) (Or.inl ⟨by rfl, ?_⟩) ?_ ?_
      rotate_left
      ·intro w'
       go_simp
       with_reducible rfl
      rotate_left
      ·simp only [Act.put, List.setIfInBounds_toArray, List.set_cons_zero, List.set_cons_succ, i64_w, i32_w]
       rfl
      refine done_ (by kernel_rfl) ?_
      have hnb65 := NB693_668.out
      have hnc65 := NB668_693.out
      have hnb66 := NB693_685.out
      have hnc66 := NB685_693.out
      have hnb67 := NB693_702.out
      have hnc67 := NB702_693.out
      have hcz68_0 : w64.cell? ⟨gb693, 0, none⟩ = some (.int .i64 t686) := (blk_cell BK693.out 0).trans rfl
      have hcz68_1 : w64.cell? ⟨gb693, 1, none⟩ = some (.int .i64 t687) := (blk_cell BK693.out 1).trans rfl
      have hcz68_2 : w64.cell? ⟨gb693, 2, none⟩ = some (.int .i64 t688) := (blk_cell BK693.out 2).trans rfl
      have hcz68_3 : w64.cell? ⟨gb693, 3, none⟩ = some (.int .i64 t689) := (blk_cell BK693.out 3).trans rfl
      have hcz68_4 : w64.cell? ⟨gb693, 4, none⟩ = some (.slice Ao29 t690.length co29) := (blk_cell BK693.out 4).trans rfl
      have hfz68_0 := blk_frozen BK693.out 0
      have hfz68_1 := blk_frozen BK693.out 1
      have hfz68_2 := blk_frozen BK693.out 2
      have hfz68_3 := blk_frozen BK693.out 3
      have hfz68_4 := blk_frozen BK693.out 4
      go_upto_region 14 with (first | ((with_reducible refine gate_callee (f := 36) rfl ?_); refine goesL_ (some 48) rfl rfl Try.func36 (by kernel_rfl) rfl #[.agg #[.int .i64 t686, .int .i64 t687, .int .i64 t688, .int .i64 t689, .slice Ao29 t690.length co29], .int .i64 1] rfl (by (try simp only [List.map_toArray, List.map_cons, List.map_nil]); first | done | rfl | (simp only [List.length_drop, List.length_take]; rfl)) ?_; (with_reducible refine (laws_markAxis.calls kj10 t686 t687 t688 t689 (fun k_ => some k_ = (.slice Ao29 t690.length co29 : Value).ownBlock) (.slice Ao29 t690.length co29) t690 1 t712 t713 w _ ?side1 ?side2 A59.out).mono ?_); (case side1 => repeat (first | (with_reducible first | exact HB.out | apply below_alloc | apply pw_below_drewN | apply below_drew1 | refine below_set ?_ GE668.out | refine below_set ?_ GE685.out | refine below_set ?_ GE693.out | refine below_set ?_ GE702.out) | exact HB.out)); (case side2 => exact Kd.R_tight rfl HO_694004.out); rintro e w69 ⟨rfl, hy0, hb, hkp⟩; refine ⟨_, rfl, ?_⟩; have n0_ := Aside0.mk (Kd.R_mono (ok' := fun k_ => some k_ ≠ (.slice Ao29 t690.length co29 : Value).ownBlock ∧ some k_ ≠ (.slice Ao36 t698.length co36 : Value).ownBlock ∧ some k_ ≠ (.slice Ao63 t708.length co63 : Value).ownBlock) (Kd.R_keptB (HO_686004.out) hkp (fun k_ hk_ hs_ => (hk_.1.1) hs_)) (fun k_ hk_ => ⟨hk_.1.1.1, hk_.1.1.2, hk_.1.2⟩)); have n1_ := Aside0.mk (Kd.R_reok rfl hy0 (fun k_ e_ => HO_694004.out.1 k_ e_)); have n2_ := Aside0.mk (Kd.R_mono (ok' := fun k_ => some k_ ≠ (.slice Ao22 t681.length co22 : Value).ownBlock ∧ some k_ ≠ (.slice Ao29 t690.length co29 : Value).ownBlock ∧ some k_ ≠ (.slice Ao63 t708.length co63 : Value).ownBlock) (Kd.R_keptB (HO_703004.out) hkp (fun k_ hk_ hs_ => (hk_.1.2) hs_)) (fun k_ hk_ => ⟨hk_.1.1.1, hk_.1.1.2, hk_.1.2⟩)); have n3_ := Aside0.mk (blk_kept (by (with_reducible repeat (first | refine blk_drewN ?_ _ | refine blk_drew ?_ | refine blk_alloc ?_ _)); exact BK668.out) hkp (fun hs_ => (fun e_ => (Kd.R_ne HO_694004.out BK668.out (by decide)) e_) hs_)); have n4_ := Aside0.mk (blk_kept (by (with_reducible repeat (first | refine blk_drewN ?_ _ | refine blk_drew ?_ | refine blk_alloc ?_ _)); exact BK685.out) hkp (fun hs_ => (fun e_ => (Kd.R_ne HO_694004.out BK685.out (by decide)) e_) hs_)); have n5_ := Aside0.mk (blk_kept (by (with_reducible repeat (first | refine blk_drewN ?_ _ | refine blk_drew ?_ | refine blk_alloc ?_ _)); exact BK693.out) hkp (fun hs_ => (fun e_ => (Kd.R_ne HO_694004.out BK693.out (by decide)) e_) hs_)); have n6_ := Aside0.mk (blk_kept (by (with_reducible repeat (first | refine blk_drewN ?_ _ | refine blk_drew ?_ | refine blk_alloc ?_ _)); exact BK702.out) hkp (fun hs_ => (fun e_ => (Kd.R_ne HO_694004.out BK702.out (by decide)) e_) hs_)); have n7_ := Aside0.mk (Kd.R_mono (ok' := fun k_ => some k_ ≠ (.slice Ao22 t681.length co22 : Value).ownBlock ∧ some k_ ≠ (.slice Ao29 t690.length co29 : Value).ownBlock ∧ some k_ ≠ (.slice Ao36 t698.length co36 : Value).ownBlock) (Kd.R_keptB (HO710.out) hkp (fun k_ hk_ hs_ => (hk_.1.2) hs_)) (fun k_ hk_ => ⟨hk_.1.1.1.2, hk_.1.1.2, hk_.1.2⟩)); have n8_ := Aside0.mk (hb); clear HO_686004; clear HO_694004; clear HO_703004; clear BK668; clear BK685; clear BK693; clear BK702; clear HO710; clear HB; have HO_686004 := n0_; have HO_694004 := n1_; have HO_703004 := n2_; have BK668 := n3_; have BK685 := n4_; have BK693 := n5_; have BK702 := n6_; have HO710 := n7_; have HB := n8_; clear n0_ n1_ n2_ n3_ n4_ n5_ n6_ n7_ n8_; (try clear hb); (try clear hkp); (try clear hy0)))
      (try simp only [Act.put, List.setIfInBounds_toArray, List.set_cons_zero, List.set_cons_succ])
      go_cut [61] (fun v61 wc => ∃ (kq : Nat) (x61_59 : Bool), v61 = .bool x61_59 ∧ Aside0 (laws_FnExactMirrorAxis.j1 kq t684 x61_59 a0_0 a0_1 a0_2 a0_3 l0_4 t677 t678 t679 t680 t681 t694 t695 t696 t697 t698 = some r) ∧ Aside0 (kq ≤ kj10) ∧ Aside0 (Kd.R k69 69 wc w.heap.size (fun k_ => some k_ ≠ ((.slice Ao29 t690.length co29) : Value).ownBlock ∧ some k_ ≠ ((.slice Ao36 t698.length co36) : Value).ownBlock) (.slice Ao22 t681.length co22) t681) ∧ Aside0 (Kd.R k69 69 wc w.heap.size (fun k_ => some k_ ≠ ((.slice Ao22 t681.length co22) : Value).ownBlock ∧ some k_ ≠ ((.slice Ao36 t698.length co36) : Value).ownBlock) (.slice Ao29 t690.length co29) t713) ∧ Aside0 (Kd.R k69 69 wc w.heap.size (fun k_ => some k_ ≠ ((.slice Ao22 t681.length co22) : Value).ownBlock ∧ some k_ ≠ ((.slice Ao29 t690.length co29) : Value).ownBlock) (.slice Ao36 t698.length co36) t698) ∧ Aside0 (wc.heap[gb668]? = some (.cells #[.int .i64 a0_0, .int .i64 a0_1, .int .i64 a0_2, .int .i64 a0_3, (.slice A0_4 l0_4.length c0_4)] 26 (0, 0))) ∧ Aside0 (wc.heap[gb685]? = some (.cells #[.int .i64 t677, .int .i64 t678, .int .i64 t679, .int .i64 t680, (.slice Ao22 t681.length co22)] 33 (0, 0))) ∧ Aside0 (wc.heap[gb693]? = some (.cells #[.int .i64 t686, .int .i64 t687, .int .i64 t688, .int .i64 t689, (.slice Ao29 t690.length co29)] 33 (0, 0))) ∧ Aside0 (wc.heap[gb702]? = some (.cells #[.int .i64 t694, .int .i64 t695, .int .i64 t696, .int .i64 t697, (.slice Ao36 t698.length co36)] 33 (0, 0))) ∧ Aside0 (Below w.heap.size w wc))
      case first =>
       have H := HC60.out
       clear HC60
       by_cases c70 : t712 < 0
       ·rw [if_pos c70] at H
        have c70b0 : decide (t712 < 0) = true := decide_eq_true c70
        clear c70
        (first | rw [c70b0] | (simp only [i64_w, i32_w]; rw [c70b0]) | skip)
        have H' := Aside0.mk H
        clear H
        go_wp2
        go_meet
        case rel => exact ⟨_, (true), (by first | rfl | (simp; done) | (simp [*]; done)), H', ⟨by have := HJ10.out; first | omega | exact Nat.le_refl _⟩, ⟨by (with_reducible repeat (first | apply Kd.R_alloc | apply Kd.R_drewN | apply Kd.R_drew)); exact Kd.R_mono HO_686004.out (fun _ hk => ⟨hk.1, hk.2.1⟩)⟩, ⟨by (with_reducible repeat (first | apply Kd.R_alloc | apply Kd.R_drewN | apply Kd.R_drew)); exact Kd.R_mono HO_694004.out (fun _ hk => ⟨hk.1.1, hk.1.2⟩)⟩, ⟨by (with_reducible repeat (first | apply Kd.R_alloc | apply Kd.R_drewN | apply Kd.R_drew)); exact Kd.R_mono HO_703004.out (fun _ hk => ⟨hk.1, hk.2.1⟩)⟩, ⟨by (with_reducible repeat (first | refine blk_drewN ?_ _ | refine blk_drew ?_ | refine blk_alloc ?_ _)); exact BK668.out⟩, ⟨by (with_reducible repeat (first | refine blk_drewN ?_ _ | refine blk_drew ?_ | refine blk_alloc ?_ _)); exact BK685.out⟩, ⟨by (with_reducible repeat (first | refine blk_drewN ?_ _ | refine blk_drew ?_ | refine blk_alloc ?_ _)); exact BK693.out⟩, ⟨by (with_reducible repeat (first | refine blk_drewN ?_ _ | refine blk_drew ?_ | refine blk_alloc ?_ _)); exact BK702.out⟩, ⟨by repeat (first | (with_reducible first | exact HB.out | apply below_alloc | apply pw_below_drewN | apply below_drew1 | refine below_set ?_ GE668.out | refine below_set ?_ GE685.out | refine below_set ?_ GE693.out | refine below_set ?_ GE702.out) | exact HB.out)⟩⟩
       ·rw [if_neg c70] at H
        have c70b0 : decide (t712 < 0) = false := decide_eq_false c70
        clear c70
        (first | rw [c70b0] | (simp only [i64_w, i32_w]; rw [c70b0]) | skip)
        replace H := Option.bind_eq_some_iff.mp H
        obtain ⟨t714, A710, H⟩ := H
        replace H : (if t714 = true then (laws_FnExactMirrorAxis.j1 kj10 t684 (t701 != t684) a0_0 a0_1 a0_2 a0_3 l0_4 t677 t678 t679 t680 t681 t694 t695 t696 t697 t698) else (laws_FnExactMirrorAxis.j1 kj10 t684 true a0_0 a0_1 a0_2 a0_3 l0_4 t677 t678 t679 t680 t681 t694 t695 t696 t697 t698)) = some r := H
        have A71 := Aside0.mk A710
        clear A710
        by_cases c72 : t714 = true
        ·subst c72
         have H1 : (laws_FnExactMirrorAxis.j1 kj10 t684 (t701 != t684) a0_0 a0_1 a0_2 a0_3 l0_4 t677 t678 t679 t680 t681 t694 t695 t696 t697 t698) = some r := by rw [if_pos rfl] at H; exact H
         clear H
         have H := H1
         clear H1
         have H' := Aside0.mk H
         clear H
         have hnb73 := NB702_668.out
         have hnc73 := NB668_702.out
         have hnb74 := NB702_685.out
         have hnc74 := NB685_702.out
         have hnb75 := NB702_693.out
         have hnc75 := NB693_702.out
         have hcz76_0 : w69.cell? ⟨gb702, 0, none⟩ = some (.int .i64 t694) := (blk_cell BK702.out 0).trans rfl
         have hcz76_1 : w69.cell? ⟨gb702, 1, none⟩ = some (.int .i64 t695) := (blk_cell BK702.out 1).trans rfl
         have hcz76_2 : w69.cell? ⟨gb702, 2, none⟩ = some (.int .i64 t696) := (blk_cell BK702.out 2).trans rfl
         have hcz76_3 : w69.cell? ⟨gb702, 3, none⟩ = some (.int .i64 t697) := (blk_cell BK702.out 3).trans rfl
         have hcz76_4 : w69.cell? ⟨gb702, 4, none⟩ = some (.slice Ao36 t698.length co36) := (blk_cell BK702.out 4).trans rfl
         have hfz76_0 := blk_frozen BK702.out 0
         have hfz76_1 := blk_frozen BK702.out 1
         have hfz76_2 := blk_frozen BK702.out 2
         have hfz76_3 := blk_frozen BK702.out 3
         have hfz76_4 := blk_frozen BK702.out 4
         have hnb77 := NB685_668.out
         have hnc77 := NB668_685.out
         have hnb78 := NB685_693.out
         have hnc78 := NB693_685.out
         have hcz79_0 : w69.cell? ⟨gb685, 0, none⟩ = some (.int .i64 t677) := (blk_cell BK685.out 0).trans rfl
         have hcz79_1 : w69.cell? ⟨gb685, 1, none⟩ = some (.int .i64 t678) := (blk_cell BK685.out 1).trans rfl
         have hcz79_2 : w69.cell? ⟨gb685, 2, none⟩ = some (.int .i64 t679) := (blk_cell BK685.out 2).trans rfl
         have hcz79_3 : w69.cell? ⟨gb685, 3, none⟩ = some (.int .i64 t680) := (blk_cell BK685.out 3).trans rfl
         have hcz79_4 : w69.cell? ⟨gb685, 4, none⟩ = some (.slice Ao22 t681.length co22) := (blk_cell BK685.out 4).trans rfl
         have hfz79_0 := blk_frozen BK685.out 0
         have hfz79_1 := blk_frozen BK685.out 1
         have hfz79_2 := blk_frozen BK685.out 2
         have hfz79_3 := blk_frozen BK685.out 3
         have hfz79_4 := blk_frozen BK685.out 4
         go_wp2_with (first | (go_at_call 20; (with_reducible refine (laws_eqAxis.calls kj10 t694 t695 t696 t697 _ _ t698 t677 t678 t679 t680 _ _ t681 true _ ?side1 ?side2 ?side3 ?side4 A71.out).mono ?_); (case side1 => repeat (first | exact (Kd.R_reads' HO_703004.out).2.2 | (with_reducible refine Kd.C_alloc ?_ _) | (with_reducible refine Kd.C_drewN ?_ _) | (with_reducible refine Kd.C_drew ?_))); (case side2 => exact (Kd.R_reads' HO_703004.out).2.1); (case side3 => repeat (first | exact (Kd.R_reads' HO_686004.out).2.2 | (with_reducible refine Kd.C_alloc ?_ _) | (with_reducible refine Kd.C_drewN ?_ _) | (with_reducible refine Kd.C_drew ?_))); (case side4 => exact (Kd.R_reads' HO_686004.out).2.1); rintro e w80 ⟨rfl, hb⟩; have n0_ := Aside0.mk (Kd.R_below (by (with_reducible repeat (first | apply Kd.R_alloc | apply Kd.R_drewN | apply Kd.R_drew)); exact HO_686004.out) hb); have n1_ := Aside0.mk (Kd.R_below (by (with_reducible repeat (first | apply Kd.R_alloc | apply Kd.R_drewN | apply Kd.R_drew)); exact HO_694004.out) hb); have n2_ := Aside0.mk (Kd.R_below (by (with_reducible repeat (first | apply Kd.R_alloc | apply Kd.R_drewN | apply Kd.R_drew)); exact HO_703004.out) hb); have n3_ := Aside0.mk (Kd.R_below (by (with_reducible repeat (first | apply Kd.R_alloc | apply Kd.R_drewN | apply Kd.R_drew)); exact HO710.out) hb); have n4_ := Aside0.mk (blk_below (g := gb668) (o := .cells #[.int .i64 a0_0, .int .i64 a0_1, .int .i64 a0_2, .int .i64 a0_3, .slice A0_4 l0_4.length c0_4] 26 (0, 0)) (by (with_reducible repeat (first | refine blk_drewN ?_ _ | refine blk_drew ?_ | refine blk_alloc ?_ _)); exact BK668.out) hb); have n5_ := Aside0.mk (blk_below (g := gb685) (o := .cells #[.int .i64 t677, .int .i64 t678, .int .i64 t679, .int .i64 t680, .slice Ao22 t681.length co22] 33 (0, 0)) (by (with_reducible repeat (first | refine blk_drewN ?_ _ | refine blk_drew ?_ | refine blk_alloc ?_ _)); exact BK685.out) hb); have n6_ := Aside0.mk (blk_below (g := gb693) (o := .cells #[.int .i64 t686, .int .i64 t687, .int .i64 t688, .int .i64 t689, .slice Ao29 t690.length co29] 33 (0, 0)) (by (with_reducible repeat (first | refine blk_drewN ?_ _ | refine blk_drew ?_ | refine blk_alloc ?_ _)); exact BK693.out) hb); have n7_ := Aside0.mk (blk_below (g := gb702) (o := .cells #[.int .i64 t694, .int .i64 t695, .int .i64 t696, .int .i64 t697, .slice Ao36 t698.length co36] 33 (0, 0)) (by (with_reducible repeat (first | refine blk_drewN ?_ _ | refine blk_drew ?_ | refine blk_alloc ?_ _)); exact BK702.out) hb); have n8_ := Aside0.mk (below_step (by repeat (first | (with_reducible first | exact HB.out | apply below_alloc | apply pw_below_drewN | apply below_drew1 | refine below_set ?_ GE668.out | refine below_set ?_ GE685.out | refine below_set ?_ GE693.out | refine below_set ?_ GE702.out) | exact HB.out)) hb); clear HO_686004; clear HO_694004; clear HO_703004; clear HO710; clear BK668; clear BK685; clear BK693; clear BK702; clear HB; have HO_686004 := n0_; have HO_694004 := n1_; have HO_703004 := n2_; have HO710 := n3_; have BK668 := n4_; have BK685 := n5_; have BK693 := n6_; have BK702 := n7_; have HB := n8_; clear n0_ n1_ n2_ n3_ n4_ n5_ n6_ n7_ n8_; (try clear hb); (try clear hb2); (try clear hk); (try clear hi)))
         go_meet
         case rel => exact ⟨_, ((t701 != t684)), (by first | rfl | (simp; done) | (simp [*]; done)), H', ⟨by have := HJ10.out; first | omega | exact Nat.le_refl _⟩, ⟨by (with_reducible repeat (first | apply Kd.R_alloc | apply Kd.R_drewN | apply Kd.R_drew)); exact Kd.R_mono HO_686004.out (fun _ hk => ⟨hk.1, hk.2.1⟩)⟩, ⟨by (with_reducible repeat (first | apply Kd.R_alloc | apply Kd.R_drewN | apply Kd.R_drew)); exact Kd.R_mono HO_694004.out (fun _ hk => ⟨hk.1.1, hk.1.2⟩)⟩, ⟨by (with_reducible repeat (first | apply Kd.R_alloc | apply Kd.R_drewN | apply Kd.R_drew)); exact Kd.R_mono HO_703004.out (fun _ hk => ⟨hk.1, hk.2.1⟩)⟩, ⟨by (with_reducible repeat (first | refine blk_drewN ?_ _ | refine blk_drew ?_ | refine blk_alloc ?_ _)); exact BK668.out⟩, ⟨by (with_reducible repeat (first | refine blk_drewN ?_ _ | refine blk_drew ?_ | refine blk_alloc ?_ _)); exact BK685.out⟩, ⟨by (with_reducible repeat (first | refine blk_drewN ?_ _ | refine blk_drew ?_ | refine blk_alloc ?_ _)); exact BK693.out⟩, ⟨by (with_reducible repeat (first | refine blk_drewN ?_ _ | refine blk_drew ?_ | refine blk_alloc ?_ _)); exact BK702.out⟩, ⟨by repeat (first | (with_reducible first | exact HB.out | apply below_alloc | apply pw_below_drewN | apply below_drew1 | refine below_set ?_ GE668.out | refine below_set ?_ GE685.out | refine below_set ?_ GE693.out | refine below_set ?_ GE702.out) | exact HB.out)⟩⟩
        ·replace c72 := Bool.eq_false_iff.mpr c72
         subst c72
         have H1 : (laws_FnExactMirrorAxis.j1 kj10 t684 true a0_0 a0_1 a0_2 a0_3 l0_4 t677 t678 t679 t680 t681 t694 t695 t696 t697 t698) = some r := by rw [if_neg (show ¬ (false = true) by decide)] at H; exact H
         clear H
         have H := H1
         clear H1
         have H' := Aside0.mk H
         clear H
         have hnb81 := NB702_668.out
         have hnc81 := NB668_702.out
         have hnb82 := NB702_685.out
         have hnc82 := NB685_702.out
         have hnb83 := NB702_693.out
         have hnc83 := NB693_702.out
         have hcz84_0 : w69.cell? ⟨gb702, 0, none⟩ = some (.int .i64 t694) := (blk_cell BK702.out 0).trans rfl
         have hcz84_1 : w69.cell? ⟨gb702, 1, none⟩ = some (.int .i64 t695) := (blk_cell BK702.out 1).trans rfl
         have hcz84_2 : w69.cell? ⟨gb702, 2, none⟩ = some (.int .i64 t696) := (blk_cell BK702.out 2).trans rfl
         have hcz84_3 : w69.cell? ⟨gb702, 3, none⟩ = some (.int .i64 t697) := (blk_cell BK702.out 3).trans rfl
         have hcz84_4 : w69.cell? ⟨gb702, 4, none⟩ = some (.slice Ao36 t698.length co36) := (blk_cell BK702.out 4).trans rfl
         have hfz84_0 := blk_frozen BK702.out 0
         have hfz84_1 := blk_frozen BK702.out 1
         have hfz84_2 := blk_frozen BK702.out 2
         have hfz84_3 := blk_frozen BK702.out 3
         have hfz84_4 := blk_frozen BK702.out 4
         have hnb85 := NB685_668.out
         have hnc85 := NB668_685.out
         have hnb86 := NB685_693.out
         have hnc86 := NB693_685.out
         have hcz87_0 : w69.cell? ⟨gb685, 0, none⟩ = some (.int .i64 t677) := (blk_cell BK685.out 0).trans rfl
         have hcz87_1 : w69.cell? ⟨gb685, 1, none⟩ = some (.int .i64 t678) := (blk_cell BK685.out 1).trans rfl
         have hcz87_2 : w69.cell? ⟨gb685, 2, none⟩ = some (.int .i64 t679) := (blk_cell BK685.out 2).trans rfl
         have hcz87_3 : w69.cell? ⟨gb685, 3, none⟩ = some (.int .i64 t680) := (blk_cell BK685.out 3).trans rfl
         have hcz87_4 : w69.cell? ⟨gb685, 4, none⟩ = some (.slice Ao22 t681.length co22) := (blk_cell BK685.out 4).trans rfl
         have hfz87_0 := blk_frozen BK685.out 0
         have hfz87_1 := blk_frozen BK685.out 1
         have hfz87_2 := blk_frozen BK685.out 2
         have hfz87_3 := blk_frozen BK685.out 3
         have hfz87_4 := blk_frozen BK685.out 4
         go_wp2_with (first | (go_at_call 20; (with_reducible refine (laws_eqAxis.calls kj10 t694 t695 t696 t697 _ _ t698 t677 t678 t679 t680 _ _ t681 false _ ?side1 ?side2 ?side3 ?side4 A71.out).mono ?_); (case side1 => repeat (first | exact (Kd.R_reads' HO_703004.out).2.2 | (with_reducible refine Kd.C_alloc ?_ _) | (with_reducible refine Kd.C_drewN ?_ _) | (with_reducible refine Kd.C_drew ?_))); (case side2 => exact (Kd.R_reads' HO_703004.out).2.1); (case side3 => repeat (first | exact (Kd.R_reads' HO_686004.out).2.2 | (with_reducible refine Kd.C_alloc ?_ _) | (with_reducible refine Kd.C_drewN ?_ _) | (with_reducible refine Kd.C_drew ?_))); (case side4 => exact (Kd.R_reads' HO_686004.out).2.1); rintro e w88 ⟨rfl, hb⟩; have n0_ := Aside0.mk (Kd.R_below (by (with_reducible repeat (first | apply Kd.R_alloc | apply Kd.R_drewN | apply Kd.R_drew)); exact HO_686004.out) hb); have n1_ := Aside0.mk (Kd.R_below (by (with_reducible repeat (first | apply Kd.R_alloc | apply Kd.R_drewN | apply Kd.R_drew)); exact HO_694004.out) hb); have n2_ := Aside0.mk (Kd.R_below (by (with_reducible repeat (first | apply Kd.R_alloc | apply Kd.R_drewN | apply Kd.R_drew)); exact HO_703004.out) hb); have n3_ := Aside0.mk (Kd.R_below (by (with_reducible repeat (first | apply Kd.R_alloc | apply Kd.R_drewN | apply Kd.R_drew)); exact HO710.out) hb); have n4_ := Aside0.mk (blk_below (g := gb668) (o := .cells #[.int .i64 a0_0, .int .i64 a0_1, .int .i64 a0_2, .int .i64 a0_3, .slice A0_4 l0_4.length c0_4] 26 (0, 0)) (by (with_reducible repeat (first | refine blk_drewN ?_ _ | refine blk_drew ?_ | refine blk_alloc ?_ _)); exact BK668.out) hb); have n5_ := Aside0.mk (blk_below (g := gb685) (o := .cells #[.int .i64 t677, .int .i64 t678, .int .i64 t679, .int .i64 t680, .slice Ao22 t681.length co22] 33 (0, 0)) (by (with_reducible repeat (first | refine blk_drewN ?_ _ | refine blk_drew ?_ | refine blk_alloc ?_ _)); exact BK685.out) hb); have n6_ := Aside0.mk (blk_below (g := gb693) (o := .cells #[.int .i64 t686, .int .i64 t687, .int .i64 t688, .int .i64 t689, .slice Ao29 t690.length co29] 33 (0, 0)) (by (with_reducible repeat (first | refine blk_drewN ?_ _ | refine blk_drew ?_ | refine blk_alloc ?_ _)); exact BK693.out) hb); have n7_ := Aside0.mk (blk_below (g := gb702) (o := .cells #[.int .i64 t694, .int .i64 t695, .int .i64 t696, .int .i64 t697, .slice Ao36 t698.length co36] 33 (0, 0)) (by (with_reducible repeat (first | refine blk_drewN ?_ _ | refine blk_drew ?_ | refine blk_alloc ?_ _)); exact BK702.out) hb); have n8_ := Aside0.mk (below_step (by repeat (first | (with_reducible first | exact HB.out | apply below_alloc | apply pw_below_drewN | apply below_drew1 | refine below_set ?_ GE668.out | refine below_set ?_ GE685.out | refine below_set ?_ GE693.out | refine below_set ?_ GE702.out) | exact HB.out)) hb); clear HO_686004; clear HO_694004; clear HO_703004; clear HO710; clear BK668; clear BK685; clear BK693; clear BK702; clear HB; have HO_686004 := n0_; have HO_694004 := n1_; have HO_703004 := n2_; have HO710 := n3_; have BK668 := n4_; have BK685 := n5_; have BK693 := n6_; have BK702 := n7_; have HB := n8_; clear n0_ n1_ n2_ n3_ n4_ n5_ n6_ n7_ n8_; (try clear hb); (try clear hb2); (try clear hk); (try clear hi)))
         go_meet
         case rel => exact ⟨_, (true), (by first | rfl | (simp; done) | (simp [*]; done)), H', ⟨by have := HJ10.out; first | omega | exact Nat.le_refl _⟩, ⟨by (with_reducible repeat (first | apply Kd.R_alloc | apply Kd.R_drewN | apply Kd.R_drew)); exact Kd.R_mono HO_686004.out (fun _ hk => ⟨hk.1, hk.2.1⟩)⟩, ⟨by (with_reducible repeat (first | apply Kd.R_alloc | apply Kd.R_drewN | apply Kd.R_drew)); exact Kd.R_mono HO_694004.out (fun _ hk => ⟨hk.1.1, hk.1.2⟩)⟩, ⟨by (with_reducible repeat (first | apply Kd.R_alloc | apply Kd.R_drewN | apply Kd.R_drew)); exact Kd.R_mono HO_703004.out (fun _ hk => ⟨hk.1, hk.2.1⟩)⟩, ⟨by (with_reducible repeat (first | refine blk_drewN ?_ _ | refine blk_drew ?_ | refine blk_alloc ?_ _)); exact BK668.out⟩, ⟨by (with_reducible repeat (first | refine blk_drewN ?_ _ | refine blk_drew ?_ | refine blk_alloc ?_ _)); exact BK685.out⟩, ⟨by (with_reducible repeat (first | refine blk_drewN ?_ _ | refine blk_drew ?_ | refine blk_alloc ?_ _)); exact BK693.out⟩, ⟨by (with_reducible repeat (first | refine blk_drewN ?_ _ | refine blk_drew ?_ | refine blk_alloc ?_ _)); exact BK702.out⟩, ⟨by repeat (first | (with_reducible first | exact HB.out | apply below_alloc | apply pw_below_drewN | apply below_drew1 | refine below_set ?_ GE668.out | refine below_set ?_ GE685.out | refine below_set ?_ GE693.out | refine below_set ?_ GE702.out) | exact HB.out)⟩⟩
      case rest =>
       clear HC60
       try clear c1
       try clear c2
       try clear p2
       try clear c3
       try clear c3b0
       try clear c4
       try clear c5
       try clear c6
       try clear c7
       try clear c8
       try clear c15
       try clear c17
       try clear c20
       try clear c26
       try clear c27
       try clear c32
       try clear c33
       try clear c34
       try clear c35
       try clear c36
       try clear c38
       try clear c39
       try clear c40
       try clear c41
       try clear c43
       try clear c44
       try clear c47
       try clear c48
       try clear c49
       try clear c51
       try clear c52
       try clear c55
       try clear c58
       try clear c65
       try clear c66
       try clear c67
       try clear c70
       try clear c70b0
       try clear c72
       try clear c73
       try clear c74
       try clear c75
       try clear c77
       try clear c78
       try clear c81
       try clear c82
       try clear c83
       try clear c85
       try clear c86
       try clear hcz13_0
       try clear hcz13_1
       try clear hcz13_2
       try clear hcz13_3
       try clear hcz13_4
       try clear hcz15_0
       try clear hcz15_1
       try clear hcz15_2
       try clear hcz15_3
       try clear hcz15_4
       try clear hcz21_0
       try clear hcz21_1
       try clear hcz21_2
       try clear hcz21_3
       try clear hcz21_4
       try clear hcz23_0
       try clear hcz23_1
       try clear hcz23_2
       try clear hcz23_3
       try clear hcz23_4
       try clear hcz28_0
       try clear hcz28_1
       try clear hcz28_2
       try clear hcz28_3
       try clear hcz28_4
       try clear hcz35_0
       try clear hcz35_1
       try clear hcz35_2
       try clear hcz35_3
       try clear hcz35_4
       try clear hcz42_0
       try clear hcz42_1
       try clear hcz42_2
       try clear hcz42_3
       try clear hcz42_4
       try clear hcz45_0
       try clear hcz45_1
       try clear hcz45_2
       try clear hcz45_3
       try clear hcz45_4
       try clear hcz50_0
       try clear hcz50_1
       try clear hcz50_2
       try clear hcz50_3
       try clear hcz50_4
       try clear hcz53_0
       try clear hcz53_1
       try clear hcz53_2
       try clear hcz53_3
       try clear hcz53_4
       try clear hcz5_0
       try clear hcz5_1
       try clear hcz5_2
       try clear hcz5_3
       try clear hcz5_4
       try clear hcz68_0
       try clear hcz68_1
       try clear hcz68_2
       try clear hcz68_3
       try clear hcz68_4
       try clear hcz76_0
       try clear hcz76_1
       try clear hcz76_2
       try clear hcz76_3
       try clear hcz76_4
       try clear hcz79_0
       try clear hcz79_1
       try clear hcz79_2
       try clear hcz79_3
       try clear hcz79_4
       try clear hcz84_0
       try clear hcz84_1
       try clear hcz84_2
       try clear hcz84_3
       try clear hcz84_4
       try clear hcz87_0
       try clear hcz87_1
       try clear hcz87_2
       try clear hcz87_3
       try clear hcz87_4
       try clear hfz13_0
       try clear hfz13_1
       try clear hfz13_2
       try clear hfz13_3
       try clear hfz13_4
       try clear hfz15_0
       try clear hfz15_1
       try clear hfz15_2
       try clear hfz15_3
       try clear hfz15_4
       try clear hfz21_0
       try clear hfz21_1
       try clear hfz21_2
       try clear hfz21_3
       try clear hfz21_4
       try clear hfz23_0
       try clear hfz23_1
       try clear hfz23_2
       try clear hfz23_3
       try clear hfz23_4
       try clear hfz28_0
       try clear hfz28_1
       try clear hfz28_2
       try clear hfz28_3
       try clear hfz28_4
       try clear hfz35_0
       try clear hfz35_1
       try clear hfz35_2
       try clear hfz35_3
       try clear hfz35_4
       try clear hfz42_0
       try clear hfz42_1
       try clear hfz42_2
       try clear hfz42_3
       try clear hfz42_4
       try clear hfz45_0
       try clear hfz45_1
       try clear hfz45_2
       try clear hfz45_3
       try clear hfz45_4
       try clear hfz50_0
       try clear hfz50_1
       try clear hfz50_2
       try clear hfz50_3
       try clear hfz50_4
       try clear hfz53_0
       try clear hfz53_1
       try clear hfz53_2
       try clear hfz53_3
       try clear hfz53_4
       try clear hfz5_0
       try clear hfz5_1
       try clear hfz5_2
       try clear hfz5_3
       try clear hfz5_4
       try clear hfz68_0
       try clear hfz68_1
       try clear hfz68_2
       try clear hfz68_3
       try clear hfz68_4
       try clear hfz76_0
       try clear hfz76_1
       try clear hfz76_2
       try clear hfz76_3
       try clear hfz76_4
       try clear hfz79_0
       try clear hfz79_1
       try clear hfz79_2
       try clear hfz79_3
       try clear hfz79_4
       try clear hfz84_0
       try clear hfz84_1
       try clear hfz84_2
       try clear hfz84_3
       try clear hfz84_4
       try clear hfz87_0
       try clear hfz87_1
       try clear hfz87_2
       try clear hfz87_3
       try clear hfz87_4
       try clear p2
       obtain ⟨kq, x61_59, rfl, HA, HJ59, HO_686004, HO_694004, HO_703004, BK668, BK685, BK693, BK702, HB⟩ := hcut
       have hl694004_59 := (Kd.R_reads' HO_694004.out).1
       rw [hl694004_59] at HO_694004
       (try simp only [hl694004_59])
       (try simp only [hl694004_59] at BK668)
       (try simp only [hl694004_59] at BK685)
       (try simp only [hl694004_59] at BK693)
       (try simp only [hl694004_59] at BK702)
       (try simp only [hl694004_59] at HO_686004)
       (try simp only [hl694004_59] at HO_703004)
       cases kq with
       | zero => exact absurd HA.out (by simp [laws_FnExactMirrorAxis.j1])
       | succ kj59 =>
        have H := HA.out
        clear HA
        simp only [laws_FnExactMirrorAxis.j1] at H
        by_cases c89 : x61_59 = true
        ·subst c89
         have H1 : (some false) = some r := by rw [if_pos rfl] at H; exact H
         clear H
         have H := H1
         clear H1
         obtain rfl := Option.some.inj H
         go_wp2
         go_ret
         exact ⟨by first | rfl | (simp [errW_none, errW_some] <;> rfl) | (simp [*, errW_none, errW_some] <;> rfl), by repeat (first | (with_reducible first | exact HB.out | apply below_alloc | apply pw_below_drewN | apply below_drew1 | refine below_set ?_ GE668.out | refine below_set ?_ GE685.out | refine below_set ?_ GE693.out | refine below_set ?_ GE702.out) | exact HB.out)⟩
        ·replace c89 := Bool.eq_false_iff.mpr c89
         subst c89
         have H1 : ((laws_markAxis.f kj59 t694 t695 t696 t697 t698 1).bind fun bt715 => ((laws_heldAxis.f kj59 t694 t695 t696 t697 bt715.2 1).bind fun t717 => (if t717 < 0 then (some false) else (if t717 = bt715.1 then ((laws_toAxis.f kj59 a0_0 a0_1 a0_2 a0_3 l0_4).bind fun bt718 => ((impl_MirrorAxis.f kj59 bt718.1 bt718.2.1 bt718.2.2.1 bt718.2.2.2.1 bt718.2.2.2.2).bind fun bt725 => ((laws_eqAxis.f kj59 bt725.1 bt725.2.1 bt725.2.2.1 bt725.2.2.2.1 bt725.2.2.2.2.1 t677 t678 t679 t680 t681).bind fun t734 => (if t734 = true then (laws_FnExactMirrorAxis.j2 kj59 bt715.1 (bt725.2.2.2.2.2 != t684) t694 t695 t696 t697 bt715.2) else (laws_FnExactMirrorAxis.j2 kj59 bt715.1 true t694 t695 t696 t697 bt715.2))))) else (some false))))) = some r := by rw [if_neg (show ¬ (false = true) by decide)] at H; exact H
         clear H
         have H := H1
         clear H1
         replace H := Option.bind_eq_some_iff.mp H
         obtain ⟨⟨t715, t716⟩, A900, H⟩ := H
         replace H : ((laws_heldAxis.f kj59 t694 t695 t696 t697 t716 1).bind fun t717 => (if t717 < 0 then (some false) else (if t717 = t715 then ((laws_toAxis.f kj59 a0_0 a0_1 a0_2 a0_3 l0_4).bind fun bt718 => ((impl_MirrorAxis.f kj59 bt718.1 bt718.2.1 bt718.2.2.1 bt718.2.2.2.1 bt718.2.2.2.2).bind fun bt725 => ((laws_eqAxis.f kj59 bt725.1 bt725.2.1 bt725.2.2.1 bt725.2.2.2.1 bt725.2.2.2.2.1 t677 t678 t679 t680 t681).bind fun t734 => (if t734 = true then (laws_FnExactMirrorAxis.j2 kj59 t715 (bt725.2.2.2.2.2 != t684) t694 t695 t696 t697 t716) else (laws_FnExactMirrorAxis.j2 kj59 t715 true t694 t695 t696 t697 t716))))) else (some false)))) = some r := H
         have A90 := Aside0.mk A900
         clear A900
         replace H := Option.bind_eq_some_iff.mp H
         obtain ⟨t717, A910, H⟩ := H
         replace H : (if t717 < 0 then (some false) else (if t717 = t715 then ((laws_toAxis.f kj59 a0_0 a0_1 a0_2 a0_3 l0_4).bind fun bt718 => ((impl_MirrorAxis.f kj59 bt718.1 bt718.2.1 bt718.2.2.1 bt718.2.2.2.1 bt718.2.2.2.2).bind fun bt725 => ((laws_eqAxis.f kj59 bt725.1 bt725.2.1 bt725.2.2.1 bt725.2.2.2.1 bt725.2.2.2.2.1 t677 t678 t679 t680 t681).bind fun t734 => (if t734 = true then (laws_FnExactMirrorAxis.j2 kj59 t715 (bt725.2.2.2.2.2 != t684) t694 t695 t696 t697 t716) else (laws_FnExactMirrorAxis.j2 kj59 t715 true t694 t695 t696 t697 t716))))) else (some false))) = some r := H
         have A91 := Aside0.mk A910
         clear A910
         by_cases c92 : t717 < 0
         ·rw [if_pos c92] at H
          have c92b0 : decide (t717 < 0) = true := decide_eq_true c92
          clear c92
          obtain rfl := Option.some.inj H
          have hnb93 := NB702_668.out
          have hnc93 := NB668_702.out
          have hnb94 := NB702_685.out
          have hnc94 := NB685_702.out
          have hnb95 := NB702_693.out
          have hnc95 := NB693_702.out
          have hcz96_0 : wc.cell? ⟨gb702, 0, none⟩ = some (.int .i64 t694) := (blk_cell BK702.out 0).trans rfl
          have hcz96_1 : wc.cell? ⟨gb702, 1, none⟩ = some (.int .i64 t695) := (blk_cell BK702.out 1).trans rfl
          have hcz96_2 : wc.cell? ⟨gb702, 2, none⟩ = some (.int .i64 t696) := (blk_cell BK702.out 2).trans rfl
          have hcz96_3 : wc.cell? ⟨gb702, 3, none⟩ = some (.int .i64 t697) := (blk_cell BK702.out 3).trans rfl
          have hcz96_4 : wc.cell? ⟨gb702, 4, none⟩ = some (.slice Ao36 t698.length co36) := (blk_cell BK702.out 4).trans rfl
          have hfz96_0 := blk_frozen BK702.out 0
          have hfz96_1 := blk_frozen BK702.out 1
          have hfz96_2 := blk_frozen BK702.out 2
          have hfz96_3 := blk_frozen BK702.out 3
          have hfz96_4 := blk_frozen BK702.out 4
          go_wp2_with (first | ((with_reducible refine gate_callee (f := 36) rfl ?_); refine goesL_ (some 64) rfl rfl Try.func36 (by kernel_rfl) rfl #[.agg #[.int .i64 t694, .int .i64 t695, .int .i64 t696, .int .i64 t697, .slice Ao36 t698.length co36], .int .i64 1] rfl (by (try simp only [List.map_toArray, List.map_cons, List.map_nil]); first | done | rfl | (simp only [List.length_drop, List.length_take]; rfl)) ?_; (with_reducible refine (laws_markAxis.calls kj59 t694 t695 t696 t697 (fun k_ => some k_ = (.slice Ao36 t698.length co36 : Value).ownBlock) (.slice Ao36 t698.length co36) t698 1 t715 t716 w _ ?side1 ?side2 A90.out).mono ?_); (case side1 => repeat (first | (with_reducible first | exact HB.out | apply below_alloc | apply pw_below_drewN | apply below_drew1 | refine below_set ?_ GE668.out | refine below_set ?_ GE685.out | refine below_set ?_ GE693.out | refine below_set ?_ GE702.out) | exact HB.out)); (case side2 => exact Kd.R_tight rfl HO_703004.out); rintro e w97 ⟨rfl, hy0, hb, hkp⟩; refine ⟨_, rfl, ?_⟩; have n0_ := Aside0.mk (Kd.R_mono (ok' := fun k_ => some k_ ≠ (.slice Ao29 t713.length co29 : Value).ownBlock ∧ some k_ ≠ (.slice Ao36 t698.length co36 : Value).ownBlock) (Kd.R_keptB (HO_686004.out) hkp (fun k_ hk_ hs_ => (hk_.2) hs_)) (fun k_ hk_ => ⟨hk_.1.1, hk_.1.2⟩)); have n1_ := Aside0.mk (Kd.R_mono (ok' := fun k_ => some k_ ≠ (.slice Ao22 t681.length co22 : Value).ownBlock ∧ some k_ ≠ (.slice Ao36 t698.length co36 : Value).ownBlock) (Kd.R_keptB (HO_694004.out) hkp (fun k_ hk_ hs_ => (hk_.2) hs_)) (fun k_ hk_ => ⟨hk_.1.1, hk_.1.2⟩)); have n2_ := Aside0.mk (Kd.R_reok rfl hy0 (fun k_ e_ => HO_703004.out.1 k_ e_)); have n3_ := Aside0.mk (blk_kept (by (with_reducible repeat (first | refine blk_drewN ?_ _ | refine blk_drew ?_ | refine blk_alloc ?_ _)); exact BK668.out) hkp (fun hs_ => (fun e_ => (Kd.R_ne HO_703004.out BK668.out (by decide)) e_) hs_)); have n4_ := Aside0.mk (blk_kept (by (with_reducible repeat (first | refine blk_drewN ?_ _ | refine blk_drew ?_ | refine blk_alloc ?_ _)); exact BK685.out) hkp (fun hs_ => (fun e_ => (Kd.R_ne HO_703004.out BK685.out (by decide)) e_) hs_)); have n5_ := Aside0.mk (blk_kept (by (with_reducible repeat (first | refine blk_drewN ?_ _ | refine blk_drew ?_ | refine blk_alloc ?_ _)); exact BK693.out) hkp (fun hs_ => (fun e_ => (Kd.R_ne HO_703004.out BK693.out (by decide)) e_) hs_)); have n6_ := Aside0.mk (blk_kept (by (with_reducible repeat (first | refine blk_drewN ?_ _ | refine blk_drew ?_ | refine blk_alloc ?_ _)); exact BK702.out) hkp (fun hs_ => (fun e_ => (Kd.R_ne HO_703004.out BK702.out (by decide)) e_) hs_)); have n7_ := Aside0.mk (hb); clear HO_686004; clear HO_694004; clear HO_703004; clear BK668; clear BK685; clear BK693; clear BK702; clear HB; have HO_686004 := n0_; have HO_694004 := n1_; have HO_703004 := n2_; have BK668 := n3_; have BK685 := n4_; have BK693 := n5_; have BK702 := n6_; have HB := n7_; clear n0_ n1_ n2_ n3_ n4_ n5_ n6_ n7_; (try clear hb); (try clear hkp); (try clear hy0); have hcz98_0 : w97.cell? ⟨gb702, 0, none⟩ = some (.int .i64 t694) := (blk_cell BK702.out 0).trans rfl; have hcz98_1 : w97.cell? ⟨gb702, 1, none⟩ = some (.int .i64 t695) := (blk_cell BK702.out 1).trans rfl; have hcz98_2 : w97.cell? ⟨gb702, 2, none⟩ = some (.int .i64 t696) := (blk_cell BK702.out 2).trans rfl; have hcz98_3 : w97.cell? ⟨gb702, 3, none⟩ = some (.int .i64 t697) := (blk_cell BK702.out 3).trans rfl; have hcz98_4 : w97.cell? ⟨gb702, 4, none⟩ = some (.slice Ao36 t698.length co36) := (blk_cell BK702.out 4).trans rfl; have hfz98_0 := blk_frozen BK702.out 0; have hfz98_1 := blk_frozen BK702.out 1; have hfz98_2 := blk_frozen BK702.out 2; have hfz98_3 := blk_frozen BK702.out 3; have hfz98_4 := blk_frozen BK702.out 4) | ((with_reducible refine gate_callee (f := 37) rfl ?_); refine goesL_ (some 67) rfl rfl Try.func37 (by kernel_rfl) rfl #[.agg #[.int .i64 t694, .int .i64 t695, .int .i64 t696, .int .i64 t697, .slice Ao36 t716.length co36], .int .i64 1] rfl (by (try simp only [List.map_toArray, List.map_cons, List.map_nil]); first | done | (rw [show t716.length = t698.length from (Kd.R_reads' HO_703004.out).1.symm] <;> rfl) | rfl | (simp only [List.length_drop, List.length_take]; rfl)) ?_; (with_reducible refine (laws_heldAxis.calls kj59 t694 t695 t696 t697 _ _ t716 1 t717 _ ?side1 ?side2 A91.out).mono ?_); (case side1 => repeat (first | exact (Kd.R_reads' HO_703004.out).2.2 | (with_reducible refine Kd.C_alloc ?_ _) | (with_reducible refine Kd.C_drewN ?_ _) | (with_reducible refine Kd.C_drew ?_))); (case side2 => rw [show t716.length = t698.length from (Kd.R_reads' HO_703004.out).1.symm]; exact (Kd.R_reads' HO_703004.out).2.1); rintro e w99 ⟨rfl, hb⟩; refine ⟨_, rfl, ?_⟩; have n0_ := Aside0.mk (Kd.R_below (by (with_reducible repeat (first | apply Kd.R_alloc | apply Kd.R_drewN | apply Kd.R_drew)); exact HO_686004.out) hb); have n1_ := Aside0.mk (Kd.R_below (by (with_reducible repeat (first | apply Kd.R_alloc | apply Kd.R_drewN | apply Kd.R_drew)); exact HO_694004.out) hb); have n2_ := Aside0.mk (Kd.R_below (by (with_reducible repeat (first | apply Kd.R_alloc | apply Kd.R_drewN | apply Kd.R_drew)); exact HO_703004.out) hb); have n3_ := Aside0.mk (blk_below (g := gb668) (o := .cells #[.int .i64 a0_0, .int .i64 a0_1, .int .i64 a0_2, .int .i64 a0_3, .slice A0_4 l0_4.length c0_4] 26 (0, 0)) (by (with_reducible repeat (first | refine blk_drewN ?_ _ | refine blk_drew ?_ | refine blk_alloc ?_ _)); exact BK668.out) hb); have n4_ := Aside0.mk (blk_below (g := gb685) (o := .cells #[.int .i64 t677, .int .i64 t678, .int .i64 t679, .int .i64 t680, .slice Ao22 t681.length co22] 33 (0, 0)) (by (with_reducible repeat (first | refine blk_drewN ?_ _ | refine blk_drew ?_ | refine blk_alloc ?_ _)); exact BK685.out) hb); have n5_ := Aside0.mk (blk_below (g := gb693) (o := .cells #[.int .i64 t686, .int .i64 t687, .int .i64 t688, .int .i64 t689, .slice Ao29 t713.length co29] 33 (0, 0)) (by (with_reducible repeat (first | refine blk_drewN ?_ _ | refine blk_drew ?_ | refine blk_alloc ?_ _)); exact BK693.out) hb); have n6_ := Aside0.mk (blk_below (g := gb702) (o := .cells #[.int .i64 t694, .int .i64 t695, .int .i64 t696, .int .i64 t697, .slice Ao36 t698.length co36] 33 (0, 0)) (by (with_reducible repeat (first | refine blk_drewN ?_ _ | refine blk_drew ?_ | refine blk_alloc ?_ _)); exact BK702.out) hb); have n7_ := Aside0.mk (below_step (by repeat (first | (with_reducible first | exact HB.out | apply below_alloc | apply pw_below_drewN | apply below_drew1 | refine below_set ?_ GE668.out | refine below_set ?_ GE685.out | refine below_set ?_ GE693.out | refine below_set ?_ GE702.out) | exact HB.out)) hb); clear HO_686004; clear HO_694004; clear HO_703004; clear BK668; clear BK685; clear BK693; clear BK702; clear HB; have HO_686004 := n0_; have HO_694004 := n1_; have HO_703004 := n2_; have BK668 := n3_; have BK685 := n4_; have BK693 := n5_; have BK702 := n6_; have HB := n7_; clear n0_ n1_ n2_ n3_ n4_ n5_ n6_ n7_; (try clear hb); (try clear hb2); (try clear hk); (try clear hi)))
          go_ret
          exact ⟨by first | rfl | (simp [errW_none, errW_some] <;> rfl) | (simp [*, errW_none, errW_some] <;> rfl), by repeat (first | (with_reducible first | exact HB.out | apply below_alloc | apply pw_below_drewN | apply below_drew1 | refine below_set ?_ GE668.out | refine below_set ?_ GE685.out | refine below_set ?_ GE693.out | refine below_set ?_ GE702.out) | exact HB.out)⟩
         ·rw [if_neg c92] at H
          have c92b0 : decide (t717 < 0) = false := decide_eq_false c92
          clear c92
          by_cases c100 : t717 = t715
          ·rw [if_pos c100] at H
           have c100b0 : (t717 == t715) = true := beq_iff_eq.mpr c100
           have c100b1 : (t717 != t715) = false := bne_eq_false_iff_eq.mpr c100
           clear c100
           replace H := Option.bind_eq_some_iff.mp H
           obtain ⟨⟨t718, t719, t720, t721, t722⟩, A1010, H⟩ := H
           replace H : ((impl_MirrorAxis.f kj59 t718 t719 t720 t721 t722).bind fun bt725 => ((laws_eqAxis.f kj59 bt725.1 bt725.2.1 bt725.2.2.1 bt725.2.2.2.1 bt725.2.2.2.2.1 t677 t678 t679 t680 t681).bind fun t734 => (if t734 = true then (laws_FnExactMirrorAxis.j2 kj59 t715 (bt725.2.2.2.2.2 != t684) t694 t695 t696 t697 t716) else (laws_FnExactMirrorAxis.j2 kj59 t715 true t694 t695 t696 t697 t716)))) = some r := H
           have A101 := Aside0.mk A1010
           clear A1010
           replace H := Option.bind_eq_some_iff.mp H
           obtain ⟨⟨t725, t726, t727, t728, t729, t732⟩, A1020, H⟩ := H
           replace H : ((laws_eqAxis.f kj59 t725 t726 t727 t728 t729 t677 t678 t679 t680 t681).bind fun t734 => (if t734 = true then (laws_FnExactMirrorAxis.j2 kj59 t715 (t732 != t684) t694 t695 t696 t697 t716) else (laws_FnExactMirrorAxis.j2 kj59 t715 true t694 t695 t696 t697 t716))) = some r := H
           have A102 := Aside0.mk A1020
           clear A1020
           have HC103 := Aside0.mk H
           clear H
           have hnb104 := NB702_668.out
           have hnc104 := NB668_702.out
           have hnb105 := NB702_685.out
           have hnc105 := NB685_702.out
           have hnb106 := NB702_693.out
           have hnc106 := NB693_702.out
           have hcz107_0 : wc.cell? ⟨gb702, 0, none⟩ = some (.int .i64 t694) := (blk_cell BK702.out 0).trans rfl
           have hcz107_1 : wc.cell? ⟨gb702, 1, none⟩ = some (.int .i64 t695) := (blk_cell BK702.out 1).trans rfl
           have hcz107_2 : wc.cell? ⟨gb702, 2, none⟩ = some (.int .i64 t696) := (blk_cell BK702.out 2).trans rfl
           have hcz107_3 : wc.cell? ⟨gb702, 3, none⟩ = some (.int .i64 t697) := (blk_cell BK702.out 3).trans rfl
           have hcz107_4 : wc.cell? ⟨gb702, 4, none⟩ = some (.slice Ao36 t698.length co36) := (blk_cell BK702.out 4).trans rfl
           have hfz107_0 := blk_frozen BK702.out 0
           have hfz107_1 := blk_frozen BK702.out 1
           have hfz107_2 := blk_frozen BK702.out 2
           have hfz107_3 := blk_frozen BK702.out 3
           have hfz107_4 := blk_frozen BK702.out 4
           go_upto_region 25 with (first | ((with_reducible refine gate_callee (f := 36) rfl ?_); refine goesL_ (some 64) rfl rfl Try.func36 (by kernel_rfl) rfl #[.agg #[.int .i64 t694, .int .i64 t695, .int .i64 t696, .int .i64 t697, .slice Ao36 t698.length co36], .int .i64 1] rfl (by (try simp only [List.map_toArray, List.map_cons, List.map_nil]); first | done | rfl | (simp only [List.length_drop, List.length_take]; rfl)) ?_; (with_reducible refine (laws_markAxis.calls kj59 t694 t695 t696 t697 (fun k_ => some k_ = (.slice Ao36 t698.length co36 : Value).ownBlock) (.slice Ao36 t698.length co36) t698 1 t715 t716 w _ ?side1 ?side2 A90.out).mono ?_); (case side1 => repeat (first | (with_reducible first | exact HB.out | apply below_alloc | apply pw_below_drewN | apply below_drew1 | refine below_set ?_ GE668.out | refine below_set ?_ GE685.out | refine below_set ?_ GE693.out | refine below_set ?_ GE702.out) | exact HB.out)); (case side2 => exact Kd.R_tight rfl HO_703004.out); rintro e w108 ⟨rfl, hy0, hb, hkp⟩; refine ⟨_, rfl, ?_⟩; have n0_ := Aside0.mk (Kd.R_mono (ok' := fun k_ => some k_ ≠ (.slice Ao29 t713.length co29 : Value).ownBlock ∧ some k_ ≠ (.slice Ao36 t698.length co36 : Value).ownBlock) (Kd.R_keptB (HO_686004.out) hkp (fun k_ hk_ hs_ => (hk_.2) hs_)) (fun k_ hk_ => ⟨hk_.1.1, hk_.1.2⟩)); have n1_ := Aside0.mk (Kd.R_mono (ok' := fun k_ => some k_ ≠ (.slice Ao22 t681.length co22 : Value).ownBlock ∧ some k_ ≠ (.slice Ao36 t698.length co36 : Value).ownBlock) (Kd.R_keptB (HO_694004.out) hkp (fun k_ hk_ hs_ => (hk_.2) hs_)) (fun k_ hk_ => ⟨hk_.1.1, hk_.1.2⟩)); have n2_ := Aside0.mk (Kd.R_reok rfl hy0 (fun k_ e_ => HO_703004.out.1 k_ e_)); have n3_ := Aside0.mk (blk_kept (by (with_reducible repeat (first | refine blk_drewN ?_ _ | refine blk_drew ?_ | refine blk_alloc ?_ _)); exact BK668.out) hkp (fun hs_ => (fun e_ => (Kd.R_ne HO_703004.out BK668.out (by decide)) e_) hs_)); have n4_ := Aside0.mk (blk_kept (by (with_reducible repeat (first | refine blk_drewN ?_ _ | refine blk_drew ?_ | refine blk_alloc ?_ _)); exact BK685.out) hkp (fun hs_ => (fun e_ => (Kd.R_ne HO_703004.out BK685.out (by decide)) e_) hs_)); have n5_ := Aside0.mk (blk_kept (by (with_reducible repeat (first | refine blk_drewN ?_ _ | refine blk_drew ?_ | refine blk_alloc ?_ _)); exact BK693.out) hkp (fun hs_ => (fun e_ => (Kd.R_ne HO_703004.out BK693.out (by decide)) e_) hs_)); have n6_ := Aside0.mk (blk_kept (by (with_reducible repeat (first | refine blk_drewN ?_ _ | refine blk_drew ?_ | refine blk_alloc ?_ _)); exact BK702.out) hkp (fun hs_ => (fun e_ => (Kd.R_ne HO_703004.out BK702.out (by decide)) e_) hs_)); have n7_ := Aside0.mk (hb); clear HO_686004; clear HO_694004; clear HO_703004; clear BK668; clear BK685; clear BK693; clear BK702; clear HB; have HO_686004 := n0_; have HO_694004 := n1_; have HO_703004 := n2_; have BK668 := n3_; have BK685 := n4_; have BK693 := n5_; have BK702 := n6_; have HB := n7_; clear n0_ n1_ n2_ n3_ n4_ n5_ n6_ n7_; (try clear hb); (try clear hkp); (try clear hy0); have hcz109_0 : w108.cell? ⟨gb702, 0, none⟩ = some (.int .i64 t694) := (blk_cell BK702.out 0).trans rfl; have hcz109_1 : w108.cell? ⟨gb702, 1, none⟩ = some (.int .i64 t695) := (blk_cell BK702.out 1).trans rfl; have hcz109_2 : w108.cell? ⟨gb702, 2, none⟩ = some (.int .i64 t696) := (blk_cell BK702.out 2).trans rfl; have hcz109_3 : w108.cell? ⟨gb702, 3, none⟩ = some (.int .i64 t697) := (blk_cell BK702.out 3).trans rfl; have hcz109_4 : w108.cell? ⟨gb702, 4, none⟩ = some (.slice Ao36 t698.length co36) := (blk_cell BK702.out 4).trans rfl; have hfz109_0 := blk_frozen BK702.out 0; have hfz109_1 := blk_frozen BK702.out 1; have hfz109_2 := blk_frozen BK702.out 2; have hfz109_3 := blk_frozen BK702.out 3; have hfz109_4 := blk_frozen BK702.out 4) | ((with_reducible refine gate_callee (f := 37) rfl ?_); refine goesL_ (some 67) rfl rfl Try.func37 (by kernel_rfl) rfl #[.agg #[.int .i64 t694, .int .i64 t695, .int .i64 t696, .int .i64 t697, .slice Ao36 t716.length co36], .int .i64 1] rfl (by (try simp only [List.map_toArray, List.map_cons, List.map_nil]); first | done | (rw [show t716.length = t698.length from (Kd.R_reads' HO_703004.out).1.symm] <;> rfl) | rfl | (simp only [List.length_drop, List.length_take]; rfl)) ?_; (with_reducible refine (laws_heldAxis.calls kj59 t694 t695 t696 t697 _ _ t716 1 t717 _ ?side1 ?side2 A91.out).mono ?_); (case side1 => repeat (first | exact (Kd.R_reads' HO_703004.out).2.2 | (with_reducible refine Kd.C_alloc ?_ _) | (with_reducible refine Kd.C_drewN ?_ _) | (with_reducible refine Kd.C_drew ?_))); (case side2 => rw [show t716.length = t698.length from (Kd.R_reads' HO_703004.out).1.symm]; exact (Kd.R_reads' HO_703004.out).2.1); rintro e w110 ⟨rfl, hb⟩; refine ⟨_, rfl, ?_⟩; have n0_ := Aside0.mk (Kd.R_below (by (with_reducible repeat (first | apply Kd.R_alloc | apply Kd.R_drewN | apply Kd.R_drew)); exact HO_686004.out) hb); have n1_ := Aside0.mk (Kd.R_below (by (with_reducible repeat (first | apply Kd.R_alloc | apply Kd.R_drewN | apply Kd.R_drew)); exact HO_694004.out) hb); have n2_ := Aside0.mk (Kd.R_below (by (with_reducible repeat (first | apply Kd.R_alloc | apply Kd.R_drewN | apply Kd.R_drew)); exact HO_703004.out) hb); have n3_ := Aside0.mk (blk_below (g := gb668) (o := .cells #[.int .i64 a0_0, .int .i64 a0_1, .int .i64 a0_2, .int .i64 a0_3, .slice A0_4 l0_4.length c0_4] 26 (0, 0)) (by (with_reducible repeat (first | refine blk_drewN ?_ _ | refine blk_drew ?_ | refine blk_alloc ?_ _)); exact BK668.out) hb); have n4_ := Aside0.mk (blk_below (g := gb685) (o := .cells #[.int .i64 t677, .int .i64 t678, .int .i64 t679, .int .i64 t680, .slice Ao22 t681.length co22] 33 (0, 0)) (by (with_reducible repeat (first | refine blk_drewN ?_ _ | refine blk_drew ?_ | refine blk_alloc ?_ _)); exact BK685.out) hb); have n5_ := Aside0.mk (blk_below (g := gb693) (o := .cells #[.int .i64 t686, .int .i64 t687, .int .i64 t688, .int .i64 t689, .slice Ao29 t713.length co29] 33 (0, 0)) (by (with_reducible repeat (first | refine blk_drewN ?_ _ | refine blk_drew ?_ | refine blk_alloc ?_ _)); exact BK693.out) hb); have n6_ := Aside0.mk (blk_below (g := gb702) (o := .cells #[.int .i64 t694, .int .i64 t695, .int .i64 t696, .int .i64 t697, .slice Ao36 t698.length co36] 33 (0, 0)) (by (with_reducible repeat (first | refine blk_drewN ?_ _ | refine blk_drew ?_ | refine blk_alloc ?_ _)); exact BK702.out) hb); have n7_ := Aside0.mk (below_step (by repeat (first | (with_reducible first | exact HB.out | apply below_alloc | apply pw_below_drewN | apply below_drew1 | refine below_set ?_ GE668.out | refine below_set ?_ GE685.out | refine below_set ?_ GE693.out | refine below_set ?_ GE702.out) | exact HB.out)) hb); clear HO_686004; clear HO_694004; clear HO_703004; clear BK668; clear BK685; clear BK693; clear BK702; clear HB; have HO_686004 := n0_; have HO_694004 := n1_; have HO_703004 := n2_; have BK668 := n3_; have BK685 := n4_; have BK693 := n5_; have BK702 := n6_; have HB := n7_; clear n0_ n1_ n2_ n3_ n4_ n5_ n6_ n7_; (try clear hb); (try clear hb2); (try clear hk); (try clear hi); have hnb111 := NB668_685.out; have hnc111 := NB685_668.out; have hnb112 := NB668_693.out; have hnc112 := NB693_668.out; have hcz113_0 : w110.cell? ⟨gb668, 0, none⟩ = some (.int .i64 a0_0) := (blk_cell BK668.out 0).trans rfl; have hcz113_1 : w110.cell? ⟨gb668, 1, none⟩ = some (.int .i64 a0_1) := (blk_cell BK668.out 1).trans rfl; have hcz113_2 : w110.cell? ⟨gb668, 2, none⟩ = some (.int .i64 a0_2) := (blk_cell BK668.out 2).trans rfl; have hcz113_3 : w110.cell? ⟨gb668, 3, none⟩ = some (.int .i64 a0_3) := (blk_cell BK668.out 3).trans rfl; have hcz113_4 : w110.cell? ⟨gb668, 4, none⟩ = some (.slice A0_4 l0_4.length c0_4) := (blk_cell BK668.out 4).trans rfl; have hfz113_0 := blk_frozen BK668.out 0; have hfz113_1 := blk_frozen BK668.out 1; have hfz113_2 := blk_frozen BK668.out 2; have hfz113_3 := blk_frozen BK668.out 3; have hfz113_4 := blk_frozen BK668.out 4) | ((with_reducible refine gate_callee (f := 17) rfl ?_); refine goesL_ (some 75) rfl rfl Try.func17 (by kernel_rfl) rfl #[.agg #[.int .i64 a0_0, .int .i64 a0_1, .int .i64 a0_2, .int .i64 a0_3, .slice A0_4 l0_4.length c0_4]] rfl (by (try simp only [List.map_toArray, List.map_cons, List.map_nil]); first | done | rfl | (simp only [List.length_drop, List.length_take]; rfl)) ?_; (with_reducible refine (laws_toAxis.calls kj59 a0_0 a0_1 a0_2 a0_3 _ _ l0_4 t718 t719 t720 t721 t722 _ ?side1 ?side2 A101.out).mono ?_); (case side1 => repeat (first | exact (Kd.C_below HR0_4.out HB.out) | (with_reducible refine Kd.C_alloc ?_ _) | (with_reducible refine Kd.C_drewN ?_ _) | (with_reducible refine Kd.C_drew ?_))); (case side2 => exact HC0_4.out); rintro e w114 ⟨v723, rfl, ho0, hb⟩; refine ⟨_, rfl, ?_⟩; have n0_ := Aside0.mk (Kd.R_elder' (by (with_reducible repeat (first | apply Kd.R_alloc | apply Kd.R_drewN | apply Kd.R_drew)); exact HO_686004.out) (Kd.R_base ho0) hb); have n1_ := Aside0.mk (Kd.R_elder' (by (with_reducible repeat (first | apply Kd.R_alloc | apply Kd.R_drewN | apply Kd.R_drew)); exact HO_694004.out) (Kd.R_base ho0) hb); have n2_ := Aside0.mk (Kd.R_elder' (by (with_reducible repeat (first | apply Kd.R_alloc | apply Kd.R_drewN | apply Kd.R_drew)); exact HO_703004.out) (Kd.R_base ho0) hb); have n3_ := Aside0.mk (Kd.R_lower (Kd.R_new' (Kd.R_new' (Kd.R_new' ho0 (Kd.R_lt (by (with_reducible repeat (first | apply Kd.R_alloc | apply Kd.R_drewN | apply Kd.R_drew)); exact HO_686004.out))) (Kd.R_lt (by (with_reducible repeat (first | apply Kd.R_alloc | apply Kd.R_drewN | apply Kd.R_drew)); exact HO_694004.out))) (Kd.R_lt (by (with_reducible repeat (first | apply Kd.R_alloc | apply Kd.R_drewN | apply Kd.R_drew)); exact HO_703004.out))) (below_size (by repeat (first | (with_reducible first | exact HB.out | apply below_alloc | apply pw_below_drewN | apply below_drew1 | refine below_set ?_ GE668.out | refine below_set ?_ GE685.out | refine below_set ?_ GE693.out | refine below_set ?_ GE702.out) | exact HB.out)))); have n4_ := Aside0.mk (blk_below (g := gb668) (o := .cells #[.int .i64 a0_0, .int .i64 a0_1, .int .i64 a0_2, .int .i64 a0_3, .slice A0_4 l0_4.length c0_4] 26 (0, 0)) (by (with_reducible repeat (first | refine blk_drewN ?_ _ | refine blk_drew ?_ | refine blk_alloc ?_ _)); exact BK668.out) hb); have n5_ := Aside0.mk (blk_below (g := gb685) (o := .cells #[.int .i64 t677, .int .i64 t678, .int .i64 t679, .int .i64 t680, .slice Ao22 t681.length co22] 33 (0, 0)) (by (with_reducible repeat (first | refine blk_drewN ?_ _ | refine blk_drew ?_ | refine blk_alloc ?_ _)); exact BK685.out) hb); have n6_ := Aside0.mk (blk_below (g := gb693) (o := .cells #[.int .i64 t686, .int .i64 t687, .int .i64 t688, .int .i64 t689, .slice Ao29 t713.length co29] 33 (0, 0)) (by (with_reducible repeat (first | refine blk_drewN ?_ _ | refine blk_drew ?_ | refine blk_alloc ?_ _)); exact BK693.out) hb); have n7_ := Aside0.mk (blk_below (g := gb702) (o := .cells #[.int .i64 t694, .int .i64 t695, .int .i64 t696, .int .i64 t697, .slice Ao36 t698.length co36] 33 (0, 0)) (by (with_reducible repeat (first | refine blk_drewN ?_ _ | refine blk_drew ?_ | refine blk_alloc ?_ _)); exact BK702.out) hb); have n8_ := Aside0.mk (below_step (by repeat (first | (with_reducible first | exact HB.out | apply below_alloc | apply pw_below_drewN | apply below_drew1 | refine below_set ?_ GE668.out | refine below_set ?_ GE685.out | refine below_set ?_ GE693.out | refine below_set ?_ GE702.out) | exact HB.out)) hb); clear HO_686004; clear HO_694004; clear HO_703004; clear BK668; clear BK685; clear BK693; clear BK702; clear HB; have HO_686004 := n0_; have HO_694004 := n1_; have HO_703004 := n2_; have HO724 := n3_; have BK668 := n4_; have BK685 := n5_; have BK693 := n6_; have BK702 := n7_; have HB := n8_; clear n0_ n1_ n2_ n3_ n4_ n5_ n6_ n7_ n8_; (try clear hb); (try clear hb2); (try clear hk); (try clear hi); (try clear ho0); obtain ⟨Ao115, co115, eo115⟩ := Kd.R_slice HO724.out; subst eo115) | ((with_reducible refine gate_callee (f := 33) rfl ?_); refine goesL_ (some 76) rfl rfl Try.func33 (by kernel_rfl) rfl #[.agg #[.int .i64 t718, .int .i64 t719, .int .i64 t720, .int .i64 t721, .slice Ao115 t722.length co115]] rfl (by (try simp only [List.map_toArray, List.map_cons, List.map_nil]); first | done | rfl | (simp only [List.length_drop, List.length_take]; rfl)) ?_; (with_reducible refine (impl_MirrorAxis.calls kj59 t718 t719 t720 t721 _ _ t722 t725 t726 t727 t728 t729 t732 _ ?side1 ?side2 A102.out).mono ?_); (case side1 => repeat (first | exact (Kd.R_reads' HO724.out).2.2 | (with_reducible refine Kd.C_alloc ?_ _) | (with_reducible refine Kd.C_drewN ?_ _) | (with_reducible refine Kd.C_drew ?_))); (case side2 => exact (Kd.R_reads' HO724.out).2.1); rintro e w116 ⟨v730, rfl, ho0, hb⟩; refine ⟨_, rfl, ?_⟩; have n0_ := Aside0.mk (Kd.R_elder' (by (with_reducible repeat (first | apply Kd.R_alloc | apply Kd.R_drewN | apply Kd.R_drew)); exact HO_686004.out) (Kd.R_base ho0) hb); have n1_ := Aside0.mk (Kd.R_elder' (by (with_reducible repeat (first | apply Kd.R_alloc | apply Kd.R_drewN | apply Kd.R_drew)); exact HO_694004.out) (Kd.R_base ho0) hb); have n2_ := Aside0.mk (Kd.R_elder' (by (with_reducible repeat (first | apply Kd.R_alloc | apply Kd.R_drewN | apply Kd.R_drew)); exact HO_703004.out) (Kd.R_base ho0) hb); have n3_ := Aside0.mk (Kd.R_elder' (by (with_reducible repeat (first | apply Kd.R_alloc | apply Kd.R_drewN | apply Kd.R_drew)); exact HO724.out) (Kd.R_base ho0) hb); have n4_ := Aside0.mk (Kd.R_lower (Kd.R_new' (Kd.R_new' (Kd.R_new' (Kd.R_new' ho0 (Kd.R_lt (by (with_reducible repeat (first | apply Kd.R_alloc | apply Kd.R_drewN | apply Kd.R_drew)); exact HO_686004.out))) (Kd.R_lt (by (with_reducible repeat (first | apply Kd.R_alloc | apply Kd.R_drewN | apply Kd.R_drew)); exact HO_694004.out))) (Kd.R_lt (by (with_reducible repeat (first | apply Kd.R_alloc | apply Kd.R_drewN | apply Kd.R_drew)); exact HO_703004.out))) (Kd.R_lt (by (with_reducible repeat (first | apply Kd.R_alloc | apply Kd.R_drewN | apply Kd.R_drew)); exact HO724.out))) (below_size (by repeat (first | (with_reducible first | exact HB.out | apply below_alloc | apply pw_below_drewN | apply below_drew1 | refine below_set ?_ GE668.out | refine below_set ?_ GE685.out | refine below_set ?_ GE693.out | refine below_set ?_ GE702.out) | exact HB.out)))); have n5_ := Aside0.mk (blk_below (g := gb668) (o := .cells #[.int .i64 a0_0, .int .i64 a0_1, .int .i64 a0_2, .int .i64 a0_3, .slice A0_4 l0_4.length c0_4] 26 (0, 0)) (by (with_reducible repeat (first | refine blk_drewN ?_ _ | refine blk_drew ?_ | refine blk_alloc ?_ _)); exact BK668.out) hb); have n6_ := Aside0.mk (blk_below (g := gb685) (o := .cells #[.int .i64 t677, .int .i64 t678, .int .i64 t679, .int .i64 t680, .slice Ao22 t681.length co22] 33 (0, 0)) (by (with_reducible repeat (first | refine blk_drewN ?_ _ | refine blk_drew ?_ | refine blk_alloc ?_ _)); exact BK685.out) hb); have n7_ := Aside0.mk (blk_below (g := gb693) (o := .cells #[.int .i64 t686, .int .i64 t687, .int .i64 t688, .int .i64 t689, .slice Ao29 t713.length co29] 33 (0, 0)) (by (with_reducible repeat (first | refine blk_drewN ?_ _ | refine blk_drew ?_ | refine blk_alloc ?_ _)); exact BK693.out) hb); have n8_ := Aside0.mk (blk_below (g := gb702) (o := .cells #[.int .i64 t694, .int .i64 t695, .int .i64 t696, .int .i64 t697, .slice Ao36 t698.length co36] 33 (0, 0)) (by (with_reducible repeat (first | refine blk_drewN ?_ _ | refine blk_drew ?_ | refine blk_alloc ?_ _)); exact BK702.out) hb); have n9_ := Aside0.mk (below_step (by repeat (first | (with_reducible first | exact HB.out | apply below_alloc | apply pw_below_drewN | apply below_drew1 | refine below_set ?_ GE668.out | refine below_set ?_ GE685.out | refine below_set ?_ GE693.out | refine below_set ?_ GE702.out) | exact HB.out)) hb); clear HO_686004; clear HO_694004; clear HO_703004; clear HO724; clear BK668; clear BK685; clear BK693; clear BK702; clear HB; have HO_686004 := n0_; have HO_694004 := n1_; have HO_703004 := n2_; have HO724 := n3_; have HO731 := n4_; have BK668 := n5_; have BK685 := n6_; have BK693 := n7_; have BK702 := n8_; have HB := n9_; clear n0_ n1_ n2_ n3_ n4_ n5_ n6_ n7_ n8_ n9_; (try clear hb); (try clear hb2); (try clear hk); (try clear hi); (try clear ho0)) | ((with_reducible refine gate_dst (N := 12) rfl ?_); refine box_event ?hg (N := 12) ?hd (cs := #[.int .i64 0, .int .i64 0, .int .i64 0, .int .i64 0, .slice none 0 0]) (t := 33) ?hr ?_; (case hd => rfl); (case hg => rfl); (case hr => first | (go_simp; done) | (go_simp; rfl)); intro gb733 hg w117 hbox hb; have n0_ := Aside0.mk (Kd.R_below (by (with_reducible repeat (first | apply Kd.R_alloc | apply Kd.R_drewN | apply Kd.R_drew)); exact HO_686004.out) hb); have n1_ := Aside0.mk (Kd.R_below (by (with_reducible repeat (first | apply Kd.R_alloc | apply Kd.R_drewN | apply Kd.R_drew)); exact HO_694004.out) hb); have n2_ := Aside0.mk (Kd.R_below (by (with_reducible repeat (first | apply Kd.R_alloc | apply Kd.R_drewN | apply Kd.R_drew)); exact HO_703004.out) hb); have n3_ := Aside0.mk (Kd.R_below (by (with_reducible repeat (first | apply Kd.R_alloc | apply Kd.R_drewN | apply Kd.R_drew)); exact HO724.out) hb); have n4_ := Aside0.mk (Kd.R_below (by (with_reducible repeat (first | apply Kd.R_alloc | apply Kd.R_drewN | apply Kd.R_drew)); exact HO731.out) hb); have n5_ := Aside0.mk (blk_below (g := gb668) (o := .cells #[.int .i64 a0_0, .int .i64 a0_1, .int .i64 a0_2, .int .i64 a0_3, .slice A0_4 l0_4.length c0_4] 26 (0, 0)) (by (with_reducible repeat (first | refine blk_drewN ?_ _ | refine blk_drew ?_ | refine blk_alloc ?_ _)); exact BK668.out) hb); have n6_ := Aside0.mk (blk_below (g := gb685) (o := .cells #[.int .i64 t677, .int .i64 t678, .int .i64 t679, .int .i64 t680, .slice Ao22 t681.length co22] 33 (0, 0)) (by (with_reducible repeat (first | refine blk_drewN ?_ _ | refine blk_drew ?_ | refine blk_alloc ?_ _)); exact BK685.out) hb); have n7_ := Aside0.mk (blk_below (g := gb693) (o := .cells #[.int .i64 t686, .int .i64 t687, .int .i64 t688, .int .i64 t689, .slice Ao29 t713.length co29] 33 (0, 0)) (by (with_reducible repeat (first | refine blk_drewN ?_ _ | refine blk_drew ?_ | refine blk_alloc ?_ _)); exact BK693.out) hb); have n8_ := Aside0.mk (blk_below (g := gb702) (o := .cells #[.int .i64 t694, .int .i64 t695, .int .i64 t696, .int .i64 t697, .slice Ao36 t698.length co36] 33 (0, 0)) (by (with_reducible repeat (first | refine blk_drewN ?_ _ | refine blk_drew ?_ | refine blk_alloc ?_ _)); exact BK702.out) hb); have n9_ := Aside0.mk (below_step (by repeat (first | (with_reducible first | exact HB.out | apply below_alloc | apply pw_below_drewN | apply below_drew1 | refine below_set ?_ GE668.out | refine below_set ?_ GE685.out | refine below_set ?_ GE693.out | refine below_set ?_ GE702.out) | exact HB.out)) hb); have n10_ := Aside0.mk (hbox); have n11_ := Aside0.mk ((by rw [hg]; exact (below_size (by repeat (first | (with_reducible first | exact HB.out | apply below_alloc | apply pw_below_drewN | apply below_drew1 | refine below_set ?_ GE668.out | refine below_set ?_ GE685.out | refine below_set ?_ GE693.out | refine below_set ?_ GE702.out) | exact HB.out))) : w.heap.size ≤ gb733)); have n12_ := Aside0.mk ((by rw [hg]; exact (below_size (by repeat (first | (with_reducible first | exact HB.out | apply below_alloc | apply pw_below_drewN | apply below_drew1 | refine below_set ?_ GE668.out | refine below_set ?_ GE685.out | refine below_set ?_ GE693.out | refine below_set ?_ GE702.out) | exact HB.out))) : w.heap.size ≤ gb733)); have n13_ := Aside0.mk ((by rw [hg]; exact Nat.ne_of_lt (blk_lt (g := gb668) (o := .cells #[.int .i64 a0_0, .int .i64 a0_1, .int .i64 a0_2, .int .i64 a0_3, .slice A0_4 l0_4.length c0_4] 26 (0, 0)) (by (with_reducible repeat (first | refine blk_drewN ?_ _ | refine blk_drew ?_ | refine blk_alloc ?_ _)); exact BK668.out)) : gb668 ≠ gb733)); have n14_ := Aside0.mk ((by rw [hg]; exact Nat.ne_of_gt (blk_lt (g := gb668) (o := .cells #[.int .i64 a0_0, .int .i64 a0_1, .int .i64 a0_2, .int .i64 a0_3, .slice A0_4 l0_4.length c0_4] 26 (0, 0)) (by (with_reducible repeat (first | refine blk_drewN ?_ _ | refine blk_drew ?_ | refine blk_alloc ?_ _)); exact BK668.out)) : gb733 ≠ gb668)); have n15_ := Aside0.mk ((by rw [hg]; exact Nat.ne_of_lt (blk_lt (g := gb685) (o := .cells #[.int .i64 t677, .int .i64 t678, .int .i64 t679, .int .i64 t680, .slice Ao22 t681.length co22] 33 (0, 0)) (by (with_reducible repeat (first | refine blk_drewN ?_ _ | refine blk_drew ?_ | refine blk_alloc ?_ _)); exact BK685.out)) : gb685 ≠ gb733)); have n16_ := Aside0.mk ((by rw [hg]; exact Nat.ne_of_gt (blk_lt (g := gb685) (o := .cells #[.int .i64 t677, .int .i64 t678, .int .i64 t679, .int .i64 t680, .slice Ao22 t681.length co22] 33 (0, 0)) (by (with_reducible repeat (first | refine blk_drewN ?_ _ | refine blk_drew ?_ | refine blk_alloc ?_ _)); exact BK685.out)) : gb733 ≠ gb685)); have n17_ := Aside0.mk ((by rw [hg]; exact Nat.ne_of_lt (blk_lt (g := gb693) (o := .cells #[.int .i64 t686, .int .i64 t687, .int .i64 t688, .int .i64 t689, .slice Ao29 t713.length co29] 33 (0, 0)) (by (with_reducible repeat (first | refine blk_drewN ?_ _ | refine blk_drew ?_ | refine blk_alloc ?_ _)); exact BK693.out)) : gb693 ≠ gb733)); have n18_ := Aside0.mk ((by rw [hg]; exact Nat.ne_of_gt (blk_lt (g := gb693) (o := .cells #[.int .i64 t686, .int .i64 t687, .int .i64 t688, .int .i64 t689, .slice Ao29 t713.length co29] 33 (0, 0)) (by (with_reducible repeat (first | refine blk_drewN ?_ _ | refine blk_drew ?_ | refine blk_alloc ?_ _)); exact BK693.out)) : gb733 ≠ gb693)); have n19_ := Aside0.mk ((by rw [hg]; exact Nat.ne_of_lt (blk_lt (g := gb702) (o := .cells #[.int .i64 t694, .int .i64 t695, .int .i64 t696, .int .i64 t697, .slice Ao36 t698.length co36] 33 (0, 0)) (by (with_reducible repeat (first | refine blk_drewN ?_ _ | refine blk_drew ?_ | refine blk_alloc ?_ _)); exact BK702.out)) : gb702 ≠ gb733)); have n20_ := Aside0.mk ((by rw [hg]; exact Nat.ne_of_gt (blk_lt (g := gb702) (o := .cells #[.int .i64 t694, .int .i64 t695, .int .i64 t696, .int .i64 t697, .slice Ao36 t698.length co36] 33 (0, 0)) (by (with_reducible repeat (first | refine blk_drewN ?_ _ | refine blk_drew ?_ | refine blk_alloc ?_ _)); exact BK702.out)) : gb733 ≠ gb702)); clear HO_686004; clear HO_694004; clear HO_703004; clear HO724; clear HO731; clear BK668; clear BK685; clear BK693; clear BK702; clear HB; have HO_686004 := n0_; have HO_694004 := n1_; have HO_703004 := n2_; have HO724 := n3_; have HO731 := n4_; have BK668 := n5_; have BK685 := n6_; have BK693 := n7_; have BK702 := n8_; have HB := n9_; have BK733 := n10_; have GW733 := n11_; have GE733 := n12_; have NB668_733 := n13_; have NB733_668 := n14_; have NB685_733 := n15_; have NB733_685 := n16_; have NB693_733 := n17_; have NB733_693 := n18_; have NB702_733 := n19_; have NB733_702 := n20_; clear n0_ n1_ n2_ n3_ n4_ n5_ n6_ n7_ n8_ n9_ n10_ n11_ n12_ n13_ n14_ n15_ n16_ n17_ n18_ n19_ n20_; clear hb hbox hg; have hnb118 := NB733_668.out; have hnc118 := NB668_733.out; have hnb119 := NB733_685.out; have hnc119 := NB685_733.out; have hnb120 := NB733_693.out; have hnc120 := NB693_733.out; have hnb121 := NB733_702.out; have hnc121 := NB702_733.out; have hcz122_0 : w117.cell? ⟨gb733, 0, none⟩ = some (.int .i64 0) := (blk_cell BK733.out 0).trans rfl; have hcz122_1 : w117.cell? ⟨gb733, 1, none⟩ = some (.int .i64 0) := (blk_cell BK733.out 1).trans rfl; have hcz122_2 : w117.cell? ⟨gb733, 2, none⟩ = some (.int .i64 0) := (blk_cell BK733.out 2).trans rfl; have hcz122_3 : w117.cell? ⟨gb733, 3, none⟩ = some (.int .i64 0) := (blk_cell BK733.out 3).trans rfl; have hcz122_4 : w117.cell? ⟨gb733, 4, none⟩ = some (.slice none 0 0) := (blk_cell BK733.out 4).trans rfl; have hfz122_0 := blk_frozen BK733.out 0; have hfz122_1 := blk_frozen BK733.out 1; have hfz122_2 := blk_frozen BK733.out 2; have hfz122_3 := blk_frozen BK733.out 3; have hfz122_4 := blk_frozen BK733.out 4; obtain ⟨Ao123, co123, eo123⟩ := Kd.R_slice HO731.out; subst eo123))
           (try simp only [Act.put, List.setIfInBounds_toArray, List.set_cons_zero, List.set_cons_succ])
           go_cut [87] (fun v87 wc => ∃ (kq : Nat) (x87_102 : Bool), v87 = .bool x87_102 ∧ Aside0 (laws_FnExactMirrorAxis.j2 kq t715 x87_102 t694 t695 t696 t697 t716 = some r) ∧ Aside0 (kq ≤ kj59) ∧ Aside0 (Kd.R k69 69 wc w.heap.size (fun k_ => some k_ ≠ ((.slice Ao29 t713.length co29) : Value).ownBlock ∧ some k_ ≠ ((.slice Ao36 t698.length co36) : Value).ownBlock ∧ some k_ ≠ ((.slice Ao123 t729.length co123) : Value).ownBlock) (.slice Ao22 t681.length co22) t681) ∧ Aside0 (Kd.R k69 69 wc w.heap.size (fun k_ => some k_ ≠ ((.slice Ao22 t681.length co22) : Value).ownBlock ∧ some k_ ≠ ((.slice Ao36 t698.length co36) : Value).ownBlock ∧ some k_ ≠ ((.slice Ao123 t729.length co123) : Value).ownBlock) (.slice Ao29 t713.length co29) t713) ∧ Aside0 (Kd.R k69 69 wc w.heap.size (fun k_ => some k_ ≠ ((.slice Ao22 t681.length co22) : Value).ownBlock ∧ some k_ ≠ ((.slice Ao29 t713.length co29) : Value).ownBlock ∧ some k_ ≠ ((.slice Ao123 t729.length co123) : Value).ownBlock) (.slice Ao36 t698.length co36) t716) ∧ Aside0 (Kd.R k69 69 wc w.heap.size (fun k_ => some k_ ≠ ((.slice Ao22 t681.length co22) : Value).ownBlock ∧ some k_ ≠ ((.slice Ao29 t713.length co29) : Value).ownBlock ∧ some k_ ≠ ((.slice Ao36 t698.length co36) : Value).ownBlock) (.slice Ao123 t729.length co123) t729) ∧ Aside0 (wc.heap[gb668]? = some (.cells #[.int .i64 a0_0, .int .i64 a0_1, .int .i64 a0_2, .int .i64 a0_3, (.slice A0_4 l0_4.length c0_4)] 26 (0, 0))) ∧ Aside0 (wc.heap[gb685]? = some (.cells #[.int .i64 t677, .int .i64 t678, .int .i64 t679, .int .i64 t680, (.slice Ao22 t681.length co22)] 33 (0, 0))) ∧ Aside0 (wc.heap[gb693]? = some (.cells #[.int .i64 t686, .int .i64 t687, .int .i64 t688, .int .i64 t689, (.slice Ao29 t713.length co29)] 33 (0, 0))) ∧ Aside0 (wc.heap[gb702]? = some (.cells #[.int .i64 t694, .int .i64 t695, .int .i64 t696, .int .i64 t697, (.slice Ao36 t698.length co36)] 33 (0, 0))) ∧ Aside0 (wc.heap[gb733]? = some (.cells #[.int .i64 t725, .int .i64 t726, .int .i64 t727, .int .i64 t728, (.slice Ao123 t729.length co123)] 33 (0, 0))) ∧ Aside0 (Below w.heap.size w wc))
           case first =>
            have H := HC103.out
            clear HC103
            replace H := Option.bind_eq_some_iff.mp H
            obtain ⟨t734, A1240, H⟩ := H
            replace H : (if t734 = true then (laws_FnExactMirrorAxis.j2 kj59 t715 (t732 != t684) t694 t695 t696 t697 t716) else (laws_FnExactMirrorAxis.j2 kj59 t715 true t694 t695 t696 t697 t716)) = some r := H
            have A124 := Aside0.mk A1240
            clear A1240
            by_cases c125 : t734 = true
            ·subst c125
             have H1 : (laws_FnExactMirrorAxis.j2 kj59 t715 (t732 != t684) t694 t695 t696 t697 t716) = some r := by rw [if_pos rfl] at H; exact H
             clear H
             have H := H1
             clear H1
             have H' := Aside0.mk H
             clear H
             have hnb126 := NB733_668.out
             have hnc126 := NB668_733.out
             have hnb127 := NB733_685.out
             have hnc127 := NB685_733.out
             have hnb128 := NB733_693.out
             have hnc128 := NB693_733.out
             have hnb129 := NB733_702.out
             have hnc129 := NB702_733.out
             have hcz130_0 : w117.cell? ⟨gb733, 0, none⟩ = some (.int .i64 0) := (blk_cell BK733.out 0).trans rfl
             have hcz130_1 : w117.cell? ⟨gb733, 1, none⟩ = some (.int .i64 0) := (blk_cell BK733.out 1).trans rfl
             have hcz130_2 : w117.cell? ⟨gb733, 2, none⟩ = some (.int .i64 0) := (blk_cell BK733.out 2).trans rfl
             have hcz130_3 : w117.cell? ⟨gb733, 3, none⟩ = some (.int .i64 0) := (blk_cell BK733.out 3).trans rfl
             have hcz130_4 : w117.cell? ⟨gb733, 4, none⟩ = some (.slice none 0 0) := (blk_cell BK733.out 4).trans rfl
             have hfz130_0 := blk_frozen BK733.out 0
             have hfz130_1 := blk_frozen BK733.out 1
             have hfz130_2 := blk_frozen BK733.out 2
             have hfz130_3 := blk_frozen BK733.out 3
             have hfz130_4 := blk_frozen BK733.out 4
             have hnb131 := NB685_668.out
             have hnc131 := NB668_685.out
             have hnb132 := NB685_693.out
             have hnc132 := NB693_685.out
             have hnb133 := NB685_702.out
             have hnc133 := NB702_685.out
             have hcz134_0 : w117.cell? ⟨gb685, 0, none⟩ = some (.int .i64 t677) := (blk_cell BK685.out 0).trans rfl
             have hcz134_1 : w117.cell? ⟨gb685, 1, none⟩ = some (.int .i64 t678) := (blk_cell BK685.out 1).trans rfl
             have hcz134_2 : w117.cell? ⟨gb685, 2, none⟩ = some (.int .i64 t679) := (blk_cell BK685.out 2).trans rfl
             have hcz134_3 : w117.cell? ⟨gb685, 3, none⟩ = some (.int .i64 t680) := (blk_cell BK685.out 3).trans rfl
             have hcz134_4 : w117.cell? ⟨gb685, 4, none⟩ = some (.slice Ao22 t681.length co22) := (blk_cell BK685.out 4).trans rfl
             have hfz134_0 := blk_frozen BK685.out 0
             have hfz134_1 := blk_frozen BK685.out 1
             have hfz134_2 := blk_frozen BK685.out 2
             have hfz134_3 := blk_frozen BK685.out 3
             have hfz134_4 := blk_frozen BK685.out 4
             go_wp2_with (first | ((with_reducible refine gate_callee (f := 20) rfl ?_); refine goesL_ (some 81) rfl rfl Try.func20 (by kernel_rfl) rfl #[.agg #[.int .i64 t725, .int .i64 t726, .int .i64 t727, .int .i64 t728, .slice Ao123 t729.length co123], .agg #[.int .i64 t677, .int .i64 t678, .int .i64 t679, .int .i64 t680, .slice Ao22 t681.length co22]] rfl (by (try simp only [List.map_toArray, List.map_cons, List.map_nil]); first | done | rfl | (simp only [List.length_drop, List.length_take]; rfl)) ?_; (with_reducible refine (laws_eqAxis.calls kj59 t725 t726 t727 t728 _ _ t729 t677 t678 t679 t680 _ _ t681 true _ ?side1 ?side2 ?side3 ?side4 A124.out).mono ?_); (case side1 => refine (Kd.R_reads' (e := 69) (base := w.heap.size) (ok := fun k_ => ((((True ∧ some k_ ≠ (.slice Ao22 t681.length co22 : Value).ownBlock) ∧ some k_ ≠ (.slice Ao29 t713.length co29 : Value).ownBlock) ∧ some k_ ≠ (.slice Ao36 t698.length co36 : Value).ownBlock) ∧ some k_ ≠ (.slice Ao115 t722.length co115 : Value).ownBlock)) (n := t729.length) (c := co123) ?_).2.2; exact (by (with_reducible repeat (first | apply Kd.R_alloc | apply Kd.R_drewN | apply Kd.R_drew)); exact (Kd.R_mono (Kd.R_far (p := ⟨gb733, 4, none⟩) (Kd.R_far (p := ⟨gb733, 3, none⟩) (Kd.R_far (p := ⟨gb733, 2, none⟩) (Kd.R_far (p := ⟨gb733, 1, none⟩) (Kd.R_far (p := ⟨gb733, 0, none⟩) (Kd.R_types HO731.out BK733.out (by decide)) (fun _ hk => hk.2) (.int .i64 t725)) (fun _ hk => hk.2) (.int .i64 t726)) (fun _ hk => hk.2) (.int .i64 t727)) (fun _ hk => hk.2) (.int .i64 t728)) (fun _ hk => hk.2) (.slice Ao123 t729.length co123)) (fun _ h_ => h_.1)))); (case side2 => exact (Kd.R_reads' HO731.out).2.1); (case side3 => refine (Kd.R_reads' (e := 69) (base := w.heap.size) (ok := fun k_ => (((some k_ ≠ (.slice Ao29 t713.length co29 : Value).ownBlock ∧ some k_ ≠ (.slice Ao36 t698.length co36 : Value).ownBlock) ∧ some k_ ≠ (.slice Ao115 t722.length co115 : Value).ownBlock) ∧ some k_ ≠ (.slice Ao123 t729.length co123 : Value).ownBlock)) (n := t681.length) (c := co22) ?_).2.2; exact (by (with_reducible repeat (first | apply Kd.R_alloc | apply Kd.R_drewN | apply Kd.R_drew)); exact (Kd.R_mono (Kd.R_far (p := ⟨gb733, 4, none⟩) (Kd.R_far (p := ⟨gb733, 3, none⟩) (Kd.R_far (p := ⟨gb733, 2, none⟩) (Kd.R_far (p := ⟨gb733, 1, none⟩) (Kd.R_far (p := ⟨gb733, 0, none⟩) (Kd.R_types HO_686004.out BK733.out (by decide)) (fun _ hk => hk.2) (.int .i64 t725)) (fun _ hk => hk.2) (.int .i64 t726)) (fun _ hk => hk.2) (.int .i64 t727)) (fun _ hk => hk.2) (.int .i64 t728)) (fun _ hk => hk.2) (.slice Ao123 t729.length co123)) (fun _ h_ => h_.1)))); (case side4 => exact (Kd.R_reads' HO_686004.out).2.1); rintro e w135 ⟨rfl, hb⟩; refine ⟨_, rfl, ?_⟩; have n0_ := Aside0.mk (Kd.R_below (by (with_reducible repeat (first | apply Kd.R_alloc | apply Kd.R_drewN | apply Kd.R_drew)); exact (Kd.R_mono (Kd.R_far (p := ⟨gb733, 4, none⟩) (Kd.R_far (p := ⟨gb733, 3, none⟩) (Kd.R_far (p := ⟨gb733, 2, none⟩) (Kd.R_far (p := ⟨gb733, 1, none⟩) (Kd.R_far (p := ⟨gb733, 0, none⟩) (Kd.R_types HO_686004.out BK733.out (by decide)) (fun _ hk => hk.2) (.int .i64 t725)) (fun _ hk => hk.2) (.int .i64 t726)) (fun _ hk => hk.2) (.int .i64 t727)) (fun _ hk => hk.2) (.int .i64 t728)) (fun _ hk => hk.2) (.slice Ao123 t729.length co123)) (fun _ h_ => h_.1))) hb); have n1_ := Aside0.mk (Kd.R_below (by (with_reducible repeat (first | apply Kd.R_alloc | apply Kd.R_drewN | apply Kd.R_drew)); exact (Kd.R_mono (Kd.R_far (p := ⟨gb733, 4, none⟩) (Kd.R_far (p := ⟨gb733, 3, none⟩) (Kd.R_far (p := ⟨gb733, 2, none⟩) (Kd.R_far (p := ⟨gb733, 1, none⟩) (Kd.R_far (p := ⟨gb733, 0, none⟩) (Kd.R_types HO_694004.out BK733.out (by decide)) (fun _ hk => hk.2) (.int .i64 t725)) (fun _ hk => hk.2) (.int .i64 t726)) (fun _ hk => hk.2) (.int .i64 t727)) (fun _ hk => hk.2) (.int .i64 t728)) (fun _ hk => hk.2) (.slice Ao123 t729.length co123)) (fun _ h_ => h_.1))) hb); have n2_ := Aside0.mk (Kd.R_below (by (with_reducible repeat (first | apply Kd.R_alloc | apply Kd.R_drewN | apply Kd.R_drew)); exact (Kd.R_mono (Kd.R_far (p := ⟨gb733, 4, none⟩) (Kd.R_far (p := ⟨gb733, 3, none⟩) (Kd.R_far (p := ⟨gb733, 2, none⟩) (Kd.R_far (p := ⟨gb733, 1, none⟩) (Kd.R_far (p := ⟨gb733, 0, none⟩) (Kd.R_types HO_703004.out BK733.out (by decide)) (fun _ hk => hk.2) (.int .i64 t725)) (fun _ hk => hk.2) (.int .i64 t726)) (fun _ hk => hk.2) (.int .i64 t727)) (fun _ hk => hk.2) (.int .i64 t728)) (fun _ hk => hk.2) (.slice Ao123 t729.length co123)) (fun _ h_ => h_.1))) hb); have n3_ := Aside0.mk (Kd.R_below (by (with_reducible repeat (first | apply Kd.R_alloc | apply Kd.R_drewN | apply Kd.R_drew)); exact (Kd.R_mono (Kd.R_far (p := ⟨gb733, 4, none⟩) (Kd.R_far (p := ⟨gb733, 3, none⟩) (Kd.R_far (p := ⟨gb733, 2, none⟩) (Kd.R_far (p := ⟨gb733, 1, none⟩) (Kd.R_far (p := ⟨gb733, 0, none⟩) (Kd.R_types HO724.out BK733.out (by decide)) (fun _ hk => hk.2) (.int .i64 t725)) (fun _ hk => hk.2) (.int .i64 t726)) (fun _ hk => hk.2) (.int .i64 t727)) (fun _ hk => hk.2) (.int .i64 t728)) (fun _ hk => hk.2) (.slice Ao123 t729.length co123)) (fun _ h_ => h_.1))) hb); have n4_ := Aside0.mk (Kd.R_below (by (with_reducible repeat (first | apply Kd.R_alloc | apply Kd.R_drewN | apply Kd.R_drew)); exact (Kd.R_mono (Kd.R_far (p := ⟨gb733, 4, none⟩) (Kd.R_far (p := ⟨gb733, 3, none⟩) (Kd.R_far (p := ⟨gb733, 2, none⟩) (Kd.R_far (p := ⟨gb733, 1, none⟩) (Kd.R_far (p := ⟨gb733, 0, none⟩) (Kd.R_types HO731.out BK733.out (by decide)) (fun _ hk => hk.2) (.int .i64 t725)) (fun _ hk => hk.2) (.int .i64 t726)) (fun _ hk => hk.2) (.int .i64 t727)) (fun _ hk => hk.2) (.int .i64 t728)) (fun _ hk => hk.2) (.slice Ao123 t729.length co123)) (fun _ h_ => h_.1))) hb); have n5_ := Aside0.mk (blk_below (g := gb668) (o := .cells #[.int .i64 a0_0, .int .i64 a0_1, .int .i64 a0_2, .int .i64 a0_3, .slice A0_4 l0_4.length c0_4] 26 (0, 0)) (by (with_reducible repeat (first | refine blk_drewN ?_ _ | refine blk_drew ?_ | refine blk_alloc ?_ _)); refine blk_far ?_ NB668_733.out _; (with_reducible repeat (first | refine blk_drewN ?_ _ | refine blk_drew ?_ | refine blk_alloc ?_ _)); refine blk_far ?_ NB668_733.out _; (with_reducible repeat (first | refine blk_drewN ?_ _ | refine blk_drew ?_ | refine blk_alloc ?_ _)); refine blk_far ?_ NB668_733.out _; (with_reducible repeat (first | refine blk_drewN ?_ _ | refine blk_drew ?_ | refine blk_alloc ?_ _)); refine blk_far ?_ NB668_733.out _; (with_reducible repeat (first | refine blk_drewN ?_ _ | refine blk_drew ?_ | refine blk_alloc ?_ _)); refine blk_far ?_ NB668_733.out _; (with_reducible repeat (first | refine blk_drewN ?_ _ | refine blk_drew ?_ | refine blk_alloc ?_ _)); exact BK668.out) hb); have n6_ := Aside0.mk (blk_below (g := gb685) (o := .cells #[.int .i64 t677, .int .i64 t678, .int .i64 t679, .int .i64 t680, .slice Ao22 t681.length co22] 33 (0, 0)) (by (with_reducible repeat (first | refine blk_drewN ?_ _ | refine blk_drew ?_ | refine blk_alloc ?_ _)); refine blk_far ?_ NB685_733.out _; (with_reducible repeat (first | refine blk_drewN ?_ _ | refine blk_drew ?_ | refine blk_alloc ?_ _)); refine blk_far ?_ NB685_733.out _; (with_reducible repeat (first | refine blk_drewN ?_ _ | refine blk_drew ?_ | refine blk_alloc ?_ _)); refine blk_far ?_ NB685_733.out _; (with_reducible repeat (first | refine blk_drewN ?_ _ | refine blk_drew ?_ | refine blk_alloc ?_ _)); refine blk_far ?_ NB685_733.out _; (with_reducible repeat (first | refine blk_drewN ?_ _ | refine blk_drew ?_ | refine blk_alloc ?_ _)); refine blk_far ?_ NB685_733.out _; (with_reducible repeat (first | refine blk_drewN ?_ _ | refine blk_drew ?_ | refine blk_alloc ?_ _)); exact BK685.out) hb); have n7_ := Aside0.mk (blk_below (g := gb693) (o := .cells #[.int .i64 t686, .int .i64 t687, .int .i64 t688, .int .i64 t689, .slice Ao29 t713.length co29] 33 (0, 0)) (by (with_reducible repeat (first | refine blk_drewN ?_ _ | refine blk_drew ?_ | refine blk_alloc ?_ _)); refine blk_far ?_ NB693_733.out _; (with_reducible repeat (first | refine blk_drewN ?_ _ | refine blk_drew ?_ | refine blk_alloc ?_ _)); refine blk_far ?_ NB693_733.out _; (with_reducible repeat (first | refine blk_drewN ?_ _ | refine blk_drew ?_ | refine blk_alloc ?_ _)); refine blk_far ?_ NB693_733.out _; (with_reducible repeat (first | refine blk_drewN ?_ _ | refine blk_drew ?_ | refine blk_alloc ?_ _)); refine blk_far ?_ NB693_733.out _; (with_reducible repeat (first | refine blk_drewN ?_ _ | refine blk_drew ?_ | refine blk_alloc ?_ _)); refine blk_far ?_ NB693_733.out _; (with_reducible repeat (first | refine blk_drewN ?_ _ | refine blk_drew ?_ | refine blk_alloc ?_ _)); exact BK693.out) hb); have n8_ := Aside0.mk (blk_below (g := gb702) (o := .cells #[.int .i64 t694, .int .i64 t695, .int .i64 t696, .int .i64 t697, .slice Ao36 t698.length co36] 33 (0, 0)) (by (with_reducible repeat (first | refine blk_drewN ?_ _ | refine blk_drew ?_ | refine blk_alloc ?_ _)); refine blk_far ?_ NB702_733.out _; (with_reducible repeat (first | refine blk_drewN ?_ _ | refine blk_drew ?_ | refine blk_alloc ?_ _)); refine blk_far ?_ NB702_733.out _; (with_reducible repeat (first | refine blk_drewN ?_ _ | refine blk_drew ?_ | refine blk_alloc ?_ _)); refine blk_far ?_ NB702_733.out _; (with_reducible repeat (first | refine blk_drewN ?_ _ | refine blk_drew ?_ | refine blk_alloc ?_ _)); refine blk_far ?_ NB702_733.out _; (with_reducible repeat (first | refine blk_drewN ?_ _ | refine blk_drew ?_ | refine blk_alloc ?_ _)); refine blk_far ?_ NB702_733.out _; (with_reducible repeat (first | refine blk_drewN ?_ _ | refine blk_drew ?_ | refine blk_alloc ?_ _)); exact BK702.out) hb); have n9_ := Aside0.mk (blk_below (g := gb733) (o := .cells #[.int .i64 t725, .int .i64 t726, .int .i64 t727, .int .i64 t728, .slice Ao123 t729.length co123] 33 (0, 0)) (by (with_reducible repeat (first | refine blk_drewN ?_ _ | refine blk_drew ?_ | refine blk_alloc ?_ _)); refine blk_put (cs := #[.int .i64 t725, .int .i64 t726, .int .i64 t727, .int .i64 t728, .slice none 0 0]) ?_ 4 _ rfl; (with_reducible repeat (first | refine blk_drewN ?_ _ | refine blk_drew ?_ | refine blk_alloc ?_ _)); refine blk_put (cs := #[.int .i64 t725, .int .i64 t726, .int .i64 t727, .int .i64 0, .slice none 0 0]) ?_ 3 _ rfl; (with_reducible repeat (first | refine blk_drewN ?_ _ | refine blk_drew ?_ | refine blk_alloc ?_ _)); refine blk_put (cs := #[.int .i64 t725, .int .i64 t726, .int .i64 0, .int .i64 0, .slice none 0 0]) ?_ 2 _ rfl; (with_reducible repeat (first | refine blk_drewN ?_ _ | refine blk_drew ?_ | refine blk_alloc ?_ _)); refine blk_put (cs := #[.int .i64 t725, .int .i64 0, .int .i64 0, .int .i64 0, .slice none 0 0]) ?_ 1 _ rfl; (with_reducible repeat (first | refine blk_drewN ?_ _ | refine blk_drew ?_ | refine blk_alloc ?_ _)); refine blk_put (cs := #[.int .i64 0, .int .i64 0, .int .i64 0, .int .i64 0, .slice none 0 0]) ?_ 0 _ rfl; (with_reducible repeat (first | refine blk_drewN ?_ _ | refine blk_drew ?_ | refine blk_alloc ?_ _)); exact BK733.out) hb); have n10_ := Aside0.mk (below_step (by repeat (first | (with_reducible first | exact HB.out | apply below_alloc | apply pw_below_drewN | apply below_drew1 | refine below_set ?_ GE668.out | refine below_set ?_ GE685.out | refine below_set ?_ GE693.out | refine below_set ?_ GE702.out | refine below_set ?_ GE733.out) | exact HB.out)) hb); clear HO_686004; clear HO_694004; clear HO_703004; clear HO724; clear HO731; clear BK668; clear BK685; clear BK693; clear BK702; clear BK733; clear HB; have HO_686004 := n0_; have HO_694004 := n1_; have HO_703004 := n2_; have HO724 := n3_; have HO731 := n4_; have BK668 := n5_; have BK685 := n6_; have BK693 := n7_; have BK702 := n8_; have BK733 := n9_; have HB := n10_; clear n0_ n1_ n2_ n3_ n4_ n5_ n6_ n7_ n8_ n9_ n10_; (try clear hb); (try clear hb2); (try clear hk); (try clear hi)))
             go_meet
             case rel => exact ⟨_, ((t732 != t684)), (by first | rfl | (simp; done) | (simp [*]; done)), H', ⟨by have := HJ10.out; have := HJ59.out; first | omega | exact Nat.le_refl _⟩, ⟨by (try simp only [hl694004_59]); (with_reducible repeat (first | apply Kd.R_alloc | apply Kd.R_drewN | apply Kd.R_drew)); exact Kd.R_mono HO_686004.out (fun _ hk => ⟨hk.1.1.1, ⟨hk.1.1.2, hk.2⟩⟩)⟩, ⟨by (try simp only [hl694004_59]); (with_reducible repeat (first | apply Kd.R_alloc | apply Kd.R_drewN | apply Kd.R_drew)); exact Kd.R_mono HO_694004.out (fun _ hk => ⟨hk.1.1.1, ⟨hk.1.1.2, hk.2⟩⟩)⟩, ⟨by (try simp only [hl694004_59]); (with_reducible repeat (first | apply Kd.R_alloc | apply Kd.R_drewN | apply Kd.R_drew)); exact Kd.R_mono HO_703004.out (fun _ hk => ⟨hk.1.1.1, ⟨hk.1.1.2, hk.2⟩⟩)⟩, ⟨by (try simp only [hl694004_59]); (with_reducible repeat (first | apply Kd.R_alloc | apply Kd.R_drewN | apply Kd.R_drew)); exact Kd.R_mono HO731.out (fun _ hk => ⟨hk.1.1.1.2, ⟨hk.1.1.2, hk.1.2⟩⟩)⟩, ⟨by (try simp only [hl694004_59]); (with_reducible repeat (first | refine blk_drewN ?_ _ | refine blk_drew ?_ | refine blk_alloc ?_ _)); exact BK668.out⟩, ⟨by (try simp only [hl694004_59]); (with_reducible repeat (first | refine blk_drewN ?_ _ | refine blk_drew ?_ | refine blk_alloc ?_ _)); exact BK685.out⟩, ⟨by (try simp only [hl694004_59]); (with_reducible repeat (first | refine blk_drewN ?_ _ | refine blk_drew ?_ | refine blk_alloc ?_ _)); exact BK693.out⟩, ⟨by (try simp only [hl694004_59]); (with_reducible repeat (first | refine blk_drewN ?_ _ | refine blk_drew ?_ | refine blk_alloc ?_ _)); exact BK702.out⟩, ⟨by (try simp only [hl694004_59]); (with_reducible repeat (first | refine blk_drewN ?_ _ | refine blk_drew ?_ | refine blk_alloc ?_ _)); exact BK733.out⟩, ⟨by repeat (first | (with_reducible first | exact HB.out | apply below_alloc | apply pw_below_drewN | apply below_drew1 | refine below_set ?_ GE668.out | refine below_set ?_ GE685.out | refine below_set ?_ GE693.out | refine below_set ?_ GE702.out | refine below_set ?_ GE733.out) | exact HB.out)⟩⟩
            ·replace c125 := Bool.eq_false_iff.mpr c125
             subst c125
             have H1 : (laws_FnExactMirrorAxis.j2 kj59 t715 true t694 t695 t696 t697 t716) = some r := by rw [if_neg (show ¬ (false = true) by decide)] at H; exact H
             clear H
             have H := H1
             clear H1
             have H' := Aside0.mk H
             clear H
             have hnb136 := NB733_668.out
             have hnc136 := NB668_733.out
             have hnb137 := NB733_685.out
             have hnc137 := NB685_733.out
             have hnb138 := NB733_693.out
             have hnc138 := NB693_733.out
             have hnb139 := NB733_702.out
             have hnc139 := NB702_733.out
             have hcz140_0 : w117.cell? ⟨gb733, 0, none⟩ = some (.int .i64 0) := (blk_cell BK733.out 0).trans rfl
             have hcz140_1 : w117.cell? ⟨gb733, 1, none⟩ = some (.int .i64 0) := (blk_cell BK733.out 1).trans rfl
             have hcz140_2 : w117.cell? ⟨gb733, 2, none⟩ = some (.int .i64 0) := (blk_cell BK733.out 2).trans rfl
             have hcz140_3 : w117.cell? ⟨gb733, 3, none⟩ = some (.int .i64 0) := (blk_cell BK733.out 3).trans rfl
             have hcz140_4 : w117.cell? ⟨gb733, 4, none⟩ = some (.slice none 0 0) := (blk_cell BK733.out 4).trans rfl
             have hfz140_0 := blk_frozen BK733.out 0
             have hfz140_1 := blk_frozen BK733.out 1
             have hfz140_2 := blk_frozen BK733.out 2
             have hfz140_3 := blk_frozen BK733.out 3
             have hfz140_4 := blk_frozen BK733.out 4
             have hnb141 := NB685_668.out
             have hnc141 := NB668_685.out
             have hnb142 := NB685_693.out
             have hnc142 := NB693_685.out
             have hnb143 := NB685_702.out
             have hnc143 := NB702_685.out
             have hcz144_0 : w117.cell? ⟨gb685, 0, none⟩ = some (.int .i64 t677) := (blk_cell BK685.out 0).trans rfl
             have hcz144_1 : w117.cell? ⟨gb685, 1, none⟩ = some (.int .i64 t678) := (blk_cell BK685.out 1).trans rfl
             have hcz144_2 : w117.cell? ⟨gb685, 2, none⟩ = some (.int .i64 t679) := (blk_cell BK685.out 2).trans rfl
             have hcz144_3 : w117.cell? ⟨gb685, 3, none⟩ = some (.int .i64 t680) := (blk_cell BK685.out 3).trans rfl
             have hcz144_4 : w117.cell? ⟨gb685, 4, none⟩ = some (.slice Ao22 t681.length co22) := (blk_cell BK685.out 4).trans rfl
             have hfz144_0 := blk_frozen BK685.out 0
             have hfz144_1 := blk_frozen BK685.out 1
             have hfz144_2 := blk_frozen BK685.out 2
             have hfz144_3 := blk_frozen BK685.out 3
             have hfz144_4 := blk_frozen BK685.out 4
             go_wp2_with (first | ((with_reducible refine gate_callee (f := 20) rfl ?_); refine goesL_ (some 81) rfl rfl Try.func20 (by kernel_rfl) rfl #[.agg #[.int .i64 t725, .int .i64 t726, .int .i64 t727, .int .i64 t728, .slice Ao123 t729.length co123], .agg #[.int .i64 t677, .int .i64 t678, .int .i64 t679, .int .i64 t680, .slice Ao22 t681.length co22]] rfl (by (try simp only [List.map_toArray, List.map_cons, List.map_nil]); first | done | rfl | (simp only [List.length_drop, List.length_take]; rfl)) ?_; (with_reducible refine (laws_eqAxis.calls kj59 t725 t726 t727 t728 _ _ t729 t677 t678 t679 t680 _ _ t681 false _ ?side1 ?side2 ?side3 ?side4 A124.out).mono ?_); (case side1 => refine (Kd.R_reads' (e := 69) (base := w.heap.size) (ok := fun k_ => ((((True ∧ some k_ ≠ (.slice Ao22 t681.length co22 : Value).ownBlock) ∧ some k_ ≠ (.slice Ao29 t713.length co29 : Value).ownBlock) ∧ some k_ ≠ (.slice Ao36 t698.length co36 : Value).ownBlock) ∧ some k_ ≠ (.slice Ao115 t722.length co115 : Value).ownBlock)) (n := t729.length) (c := co123) ?_).2.2; exact (by (with_reducible repeat (first | apply Kd.R_alloc | apply Kd.R_drewN | apply Kd.R_drew)); exact (Kd.R_mono (Kd.R_far (p := ⟨gb733, 4, none⟩) (Kd.R_far (p := ⟨gb733, 3, none⟩) (Kd.R_far (p := ⟨gb733, 2, none⟩) (Kd.R_far (p := ⟨gb733, 1, none⟩) (Kd.R_far (p := ⟨gb733, 0, none⟩) (Kd.R_types HO731.out BK733.out (by decide)) (fun _ hk => hk.2) (.int .i64 t725)) (fun _ hk => hk.2) (.int .i64 t726)) (fun _ hk => hk.2) (.int .i64 t727)) (fun _ hk => hk.2) (.int .i64 t728)) (fun _ hk => hk.2) (.slice Ao123 t729.length co123)) (fun _ h_ => h_.1)))); (case side2 => exact (Kd.R_reads' HO731.out).2.1); (case side3 => refine (Kd.R_reads' (e := 69) (base := w.heap.size) (ok := fun k_ => (((some k_ ≠ (.slice Ao29 t713.length co29 : Value).ownBlock ∧ some k_ ≠ (.slice Ao36 t698.length co36 : Value).ownBlock) ∧ some k_ ≠ (.slice Ao115 t722.length co115 : Value).ownBlock) ∧ some k_ ≠ (.slice Ao123 t729.length co123 : Value).ownBlock)) (n := t681.length) (c := co22) ?_).2.2; exact (by (with_reducible repeat (first | apply Kd.R_alloc | apply Kd.R_drewN | apply Kd.R_drew)); exact (Kd.R_mono (Kd.R_far (p := ⟨gb733, 4, none⟩) (Kd.R_far (p := ⟨gb733, 3, none⟩) (Kd.R_far (p := ⟨gb733, 2, none⟩) (Kd.R_far (p := ⟨gb733, 1, none⟩) (Kd.R_far (p := ⟨gb733, 0, none⟩) (Kd.R_types HO_686004.out BK733.out (by decide)) (fun _ hk => hk.2) (.int .i64 t725)) (fun _ hk => hk.2) (.int .i64 t726)) (fun _ hk => hk.2) (.int .i64 t727)) (fun _ hk => hk.2) (.int .i64 t728)) (fun _ hk => hk.2) (.slice Ao123 t729.length co123)) (fun _ h_ => h_.1)))); (case side4 => exact (Kd.R_reads' HO_686004.out).2.1); rintro e w145 ⟨rfl, hb⟩; refine ⟨_, rfl, ?_⟩; have n0_ := Aside0.mk (Kd.R_below (by (with_reducible repeat (first | apply Kd.R_alloc | apply Kd.R_drewN | apply Kd.R_drew)); exact (Kd.R_mono (Kd.R_far (p := ⟨gb733, 4, none⟩) (Kd.R_far (p := ⟨gb733, 3, none⟩) (Kd.R_far (p := ⟨gb733, 2, none⟩) (Kd.R_far (p := ⟨gb733, 1, none⟩) (Kd.R_far (p := ⟨gb733, 0, none⟩) (Kd.R_types HO_686004.out BK733.out (by decide)) (fun _ hk => hk.2) (.int .i64 t725)) (fun _ hk => hk.2) (.int .i64 t726)) (fun _ hk => hk.2) (.int .i64 t727)) (fun _ hk => hk.2) (.int .i64 t728)) (fun _ hk => hk.2) (.slice Ao123 t729.length co123)) (fun _ h_ => h_.1))) hb); have n1_ := Aside0.mk (Kd.R_below (by (with_reducible repeat (first | apply Kd.R_alloc | apply Kd.R_drewN | apply Kd.R_drew)); exact (Kd.R_mono (Kd.R_far (p := ⟨gb733, 4, none⟩) (Kd.R_far (p := ⟨gb733, 3, none⟩) (Kd.R_far (p := ⟨gb733, 2, none⟩) (Kd.R_far (p := ⟨gb733, 1, none⟩) (Kd.R_far (p := ⟨gb733, 0, none⟩) (Kd.R_types HO_694004.out BK733.out (by decide)) (fun _ hk => hk.2) (.int .i64 t725)) (fun _ hk => hk.2) (.int .i64 t726)) (fun _ hk => hk.2) (.int .i64 t727)) (fun _ hk => hk.2) (.int .i64 t728)) (fun _ hk => hk.2) (.slice Ao123 t729.length co123)) (fun _ h_ => h_.1))) hb); have n2_ := Aside0.mk (Kd.R_below (by (with_reducible repeat (first | apply Kd.R_alloc | apply Kd.R_drewN | apply Kd.R_drew)); exact (Kd.R_mono (Kd.R_far (p := ⟨gb733, 4, none⟩) (Kd.R_far (p := ⟨gb733, 3, none⟩) (Kd.R_far (p := ⟨gb733, 2, none⟩) (Kd.R_far (p := ⟨gb733, 1, none⟩) (Kd.R_far (p := ⟨gb733, 0, none⟩) (Kd.R_types HO_703004.out BK733.out (by decide)) (fun _ hk => hk.2) (.int .i64 t725)) (fun _ hk => hk.2) (.int .i64 t726)) (fun _ hk => hk.2) (.int .i64 t727)) (fun _ hk => hk.2) (.int .i64 t728)) (fun _ hk => hk.2) (.slice Ao123 t729.length co123)) (fun _ h_ => h_.1))) hb); have n3_ := Aside0.mk (Kd.R_below (by (with_reducible repeat (first | apply Kd.R_alloc | apply Kd.R_drewN | apply Kd.R_drew)); exact (Kd.R_mono (Kd.R_far (p := ⟨gb733, 4, none⟩) (Kd.R_far (p := ⟨gb733, 3, none⟩) (Kd.R_far (p := ⟨gb733, 2, none⟩) (Kd.R_far (p := ⟨gb733, 1, none⟩) (Kd.R_far (p := ⟨gb733, 0, none⟩) (Kd.R_types HO724.out BK733.out (by decide)) (fun _ hk => hk.2) (.int .i64 t725)) (fun _ hk => hk.2) (.int .i64 t726)) (fun _ hk => hk.2) (.int .i64 t727)) (fun _ hk => hk.2) (.int .i64 t728)) (fun _ hk => hk.2) (.slice Ao123 t729.length co123)) (fun _ h_ => h_.1))) hb); have n4_ := Aside0.mk (Kd.R_below (by (with_reducible repeat (first | apply Kd.R_alloc | apply Kd.R_drewN | apply Kd.R_drew)); exact (Kd.R_mono (Kd.R_far (p := ⟨gb733, 4, none⟩) (Kd.R_far (p := ⟨gb733, 3, none⟩) (Kd.R_far (p := ⟨gb733, 2, none⟩) (Kd.R_far (p := ⟨gb733, 1, none⟩) (Kd.R_far (p := ⟨gb733, 0, none⟩) (Kd.R_types HO731.out BK733.out (by decide)) (fun _ hk => hk.2) (.int .i64 t725)) (fun _ hk => hk.2) (.int .i64 t726)) (fun _ hk => hk.2) (.int .i64 t727)) (fun _ hk => hk.2) (.int .i64 t728)) (fun _ hk => hk.2) (.slice Ao123 t729.length co123)) (fun _ h_ => h_.1))) hb); have n5_ := Aside0.mk (blk_below (g := gb668) (o := .cells #[.int .i64 a0_0, .int .i64 a0_1, .int .i64 a0_2, .int .i64 a0_3, .slice A0_4 l0_4.length c0_4] 26 (0, 0)) (by (with_reducible repeat (first | refine blk_drewN ?_ _ | refine blk_drew ?_ | refine blk_alloc ?_ _)); refine blk_far ?_ NB668_733.out _; (with_reducible repeat (first | refine blk_drewN ?_ _ | refine blk_drew ?_ | refine blk_alloc ?_ _)); refine blk_far ?_ NB668_733.out _; (with_reducible repeat (first | refine blk_drewN ?_ _ | refine blk_drew ?_ | refine blk_alloc ?_ _)); refine blk_far ?_ NB668_733.out _; (with_reducible repeat (first | refine blk_drewN ?_ _ | refine blk_drew ?_ | refine blk_alloc ?_ _)); refine blk_far ?_ NB668_733.out _; (with_reducible repeat (first | refine blk_drewN ?_ _ | refine blk_drew ?_ | refine blk_alloc ?_ _)); refine blk_far ?_ NB668_733.out _; (with_reducible repeat (first | refine blk_drewN ?_ _ | refine blk_drew ?_ | refine blk_alloc ?_ _)); exact BK668.out) hb); have n6_ := Aside0.mk (blk_below (g := gb685) (o := .cells #[.int .i64 t677, .int .i64 t678, .int .i64 t679, .int .i64 t680, .slice Ao22 t681.length co22] 33 (0, 0)) (by (with_reducible repeat (first | refine blk_drewN ?_ _ | refine blk_drew ?_ | refine blk_alloc ?_ _)); refine blk_far ?_ NB685_733.out _; (with_reducible repeat (first | refine blk_drewN ?_ _ | refine blk_drew ?_ | refine blk_alloc ?_ _)); refine blk_far ?_ NB685_733.out _; (with_reducible repeat (first | refine blk_drewN ?_ _ | refine blk_drew ?_ | refine blk_alloc ?_ _)); refine blk_far ?_ NB685_733.out _; (with_reducible repeat (first | refine blk_drewN ?_ _ | refine blk_drew ?_ | refine blk_alloc ?_ _)); refine blk_far ?_ NB685_733.out _; (with_reducible repeat (first | refine blk_drewN ?_ _ | refine blk_drew ?_ | refine blk_alloc ?_ _)); refine blk_far ?_ NB685_733.out _; (with_reducible repeat (first | refine blk_drewN ?_ _ | refine blk_drew ?_ | refine blk_alloc ?_ _)); exact BK685.out) hb); have n7_ := Aside0.mk (blk_below (g := gb693) (o := .cells #[.int .i64 t686, .int .i64 t687, .int .i64 t688, .int .i64 t689, .slice Ao29 t713.length co29] 33 (0, 0)) (by (with_reducible repeat (first | refine blk_drewN ?_ _ | refine blk_drew ?_ | refine blk_alloc ?_ _)); refine blk_far ?_ NB693_733.out _; (with_reducible repeat (first | refine blk_drewN ?_ _ | refine blk_drew ?_ | refine blk_alloc ?_ _)); refine blk_far ?_ NB693_733.out _; (with_reducible repeat (first | refine blk_drewN ?_ _ | refine blk_drew ?_ | refine blk_alloc ?_ _)); refine blk_far ?_ NB693_733.out _; (with_reducible repeat (first | refine blk_drewN ?_ _ | refine blk_drew ?_ | refine blk_alloc ?_ _)); refine blk_far ?_ NB693_733.out _; (with_reducible repeat (first | refine blk_drewN ?_ _ | refine blk_drew ?_ | refine blk_alloc ?_ _)); refine blk_far ?_ NB693_733.out _; (with_reducible repeat (first | refine blk_drewN ?_ _ | refine blk_drew ?_ | refine blk_alloc ?_ _)); exact BK693.out) hb); have n8_ := Aside0.mk (blk_below (g := gb702) (o := .cells #[.int .i64 t694, .int .i64 t695, .int .i64 t696, .int .i64 t697, .slice Ao36 t698.length co36] 33 (0, 0)) (by (with_reducible repeat (first | refine blk_drewN ?_ _ | refine blk_drew ?_ | refine blk_alloc ?_ _)); refine blk_far ?_ NB702_733.out _; (with_reducible repeat (first | refine blk_drewN ?_ _ | refine blk_drew ?_ | refine blk_alloc ?_ _)); refine blk_far ?_ NB702_733.out _; (with_reducible repeat (first | refine blk_drewN ?_ _ | refine blk_drew ?_ | refine blk_alloc ?_ _)); refine blk_far ?_ NB702_733.out _; (with_reducible repeat (first | refine blk_drewN ?_ _ | refine blk_drew ?_ | refine blk_alloc ?_ _)); refine blk_far ?_ NB702_733.out _; (with_reducible repeat (first | refine blk_drewN ?_ _ | refine blk_drew ?_ | refine blk_alloc ?_ _)); refine blk_far ?_ NB702_733.out _; (with_reducible repeat (first | refine blk_drewN ?_ _ | refine blk_drew ?_ | refine blk_alloc ?_ _)); exact BK702.out) hb); have n9_ := Aside0.mk (blk_below (g := gb733) (o := .cells #[.int .i64 t725, .int .i64 t726, .int .i64 t727, .int .i64 t728, .slice Ao123 t729.length co123] 33 (0, 0)) (by (with_reducible repeat (first | refine blk_drewN ?_ _ | refine blk_drew ?_ | refine blk_alloc ?_ _)); refine blk_put (cs := #[.int .i64 t725, .int .i64 t726, .int .i64 t727, .int .i64 t728, .slice none 0 0]) ?_ 4 _ rfl; (with_reducible repeat (first | refine blk_drewN ?_ _ | refine blk_drew ?_ | refine blk_alloc ?_ _)); refine blk_put (cs := #[.int .i64 t725, .int .i64 t726, .int .i64 t727, .int .i64 0, .slice none 0 0]) ?_ 3 _ rfl; (with_reducible repeat (first | refine blk_drewN ?_ _ | refine blk_drew ?_ | refine blk_alloc ?_ _)); refine blk_put (cs := #[.int .i64 t725, .int .i64 t726, .int .i64 0, .int .i64 0, .slice none 0 0]) ?_ 2 _ rfl; (with_reducible repeat (first | refine blk_drewN ?_ _ | refine blk_drew ?_ | refine blk_alloc ?_ _)); refine blk_put (cs := #[.int .i64 t725, .int .i64 0, .int .i64 0, .int .i64 0, .slice none 0 0]) ?_ 1 _ rfl; (with_reducible repeat (first | refine blk_drewN ?_ _ | refine blk_drew ?_ | refine blk_alloc ?_ _)); refine blk_put (cs := #[.int .i64 0, .int .i64 0, .int .i64 0, .int .i64 0, .slice none 0 0]) ?_ 0 _ rfl; (with_reducible repeat (first | refine blk_drewN ?_ _ | refine blk_drew ?_ | refine blk_alloc ?_ _)); exact BK733.out) hb); have n10_ := Aside0.mk (below_step (by repeat (first | (with_reducible first | exact HB.out | apply below_alloc | apply pw_below_drewN | apply below_drew1 | refine below_set ?_ GE668.out | refine below_set ?_ GE685.out | refine below_set ?_ GE693.out | refine below_set ?_ GE702.out | refine below_set ?_ GE733.out) | exact HB.out)) hb); clear HO_686004; clear HO_694004; clear HO_703004; clear HO724; clear HO731; clear BK668; clear BK685; clear BK693; clear BK702; clear BK733; clear HB; have HO_686004 := n0_; have HO_694004 := n1_; have HO_703004 := n2_; have HO724 := n3_; have HO731 := n4_; have BK668 := n5_; have BK685 := n6_; have BK693 := n7_; have BK702 := n8_; have BK733 := n9_; have HB := n10_; clear n0_ n1_ n2_ n3_ n4_ n5_ n6_ n7_ n8_ n9_ n10_; (try clear hb); (try clear hb2); (try clear hk); (try clear hi)))
             go_meet
             case rel => exact ⟨_, (true), (by first | rfl | (simp; done) | (simp [*]; done)), H', ⟨by have := HJ10.out; have := HJ59.out; first | omega | exact Nat.le_refl _⟩, ⟨by (try simp only [hl694004_59]); (with_reducible repeat (first | apply Kd.R_alloc | apply Kd.R_drewN | apply Kd.R_drew)); exact Kd.R_mono HO_686004.out (fun _ hk => ⟨hk.1.1.1, ⟨hk.1.1.2, hk.2⟩⟩)⟩, ⟨by (try simp only [hl694004_59]); (with_reducible repeat (first | apply Kd.R_alloc | apply Kd.R_drewN | apply Kd.R_drew)); exact Kd.R_mono HO_694004.out (fun _ hk => ⟨hk.1.1.1, ⟨hk.1.1.2, hk.2⟩⟩)⟩, ⟨by (try simp only [hl694004_59]); (with_reducible repeat (first | apply Kd.R_alloc | apply Kd.R_drewN | apply Kd.R_drew)); exact Kd.R_mono HO_703004.out (fun _ hk => ⟨hk.1.1.1, ⟨hk.1.1.2, hk.2⟩⟩)⟩, ⟨by (try simp only [hl694004_59]); (with_reducible repeat (first | apply Kd.R_alloc | apply Kd.R_drewN | apply Kd.R_drew)); exact Kd.R_mono HO731.out (fun _ hk => ⟨hk.1.1.1.2, ⟨hk.1.1.2, hk.1.2⟩⟩)⟩, ⟨by (try simp only [hl694004_59]); (with_reducible repeat (first | refine blk_drewN ?_ _ | refine blk_drew ?_ | refine blk_alloc ?_ _)); exact BK668.out⟩, ⟨by (try simp only [hl694004_59]); (with_reducible repeat (first | refine blk_drewN ?_ _ | refine blk_drew ?_ | refine blk_alloc ?_ _)); exact BK685.out⟩, ⟨by (try simp only [hl694004_59]); (with_reducible repeat (first | refine blk_drewN ?_ _ | refine blk_drew ?_ | refine blk_alloc ?_ _)); exact BK693.out⟩, ⟨by (try simp only [hl694004_59]); (with_reducible repeat (first | refine blk_drewN ?_ _ | refine blk_drew ?_ | refine blk_alloc ?_ _)); exact BK702.out⟩, ⟨by (try simp only [hl694004_59]); (with_reducible repeat (first | refine blk_drewN ?_ _ | refine blk_drew ?_ | refine blk_alloc ?_ _)); exact BK733.out⟩, ⟨by repeat (first | (with_reducible first | exact HB.out | apply below_alloc | apply pw_below_drewN | apply below_drew1 | refine below_set ?_ GE668.out | refine below_set ?_ GE685.out | refine below_set ?_ GE693.out | refine below_set ?_ GE702.out | refine below_set ?_ GE733.out) | exact HB.out)⟩⟩
           case rest =>
            clear HC103
            try clear c1
            try clear c2
            try clear p2
            try clear c3
            try clear c3b0
            try clear c4
            try clear c5
            try clear c6
            try clear c7
            try clear c8
            try clear c9
            try clear c10
            try clear c11
            try clear c12
            try clear c13
            try clear c14
            try clear c15
            try clear c17
            try clear c20
            try clear c26
            try clear c27
            try clear c32
            try clear c33
            try clear c34
            try clear c35
            try clear c36
            try clear c37
            try clear c38
            try clear c39
            try clear c40
            try clear c41
            try clear c43
            try clear c44
            try clear c47
            try clear c48
            try clear c49
            try clear c51
            try clear c52
            try clear c55
            try clear c58
            try clear c65
            try clear c66
            try clear c67
            try clear c70
            try clear c70b0
            try clear c72
            try clear c73
            try clear c74
            try clear c75
            try clear c77
            try clear c78
            try clear c81
            try clear c82
            try clear c83
            try clear c85
            try clear c86
            try clear c89
            try clear c92
            try clear c92b0
            try clear c93
            try clear c94
            try clear c95
            try clear c100
            try clear c100b0
            try clear c100b1
            try clear c104
            try clear c105
            try clear c106
            try clear c111
            try clear c112
            try clear c118
            try clear c119
            try clear c120
            try clear c121
            try clear c125
            try clear c126
            try clear c127
            try clear c128
            try clear c129
            try clear c131
            try clear c132
            try clear c133
            try clear c136
            try clear c137
            try clear c138
            try clear c139
            try clear c141
            try clear c142
            try clear c143
            try clear hcz107_0
            try clear hcz107_1
            try clear hcz107_2
            try clear hcz107_3
            try clear hcz107_4
            try clear hcz109_0
            try clear hcz109_1
            try clear hcz109_2
            try clear hcz109_3
            try clear hcz109_4
            try clear hcz113_0
            try clear hcz113_1
            try clear hcz113_2
            try clear hcz113_3
            try clear hcz113_4
            try clear hcz122_0
            try clear hcz122_1
            try clear hcz122_2
            try clear hcz122_3
            try clear hcz122_4
            try clear hcz130_0
            try clear hcz130_1
            try clear hcz130_2
            try clear hcz130_3
            try clear hcz130_4
            try clear hcz134_0
            try clear hcz134_1
            try clear hcz134_2
            try clear hcz134_3
            try clear hcz134_4
            try clear hcz13_0
            try clear hcz13_1
            try clear hcz13_2
            try clear hcz13_3
            try clear hcz13_4
            try clear hcz140_0
            try clear hcz140_1
            try clear hcz140_2
            try clear hcz140_3
            try clear hcz140_4
            try clear hcz144_0
            try clear hcz144_1
            try clear hcz144_2
            try clear hcz144_3
            try clear hcz144_4
            try clear hcz15_0
            try clear hcz15_1
            try clear hcz15_2
            try clear hcz15_3
            try clear hcz15_4
            try clear hcz21_0
            try clear hcz21_1
            try clear hcz21_2
            try clear hcz21_3
            try clear hcz21_4
            try clear hcz23_0
            try clear hcz23_1
            try clear hcz23_2
            try clear hcz23_3
            try clear hcz23_4
            try clear hcz28_0
            try clear hcz28_1
            try clear hcz28_2
            try clear hcz28_3
            try clear hcz28_4
            try clear hcz35_0
            try clear hcz35_1
            try clear hcz35_2
            try clear hcz35_3
            try clear hcz35_4
            try clear hcz42_0
            try clear hcz42_1
            try clear hcz42_2
            try clear hcz42_3
            try clear hcz42_4
            try clear hcz45_0
            try clear hcz45_1
            try clear hcz45_2
            try clear hcz45_3
            try clear hcz45_4
            try clear hcz50_0
            try clear hcz50_1
            try clear hcz50_2
            try clear hcz50_3
            try clear hcz50_4
            try clear hcz53_0
            try clear hcz53_1
            try clear hcz53_2
            try clear hcz53_3
            try clear hcz53_4
            try clear hcz5_0
            try clear hcz5_1
            try clear hcz5_2
            try clear hcz5_3
            try clear hcz5_4
            try clear hcz68_0
            try clear hcz68_1
            try clear hcz68_2
            try clear hcz68_3
            try clear hcz68_4
            try clear hcz76_0
            try clear hcz76_1
            try clear hcz76_2
            try clear hcz76_3
            try clear hcz76_4
            try clear hcz79_0
            try clear hcz79_1
            try clear hcz79_2
            try clear hcz79_3
            try clear hcz79_4
            try clear hcz84_0
            try clear hcz84_1
            try clear hcz84_2
            try clear hcz84_3
            try clear hcz84_4
            try clear hcz87_0
            try clear hcz87_1
            try clear hcz87_2
            try clear hcz87_3
            try clear hcz87_4
            try clear hcz96_0
            try clear hcz96_1
            try clear hcz96_2
            try clear hcz96_3
            try clear hcz96_4
            try clear hcz98_0
            try clear hcz98_1
            try clear hcz98_2
            try clear hcz98_3
            try clear hcz98_4
            try clear hfz107_0
            try clear hfz107_1
            try clear hfz107_2
            try clear hfz107_3
            try clear hfz107_4
            try clear hfz109_0
            try clear hfz109_1
            try clear hfz109_2
            try clear hfz109_3
            try clear hfz109_4
            try clear hfz113_0
            try clear hfz113_1
            try clear hfz113_2
            try clear hfz113_3
            try clear hfz113_4
            try clear hfz122_0
            try clear hfz122_1
            try clear hfz122_2
            try clear hfz122_3
            try clear hfz122_4
            try clear hfz130_0
            try clear hfz130_1
            try clear hfz130_2
            try clear hfz130_3
            try clear hfz130_4
            try clear hfz134_0
            try clear hfz134_1
            try clear hfz134_2
            try clear hfz134_3
            try clear hfz134_4
            try clear hfz13_0
            try clear hfz13_1
            try clear hfz13_2
            try clear hfz13_3
            try clear hfz13_4
            try clear hfz140_0
            try clear hfz140_1
            try clear hfz140_2
            try clear hfz140_3
            try clear hfz140_4
            try clear hfz144_0
            try clear hfz144_1
            try clear hfz144_2
            try clear hfz144_3
            try clear hfz144_4
            try clear hfz15_0
            try clear hfz15_1
            try clear hfz15_2
            try clear hfz15_3
            try clear hfz15_4
            try clear hfz21_0
            try clear hfz21_1
            try clear hfz21_2
            try clear hfz21_3
            try clear hfz21_4
            try clear hfz23_0
            try clear hfz23_1
            try clear hfz23_2
            try clear hfz23_3
            try clear hfz23_4
            try clear hfz28_0
            try clear hfz28_1
            try clear hfz28_2
            try clear hfz28_3
            try clear hfz28_4
            try clear hfz35_0
            try clear hfz35_1
            try clear hfz35_2
            try clear hfz35_3
            try clear hfz35_4
            try clear hfz42_0
            try clear hfz42_1
            try clear hfz42_2
            try clear hfz42_3
            try clear hfz42_4
            try clear hfz45_0
            try clear hfz45_1
            try clear hfz45_2
            try clear hfz45_3
            try clear hfz45_4
            try clear hfz50_0
            try clear hfz50_1
            try clear hfz50_2
            try clear hfz50_3
            try clear hfz50_4
            try clear hfz53_0
            try clear hfz53_1
            try clear hfz53_2
            try clear hfz53_3
            try clear hfz53_4
            try clear hfz5_0
            try clear hfz5_1
            try clear hfz5_2
            try clear hfz5_3
            try clear hfz5_4
            try clear hfz68_0
            try clear hfz68_1
            try clear hfz68_2
            try clear hfz68_3
            try clear hfz68_4
            try clear hfz76_0
            try clear hfz76_1
            try clear hfz76_2
            try clear hfz76_3
            try clear hfz76_4
            try clear hfz79_0
            try clear hfz79_1
            try clear hfz79_2
            try clear hfz79_3
            try clear hfz79_4
            try clear hfz84_0
            try clear hfz84_1
            try clear hfz84_2
            try clear hfz84_3
            try clear hfz84_4
            try clear hfz87_0
            try clear hfz87_1
            try clear hfz87_2
            try clear hfz87_3
            try clear hfz87_4
            try clear hfz96_0
            try clear hfz96_1
            try clear hfz96_2
            try clear hfz96_3
            try clear hfz96_4
            try clear hfz98_0
            try clear hfz98_1
            try clear hfz98_2
            try clear hfz98_3
            try clear hfz98_4
            try clear p2
            obtain ⟨kq, x87_102, rfl, HA, HJ102, HO_686004, HO_694004, HO_703004, HO_734004, BK668, BK685, BK693, BK702, BK733, HB⟩ := hcut
            have hl703004_102 := (Kd.R_reads' HO_703004.out).1
            rw [hl703004_102] at HO_703004
            (try simp only [hl703004_102])
            (try simp only [hl703004_102] at BK668)
            (try simp only [hl703004_102] at BK685)
            (try simp only [hl703004_102] at BK693)
            (try simp only [hl703004_102] at BK702)
            (try simp only [hl703004_102] at BK733)
            (try simp only [hl703004_102] at HO_686004)
            (try simp only [hl703004_102] at HO_694004)
            (try simp only [hl703004_102] at HO_734004)
            cases kq with
            | zero => exact absurd HA.out (by simp [laws_FnExactMirrorAxis.j2])
            | succ kj102 =>
             have H := HA.out
             clear HA
             simp only [laws_FnExactMirrorAxis.j2] at H
             by_cases c146 : x87_102 = true
             ·subst c146
              have H1 : (some false) = some r := by rw [if_pos rfl] at H; exact H
              clear H
              have H := H1
              clear H1
              obtain rfl := Option.some.inj H
              go_wp2
              go_ret
              exact ⟨by first | rfl | (simp [errW_none, errW_some] <;> rfl) | (simp [*, errW_none, errW_some] <;> rfl), by repeat (first | (with_reducible first | exact HB.out | apply below_alloc | apply pw_below_drewN | apply below_drew1 | refine below_set ?_ GE668.out | refine below_set ?_ GE685.out | refine below_set ?_ GE693.out | refine below_set ?_ GE702.out | refine below_set ?_ GE733.out) | exact HB.out)⟩
             ·replace c146 := Bool.eq_false_iff.mpr c146
              subst c146
              have H1 : ((laws_heldAxis.f kj102 t694 t695 t696 t697 t716 1).bind fun t735 => (if t735 < 0 then (some false) else (if t735 = t715 then (some true) else (some false)))) = some r := by rw [if_neg (show ¬ (false = true) by decide)] at H; exact H
              clear H
              have H := H1
              clear H1
              replace H := Option.bind_eq_some_iff.mp H
              obtain ⟨t735, A1470, H⟩ := H
              replace H : (if t735 < 0 then (some false) else (if t735 = t715 then (some true) else (some false))) = some r := H
              have A147 := Aside0.mk A1470
              clear A1470
              by_cases c148 : t735 < 0
              ·rw [if_pos c148] at H
               have c148b0 : decide (t735 < 0) = true := decide_eq_true c148
               clear c148
               obtain rfl := Option.some.inj H
               have hnb149 := NB702_668.out
               have hnc149 := NB668_702.out
               have hnb150 := NB702_685.out
               have hnc150 := NB685_702.out
               have hnb151 := NB702_693.out
               have hnc151 := NB693_702.out
               have hnb152 := NB702_733.out
               have hnc152 := NB733_702.out
               have hcz153_0 : wc.cell? ⟨gb702, 0, none⟩ = some (.int .i64 t694) := (blk_cell BK702.out 0).trans rfl
               have hcz153_1 : wc.cell? ⟨gb702, 1, none⟩ = some (.int .i64 t695) := (blk_cell BK702.out 1).trans rfl
               have hcz153_2 : wc.cell? ⟨gb702, 2, none⟩ = some (.int .i64 t696) := (blk_cell BK702.out 2).trans rfl
               have hcz153_3 : wc.cell? ⟨gb702, 3, none⟩ = some (.int .i64 t697) := (blk_cell BK702.out 3).trans rfl
               have hcz153_4 : wc.cell? ⟨gb702, 4, none⟩ = some (.slice Ao36 t716.length co36) := (blk_cell BK702.out 4).trans rfl
               have hfz153_0 := blk_frozen BK702.out 0
               have hfz153_1 := blk_frozen BK702.out 1
               have hfz153_2 := blk_frozen BK702.out 2
               have hfz153_3 := blk_frozen BK702.out 3
               have hfz153_4 := blk_frozen BK702.out 4
               go_wp2_with (first | ((with_reducible refine gate_callee (f := 37) rfl ?_); refine goesL_ (some 90) rfl rfl Try.func37 (by kernel_rfl) rfl #[.agg #[.int .i64 t694, .int .i64 t695, .int .i64 t696, .int .i64 t697, .slice Ao36 t716.length co36], .int .i64 1] rfl (by (try simp only [List.map_toArray, List.map_cons, List.map_nil]); first | done | rfl | (simp only [List.length_drop, List.length_take]; rfl)) ?_; (with_reducible refine (laws_heldAxis.calls kj102 t694 t695 t696 t697 _ _ t716 1 t735 _ ?side1 ?side2 A147.out).mono ?_); (case side1 => repeat (first | exact (Kd.R_reads' HO_703004.out).2.2 | (with_reducible refine Kd.C_alloc ?_ _) | (with_reducible refine Kd.C_drewN ?_ _) | (with_reducible refine Kd.C_drew ?_))); (case side2 => exact (Kd.R_reads' HO_703004.out).2.1); rintro e w154 ⟨rfl, hb⟩; refine ⟨_, rfl, ?_⟩; have n0_ := Aside0.mk (Kd.R_below (by (with_reducible repeat (first | apply Kd.R_alloc | apply Kd.R_drewN | apply Kd.R_drew)); exact HO_686004.out) hb); have n1_ := Aside0.mk (Kd.R_below (by (with_reducible repeat (first | apply Kd.R_alloc | apply Kd.R_drewN | apply Kd.R_drew)); exact HO_694004.out) hb); have n2_ := Aside0.mk (Kd.R_below (by (with_reducible repeat (first | apply Kd.R_alloc | apply Kd.R_drewN | apply Kd.R_drew)); exact HO_703004.out) hb); have n3_ := Aside0.mk (Kd.R_below (by (with_reducible repeat (first | apply Kd.R_alloc | apply Kd.R_drewN | apply Kd.R_drew)); exact HO_734004.out) hb); have n4_ := Aside0.mk (blk_below (g := gb668) (o := .cells #[.int .i64 a0_0, .int .i64 a0_1, .int .i64 a0_2, .int .i64 a0_3, .slice A0_4 l0_4.length c0_4] 26 (0, 0)) (by (with_reducible repeat (first | refine blk_drewN ?_ _ | refine blk_drew ?_ | refine blk_alloc ?_ _)); exact BK668.out) hb); have n5_ := Aside0.mk (blk_below (g := gb685) (o := .cells #[.int .i64 t677, .int .i64 t678, .int .i64 t679, .int .i64 t680, .slice Ao22 t681.length co22] 33 (0, 0)) (by (with_reducible repeat (first | refine blk_drewN ?_ _ | refine blk_drew ?_ | refine blk_alloc ?_ _)); exact BK685.out) hb); have n6_ := Aside0.mk (blk_below (g := gb693) (o := .cells #[.int .i64 t686, .int .i64 t687, .int .i64 t688, .int .i64 t689, .slice Ao29 t713.length co29] 33 (0, 0)) (by (with_reducible repeat (first | refine blk_drewN ?_ _ | refine blk_drew ?_ | refine blk_alloc ?_ _)); exact BK693.out) hb); have n7_ := Aside0.mk (blk_below (g := gb702) (o := .cells #[.int .i64 t694, .int .i64 t695, .int .i64 t696, .int .i64 t697, .slice Ao36 t716.length co36] 33 (0, 0)) (by (with_reducible repeat (first | refine blk_drewN ?_ _ | refine blk_drew ?_ | refine blk_alloc ?_ _)); exact BK702.out) hb); have n8_ := Aside0.mk (blk_below (g := gb733) (o := .cells #[.int .i64 t725, .int .i64 t726, .int .i64 t727, .int .i64 t728, .slice Ao123 t729.length co123] 33 (0, 0)) (by (with_reducible repeat (first | refine blk_drewN ?_ _ | refine blk_drew ?_ | refine blk_alloc ?_ _)); exact BK733.out) hb); have n9_ := Aside0.mk (below_step (by repeat (first | (with_reducible first | exact HB.out | apply below_alloc | apply pw_below_drewN | apply below_drew1 | refine below_set ?_ GE668.out | refine below_set ?_ GE685.out | refine below_set ?_ GE693.out | refine below_set ?_ GE702.out | refine below_set ?_ GE733.out) | exact HB.out)) hb); clear HO_686004; clear HO_694004; clear HO_703004; clear HO_734004; clear BK668; clear BK685; clear BK693; clear BK702; clear BK733; clear HB; have HO_686004 := n0_; have HO_694004 := n1_; have HO_703004 := n2_; have HO_734004 := n3_; have BK668 := n4_; have BK685 := n5_; have BK693 := n6_; have BK702 := n7_; have BK733 := n8_; have HB := n9_; clear n0_ n1_ n2_ n3_ n4_ n5_ n6_ n7_ n8_ n9_; (try clear hb); (try clear hb2); (try clear hk); (try clear hi)))
               go_ret
               exact ⟨by first | rfl | (simp [errW_none, errW_some] <;> rfl) | (simp [*, errW_none, errW_some] <;> rfl), by repeat (first | (with_reducible first | exact HB.out | apply below_alloc | apply pw_below_drewN | apply below_drew1 | refine below_set ?_ GE668.out | refine below_set ?_ GE685.out | refine below_set ?_ GE693.out | refine below_set ?_ GE702.out | refine below_set ?_ GE733.out) | exact HB.out)⟩
              ·rw [if_neg c148] at H
               have c148b0 : decide (t735 < 0) = false := decide_eq_false c148
               clear c148
               by_cases c155 : t735 = t715
               ·rw [if_pos c155] at H
                have c155b0 : (t735 == t715) = true := beq_iff_eq.mpr c155
                have c155b1 : (t735 != t715) = false := bne_eq_false_iff_eq.mpr c155
                clear c155
                obtain rfl := Option.some.inj H
                have hnb156 := NB702_668.out
                have hnc156 := NB668_702.out
                have hnb157 := NB702_685.out
                have hnc157 := NB685_702.out
                have hnb158 := NB702_693.out
                have hnc158 := NB693_702.out
                have hnb159 := NB702_733.out
                have hnc159 := NB733_702.out
                have hcz160_0 : wc.cell? ⟨gb702, 0, none⟩ = some (.int .i64 t694) := (blk_cell BK702.out 0).trans rfl
                have hcz160_1 : wc.cell? ⟨gb702, 1, none⟩ = some (.int .i64 t695) := (blk_cell BK702.out 1).trans rfl
                have hcz160_2 : wc.cell? ⟨gb702, 2, none⟩ = some (.int .i64 t696) := (blk_cell BK702.out 2).trans rfl
                have hcz160_3 : wc.cell? ⟨gb702, 3, none⟩ = some (.int .i64 t697) := (blk_cell BK702.out 3).trans rfl
                have hcz160_4 : wc.cell? ⟨gb702, 4, none⟩ = some (.slice Ao36 t716.length co36) := (blk_cell BK702.out 4).trans rfl
                have hfz160_0 := blk_frozen BK702.out 0
                have hfz160_1 := blk_frozen BK702.out 1
                have hfz160_2 := blk_frozen BK702.out 2
                have hfz160_3 := blk_frozen BK702.out 3
                have hfz160_4 := blk_frozen BK702.out 4
                go_wp2_with (first | ((with_reducible refine gate_callee (f := 37) rfl ?_); refine goesL_ (some 90) rfl rfl Try.func37 (by kernel_rfl) rfl #[.agg #[.int .i64 t694, .int .i64 t695, .int .i64 t696, .int .i64 t697, .slice Ao36 t716.length co36], .int .i64 1] rfl (by (try simp only [List.map_toArray, List.map_cons, List.map_nil]); first | done | rfl | (simp only [List.length_drop, List.length_take]; rfl)) ?_; (with_reducible refine (laws_heldAxis.calls kj102 t694 t695 t696 t697 _ _ t716 1 t735 _ ?side1 ?side2 A147.out).mono ?_); (case side1 => repeat (first | exact (Kd.R_reads' HO_703004.out).2.2 | (with_reducible refine Kd.C_alloc ?_ _) | (with_reducible refine Kd.C_drewN ?_ _) | (with_reducible refine Kd.C_drew ?_))); (case side2 => exact (Kd.R_reads' HO_703004.out).2.1); rintro e w161 ⟨rfl, hb⟩; refine ⟨_, rfl, ?_⟩; have n0_ := Aside0.mk (Kd.R_below (by (with_reducible repeat (first | apply Kd.R_alloc | apply Kd.R_drewN | apply Kd.R_drew)); exact HO_686004.out) hb); have n1_ := Aside0.mk (Kd.R_below (by (with_reducible repeat (first | apply Kd.R_alloc | apply Kd.R_drewN | apply Kd.R_drew)); exact HO_694004.out) hb); have n2_ := Aside0.mk (Kd.R_below (by (with_reducible repeat (first | apply Kd.R_alloc | apply Kd.R_drewN | apply Kd.R_drew)); exact HO_703004.out) hb); have n3_ := Aside0.mk (Kd.R_below (by (with_reducible repeat (first | apply Kd.R_alloc | apply Kd.R_drewN | apply Kd.R_drew)); exact HO_734004.out) hb); have n4_ := Aside0.mk (blk_below (g := gb668) (o := .cells #[.int .i64 a0_0, .int .i64 a0_1, .int .i64 a0_2, .int .i64 a0_3, .slice A0_4 l0_4.length c0_4] 26 (0, 0)) (by (with_reducible repeat (first | refine blk_drewN ?_ _ | refine blk_drew ?_ | refine blk_alloc ?_ _)); exact BK668.out) hb); have n5_ := Aside0.mk (blk_below (g := gb685) (o := .cells #[.int .i64 t677, .int .i64 t678, .int .i64 t679, .int .i64 t680, .slice Ao22 t681.length co22] 33 (0, 0)) (by (with_reducible repeat (first | refine blk_drewN ?_ _ | refine blk_drew ?_ | refine blk_alloc ?_ _)); exact BK685.out) hb); have n6_ := Aside0.mk (blk_below (g := gb693) (o := .cells #[.int .i64 t686, .int .i64 t687, .int .i64 t688, .int .i64 t689, .slice Ao29 t713.length co29] 33 (0, 0)) (by (with_reducible repeat (first | refine blk_drewN ?_ _ | refine blk_drew ?_ | refine blk_alloc ?_ _)); exact BK693.out) hb); have n7_ := Aside0.mk (blk_below (g := gb702) (o := .cells #[.int .i64 t694, .int .i64 t695, .int .i64 t696, .int .i64 t697, .slice Ao36 t716.length co36] 33 (0, 0)) (by (with_reducible repeat (first | refine blk_drewN ?_ _ | refine blk_drew ?_ | refine blk_alloc ?_ _)); exact BK702.out) hb); have n8_ := Aside0.mk (blk_below (g := gb733) (o := .cells #[.int .i64 t725, .int .i64 t726, .int .i64 t727, .int .i64 t728, .slice Ao123 t729.length co123] 33 (0, 0)) (by (with_reducible repeat (first | refine blk_drewN ?_ _ | refine blk_drew ?_ | refine blk_alloc ?_ _)); exact BK733.out) hb); have n9_ := Aside0.mk (below_step (by repeat (first | (with_reducible first | exact HB.out | apply below_alloc | apply pw_below_drewN | apply below_drew1 | refine below_set ?_ GE668.out | refine below_set ?_ GE685.out | refine below_set ?_ GE693.out | refine below_set ?_ GE702.out | refine below_set ?_ GE733.out) | exact HB.out)) hb); clear HO_686004; clear HO_694004; clear HO_703004; clear HO_734004; clear BK668; clear BK685; clear BK693; clear BK702; clear BK733; clear HB; have HO_686004 := n0_; have HO_694004 := n1_; have HO_703004 := n2_; have HO_734004 := n3_; have BK668 := n4_; have BK685 := n5_; have BK693 := n6_; have BK702 := n7_; have BK733 := n8_; have HB := n9_; clear n0_ n1_ n2_ n3_ n4_ n5_ n6_ n7_ n8_ n9_; (try clear hb); (try clear hb2); (try clear hk); (try clear hi)))
                go_ret
                exact ⟨by first | rfl | (simp [errW_none, errW_some] <;> rfl) | (simp [*, errW_none, errW_some] <;> rfl), by repeat (first | (with_reducible first | exact HB.out | apply below_alloc | apply pw_below_drewN | apply below_drew1 | refine below_set ?_ GE668.out | refine below_set ?_ GE685.out | refine below_set ?_ GE693.out | refine below_set ?_ GE702.out | refine below_set ?_ GE733.out) | exact HB.out)⟩
               ·rw [if_neg c155] at H
                have c155b0 : (t735 == t715) = false := beq_eq_false_iff_ne.mpr c155
                have c155b1 : (t735 != t715) = true := bne_iff_ne.mpr c155
                obtain rfl := Option.some.inj H
                have hnb162 := NB702_668.out
                have hnc162 := NB668_702.out
                have hnb163 := NB702_685.out
                have hnc163 := NB685_702.out
                have hnb164 := NB702_693.out
                have hnc164 := NB693_702.out
                have hnb165 := NB702_733.out
                have hnc165 := NB733_702.out
                have hcz166_0 : wc.cell? ⟨gb702, 0, none⟩ = some (.int .i64 t694) := (blk_cell BK702.out 0).trans rfl
                have hcz166_1 : wc.cell? ⟨gb702, 1, none⟩ = some (.int .i64 t695) := (blk_cell BK702.out 1).trans rfl
                have hcz166_2 : wc.cell? ⟨gb702, 2, none⟩ = some (.int .i64 t696) := (blk_cell BK702.out 2).trans rfl
                have hcz166_3 : wc.cell? ⟨gb702, 3, none⟩ = some (.int .i64 t697) := (blk_cell BK702.out 3).trans rfl
                have hcz166_4 : wc.cell? ⟨gb702, 4, none⟩ = some (.slice Ao36 t716.length co36) := (blk_cell BK702.out 4).trans rfl
                have hfz166_0 := blk_frozen BK702.out 0
                have hfz166_1 := blk_frozen BK702.out 1
                have hfz166_2 := blk_frozen BK702.out 2
                have hfz166_3 := blk_frozen BK702.out 3
                have hfz166_4 := blk_frozen BK702.out 4
                go_wp2_with (first | ((with_reducible refine gate_callee (f := 37) rfl ?_); refine goesL_ (some 90) rfl rfl Try.func37 (by kernel_rfl) rfl #[.agg #[.int .i64 t694, .int .i64 t695, .int .i64 t696, .int .i64 t697, .slice Ao36 t716.length co36], .int .i64 1] rfl (by (try simp only [List.map_toArray, List.map_cons, List.map_nil]); first | done | rfl | (simp only [List.length_drop, List.length_take]; rfl)) ?_; (with_reducible refine (laws_heldAxis.calls kj102 t694 t695 t696 t697 _ _ t716 1 t735 _ ?side1 ?side2 A147.out).mono ?_); (case side1 => repeat (first | exact (Kd.R_reads' HO_703004.out).2.2 | (with_reducible refine Kd.C_alloc ?_ _) | (with_reducible refine Kd.C_drewN ?_ _) | (with_reducible refine Kd.C_drew ?_))); (case side2 => exact (Kd.R_reads' HO_703004.out).2.1); rintro e w167 ⟨rfl, hb⟩; refine ⟨_, rfl, ?_⟩; have n0_ := Aside0.mk (Kd.R_below (by (with_reducible repeat (first | apply Kd.R_alloc | apply Kd.R_drewN | apply Kd.R_drew)); exact HO_686004.out) hb); have n1_ := Aside0.mk (Kd.R_below (by (with_reducible repeat (first | apply Kd.R_alloc | apply Kd.R_drewN | apply Kd.R_drew)); exact HO_694004.out) hb); have n2_ := Aside0.mk (Kd.R_below (by (with_reducible repeat (first | apply Kd.R_alloc | apply Kd.R_drewN | apply Kd.R_drew)); exact HO_703004.out) hb); have n3_ := Aside0.mk (Kd.R_below (by (with_reducible repeat (first | apply Kd.R_alloc | apply Kd.R_drewN | apply Kd.R_drew)); exact HO_734004.out) hb); have n4_ := Aside0.mk (blk_below (g := gb668) (o := .cells #[.int .i64 a0_0, .int .i64 a0_1, .int .i64 a0_2, .int .i64 a0_3, .slice A0_4 l0_4.length c0_4] 26 (0, 0)) (by (with_reducible repeat (first | refine blk_drewN ?_ _ | refine blk_drew ?_ | refine blk_alloc ?_ _)); exact BK668.out) hb); have n5_ := Aside0.mk (blk_below (g := gb685) (o := .cells #[.int .i64 t677, .int .i64 t678, .int .i64 t679, .int .i64 t680, .slice Ao22 t681.length co22] 33 (0, 0)) (by (with_reducible repeat (first | refine blk_drewN ?_ _ | refine blk_drew ?_ | refine blk_alloc ?_ _)); exact BK685.out) hb); have n6_ := Aside0.mk (blk_below (g := gb693) (o := .cells #[.int .i64 t686, .int .i64 t687, .int .i64 t688, .int .i64 t689, .slice Ao29 t713.length co29] 33 (0, 0)) (by (with_reducible repeat (first | refine blk_drewN ?_ _ | refine blk_drew ?_ | refine blk_alloc ?_ _)); exact BK693.out) hb); have n7_ := Aside0.mk (blk_below (g := gb702) (o := .cells #[.int .i64 t694, .int .i64 t695, .int .i64 t696, .int .i64 t697, .slice Ao36 t716.length co36] 33 (0, 0)) (by (with_reducible repeat (first | refine blk_drewN ?_ _ | refine blk_drew ?_ | refine blk_alloc ?_ _)); exact BK702.out) hb); have n8_ := Aside0.mk (blk_below (g := gb733) (o := .cells #[.int .i64 t725, .int .i64 t726, .int .i64 t727, .int .i64 t728, .slice Ao123 t729.length co123] 33 (0, 0)) (by (with_reducible repeat (first | refine blk_drewN ?_ _ | refine blk_drew ?_ | refine blk_alloc ?_ _)); exact BK733.out) hb); have n9_ := Aside0.mk (below_step (by repeat (first | (with_reducible first | exact HB.out | apply below_alloc | apply pw_below_drewN | apply below_drew1 | refine below_set ?_ GE668.out | refine below_set ?_ GE685.out | refine below_set ?_ GE693.out | refine below_set ?_ GE702.out | refine below_set ?_ GE733.out) | exact HB.out)) hb); clear HO_686004; clear HO_694004; clear HO_703004; clear HO_734004; clear BK668; clear BK685; clear BK693; clear BK702; clear BK733; clear HB; have HO_686004 := n0_; have HO_694004 := n1_; have HO_703004 := n2_; have HO_734004 := n3_; have BK668 := n4_; have BK685 := n5_; have BK693 := n6_; have BK702 := n7_; have BK733 := n8_; have HB := n9_; clear n0_ n1_ n2_ n3_ n4_ n5_ n6_ n7_ n8_ n9_; (try clear hb); (try clear hb2); (try clear hk); (try clear hi)))
                go_ret
                exact ⟨by first | rfl | (simp [errW_none, errW_some] <;> rfl) | (simp [*, errW_none, errW_some] <;> rfl), by repeat (first | (with_reducible first | exact HB.out | apply below_alloc | apply pw_below_drewN | apply below_drew1 | refine below_set ?_ GE668.out | refine below_set ?_ GE685.out | refine below_set ?_ GE693.out | refine below_set ?_ GE702.out | refine below_set ?_ GE733.out) | exact HB.out)⟩
          ·rw [if_neg c100] at H
           have c100b0 : (t717 == t715) = false := beq_eq_false_iff_ne.mpr c100
           have c100b1 : (t717 != t715) = true := bne_iff_ne.mpr c100
           obtain rfl := Option.some.inj H
           have hnb168 := NB702_668.out
           have hnc168 := NB668_702.out
           have hnb169 := NB702_685.out
           have hnc169 := NB685_702.out
           have hnb170 := NB702_693.out
           have hnc170 := NB693_702.out
           have hcz171_0 : wc.cell? ⟨gb702, 0, none⟩ = some (.int .i64 t694) := (blk_cell BK702.out 0).trans rfl
           have hcz171_1 : wc.cell? ⟨gb702, 1, none⟩ = some (.int .i64 t695) := (blk_cell BK702.out 1).trans rfl
           have hcz171_2 : wc.cell? ⟨gb702, 2, none⟩ = some (.int .i64 t696) := (blk_cell BK702.out 2).trans rfl
           have hcz171_3 : wc.cell? ⟨gb702, 3, none⟩ = some (.int .i64 t697) := (blk_cell BK702.out 3).trans rfl
           have hcz171_4 : wc.cell? ⟨gb702, 4, none⟩ = some (.slice Ao36 t698.length co36) := (blk_cell BK702.out 4).trans rfl
           have hfz171_0 := blk_frozen BK702.out 0
           have hfz171_1 := blk_frozen BK702.out 1
           have hfz171_2 := blk_frozen BK702.out 2
           have hfz171_3 := blk_frozen BK702.out 3
           have hfz171_4 := blk_frozen BK702.out 4
           go_wp2_with (first | ((with_reducible refine gate_callee (f := 36) rfl ?_); refine goesL_ (some 64) rfl rfl Try.func36 (by kernel_rfl) rfl #[.agg #[.int .i64 t694, .int .i64 t695, .int .i64 t696, .int .i64 t697, .slice Ao36 t698.length co36], .int .i64 1] rfl (by (try simp only [List.map_toArray, List.map_cons, List.map_nil]); first | done | rfl | (simp only [List.length_drop, List.length_take]; rfl)) ?_; (with_reducible refine (laws_markAxis.calls kj59 t694 t695 t696 t697 (fun k_ => some k_ = (.slice Ao36 t698.length co36 : Value).ownBlock) (.slice Ao36 t698.length co36) t698 1 t715 t716 w _ ?side1 ?side2 A90.out).mono ?_); (case side1 => repeat (first | (with_reducible first | exact HB.out | apply below_alloc | apply pw_below_drewN | apply below_drew1 | refine below_set ?_ GE668.out | refine below_set ?_ GE685.out | refine below_set ?_ GE693.out | refine below_set ?_ GE702.out) | exact HB.out)); (case side2 => exact Kd.R_tight rfl HO_703004.out); rintro e w172 ⟨rfl, hy0, hb, hkp⟩; refine ⟨_, rfl, ?_⟩; have n0_ := Aside0.mk (Kd.R_mono (ok' := fun k_ => some k_ ≠ (.slice Ao29 t713.length co29 : Value).ownBlock ∧ some k_ ≠ (.slice Ao36 t698.length co36 : Value).ownBlock) (Kd.R_keptB (HO_686004.out) hkp (fun k_ hk_ hs_ => (hk_.2) hs_)) (fun k_ hk_ => ⟨hk_.1.1, hk_.1.2⟩)); have n1_ := Aside0.mk (Kd.R_mono (ok' := fun k_ => some k_ ≠ (.slice Ao22 t681.length co22 : Value).ownBlock ∧ some k_ ≠ (.slice Ao36 t698.length co36 : Value).ownBlock) (Kd.R_keptB (HO_694004.out) hkp (fun k_ hk_ hs_ => (hk_.2) hs_)) (fun k_ hk_ => ⟨hk_.1.1, hk_.1.2⟩)); have n2_ := Aside0.mk (Kd.R_reok rfl hy0 (fun k_ e_ => HO_703004.out.1 k_ e_)); have n3_ := Aside0.mk (blk_kept (by (with_reducible repeat (first | refine blk_drewN ?_ _ | refine blk_drew ?_ | refine blk_alloc ?_ _)); exact BK668.out) hkp (fun hs_ => (fun e_ => (Kd.R_ne HO_703004.out BK668.out (by decide)) e_) hs_)); have n4_ := Aside0.mk (blk_kept (by (with_reducible repeat (first | refine blk_drewN ?_ _ | refine blk_drew ?_ | refine blk_alloc ?_ _)); exact BK685.out) hkp (fun hs_ => (fun e_ => (Kd.R_ne HO_703004.out BK685.out (by decide)) e_) hs_)); have n5_ := Aside0.mk (blk_kept (by (with_reducible repeat (first | refine blk_drewN ?_ _ | refine blk_drew ?_ | refine blk_alloc ?_ _)); exact BK693.out) hkp (fun hs_ => (fun e_ => (Kd.R_ne HO_703004.out BK693.out (by decide)) e_) hs_)); have n6_ := Aside0.mk (blk_kept (by (with_reducible repeat (first | refine blk_drewN ?_ _ | refine blk_drew ?_ | refine blk_alloc ?_ _)); exact BK702.out) hkp (fun hs_ => (fun e_ => (Kd.R_ne HO_703004.out BK702.out (by decide)) e_) hs_)); have n7_ := Aside0.mk (hb); clear HO_686004; clear HO_694004; clear HO_703004; clear BK668; clear BK685; clear BK693; clear BK702; clear HB; have HO_686004 := n0_; have HO_694004 := n1_; have HO_703004 := n2_; have BK668 := n3_; have BK685 := n4_; have BK693 := n5_; have BK702 := n6_; have HB := n7_; clear n0_ n1_ n2_ n3_ n4_ n5_ n6_ n7_; (try clear hb); (try clear hkp); (try clear hy0); have hcz173_0 : w172.cell? ⟨gb702, 0, none⟩ = some (.int .i64 t694) := (blk_cell BK702.out 0).trans rfl; have hcz173_1 : w172.cell? ⟨gb702, 1, none⟩ = some (.int .i64 t695) := (blk_cell BK702.out 1).trans rfl; have hcz173_2 : w172.cell? ⟨gb702, 2, none⟩ = some (.int .i64 t696) := (blk_cell BK702.out 2).trans rfl; have hcz173_3 : w172.cell? ⟨gb702, 3, none⟩ = some (.int .i64 t697) := (blk_cell BK702.out 3).trans rfl; have hcz173_4 : w172.cell? ⟨gb702, 4, none⟩ = some (.slice Ao36 t698.length co36) := (blk_cell BK702.out 4).trans rfl; have hfz173_0 := blk_frozen BK702.out 0; have hfz173_1 := blk_frozen BK702.out 1; have hfz173_2 := blk_frozen BK702.out 2; have hfz173_3 := blk_frozen BK702.out 3; have hfz173_4 := blk_frozen BK702.out 4) | ((with_reducible refine gate_callee (f := 37) rfl ?_); refine goesL_ (some 67) rfl rfl Try.func37 (by kernel_rfl) rfl #[.agg #[.int .i64 t694, .int .i64 t695, .int .i64 t696, .int .i64 t697, .slice Ao36 t716.length co36], .int .i64 1] rfl (by (try simp only [List.map_toArray, List.map_cons, List.map_nil]); first | done | (rw [show t716.length = t698.length from (Kd.R_reads' HO_703004.out).1.symm] <;> rfl) | rfl | (simp only [List.length_drop, List.length_take]; rfl)) ?_; (with_reducible refine (laws_heldAxis.calls kj59 t694 t695 t696 t697 _ _ t716 1 t717 _ ?side1 ?side2 A91.out).mono ?_); (case side1 => repeat (first | exact (Kd.R_reads' HO_703004.out).2.2 | (with_reducible refine Kd.C_alloc ?_ _) | (with_reducible refine Kd.C_drewN ?_ _) | (with_reducible refine Kd.C_drew ?_))); (case side2 => rw [show t716.length = t698.length from (Kd.R_reads' HO_703004.out).1.symm]; exact (Kd.R_reads' HO_703004.out).2.1); rintro e w174 ⟨rfl, hb⟩; refine ⟨_, rfl, ?_⟩; have n0_ := Aside0.mk (Kd.R_below (by (with_reducible repeat (first | apply Kd.R_alloc | apply Kd.R_drewN | apply Kd.R_drew)); exact HO_686004.out) hb); have n1_ := Aside0.mk (Kd.R_below (by (with_reducible repeat (first | apply Kd.R_alloc | apply Kd.R_drewN | apply Kd.R_drew)); exact HO_694004.out) hb); have n2_ := Aside0.mk (Kd.R_below (by (with_reducible repeat (first | apply Kd.R_alloc | apply Kd.R_drewN | apply Kd.R_drew)); exact HO_703004.out) hb); have n3_ := Aside0.mk (blk_below (g := gb668) (o := .cells #[.int .i64 a0_0, .int .i64 a0_1, .int .i64 a0_2, .int .i64 a0_3, .slice A0_4 l0_4.length c0_4] 26 (0, 0)) (by (with_reducible repeat (first | refine blk_drewN ?_ _ | refine blk_drew ?_ | refine blk_alloc ?_ _)); exact BK668.out) hb); have n4_ := Aside0.mk (blk_below (g := gb685) (o := .cells #[.int .i64 t677, .int .i64 t678, .int .i64 t679, .int .i64 t680, .slice Ao22 t681.length co22] 33 (0, 0)) (by (with_reducible repeat (first | refine blk_drewN ?_ _ | refine blk_drew ?_ | refine blk_alloc ?_ _)); exact BK685.out) hb); have n5_ := Aside0.mk (blk_below (g := gb693) (o := .cells #[.int .i64 t686, .int .i64 t687, .int .i64 t688, .int .i64 t689, .slice Ao29 t713.length co29] 33 (0, 0)) (by (with_reducible repeat (first | refine blk_drewN ?_ _ | refine blk_drew ?_ | refine blk_alloc ?_ _)); exact BK693.out) hb); have n6_ := Aside0.mk (blk_below (g := gb702) (o := .cells #[.int .i64 t694, .int .i64 t695, .int .i64 t696, .int .i64 t697, .slice Ao36 t698.length co36] 33 (0, 0)) (by (with_reducible repeat (first | refine blk_drewN ?_ _ | refine blk_drew ?_ | refine blk_alloc ?_ _)); exact BK702.out) hb); have n7_ := Aside0.mk (below_step (by repeat (first | (with_reducible first | exact HB.out | apply below_alloc | apply pw_below_drewN | apply below_drew1 | refine below_set ?_ GE668.out | refine below_set ?_ GE685.out | refine below_set ?_ GE693.out | refine below_set ?_ GE702.out) | exact HB.out)) hb); clear HO_686004; clear HO_694004; clear HO_703004; clear BK668; clear BK685; clear BK693; clear BK702; clear HB; have HO_686004 := n0_; have HO_694004 := n1_; have HO_703004 := n2_; have BK668 := n3_; have BK685 := n4_; have BK693 := n5_; have BK702 := n6_; have HB := n7_; clear n0_ n1_ n2_ n3_ n4_ n5_ n6_ n7_; (try clear hb); (try clear hb2); (try clear hk); (try clear hi)))
           go_ret
           exact ⟨by first | rfl | (simp [errW_none, errW_some] <;> rfl) | (simp [*, errW_none, errW_some] <;> rfl), by repeat (first | (with_reducible first | exact HB.out | apply below_alloc | apply pw_below_drewN | apply below_drew1 | refine below_set ?_ GE668.out | refine below_set ?_ GE685.out | refine below_set ?_ GE693.out | refine below_set ?_ GE702.out) | exact HB.out)⟩
     ·replace c58 := Bool.eq_false_iff.mpr c58
      subst c58
      have H1 : (some false) = some r := by rw [if_neg (show ¬ (false = true) by decide)] at H; exact H
      clear H
      have H := H1
      clear H1
      obtain rfl := Option.some.inj H
      try go_wp2
      have n0_ := Aside0.mk (Kd.R_drew HO_686004.out)
      have n1_ := Aside0.mk (Kd.R_drew HO_694004.out)
      have n2_ := Aside0.mk (Kd.R_drew HO_703004.out)
      have n3_ := Aside0.mk (blk_drew BK668.out)
      have n4_ := Aside0.mk (blk_drew BK685.out)
      have n5_ := Aside0.mk (blk_drew BK693.out)
      have n6_ := Aside0.mk (blk_drew BK702.out)
      have n7_ := Aside0.mk (below_drew1 HB.out)
      clear HO_686004
      clear HO_694004
      clear HO_703004
      clear BK668
      clear BK685
      clear BK693
      clear BK702
      clear HB
      have HO_686004 := n0_
      have HO_694004 := n1_
      have HO_703004 := n2_
      have BK668 := n3_
      have BK685 := n4_
      have BK693 := n5_
      have BK702 := n6_
      have HB := n7_
      clear n0_ n1_ n2_ n3_ n4_ n5_ n6_ n7_
      refine start_ (n := 5) (S := fun w' => w'.cell? ⟨gb693, 0, none⟩ = some (.int .i64 t686) ∧ w'.cell? ⟨gb693, 1, none⟩ = some (.int .i64 t687) ∧ w'.cell? ⟨gb693, 2, none⟩ = some (.int .i64 t688) ∧ w'.cell? ⟨gb693, 3, none⟩ = some (.int .i64 t689) ∧ w'.cell? ⟨gb693, 4, none⟩ = some (.slice Ao29 t690.length co29) ∧ w'.cell? ⟨gb668, 0, none⟩ = some (.int .i64 a0_0) ∧ w'.cell? ⟨gb668, 1, none⟩ = some (.int .i64 a0_1) ∧ w'.cell? ⟨gb668, 2, none⟩ = some (.int .i64 a0_2) ∧ w'.cell? ⟨gb668, 3, none⟩ = some (.int .i64 a0_3) ∧ w'.cell? ⟨gb668, 4, none⟩ = some (.slice A0_4 l0_4.length c0_4)) (ds := []) #[false, false, false, false, false] (by kernel_rfl) rfl rfl ⟨(blk_cell BK693.out 0).trans rfl, (blk_cell BK693.out 1).trans rfl, (blk_cell BK693.out 2).trans rfl, (blk_cell BK693.out 3).trans rfl, (blk_cell BK693.out 4).trans rfl, (blk_cell BK668.out 0).trans rfl, (blk_cell BK668.out 1).trans rfl, (blk_cell BK668.out 2).trans rfl, (blk_cell BK668.out 3).trans rfl, (blk_cell BK668.out 4).trans rfl⟩ (fun hHeld => ?_)
      generalize wc.drew = w175 at HO_686004 HO_694004 HO_703004 BK668 BK685 BK693 BK702 HB hHeld ⊢
      refine take_ (i := 0) (N := some 41) (v := ?_) (a' := ?_) #[true, false, false, false, false] rfl rfl (by kernel_rfl) (fun _ _ _ h => h) (Or.inl ⟨by rfl, ?_⟩) hHeld ?_ ?_
      rotate_left
      ·rintro w' ⟨s0, s1, s2, s3, s4, s5, s6, s7, s8, s9⟩
       go_simp
       with_reducible rfl
      rotate_left
      ·simp only [Act.put, List.setIfInBounds_toArray, List.set_cons_zero, List.set_cons_succ, i64_w, i32_w]
       rfl
      refine take_ (i := 1) (N := some 42) (v := ?_) (a' := ?_) #[true, true, false, false, false] rfl rfl (by kernel_rfl) (fun _ _ _ h => h) (Or.inl ⟨by rfl, ?_⟩) hHeld ?_ ?_
      rotate_left
      ·rintro w' ⟨s0, s1, s2, s3, s4, s5, s6, s7, s8, s9⟩
       go_simp
       with_reducible rfl
      rotate_left
      ·simp only [Act.put, List.setIfInBounds_toArray, List.set_cons_zero, List.set_cons_succ, i64_w, i32_w]
       rfl
      refine one_ (i := 2) (N := some 43) #[true, true, true, false, false] rfl rfl (by kernel_rfl) (by decide) (fun K hK => ?_)
      refine goes_ Try.func17 (by kernel_rfl) rfl #[.agg #[.int .i64 a0_0, .int .i64 a0_1, .int .i64 a0_2, .int .i64 a0_3, .slice A0_4 l0_4.length c0_4]] (by rfl) rfl rfl (by (try simp only [List.map_toArray, List.map_cons, List.map_nil]); first | done | rfl | (simp only [List.length_drop, List.length_take]; rfl)) ?_
      with_reducible refine (laws_toAxis.calls kj10 a0_0 a0_1 a0_2 a0_3 _ _ l0_4 t704 t705 t706 t707 t708 _ ?side1 ?side2 A56.out).mono ?_
      (case side1 => repeat (first | exact (Kd.C_below HR0_4.out HB.out) | (with_reducible refine Kd.C_alloc ?_ _) | (with_reducible refine Kd.C_drewN ?_ _) | (with_reducible refine Kd.C_drew ?_)))
      (case side2 => exact HC0_4.out)
      rintro e w176 ⟨v709, rfl, ho0, hb⟩
      refine ⟨_, rfl, ?_⟩
      have n0_ := Aside0.mk (Kd.R_elder' (by (with_reducible repeat (first | apply Kd.R_alloc | apply Kd.R_drewN | apply Kd.R_drew)); exact HO_686004.out) (Kd.R_base ho0) hb)
      have n1_ := Aside0.mk (Kd.R_elder' (by (with_reducible repeat (first | apply Kd.R_alloc | apply Kd.R_drewN | apply Kd.R_drew)); exact HO_694004.out) (Kd.R_base ho0) hb)
      have n2_ := Aside0.mk (Kd.R_elder' (by (with_reducible repeat (first | apply Kd.R_alloc | apply Kd.R_drewN | apply Kd.R_drew)); exact HO_703004.out) (Kd.R_base ho0) hb)
      have n3_ := Aside0.mk (Kd.R_lower (Kd.R_new' (Kd.R_new' (Kd.R_new' ho0 (Kd.R_lt (by (with_reducible repeat (first | apply Kd.R_alloc | apply Kd.R_drewN | apply Kd.R_drew)); exact HO_686004.out))) (Kd.R_lt (by (with_reducible repeat (first | apply Kd.R_alloc | apply Kd.R_drewN | apply Kd.R_drew)); exact HO_694004.out))) (Kd.R_lt (by (with_reducible repeat (first | apply Kd.R_alloc | apply Kd.R_drewN | apply Kd.R_drew)); exact HO_703004.out))) (below_size (by repeat (first | (with_reducible first | exact HB.out | apply below_alloc | apply pw_below_drewN | apply below_drew1 | refine below_set ?_ GE668.out | refine below_set ?_ GE685.out | refine below_set ?_ GE693.out | refine below_set ?_ GE702.out) | exact HB.out))))
      have n4_ := Aside0.mk (blk_below (g := gb668) (o := .cells #[.int .i64 a0_0, .int .i64 a0_1, .int .i64 a0_2, .int .i64 a0_3, .slice A0_4 l0_4.length c0_4] 26 (0, 0)) (by (with_reducible repeat (first | refine blk_drewN ?_ _ | refine blk_drew ?_ | refine blk_alloc ?_ _)); exact BK668.out) hb)
      have n5_ := Aside0.mk (blk_below (g := gb685) (o := .cells #[.int .i64 t677, .int .i64 t678, .int .i64 t679, .int .i64 t680, .slice Ao22 t681.length co22] 33 (0, 0)) (by (with_reducible repeat (first | refine blk_drewN ?_ _ | refine blk_drew ?_ | refine blk_alloc ?_ _)); exact BK685.out) hb)
      have n6_ := Aside0.mk (blk_below (g := gb693) (o := .cells #[.int .i64 t686, .int .i64 t687, .int .i64 t688, .int .i64 t689, .slice Ao29 t690.length co29] 33 (0, 0)) (by (with_reducible repeat (first | refine blk_drewN ?_ _ | refine blk_drew ?_ | refine blk_alloc ?_ _)); exact BK693.out) hb)
      have n7_ := Aside0.mk (blk_below (g := gb702) (o := .cells #[.int .i64 t694, .int .i64 t695, .int .i64 t696, .int .i64 t697, .slice Ao36 t698.length co36] 33 (0, 0)) (by (with_reducible repeat (first | refine blk_drewN ?_ _ | refine blk_drew ?_ | refine blk_alloc ?_ _)); exact BK702.out) hb)
      have n8_ := Aside0.mk (below_step (by repeat (first | (with_reducible first | exact HB.out | apply below_alloc | apply pw_below_drewN | apply below_drew1 | refine below_set ?_ GE668.out | refine below_set ?_ GE685.out | refine below_set ?_ GE693.out | refine below_set ?_ GE702.out) | exact HB.out)) hb)
      clear HO_686004
      clear HO_694004
      clear HO_703004
      clear BK668
      clear BK685
      clear BK693
      clear BK702
      clear HB
      have HO_686004 := n0_
      have HO_694004 := n1_
      have HO_703004 := n2_
      have HO710 := n3_
      have BK668 := n4_
      have BK685 := n5_
      have BK693 := n6_
      have BK702 := n7_
      have HB := n8_
      clear n0_ n1_ n2_ n3_ n4_ n5_ n6_ n7_ n8_
      (try clear hb)
      (try clear hb2)
      (try clear hk)
      (try clear hi)
      (try clear ho0)
      obtain ⟨Ao177, co177, eo177⟩ := Kd.R_slice HO710.out
      (first | subst eo177 | (injection eo177 with f1_ f2_ f3_; have f4_ := f1_.symm; have f5_ := f3_.symm; clear f1_ f2_ f3_; subst f4_; subst f5_))
      refine hK.out _ _ ⟨(blk_cell BK693.out 0).trans rfl, (blk_cell BK693.out 1).trans rfl, (blk_cell BK693.out 2).trans rfl, (blk_cell BK693.out 3).trans rfl, (blk_cell BK693.out 4).trans rfl, (blk_cell BK668.out 0).trans rfl, (blk_cell BK668.out 1).trans rfl, (blk_cell BK668.out 2).trans rfl, (blk_cell BK668.out 3).trans rfl, (blk_cell BK668.out 4).trans rfl⟩ (fun hHeld => ?_)
      clear hK K
      refine norm_ (a' := ?_) ?_ ?_
      rotate_left
      ·show Act.put _ (some 43) _ = _
       simp only [Act.put, List.setIfInBounds_toArray, List.set_cons_zero, List.set_cons_succ, i64_w, i32_w]
       rfl
      refine one_ (i := 3) (N := some 44) #[true, true, true, true, false] rfl rfl (by kernel_rfl) (by decide) (fun K hK => ?_)
      refine goes_ Try.func20 (by kernel_rfl) rfl #[.agg #[.int .i64 t686, .int .i64 t687, .int .i64 t688, .int .i64 t689, .slice Ao29 t690.length co29], .agg #[.int .i64 t704, .int .i64 t705, .int .i64 t706, .int .i64 t707, .slice Ao177 t708.length co177]] (by rfl) rfl rfl (by (try simp only [List.map_toArray, List.map_cons, List.map_nil]); first | done | rfl | (simp only [List.length_drop, List.length_take]; rfl)) ?_
      with_reducible refine (laws_eqAxis.calls kj10 t686 t687 t688 t689 _ _ t690 t704 t705 t706 t707 _ _ t708 false _ ?side1 ?side2 ?side3 ?side4 A57.out).mono ?_
      (case side1 => repeat (first | exact (Kd.R_reads' HO_694004.out).2.2 | (with_reducible refine Kd.C_alloc ?_ _) | (with_reducible refine Kd.C_drewN ?_ _) | (with_reducible refine Kd.C_drew ?_)))
      (case side2 => exact (Kd.R_reads' HO_694004.out).2.1)
      (case side3 => repeat (first | exact (Kd.R_reads' HO710.out).2.2 | (with_reducible refine Kd.C_alloc ?_ _) | (with_reducible refine Kd.C_drewN ?_ _) | (with_reducible refine Kd.C_drew ?_)))
      (case side4 => exact (Kd.R_reads' HO710.out).2.1)
      rintro e w178 ⟨rfl, hb⟩
      refine ⟨_, rfl, ?_⟩
      have n0_ := Aside0.mk (Kd.R_below (by (with_reducible repeat (first | apply Kd.R_alloc | apply Kd.R_drewN | apply Kd.R_drew)); exact HO_686004.out) hb)
      have n1_ := Aside0.mk (Kd.R_below (by (with_reducible repeat (first | apply Kd.R_alloc | apply Kd.R_drewN | apply Kd.R_drew)); exact HO_694004.out) hb)
      have n2_ := Aside0.mk (Kd.R_below (by (with_reducible repeat (first | apply Kd.R_alloc | apply Kd.R_drewN | apply Kd.R_drew)); exact HO_703004.out) hb)
      have n3_ := Aside0.mk (Kd.R_below (by (with_reducible repeat (first | apply Kd.R_alloc | apply Kd.R_drewN | apply Kd.R_drew)); exact HO710.out) hb)
      have n4_ := Aside0.mk (blk_below (g := gb668) (o := .cells #[.int .i64 a0_0, .int .i64 a0_1, .int .i64 a0_2, .int .i64 a0_3, .slice A0_4 l0_4.length c0_4] 26 (0, 0)) (by (with_reducible repeat (first | refine blk_drewN ?_ _ | refine blk_drew ?_ | refine blk_alloc ?_ _)); exact BK668.out) hb)
      have n5_ := Aside0.mk (blk_below (g := gb685) (o := .cells #[.int .i64 t677, .int .i64 t678, .int .i64 t679, .int .i64 t680, .slice Ao22 t681.length co22] 33 (0, 0)) (by (with_reducible repeat (first | refine blk_drewN ?_ _ | refine blk_drew ?_ | refine blk_alloc ?_ _)); exact BK685.out) hb)
      have n6_ := Aside0.mk (blk_below (g := gb693) (o := .cells #[.int .i64 t686, .int .i64 t687, .int .i64 t688, .int .i64 t689, .slice Ao29 t690.length co29] 33 (0, 0)) (by (with_reducible repeat (first | refine blk_drewN ?_ _ | refine blk_drew ?_ | refine blk_alloc ?_ _)); exact BK693.out) hb)
      have n7_ := Aside0.mk (blk_below (g := gb702) (o := .cells #[.int .i64 t694, .int .i64 t695, .int .i64 t696, .int .i64 t697, .slice Ao36 t698.length co36] 33 (0, 0)) (by (with_reducible repeat (first | refine blk_drewN ?_ _ | refine blk_drew ?_ | refine blk_alloc ?_ _)); exact BK702.out) hb)
      have n8_ := Aside0.mk (below_step (by repeat (first | (with_reducible first | exact HB.out | apply below_alloc | apply pw_below_drewN | apply below_drew1 | refine below_set ?_ GE668.out | refine below_set ?_ GE685.out | refine below_set ?_ GE693.out | refine below_set ?_ GE702.out) | exact HB.out)) hb)
      clear HO_686004
      clear HO_694004
      clear HO_703004
      clear HO710
      clear BK668
      clear BK685
      clear BK693
      clear BK702
      clear HB
      have HO_686004 := n0_
      have HO_694004 := n1_
      have HO_703004 := n2_
      have HO710 := n3_
      have BK668 := n4_
      have BK685 := n5_
      have BK693 := n6_
      have BK702 := n7_
      have HB := n8_
      clear n0_ n1_ n2_ n3_ n4_ n5_ n6_ n7_ n8_
      (try clear hb)
      (try clear hb2)
      (try clear hk)
      (try clear hi)
      refine hK.out _ _ ⟨(blk_cell BK693.out 0).trans rfl, (blk_cell BK693.out 1).trans rfl, (blk_cell BK693.out 2).trans rfl, (blk_cell BK693.out 3).trans rfl, (blk_cell BK693.out 4).trans rfl, (blk_cell BK668.out 0).trans rfl, (blk_cell BK668.out 1).trans rfl, (blk_cell BK668.out 2).trans rfl, (blk_cell BK668.out 3).trans rfl, (blk_cell BK668.out 4).trans rfl⟩ (fun hHeld => ?_)
      clear hK K
      refine norm_ (a' := ?_) ?_ ?_
      rotate_left
      ·show Act.put _ (some 44) _ = _
       simp only [Act.put, List.setIfInBounds_toArray, List.set_cons_zero, List.set_cons_succ, i64_w, i32_w]
       rfl
      refine pure_ (i := 4) (N := some 45) (v := ?_) (a' := ?_) #[true, true, true, true, true] rfl rfl (by kernel_rfl) (fun _ _ _ h => h) (Or.inl ⟨by rfl, ?_⟩) ?_ ?_
      rotate_left
      ·intro w'
       go_simp
       with_reducible rfl
      rotate_left
      ·simp only [Act.put, List.setIfInBounds_toArray, List.set_cons_zero, List.set_cons_succ, i64_w, i32_w]
       rfl
      refine done_ (by kernel_rfl) ?_
      try go_wp2
      go_ret
      exact ⟨by first | rfl | (simp [errW_none, errW_some] <;> rfl) | (simp [*, errW_none, errW_some] <;> rfl), by repeat (first | (with_reducible first | exact HB.out | apply below_alloc | apply pw_below_drewN | apply below_drew1 | refine below_set ?_ GE668.out | refine below_set ?_ GE685.out | refine below_set ?_ GE693.out | refine below_set ?_ GE702.out) | exact HB.out)⟩

end Go.Proofs.Ytkmnllcccgnliaa.G
