-- laid by wip/tools/regroup.py: printed functions, grouped by the laws that need them. Lean checks it.
import Derived.Test.YtncdmooobfomeaaGx0
import Derived.Test.YtncdmooobfomeaaGy6
import Derived.Test.YtncdmooobfomeaaGy10
import Derived.Test.YtncdmooobfomeaaGy12
import Derived.Test.YtncdmooobfomeaaGy13
import Derived.Test.YtncdmooobfomeaaGy14
namespace Go.Proofs.Ytncdmooobfomeaa.G
open Go.RowKit Go.Proofs.YtncdmooobfomeaaW.PrintWords Go.Proofs.YtncdmooobfomeaaW.PrintLast Go.Proofs.YtncdmooobfomeaaW.PrintMore
attribute [local go_sem] max2_int min2_int max_two min_two max_three min_three max_four min_four   -- for this text's walks alone
set_option linter.unusedVariables false
set_option linter.unusedSimpArgs false

/-! ### laws_FnExactDoCycles: function 8 -/
def laws_FnExactDoCycles.j0 : Nat → List (S101) → List (S58) → Bool → Option (Bool)
 | 0, _, _, _ => none
 | k + 1, x1, x9, x50 => if x50 = true then (some false) else ((laws_toCycleS.f k x1).bind fun t783 => ((laws_eqCycleS.f k x9 t783).bind fun t786 => (if t786 = true then (some true) else (some false))))
def laws_FnExactDoCycles.f (k : Nat) (a0_0 : Int) (a0_1 : Int) (a0_2 : Int) (a0_3 : Int) (a0_4 : Int) (a0_5 : Int) (a0_6 : Int) (a0_7 : Int) (a0_8 : Int) (l1 : List (S101)) : Option (Bool) := (laws_szCycleS.f l1 1048576).bind fun t733 => (if t733 < 0 then (some true) else ((laws_toMachine.f a0_0 a0_1 a0_2 a0_3 a0_4 a0_5 a0_6 a0_7 a0_8).bind fun bt734 => ((laws_toCycleS.f k l1).bind fun t743 => ((spec_DoCycles.f k bt734.1 bt734.2.1 bt734.2.2.1 bt734.2.2.2.1 bt734.2.2.2.2.1 bt734.2.2.2.2.2.1 bt734.2.2.2.2.2.2.1 bt734.2.2.2.2.2.2.2.1 bt734.2.2.2.2.2.2.2.2 t743).bind fun bt746 => ((laws_toCycleS.f k l1).bind fun t758 => ((laws_toMachine.f a0_0 a0_1 a0_2 a0_3 a0_4 a0_5 a0_6 a0_7 a0_8).bind fun bt761 => ((impl_DoCycles.f k bt761.1 bt761.2.1 bt761.2.2.1 bt761.2.2.2.1 bt761.2.2.2.2.1 bt761.2.2.2.2.2.1 bt761.2.2.2.2.2.2.1 bt761.2.2.2.2.2.2.2.1 bt761.2.2.2.2.2.2.2.2 t758).bind fun bt770 => ((laws_eqMachine.f bt770.1 bt770.2.1 bt770.2.2.1 bt770.2.2.2.1 bt770.2.2.2.2.1 bt770.2.2.2.2.2.1 bt770.2.2.2.2.2.2.1 bt770.2.2.2.2.2.2.2.1 bt770.2.2.2.2.2.2.2.2.1 bt746.1 bt746.2.1 bt746.2.2.1 bt746.2.2.2.1 bt746.2.2.2.2.1 bt746.2.2.2.2.2.1 bt746.2.2.2.2.2.2.1 bt746.2.2.2.2.2.2.2.1 bt746.2.2.2.2.2.2.2.2.1).bind fun t782 => (if t782 = true then (if bt770.2.2.2.2.2.2.2.2.2.1 = bt746.2.2.2.2.2.2.2.2.2.1 then (laws_FnExactDoCycles.j0 k l1 t758 (bt770.2.2.2.2.2.2.2.2.2.2 != bt746.2.2.2.2.2.2.2.2.2.2)) else (laws_FnExactDoCycles.j0 k l1 t758 true)) else (laws_FnExactDoCycles.j0 k l1 t758 true))))))))))
theorem laws_FnExactDoCycles.mono_l : ∀ k, (∀ y0 y1 y2, LeO (laws_FnExactDoCycles.j0 k y0 y1 y2) (laws_FnExactDoCycles.j0 (k + 1) y0 y1 y2))
 | 0 => fun _ _ _ r h => by simp [laws_FnExactDoCycles.j0] at h
 | k + 1 => by
  have ih0 := laws_FnExactDoCycles.mono_l k
  ·intro y0 y1 y2
   unfold laws_FnExactDoCycles.j0
   repeat' first
   | (with_reducible exact ih0 _ _ _)
   | (with_reducible exact impl_DoCycles.mono _ _ _ _ _ _ _ _ _ _ _)
   | (with_reducible exact laws_eqCycleS.mono _ _ _)
   | (with_reducible exact laws_toCycleS.mono _ _)
   | (with_reducible exact spec_DoCycles.mono _ _ _ _ _ _ _ _ _ _ _)
   | (with_reducible exact LeO.refl _)
   | (with_reducible exact LeO.none _)
   | (with_reducible refine LeO.ite ?_ ?_)
   | (with_reducible refine LeO.bind ?_ (fun _ => ?_))
   | exact ih0 _ _ _
   | exact impl_DoCycles.mono _ _ _ _ _ _ _ _ _ _ _
   | exact laws_eqCycleS.mono _ _ _
   | exact laws_toCycleS.mono _ _
   | exact spec_DoCycles.mono _ _ _ _ _ _ _ _ _ _ _
   | exact LeO.none _
   | refine LeO.ite ?_ ?_
   | refine LeO.bind ?_ (fun _ => ?_)
theorem laws_FnExactDoCycles.mono : ∀ a0 a1 a2 a3 a4 a5 a6 a7 a8 a9 k, LeO (laws_FnExactDoCycles.f k a0 a1 a2 a3 a4 a5 a6 a7 a8 a9) (laws_FnExactDoCycles.f (k + 1) a0 a1 a2 a3 a4 a5 a6 a7 a8 a9) := by
 intro a0 a1 a2 a3 a4 a5 a6 a7 a8 a9 k
 have ih0 := laws_FnExactDoCycles.mono_l k
 unfold laws_FnExactDoCycles.f
 repeat' first
   | (with_reducible exact ih0 _ _ _)
   | (with_reducible exact impl_DoCycles.mono _ _ _ _ _ _ _ _ _ _ _)
   | (with_reducible exact laws_eqCycleS.mono _ _ _)
   | (with_reducible exact laws_toCycleS.mono _ _)
   | (with_reducible exact spec_DoCycles.mono _ _ _ _ _ _ _ _ _ _ _)
   | (with_reducible exact LeO.refl _)
   | (with_reducible exact LeO.none _)
   | (with_reducible refine LeO.ite ?_ ?_)
   | (with_reducible refine LeO.bind ?_ (fun _ => ?_))
   | exact ih0 _ _ _
   | exact impl_DoCycles.mono _ _ _ _ _ _ _ _ _ _ _
   | exact laws_eqCycleS.mono _ _ _
   | exact laws_toCycleS.mono _ _
   | exact spec_DoCycles.mono _ _ _ _ _ _ _ _ _ _ _
   | exact LeO.none _
   | refine LeO.ite ?_ ?_
   | refine LeO.bind ?_ (fun _ => ?_)
set_option maxHeartbeats 8000000 in
set_option maxRecDepth 100000 in
theorem laws_FnExactDoCycles.calls (k : Nat) (a0_0 : Int) (a0_1 : Int) (a0_2 : Int) (a0_3 : Int) (a0_4 : Int) (a0_5 : Int) (a0_6 : Int) (a0_7 : Int) (a0_8 : Int) (A1 : Option Addr) (c1 : Nat) (l1 : List (S101)) (r : Bool) (w : World) (hr1 : Kd.C k101 w A1 l1.length l1) (hc1 : l1.length ≤ c1) (h : laws_FnExactDoCycles.f k a0_0 a0_1 a0_2 a0_3 a0_4 a0_5 a0_6 a0_7 a0_8 l1 = some r) :
  Calls Try.prog 8 #[.agg #[.int .i64 a0_0, .int .i64 a0_1, .int .i64 a0_2, .int .i64 a0_3, .int .i64 a0_4, .int .i64 a0_5, .int .i64 a0_6, .int .i64 a0_7, .int .i64 a0_8], .slice A1 l1.length c1] w fun e w' => e = .returned (.bool r) ∧ Below w.heap.size w w' := by
 have hu39 := Try.underlying39
 have hu27 := Try.underlying27
 have HR1 := Zm hr1
 have HC1 := Zm hc1
 clear hr1 hc1
 have HB := Zm (Below.refl w.heap.size w)
 have H : ((laws_szCycleS.f l1 1048576).bind fun t733 => (if t733 < 0 then (some true) else ((laws_toMachine.f a0_0 a0_1 a0_2 a0_3 a0_4 a0_5 a0_6 a0_7 a0_8).bind fun bt734 => ((laws_toCycleS.f k l1).bind fun t743 => ((spec_DoCycles.f k bt734.1 bt734.2.1 bt734.2.2.1 bt734.2.2.2.1 bt734.2.2.2.2.1 bt734.2.2.2.2.2.1 bt734.2.2.2.2.2.2.1 bt734.2.2.2.2.2.2.2.1 bt734.2.2.2.2.2.2.2.2 t743).bind fun bt746 => ((laws_toCycleS.f k l1).bind fun t758 => ((laws_toMachine.f a0_0 a0_1 a0_2 a0_3 a0_4 a0_5 a0_6 a0_7 a0_8).bind fun bt761 => ((impl_DoCycles.f k bt761.1 bt761.2.1 bt761.2.2.1 bt761.2.2.2.1 bt761.2.2.2.2.1 bt761.2.2.2.2.2.1 bt761.2.2.2.2.2.2.1 bt761.2.2.2.2.2.2.2.1 bt761.2.2.2.2.2.2.2.2 t758).bind fun bt770 => ((laws_eqMachine.f bt770.1 bt770.2.1 bt770.2.2.1 bt770.2.2.2.1 bt770.2.2.2.2.1 bt770.2.2.2.2.2.1 bt770.2.2.2.2.2.2.1 bt770.2.2.2.2.2.2.2.1 bt770.2.2.2.2.2.2.2.2.1 bt746.1 bt746.2.1 bt746.2.2.1 bt746.2.2.2.1 bt746.2.2.2.2.1 bt746.2.2.2.2.2.1 bt746.2.2.2.2.2.2.1 bt746.2.2.2.2.2.2.2.1 bt746.2.2.2.2.2.2.2.2.1).bind fun t782 => (if t782 = true then (if bt770.2.2.2.2.2.2.2.2.2.1 = bt746.2.2.2.2.2.2.2.2.2.1 then (laws_FnExactDoCycles.j0 k l1 t758 (bt770.2.2.2.2.2.2.2.2.2.2 != bt746.2.2.2.2.2.2.2.2.2.2)) else (laws_FnExactDoCycles.j0 k l1 t758 true)) else (laws_FnExactDoCycles.j0 k l1 t758 true))))))))))) = some r := h
 clear h
 replace H := Option.bind_eq_some_iff.mp H
 obtain ⟨t733, A30, H⟩ := H
 replace H : (if t733 < 0 then (some true) else ((laws_toMachine.f a0_0 a0_1 a0_2 a0_3 a0_4 a0_5 a0_6 a0_7 a0_8).bind fun bt734 => ((laws_toCycleS.f k l1).bind fun t743 => ((spec_DoCycles.f k bt734.1 bt734.2.1 bt734.2.2.1 bt734.2.2.2.1 bt734.2.2.2.2.1 bt734.2.2.2.2.2.1 bt734.2.2.2.2.2.2.1 bt734.2.2.2.2.2.2.2.1 bt734.2.2.2.2.2.2.2.2 t743).bind fun bt746 => ((laws_toCycleS.f k l1).bind fun t758 => ((laws_toMachine.f a0_0 a0_1 a0_2 a0_3 a0_4 a0_5 a0_6 a0_7 a0_8).bind fun bt761 => ((impl_DoCycles.f k bt761.1 bt761.2.1 bt761.2.2.1 bt761.2.2.2.1 bt761.2.2.2.2.1 bt761.2.2.2.2.2.1 bt761.2.2.2.2.2.2.1 bt761.2.2.2.2.2.2.2.1 bt761.2.2.2.2.2.2.2.2 t758).bind fun bt770 => ((laws_eqMachine.f bt770.1 bt770.2.1 bt770.2.2.1 bt770.2.2.2.1 bt770.2.2.2.2.1 bt770.2.2.2.2.2.1 bt770.2.2.2.2.2.2.1 bt770.2.2.2.2.2.2.2.1 bt770.2.2.2.2.2.2.2.2.1 bt746.1 bt746.2.1 bt746.2.2.1 bt746.2.2.2.1 bt746.2.2.2.2.1 bt746.2.2.2.2.2.1 bt746.2.2.2.2.2.2.1 bt746.2.2.2.2.2.2.2.1 bt746.2.2.2.2.2.2.2.2.1).bind fun t782 => (if t782 = true then (if bt770.2.2.2.2.2.2.2.2.2.1 = bt746.2.2.2.2.2.2.2.2.2.1 then (laws_FnExactDoCycles.j0 k l1 t758 (bt770.2.2.2.2.2.2.2.2.2.2 != bt746.2.2.2.2.2.2.2.2.2.2)) else (laws_FnExactDoCycles.j0 k l1 t758 true)) else (laws_FnExactDoCycles.j0 k l1 t758 true)))))))))) = some r := H
 have A3 := Zm A30
 clear A30
 by_cases c4 : t733 < 0
 ·rw [if_pos c4] at H
  have c4b0 : decide (t733 < 0) = true := decide_eq_true c4
  clear c4
  obtain rfl := Option.some.inj H
  go_enter Try.func8, Try.ntmps8
  go_wp2_with (first | ((with_reducible refine gate_dst (N := 2) rfl ?_); refine box_event ?hg (N := 2) ?hd (cs := #[.int .i64 a0_0, .int .i64 a0_1, .int .i64 a0_2, .int .i64 a0_3, .int .i64 a0_4, .int .i64 a0_5, .int .i64 a0_6, .int .i64 a0_7, .int .i64 a0_8]) (t := 39) ?hr ?_; (case hd => rfl); (case hg => rfl); (case hr => first | (go_simp; done) | (go_simp; rfl)); intro gb732 hg w5 hbox hb; have n0_ := Zm (below_step (by repeat (first | (with_reducible first | exact HB.out | apply Zl | apply Zp | apply Ze) | exact HB.out)) hb); have n1_ := Zm (hbox); have n2_ := Zm ((by rw [hg]; exact (below_size (by repeat (first | (with_reducible first | exact HB.out | apply Zl | apply Zp | apply Ze) | exact HB.out))) : w.heap.size ≤ gb732)); have n3_ := Zm ((by rw [hg]; exact (below_size (by repeat (first | (with_reducible first | exact HB.out | apply Zl | apply Zp | apply Ze) | exact HB.out))) : w.heap.size ≤ gb732)); clear HB; have HB := n0_; have BK732 := n1_; have GW732 := n2_; have GE732 := n3_; clear n0_ n1_ n2_ n3_; clear hb hbox hg) | ((with_reducible refine gate_callee (f := 32) rfl ?_); refine goesL_ (some 15) rfl rfl Try.func32 (by kernel_rfl) rfl #[.slice A1 l1.length c1, .int .i64 1048576] rfl (by (try simp only [List.map_toArray, List.map_cons, List.map_nil]); first | done | rfl | (simp only [List.length_drop, List.length_take]; rfl)) ?_; (with_reducible refine (laws_szCycleS.calls _ _ l1 1048576 t733 _ ?side1 ?side2 A3.out).mono ?_); (case side1 => repeat (first | exact (Kd.C_below HR1.out HB.out) | (with_reducible refine Kd.C_alloc ?_ _) | (with_reducible refine Kd.C_drewN ?_ _) | (with_reducible refine Kd.C_drew ?_))); (case side2 => exact HC1.out); rintro e w' ⟨rfl, ⟨nd, rfl⟩⟩; refine ⟨_, rfl, ?_⟩))
  go_ret
  exact ⟨by first | rfl | (simp [errW_none, errW_some] <;> rfl) | (simp [*, errW_none, errW_some] <;> rfl), by repeat (first | (with_reducible first | exact HB.out | apply Zl | apply Zp | apply Ze | refine Zs ?_ GE732.out) | exact HB.out)⟩
 ·rw [if_neg c4] at H
  have c4b0 : decide (t733 < 0) = false := decide_eq_false c4
  clear c4
  replace H := Option.bind_eq_some_iff.mp H
  obtain ⟨⟨t734, t735, t736, t737, t738, t739, t740, t741, t742⟩, A60, H⟩ := H
  replace H : ((laws_toCycleS.f k l1).bind fun t743 => ((spec_DoCycles.f k t734 t735 t736 t737 t738 t739 t740 t741 t742 t743).bind fun bt746 => ((laws_toCycleS.f k l1).bind fun t758 => ((laws_toMachine.f a0_0 a0_1 a0_2 a0_3 a0_4 a0_5 a0_6 a0_7 a0_8).bind fun bt761 => ((impl_DoCycles.f k bt761.1 bt761.2.1 bt761.2.2.1 bt761.2.2.2.1 bt761.2.2.2.2.1 bt761.2.2.2.2.2.1 bt761.2.2.2.2.2.2.1 bt761.2.2.2.2.2.2.2.1 bt761.2.2.2.2.2.2.2.2 t758).bind fun bt770 => ((laws_eqMachine.f bt770.1 bt770.2.1 bt770.2.2.1 bt770.2.2.2.1 bt770.2.2.2.2.1 bt770.2.2.2.2.2.1 bt770.2.2.2.2.2.2.1 bt770.2.2.2.2.2.2.2.1 bt770.2.2.2.2.2.2.2.2.1 bt746.1 bt746.2.1 bt746.2.2.1 bt746.2.2.2.1 bt746.2.2.2.2.1 bt746.2.2.2.2.2.1 bt746.2.2.2.2.2.2.1 bt746.2.2.2.2.2.2.2.1 bt746.2.2.2.2.2.2.2.2.1).bind fun t782 => (if t782 = true then (if bt770.2.2.2.2.2.2.2.2.2.1 = bt746.2.2.2.2.2.2.2.2.2.1 then (laws_FnExactDoCycles.j0 k l1 t758 (bt770.2.2.2.2.2.2.2.2.2.2 != bt746.2.2.2.2.2.2.2.2.2.2)) else (laws_FnExactDoCycles.j0 k l1 t758 true)) else (laws_FnExactDoCycles.j0 k l1 t758 true)))))))) = some r := H
  have A6 := Zm A60
  clear A60
  replace H := Option.bind_eq_some_iff.mp H
  obtain ⟨t743, A70, H⟩ := H
  replace H : ((spec_DoCycles.f k t734 t735 t736 t737 t738 t739 t740 t741 t742 t743).bind fun bt746 => ((laws_toCycleS.f k l1).bind fun t758 => ((laws_toMachine.f a0_0 a0_1 a0_2 a0_3 a0_4 a0_5 a0_6 a0_7 a0_8).bind fun bt761 => ((impl_DoCycles.f k bt761.1 bt761.2.1 bt761.2.2.1 bt761.2.2.2.1 bt761.2.2.2.2.1 bt761.2.2.2.2.2.1 bt761.2.2.2.2.2.2.1 bt761.2.2.2.2.2.2.2.1 bt761.2.2.2.2.2.2.2.2 t758).bind fun bt770 => ((laws_eqMachine.f bt770.1 bt770.2.1 bt770.2.2.1 bt770.2.2.2.1 bt770.2.2.2.2.1 bt770.2.2.2.2.2.1 bt770.2.2.2.2.2.2.1 bt770.2.2.2.2.2.2.2.1 bt770.2.2.2.2.2.2.2.2.1 bt746.1 bt746.2.1 bt746.2.2.1 bt746.2.2.2.1 bt746.2.2.2.2.1 bt746.2.2.2.2.2.1 bt746.2.2.2.2.2.2.1 bt746.2.2.2.2.2.2.2.1 bt746.2.2.2.2.2.2.2.2.1).bind fun t782 => (if t782 = true then (if bt770.2.2.2.2.2.2.2.2.2.1 = bt746.2.2.2.2.2.2.2.2.2.1 then (laws_FnExactDoCycles.j0 k l1 t758 (bt770.2.2.2.2.2.2.2.2.2.2 != bt746.2.2.2.2.2.2.2.2.2.2)) else (laws_FnExactDoCycles.j0 k l1 t758 true)) else (laws_FnExactDoCycles.j0 k l1 t758 true))))))) = some r := H
  have A7 := Zm A70
  clear A70
  replace H := Option.bind_eq_some_iff.mp H
  obtain ⟨⟨t746, t747, t748, t749, t750, t751, t752, t753, t754, t755, t756⟩, A80, H⟩ := H
  replace H : ((laws_toCycleS.f k l1).bind fun t758 => ((laws_toMachine.f a0_0 a0_1 a0_2 a0_3 a0_4 a0_5 a0_6 a0_7 a0_8).bind fun bt761 => ((impl_DoCycles.f k bt761.1 bt761.2.1 bt761.2.2.1 bt761.2.2.2.1 bt761.2.2.2.2.1 bt761.2.2.2.2.2.1 bt761.2.2.2.2.2.2.1 bt761.2.2.2.2.2.2.2.1 bt761.2.2.2.2.2.2.2.2 t758).bind fun bt770 => ((laws_eqMachine.f bt770.1 bt770.2.1 bt770.2.2.1 bt770.2.2.2.1 bt770.2.2.2.2.1 bt770.2.2.2.2.2.1 bt770.2.2.2.2.2.2.1 bt770.2.2.2.2.2.2.2.1 bt770.2.2.2.2.2.2.2.2.1 t746 t747 t748 t749 t750 t751 t752 t753 t754).bind fun t782 => (if t782 = true then (if bt770.2.2.2.2.2.2.2.2.2.1 = t755 then (laws_FnExactDoCycles.j0 k l1 t758 (bt770.2.2.2.2.2.2.2.2.2.2 != t756)) else (laws_FnExactDoCycles.j0 k l1 t758 true)) else (laws_FnExactDoCycles.j0 k l1 t758 true)))))) = some r := H
  have A8 := Zm A80
  clear A80
  replace H := Option.bind_eq_some_iff.mp H
  obtain ⟨t758, A90, H⟩ := H
  replace H : ((laws_toMachine.f a0_0 a0_1 a0_2 a0_3 a0_4 a0_5 a0_6 a0_7 a0_8).bind fun bt761 => ((impl_DoCycles.f k bt761.1 bt761.2.1 bt761.2.2.1 bt761.2.2.2.1 bt761.2.2.2.2.1 bt761.2.2.2.2.2.1 bt761.2.2.2.2.2.2.1 bt761.2.2.2.2.2.2.2.1 bt761.2.2.2.2.2.2.2.2 t758).bind fun bt770 => ((laws_eqMachine.f bt770.1 bt770.2.1 bt770.2.2.1 bt770.2.2.2.1 bt770.2.2.2.2.1 bt770.2.2.2.2.2.1 bt770.2.2.2.2.2.2.1 bt770.2.2.2.2.2.2.2.1 bt770.2.2.2.2.2.2.2.2.1 t746 t747 t748 t749 t750 t751 t752 t753 t754).bind fun t782 => (if t782 = true then (if bt770.2.2.2.2.2.2.2.2.2.1 = t755 then (laws_FnExactDoCycles.j0 k l1 t758 (bt770.2.2.2.2.2.2.2.2.2.2 != t756)) else (laws_FnExactDoCycles.j0 k l1 t758 true)) else (laws_FnExactDoCycles.j0 k l1 t758 true))))) = some r := H
  have A9 := Zm A90
  clear A90
  replace H := Option.bind_eq_some_iff.mp H
  obtain ⟨⟨t761, t762, t763, t764, t765, t766, t767, t768, t769⟩, A100, H⟩ := H
  replace H : ((impl_DoCycles.f k t761 t762 t763 t764 t765 t766 t767 t768 t769 t758).bind fun bt770 => ((laws_eqMachine.f bt770.1 bt770.2.1 bt770.2.2.1 bt770.2.2.2.1 bt770.2.2.2.2.1 bt770.2.2.2.2.2.1 bt770.2.2.2.2.2.2.1 bt770.2.2.2.2.2.2.2.1 bt770.2.2.2.2.2.2.2.2.1 t746 t747 t748 t749 t750 t751 t752 t753 t754).bind fun t782 => (if t782 = true then (if bt770.2.2.2.2.2.2.2.2.2.1 = t755 then (laws_FnExactDoCycles.j0 k l1 t758 (bt770.2.2.2.2.2.2.2.2.2.2 != t756)) else (laws_FnExactDoCycles.j0 k l1 t758 true)) else (laws_FnExactDoCycles.j0 k l1 t758 true)))) = some r := H
  have A10 := Zm A100
  clear A100
  replace H := Option.bind_eq_some_iff.mp H
  obtain ⟨⟨t770, t771, t772, t773, t774, t775, t776, t777, t778, t779, t780⟩, A110, H⟩ := H
  replace H : ((laws_eqMachine.f t770 t771 t772 t773 t774 t775 t776 t777 t778 t746 t747 t748 t749 t750 t751 t752 t753 t754).bind fun t782 => (if t782 = true then (if t779 = t755 then (laws_FnExactDoCycles.j0 k l1 t758 (t780 != t756)) else (laws_FnExactDoCycles.j0 k l1 t758 true)) else (laws_FnExactDoCycles.j0 k l1 t758 true))) = some r := H
  have A11 := Zm A110
  clear A110
  have HC12 := Zm H
  clear H
  go_enter Try.func8, Try.ntmps8
  go_upto_region 8 with (first | ((with_reducible refine gate_dst (N := 2) rfl ?_); refine box_event ?hg (N := 2) ?hd (cs := #[.int .i64 a0_0, .int .i64 a0_1, .int .i64 a0_2, .int .i64 a0_3, .int .i64 a0_4, .int .i64 a0_5, .int .i64 a0_6, .int .i64 a0_7, .int .i64 a0_8]) (t := 39) ?hr ?_; (case hd => rfl); (case hg => rfl); (case hr => first | (go_simp; done) | (go_simp; rfl)); intro gb732 hg w13 hbox hb; have n0_ := Zm (below_step (by repeat (first | (with_reducible first | exact HB.out | apply Zl | apply Zp | apply Ze) | exact HB.out)) hb); have n1_ := Zm (hbox); have n2_ := Zm ((by rw [hg]; exact (below_size (by repeat (first | (with_reducible first | exact HB.out | apply Zl | apply Zp | apply Ze) | exact HB.out))) : w.heap.size ≤ gb732)); have n3_ := Zm ((by rw [hg]; exact (below_size (by repeat (first | (with_reducible first | exact HB.out | apply Zl | apply Zp | apply Ze) | exact HB.out))) : w.heap.size ≤ gb732)); clear HB; have HB := n0_; have BK732 := n1_; have GW732 := n2_; have GE732 := n3_; clear n0_ n1_ n2_ n3_; clear hb hbox hg) | ((with_reducible refine gate_callee (f := 32) rfl ?_); refine goesL_ (some 15) rfl rfl Try.func32 (by kernel_rfl) rfl #[.slice A1 l1.length c1, .int .i64 1048576] rfl (by (try simp only [List.map_toArray, List.map_cons, List.map_nil]); first | done | rfl | (simp only [List.length_drop, List.length_take]; rfl)) ?_; (with_reducible refine (laws_szCycleS.calls _ _ l1 1048576 t733 _ ?side1 ?side2 A3.out).mono ?_); (case side1 => repeat (first | exact (Kd.C_below HR1.out HB.out) | (with_reducible refine Kd.C_alloc ?_ _) | (with_reducible refine Kd.C_drewN ?_ _) | (with_reducible refine Kd.C_drew ?_))); (case side2 => exact HC1.out); rintro e w' ⟨rfl, ⟨nd, rfl⟩⟩; refine ⟨_, rfl, ?_⟩; (try (rw [drewN_self w13]; generalize hq_ : World.drewN w13 _ = w13; have n0_ : Aside0 (w13.heap[gb732]? = some (.cells #[.int .i64 a0_0, .int .i64 a0_1, .int .i64 a0_2, .int .i64 a0_3, .int .i64 a0_4, .int .i64 a0_5, .int .i64 a0_6, .int .i64 a0_7, .int .i64 a0_8] 39 (0, 0))) := ⟨by rw [← hq_]; exact (by (with_reducible repeat (first | refine Zn ?_ _ | refine Zd ?_ | refine Za ?_ _)); exact BK732.out)⟩; have n1_ : Aside0 (Below w.heap.size w w13) := ⟨by rw [← hq_]; exact (by repeat (first | (with_reducible first | exact HB.out | apply Zl | apply Zp | apply Ze | refine Zs ?_ GE732.out) | exact HB.out))⟩; clear BK732 HB hq_; have BK732 := n0_; have HB := n1_; clear n0_ n1_)); have hcz14_0 : w13.cell? ⟨gb732, 0, none⟩ = some (.int .i64 a0_0) := (Zc BK732.out 0).trans rfl; have hcz14_1 : w13.cell? ⟨gb732, 1, none⟩ = some (.int .i64 a0_1) := (Zc BK732.out 1).trans rfl; have hcz14_2 : w13.cell? ⟨gb732, 2, none⟩ = some (.int .i64 a0_2) := (Zc BK732.out 2).trans rfl; have hcz14_3 : w13.cell? ⟨gb732, 3, none⟩ = some (.int .i64 a0_3) := (Zc BK732.out 3).trans rfl; have hcz14_4 : w13.cell? ⟨gb732, 4, none⟩ = some (.int .i64 a0_4) := (Zc BK732.out 4).trans rfl; have hcz14_5 : w13.cell? ⟨gb732, 5, none⟩ = some (.int .i64 a0_5) := (Zc BK732.out 5).trans rfl; have hcz14_6 : w13.cell? ⟨gb732, 6, none⟩ = some (.int .i64 a0_6) := (Zc BK732.out 6).trans rfl; have hcz14_7 : w13.cell? ⟨gb732, 7, none⟩ = some (.int .i64 a0_7) := (Zc BK732.out 7).trans rfl; have hcz14_8 : w13.cell? ⟨gb732, 8, none⟩ = some (.int .i64 a0_8) := (Zc BK732.out 8).trans rfl; have hfz14_0 := Zf BK732.out 0; have hfz14_1 := Zf BK732.out 1; have hfz14_2 := Zf BK732.out 2; have hfz14_3 := Zf BK732.out 3; have hfz14_4 := Zf BK732.out 4; have hfz14_5 := Zf BK732.out 5; have hfz14_6 := Zf BK732.out 6; have hfz14_7 := Zf BK732.out 7; have hfz14_8 := Zf BK732.out 8) | ((with_reducible refine gate_callee (f := 18) rfl ?_); refine goesL_ (some 20) rfl rfl Try.func18 (by kernel_rfl) rfl #[.agg #[.int .i64 a0_0, .int .i64 a0_1, .int .i64 a0_2, .int .i64 a0_3, .int .i64 a0_4, .int .i64 a0_5, .int .i64 a0_6, .int .i64 a0_7, .int .i64 a0_8]] rfl (by (try simp only [List.map_toArray, List.map_cons, List.map_nil]); first | done | rfl | (simp only [List.length_drop, List.length_take]; rfl)) ?_; (with_reducible refine (laws_toMachine.calls a0_0 a0_1 a0_2 a0_3 a0_4 a0_5 a0_6 a0_7 a0_8 t734 t735 t736 t737 t738 t739 t740 t741 t742 _ A6.out).mono ?_); rintro e w15 ⟨rfl, hb⟩; refine ⟨_, rfl, ?_⟩; have n0_ := Zm (blk_below (g := gb732) (o := .cells #[.int .i64 a0_0, .int .i64 a0_1, .int .i64 a0_2, .int .i64 a0_3, .int .i64 a0_4, .int .i64 a0_5, .int .i64 a0_6, .int .i64 a0_7, .int .i64 a0_8] 39 (0, 0)) (by (with_reducible repeat (first | refine Zn ?_ _ | refine Zd ?_ | refine Za ?_ _)); exact BK732.out) hb); have n1_ := Zm (below_step (by repeat (first | (with_reducible first | exact HB.out | apply Zl | apply Zp | apply Ze | refine Zs ?_ GE732.out) | exact HB.out)) hb); clear BK732; clear HB; have BK732 := n0_; have HB := n1_; clear n0_ n1_; (try clear hb); (try clear hb2); (try clear hk); (try clear hi)) | ((with_reducible refine gate_callee (f := 34) rfl ?_); refine goesL_ (some 22) rfl rfl Try.func34 (by kernel_rfl) rfl #[.slice A1 l1.length c1] rfl (by (try simp only [List.map_toArray, List.map_cons, List.map_nil]); first | done | rfl | (simp only [List.length_drop, List.length_take]; rfl)) ?_; (with_reducible refine (laws_toCycleS.calls k _ _ l1 t743 _ ?side1 ?side2 A7.out).mono ?_); (case side1 => repeat (first | exact (Kd.C_below HR1.out HB.out) | (with_reducible refine Kd.C_alloc ?_ _) | (with_reducible refine Kd.C_drewN ?_ _) | (with_reducible refine Kd.C_drew ?_))); (case side2 => exact HC1.out); rintro e w16 ⟨v744, rfl, ho0, hb⟩; refine ⟨_, rfl, ?_⟩; have n0_ := Zm (Kd.R_lower ho0 (below_size (by repeat (first | (with_reducible first | exact HB.out | apply Zl | apply Zp | apply Ze | refine Zs ?_ GE732.out) | exact HB.out)))); have n1_ := Zm (blk_below (g := gb732) (o := .cells #[.int .i64 a0_0, .int .i64 a0_1, .int .i64 a0_2, .int .i64 a0_3, .int .i64 a0_4, .int .i64 a0_5, .int .i64 a0_6, .int .i64 a0_7, .int .i64 a0_8] 39 (0, 0)) (by (with_reducible repeat (first | refine Zn ?_ _ | refine Zd ?_ | refine Za ?_ _)); exact BK732.out) hb); have n2_ := Zm (below_step (by repeat (first | (with_reducible first | exact HB.out | apply Zl | apply Zp | apply Ze | refine Zs ?_ GE732.out) | exact HB.out)) hb); clear BK732; clear HB; have HO745 := n0_; have BK732 := n1_; have HB := n2_; clear n0_ n1_ n2_; (try clear hb); (try clear hb2); (try clear hk); (try clear hi); (try clear ho0); obtain ⟨Ao17, co17, eo17⟩ := Kd.R_slice HO745.out; subst eo17) | ((with_reducible refine gate_callee (f := 33) rfl ?_); refine goesL_ (some 23) rfl rfl Try.func33 (by kernel_rfl) rfl #[.agg #[.int .i64 t734, .int .i64 t735, .int .i64 t736, .int .i64 t737, .int .i64 t738, .int .i64 t739, .int .i64 t740, .int .i64 t741, .int .i64 t742], .slice Ao17 t743.length co17] rfl (by (try simp only [List.map_toArray, List.map_cons, List.map_nil]); first | done | rfl | (simp only [List.length_drop, List.length_take]; rfl)) ?_; (with_reducible refine (spec_DoCycles.calls k t734 t735 t736 t737 t738 t739 t740 t741 t742 _ _ t743 t746 t747 t748 t749 t750 t751 t752 t753 t754 t755 t756 _ ?side1 ?side2 A8.out).mono ?_); (case side1 => repeat (first | exact (Kd.R_reads' HO745.out).2.2 | (with_reducible refine Kd.C_alloc ?_ _) | (with_reducible refine Kd.C_drewN ?_ _) | (with_reducible refine Kd.C_drew ?_))); (case side2 => exact (Kd.R_reads' HO745.out).2.1); rintro e w18 ⟨rfl, hb⟩; refine ⟨_, rfl, ?_⟩; have n0_ := Zm (Kd.R_below (by (with_reducible repeat (first | apply Kd.R_alloc | apply Kd.R_drewN | apply Kd.R_drew)); exact HO745.out) hb); have n1_ := Zm (blk_below (g := gb732) (o := .cells #[.int .i64 a0_0, .int .i64 a0_1, .int .i64 a0_2, .int .i64 a0_3, .int .i64 a0_4, .int .i64 a0_5, .int .i64 a0_6, .int .i64 a0_7, .int .i64 a0_8] 39 (0, 0)) (by (with_reducible repeat (first | refine Zn ?_ _ | refine Zd ?_ | refine Za ?_ _)); exact BK732.out) hb); have n2_ := Zm (below_step (by repeat (first | (with_reducible first | exact HB.out | apply Zl | apply Zp | apply Ze | refine Zs ?_ GE732.out) | exact HB.out)) hb); clear HO745; clear BK732; clear HB; have HO745 := n0_; have BK732 := n1_; have HB := n2_; clear n0_ n1_ n2_; (try clear hb); (try clear hb2); (try clear hk); (try clear hi)) | ((with_reducible refine gate_dst (N := 6) rfl ?_); refine box_event ?hg (N := 6) ?hd (cs := #[.int .i64 0, .int .i64 0, .int .i64 0, .int .i64 0, .int .i64 0, .int .i64 0, .int .i64 0, .int .i64 0, .int .i64 0]) (t := 27) ?hr ?_; (case hd => rfl); (case hg => rfl); (case hr => first | (go_simp; done) | (go_simp; rfl)); intro gb757 hg w19 hbox hb; have n0_ := Zm (Kd.R_below (by (with_reducible repeat (first | apply Kd.R_alloc | apply Kd.R_drewN | apply Kd.R_drew)); exact HO745.out) hb); have n1_ := Zm (blk_below (g := gb732) (o := .cells #[.int .i64 a0_0, .int .i64 a0_1, .int .i64 a0_2, .int .i64 a0_3, .int .i64 a0_4, .int .i64 a0_5, .int .i64 a0_6, .int .i64 a0_7, .int .i64 a0_8] 39 (0, 0)) (by (with_reducible repeat (first | refine Zn ?_ _ | refine Zd ?_ | refine Za ?_ _)); exact BK732.out) hb); have n2_ := Zm (below_step (by repeat (first | (with_reducible first | exact HB.out | apply Zl | apply Zp | apply Ze | refine Zs ?_ GE732.out) | exact HB.out)) hb); have n3_ := Zm (hbox); have n4_ := Zm ((by rw [hg]; exact (below_size (by repeat (first | (with_reducible first | exact HB.out | apply Zl | apply Zp | apply Ze | refine Zs ?_ GE732.out) | exact HB.out))) : w.heap.size ≤ gb757)); have n5_ := Zm ((by rw [hg]; exact (below_size (by repeat (first | (with_reducible first | exact HB.out | apply Zl | apply Zp | apply Ze | refine Zs ?_ GE732.out) | exact HB.out))) : w.heap.size ≤ gb757)); have n6_ := Zm ((by rw [hg]; exact Nat.ne_of_lt (blk_lt (g := gb732) (o := .cells #[.int .i64 a0_0, .int .i64 a0_1, .int .i64 a0_2, .int .i64 a0_3, .int .i64 a0_4, .int .i64 a0_5, .int .i64 a0_6, .int .i64 a0_7, .int .i64 a0_8] 39 (0, 0)) (by (with_reducible repeat (first | refine Zn ?_ _ | refine Zd ?_ | refine Za ?_ _)); exact BK732.out)) : gb732 ≠ gb757)); have n7_ := Zm ((by rw [hg]; exact Nat.ne_of_gt (blk_lt (g := gb732) (o := .cells #[.int .i64 a0_0, .int .i64 a0_1, .int .i64 a0_2, .int .i64 a0_3, .int .i64 a0_4, .int .i64 a0_5, .int .i64 a0_6, .int .i64 a0_7, .int .i64 a0_8] 39 (0, 0)) (by (with_reducible repeat (first | refine Zn ?_ _ | refine Zd ?_ | refine Za ?_ _)); exact BK732.out)) : gb757 ≠ gb732)); clear HO745; clear BK732; clear HB; have HO745 := n0_; have BK732 := n1_; have HB := n2_; have BK757 := n3_; have GW757 := n4_; have GE757 := n5_; have NB732_757 := n6_; have NB757_732 := n7_; clear n0_ n1_ n2_ n3_ n4_ n5_ n6_ n7_; clear hb hbox hg; have hnb20 := NB757_732.out; have hnc20 := NB732_757.out; have hcz21_0 : w19.cell? ⟨gb757, 0, none⟩ = some (.int .i64 0) := (Zc BK757.out 0).trans rfl; have hcz21_1 : w19.cell? ⟨gb757, 1, none⟩ = some (.int .i64 0) := (Zc BK757.out 1).trans rfl; have hcz21_2 : w19.cell? ⟨gb757, 2, none⟩ = some (.int .i64 0) := (Zc BK757.out 2).trans rfl; have hcz21_3 : w19.cell? ⟨gb757, 3, none⟩ = some (.int .i64 0) := (Zc BK757.out 3).trans rfl; have hcz21_4 : w19.cell? ⟨gb757, 4, none⟩ = some (.int .i64 0) := (Zc BK757.out 4).trans rfl; have hcz21_5 : w19.cell? ⟨gb757, 5, none⟩ = some (.int .i64 0) := (Zc BK757.out 5).trans rfl; have hcz21_6 : w19.cell? ⟨gb757, 6, none⟩ = some (.int .i64 0) := (Zc BK757.out 6).trans rfl; have hcz21_7 : w19.cell? ⟨gb757, 7, none⟩ = some (.int .i64 0) := (Zc BK757.out 7).trans rfl; have hcz21_8 : w19.cell? ⟨gb757, 8, none⟩ = some (.int .i64 0) := (Zc BK757.out 8).trans rfl; have hfz21_0 := Zf BK757.out 0; have hfz21_1 := Zf BK757.out 1; have hfz21_2 := Zf BK757.out 2; have hfz21_3 := Zf BK757.out 3; have hfz21_4 := Zf BK757.out 4; have hfz21_5 := Zf BK757.out 5; have hfz21_6 := Zf BK757.out 6; have hfz21_7 := Zf BK757.out 7; have hfz21_8 := Zf BK757.out 8) | ((with_reducible refine gate_callee (f := 34) rfl ?_); refine goesL_ (some 28) rfl rfl Try.func34 (by kernel_rfl) rfl #[.slice A1 l1.length c1] rfl (by (try simp only [List.map_toArray, List.map_cons, List.map_nil]); first | done | rfl | (simp only [List.length_drop, List.length_take]; rfl)) ?_; (with_reducible refine (laws_toCycleS.calls k _ _ l1 t758 _ ?side1 ?side2 A9.out).mono ?_); (case side1 => exact Kd.C_below HR1.out (by repeat (first | (with_reducible first | exact HB.out | apply Zl | apply Zp | apply Ze | refine Zs ?_ GE732.out | refine Zs ?_ GE757.out) | exact HB.out))); (case side2 => exact HC1.out); rintro e w22 ⟨v759, rfl, ho0, hb⟩; refine ⟨_, rfl, ?_⟩; have n0_ := Zm (Kd.R_elder' (by (with_reducible repeat (first | apply Kd.R_alloc | apply Kd.R_drewN | apply Kd.R_drew)); exact (Kd.R_mono (Kd.R_far (p := ⟨gb757, 8, none⟩) (Kd.R_far (p := ⟨gb757, 7, none⟩) (Kd.R_far (p := ⟨gb757, 6, none⟩) (Kd.R_far (p := ⟨gb757, 5, none⟩) (Kd.R_far (p := ⟨gb757, 4, none⟩) (Kd.R_far (p := ⟨gb757, 3, none⟩) (Kd.R_far (p := ⟨gb757, 2, none⟩) (Kd.R_far (p := ⟨gb757, 1, none⟩) (Kd.R_far (p := ⟨gb757, 0, none⟩) (Kd.R_types HO745.out BK757.out (by decide)) (fun _ hk => hk.2) (.int .i64 t746)) (fun _ hk => hk.2) (.int .i64 t747)) (fun _ hk => hk.2) (.int .i64 t748)) (fun _ hk => hk.2) (.int .i64 t749)) (fun _ hk => hk.2) (.int .i64 t750)) (fun _ hk => hk.2) (.int .i64 t751)) (fun _ hk => hk.2) (.int .i64 t752)) (fun _ hk => hk.2) (.int .i64 t753)) (fun _ hk => hk.2) (.int .i64 t754)) (fun _ h_ => h_.1))) (Kd.R_base ho0) hb); have n1_ := Zm (Kd.R_lower (Kd.R_new' ho0 (Kd.R_lt (by (with_reducible repeat (first | apply Kd.R_alloc | apply Kd.R_drewN | apply Kd.R_drew)); exact (Kd.R_mono (Kd.R_far (p := ⟨gb757, 8, none⟩) (Kd.R_far (p := ⟨gb757, 7, none⟩) (Kd.R_far (p := ⟨gb757, 6, none⟩) (Kd.R_far (p := ⟨gb757, 5, none⟩) (Kd.R_far (p := ⟨gb757, 4, none⟩) (Kd.R_far (p := ⟨gb757, 3, none⟩) (Kd.R_far (p := ⟨gb757, 2, none⟩) (Kd.R_far (p := ⟨gb757, 1, none⟩) (Kd.R_far (p := ⟨gb757, 0, none⟩) (Kd.R_types HO745.out BK757.out (by decide)) (fun _ hk => hk.2) (.int .i64 t746)) (fun _ hk => hk.2) (.int .i64 t747)) (fun _ hk => hk.2) (.int .i64 t748)) (fun _ hk => hk.2) (.int .i64 t749)) (fun _ hk => hk.2) (.int .i64 t750)) (fun _ hk => hk.2) (.int .i64 t751)) (fun _ hk => hk.2) (.int .i64 t752)) (fun _ hk => hk.2) (.int .i64 t753)) (fun _ hk => hk.2) (.int .i64 t754)) (fun _ h_ => h_.1))))) (below_size (by repeat (first | (with_reducible first | exact HB.out | apply Zl | apply Zp | apply Ze | refine Zs ?_ GE732.out | refine Zs ?_ GE757.out) | exact HB.out)))); have n2_ := Zm (blk_below (g := gb732) (o := .cells #[.int .i64 a0_0, .int .i64 a0_1, .int .i64 a0_2, .int .i64 a0_3, .int .i64 a0_4, .int .i64 a0_5, .int .i64 a0_6, .int .i64 a0_7, .int .i64 a0_8] 39 (0, 0)) (by (with_reducible repeat (first | refine Zn ?_ _ | refine Zd ?_ | refine Za ?_ _)); refine blk_far ?_ NB732_757.out _; (with_reducible repeat (first | refine Zn ?_ _ | refine Zd ?_ | refine Za ?_ _)); refine blk_far ?_ NB732_757.out _; (with_reducible repeat (first | refine Zn ?_ _ | refine Zd ?_ | refine Za ?_ _)); refine blk_far ?_ NB732_757.out _; (with_reducible repeat (first | refine Zn ?_ _ | refine Zd ?_ | refine Za ?_ _)); refine blk_far ?_ NB732_757.out _; (with_reducible repeat (first | refine Zn ?_ _ | refine Zd ?_ | refine Za ?_ _)); refine blk_far ?_ NB732_757.out _; (with_reducible repeat (first | refine Zn ?_ _ | refine Zd ?_ | refine Za ?_ _)); refine blk_far ?_ NB732_757.out _; (with_reducible repeat (first | refine Zn ?_ _ | refine Zd ?_ | refine Za ?_ _)); refine blk_far ?_ NB732_757.out _; (with_reducible repeat (first | refine Zn ?_ _ | refine Zd ?_ | refine Za ?_ _)); refine blk_far ?_ NB732_757.out _; (with_reducible repeat (first | refine Zn ?_ _ | refine Zd ?_ | refine Za ?_ _)); refine blk_far ?_ NB732_757.out _; (with_reducible repeat (first | refine Zn ?_ _ | refine Zd ?_ | refine Za ?_ _)); exact BK732.out) hb); have n3_ := Zm (blk_below (g := gb757) (o := .cells #[.int .i64 t746, .int .i64 t747, .int .i64 t748, .int .i64 t749, .int .i64 t750, .int .i64 t751, .int .i64 t752, .int .i64 t753, .int .i64 t754] 27 (0, 0)) (by (with_reducible repeat (first | refine Zn ?_ _ | refine Zd ?_ | refine Za ?_ _)); refine blk_put (cs := #[.int .i64 t746, .int .i64 t747, .int .i64 t748, .int .i64 t749, .int .i64 t750, .int .i64 t751, .int .i64 t752, .int .i64 t753, .int .i64 0]) ?_ 8 _ rfl; (with_reducible repeat (first | refine Zn ?_ _ | refine Zd ?_ | refine Za ?_ _)); refine blk_put (cs := #[.int .i64 t746, .int .i64 t747, .int .i64 t748, .int .i64 t749, .int .i64 t750, .int .i64 t751, .int .i64 t752, .int .i64 0, .int .i64 0]) ?_ 7 _ rfl; (with_reducible repeat (first | refine Zn ?_ _ | refine Zd ?_ | refine Za ?_ _)); refine blk_put (cs := #[.int .i64 t746, .int .i64 t747, .int .i64 t748, .int .i64 t749, .int .i64 t750, .int .i64 t751, .int .i64 0, .int .i64 0, .int .i64 0]) ?_ 6 _ rfl; (with_reducible repeat (first | refine Zn ?_ _ | refine Zd ?_ | refine Za ?_ _)); refine blk_put (cs := #[.int .i64 t746, .int .i64 t747, .int .i64 t748, .int .i64 t749, .int .i64 t750, .int .i64 0, .int .i64 0, .int .i64 0, .int .i64 0]) ?_ 5 _ rfl; (with_reducible repeat (first | refine Zn ?_ _ | refine Zd ?_ | refine Za ?_ _)); refine blk_put (cs := #[.int .i64 t746, .int .i64 t747, .int .i64 t748, .int .i64 t749, .int .i64 0, .int .i64 0, .int .i64 0, .int .i64 0, .int .i64 0]) ?_ 4 _ rfl; (with_reducible repeat (first | refine Zn ?_ _ | refine Zd ?_ | refine Za ?_ _)); refine blk_put (cs := #[.int .i64 t746, .int .i64 t747, .int .i64 t748, .int .i64 0, .int .i64 0, .int .i64 0, .int .i64 0, .int .i64 0, .int .i64 0]) ?_ 3 _ rfl; (with_reducible repeat (first | refine Zn ?_ _ | refine Zd ?_ | refine Za ?_ _)); refine blk_put (cs := #[.int .i64 t746, .int .i64 t747, .int .i64 0, .int .i64 0, .int .i64 0, .int .i64 0, .int .i64 0, .int .i64 0, .int .i64 0]) ?_ 2 _ rfl; (with_reducible repeat (first | refine Zn ?_ _ | refine Zd ?_ | refine Za ?_ _)); refine blk_put (cs := #[.int .i64 t746, .int .i64 0, .int .i64 0, .int .i64 0, .int .i64 0, .int .i64 0, .int .i64 0, .int .i64 0, .int .i64 0]) ?_ 1 _ rfl; (with_reducible repeat (first | refine Zn ?_ _ | refine Zd ?_ | refine Za ?_ _)); refine blk_put (cs := #[.int .i64 0, .int .i64 0, .int .i64 0, .int .i64 0, .int .i64 0, .int .i64 0, .int .i64 0, .int .i64 0, .int .i64 0]) ?_ 0 _ rfl; (with_reducible repeat (first | refine Zn ?_ _ | refine Zd ?_ | refine Za ?_ _)); exact BK757.out) hb); have n4_ := Zm (below_step (by repeat (first | (with_reducible first | exact HB.out | apply Zl | apply Zp | apply Ze | refine Zs ?_ GE732.out | refine Zs ?_ GE757.out) | exact HB.out)) hb); clear HO745; clear BK732; clear BK757; clear HB; have HO745 := n0_; have HO760 := n1_; have BK732 := n2_; have BK757 := n3_; have HB := n4_; clear n0_ n1_ n2_ n3_ n4_; (try clear hb); (try clear hb2); (try clear hk); (try clear hi); (try clear ho0); have hcz23_0 : w22.cell? ⟨gb732, 0, none⟩ = some (.int .i64 a0_0) := (Zc BK732.out 0).trans rfl; have hcz23_1 : w22.cell? ⟨gb732, 1, none⟩ = some (.int .i64 a0_1) := (Zc BK732.out 1).trans rfl; have hcz23_2 : w22.cell? ⟨gb732, 2, none⟩ = some (.int .i64 a0_2) := (Zc BK732.out 2).trans rfl; have hcz23_3 : w22.cell? ⟨gb732, 3, none⟩ = some (.int .i64 a0_3) := (Zc BK732.out 3).trans rfl; have hcz23_4 : w22.cell? ⟨gb732, 4, none⟩ = some (.int .i64 a0_4) := (Zc BK732.out 4).trans rfl; have hcz23_5 : w22.cell? ⟨gb732, 5, none⟩ = some (.int .i64 a0_5) := (Zc BK732.out 5).trans rfl; have hcz23_6 : w22.cell? ⟨gb732, 6, none⟩ = some (.int .i64 a0_6) := (Zc BK732.out 6).trans rfl; have hcz23_7 : w22.cell? ⟨gb732, 7, none⟩ = some (.int .i64 a0_7) := (Zc BK732.out 7).trans rfl; have hcz23_8 : w22.cell? ⟨gb732, 8, none⟩ = some (.int .i64 a0_8) := (Zc BK732.out 8).trans rfl; have hfz23_0 := Zf BK732.out 0; have hfz23_1 := Zf BK732.out 1; have hfz23_2 := Zf BK732.out 2; have hfz23_3 := Zf BK732.out 3; have hfz23_4 := Zf BK732.out 4; have hfz23_5 := Zf BK732.out 5; have hfz23_6 := Zf BK732.out 6; have hfz23_7 := Zf BK732.out 7; have hfz23_8 := Zf BK732.out 8) | ((with_reducible refine gate_callee (f := 18) rfl ?_); refine goesL_ (some 31) rfl rfl Try.func18 (by kernel_rfl) rfl #[.agg #[.int .i64 a0_0, .int .i64 a0_1, .int .i64 a0_2, .int .i64 a0_3, .int .i64 a0_4, .int .i64 a0_5, .int .i64 a0_6, .int .i64 a0_7, .int .i64 a0_8]] rfl (by (try simp only [List.map_toArray, List.map_cons, List.map_nil]); first | done | rfl | (simp only [List.length_drop, List.length_take]; rfl)) ?_; (with_reducible refine (laws_toMachine.calls a0_0 a0_1 a0_2 a0_3 a0_4 a0_5 a0_6 a0_7 a0_8 t761 t762 t763 t764 t765 t766 t767 t768 t769 _ A10.out).mono ?_); rintro e w24 ⟨rfl, hb⟩; refine ⟨_, rfl, ?_⟩; have n0_ := Zm (Kd.R_below (by (with_reducible repeat (first | apply Kd.R_alloc | apply Kd.R_drewN | apply Kd.R_drew)); exact HO745.out) hb); have n1_ := Zm (Kd.R_below (by (with_reducible repeat (first | apply Kd.R_alloc | apply Kd.R_drewN | apply Kd.R_drew)); exact HO760.out) hb); have n2_ := Zm (blk_below (g := gb732) (o := .cells #[.int .i64 a0_0, .int .i64 a0_1, .int .i64 a0_2, .int .i64 a0_3, .int .i64 a0_4, .int .i64 a0_5, .int .i64 a0_6, .int .i64 a0_7, .int .i64 a0_8] 39 (0, 0)) (by (with_reducible repeat (first | refine Zn ?_ _ | refine Zd ?_ | refine Za ?_ _)); exact BK732.out) hb); have n3_ := Zm (blk_below (g := gb757) (o := .cells #[.int .i64 t746, .int .i64 t747, .int .i64 t748, .int .i64 t749, .int .i64 t750, .int .i64 t751, .int .i64 t752, .int .i64 t753, .int .i64 t754] 27 (0, 0)) (by (with_reducible repeat (first | refine Zn ?_ _ | refine Zd ?_ | refine Za ?_ _)); exact BK757.out) hb); have n4_ := Zm (below_step (by repeat (first | (with_reducible first | exact HB.out | apply Zl | apply Zp | apply Ze | refine Zs ?_ GE732.out | refine Zs ?_ GE757.out) | exact HB.out)) hb); clear HO745; clear HO760; clear BK732; clear BK757; clear HB; have HO745 := n0_; have HO760 := n1_; have BK732 := n2_; have BK757 := n3_; have HB := n4_; clear n0_ n1_ n2_ n3_ n4_; (try clear hb); (try clear hb2); (try clear hk); (try clear hi); obtain ⟨Ao25, co25, eo25⟩ := Kd.R_slice HO760.out; subst eo25) | ((with_reducible refine gate_callee (f := 26) rfl ?_); refine goesL_ (some 33) rfl rfl Try.func26 (by kernel_rfl) rfl #[.agg #[.int .i64 t761, .int .i64 t762, .int .i64 t763, .int .i64 t764, .int .i64 t765, .int .i64 t766, .int .i64 t767, .int .i64 t768, .int .i64 t769], .slice Ao25 t758.length co25] rfl (by (try simp only [List.map_toArray, List.map_cons, List.map_nil]); first | done | rfl | (simp only [List.length_drop, List.length_take]; rfl)) ?_; (with_reducible refine (impl_DoCycles.calls k t761 t762 t763 t764 t765 t766 t767 t768 t769 _ _ t758 t770 t771 t772 t773 t774 t775 t776 t777 t778 t779 t780 _ ?side1 ?side2 A11.out).mono ?_); (case side1 => repeat (first | exact (Kd.R_reads' HO760.out).2.2 | (with_reducible refine Kd.C_alloc ?_ _) | (with_reducible refine Kd.C_drewN ?_ _) | (with_reducible refine Kd.C_drew ?_))); (case side2 => exact (Kd.R_reads' HO760.out).2.1); rintro e w26 ⟨rfl, hb⟩; refine ⟨_, rfl, ?_⟩; have n0_ := Zm (Kd.R_below (by (with_reducible repeat (first | apply Kd.R_alloc | apply Kd.R_drewN | apply Kd.R_drew)); exact HO745.out) hb); have n1_ := Zm (Kd.R_below (by (with_reducible repeat (first | apply Kd.R_alloc | apply Kd.R_drewN | apply Kd.R_drew)); exact HO760.out) hb); have n2_ := Zm (blk_below (g := gb732) (o := .cells #[.int .i64 a0_0, .int .i64 a0_1, .int .i64 a0_2, .int .i64 a0_3, .int .i64 a0_4, .int .i64 a0_5, .int .i64 a0_6, .int .i64 a0_7, .int .i64 a0_8] 39 (0, 0)) (by (with_reducible repeat (first | refine Zn ?_ _ | refine Zd ?_ | refine Za ?_ _)); exact BK732.out) hb); have n3_ := Zm (blk_below (g := gb757) (o := .cells #[.int .i64 t746, .int .i64 t747, .int .i64 t748, .int .i64 t749, .int .i64 t750, .int .i64 t751, .int .i64 t752, .int .i64 t753, .int .i64 t754] 27 (0, 0)) (by (with_reducible repeat (first | refine Zn ?_ _ | refine Zd ?_ | refine Za ?_ _)); exact BK757.out) hb); have n4_ := Zm (below_step (by repeat (first | (with_reducible first | exact HB.out | apply Zl | apply Zp | apply Ze | refine Zs ?_ GE732.out | refine Zs ?_ GE757.out) | exact HB.out)) hb); clear HO745; clear HO760; clear BK732; clear BK757; clear HB; have HO745 := n0_; have HO760 := n1_; have BK732 := n2_; have BK757 := n3_; have HB := n4_; clear n0_ n1_ n2_ n3_ n4_; (try clear hb); (try clear hb2); (try clear hk); (try clear hi)) | ((with_reducible refine gate_dst (N := 10) rfl ?_); refine box_event ?hg (N := 10) ?hd (cs := #[.int .i64 0, .int .i64 0, .int .i64 0, .int .i64 0, .int .i64 0, .int .i64 0, .int .i64 0, .int .i64 0, .int .i64 0]) (t := 27) ?hr ?_; (case hd => rfl); (case hg => rfl); (case hr => first | (go_simp; done) | (go_simp; rfl)); intro gb781 hg w27 hbox hb; have n0_ := Zm (Kd.R_below (by (with_reducible repeat (first | apply Kd.R_alloc | apply Kd.R_drewN | apply Kd.R_drew)); exact HO745.out) hb); have n1_ := Zm (Kd.R_below (by (with_reducible repeat (first | apply Kd.R_alloc | apply Kd.R_drewN | apply Kd.R_drew)); exact HO760.out) hb); have n2_ := Zm (blk_below (g := gb732) (o := .cells #[.int .i64 a0_0, .int .i64 a0_1, .int .i64 a0_2, .int .i64 a0_3, .int .i64 a0_4, .int .i64 a0_5, .int .i64 a0_6, .int .i64 a0_7, .int .i64 a0_8] 39 (0, 0)) (by (with_reducible repeat (first | refine Zn ?_ _ | refine Zd ?_ | refine Za ?_ _)); exact BK732.out) hb); have n3_ := Zm (blk_below (g := gb757) (o := .cells #[.int .i64 t746, .int .i64 t747, .int .i64 t748, .int .i64 t749, .int .i64 t750, .int .i64 t751, .int .i64 t752, .int .i64 t753, .int .i64 t754] 27 (0, 0)) (by (with_reducible repeat (first | refine Zn ?_ _ | refine Zd ?_ | refine Za ?_ _)); exact BK757.out) hb); have n4_ := Zm (below_step (by repeat (first | (with_reducible first | exact HB.out | apply Zl | apply Zp | apply Ze | refine Zs ?_ GE732.out | refine Zs ?_ GE757.out) | exact HB.out)) hb); have n5_ := Zm (hbox); have n6_ := Zm ((by rw [hg]; exact (below_size (by repeat (first | (with_reducible first | exact HB.out | apply Zl | apply Zp | apply Ze | refine Zs ?_ GE732.out | refine Zs ?_ GE757.out) | exact HB.out))) : w.heap.size ≤ gb781)); have n7_ := Zm ((by rw [hg]; exact (below_size (by repeat (first | (with_reducible first | exact HB.out | apply Zl | apply Zp | apply Ze | refine Zs ?_ GE732.out | refine Zs ?_ GE757.out) | exact HB.out))) : w.heap.size ≤ gb781)); have n8_ := Zm ((by rw [hg]; exact Nat.ne_of_lt (blk_lt (g := gb732) (o := .cells #[.int .i64 a0_0, .int .i64 a0_1, .int .i64 a0_2, .int .i64 a0_3, .int .i64 a0_4, .int .i64 a0_5, .int .i64 a0_6, .int .i64 a0_7, .int .i64 a0_8] 39 (0, 0)) (by (with_reducible repeat (first | refine Zn ?_ _ | refine Zd ?_ | refine Za ?_ _)); exact BK732.out)) : gb732 ≠ gb781)); have n9_ := Zm ((by rw [hg]; exact Nat.ne_of_gt (blk_lt (g := gb732) (o := .cells #[.int .i64 a0_0, .int .i64 a0_1, .int .i64 a0_2, .int .i64 a0_3, .int .i64 a0_4, .int .i64 a0_5, .int .i64 a0_6, .int .i64 a0_7, .int .i64 a0_8] 39 (0, 0)) (by (with_reducible repeat (first | refine Zn ?_ _ | refine Zd ?_ | refine Za ?_ _)); exact BK732.out)) : gb781 ≠ gb732)); have n10_ := Zm ((by rw [hg]; exact Nat.ne_of_lt (blk_lt (g := gb757) (o := .cells #[.int .i64 t746, .int .i64 t747, .int .i64 t748, .int .i64 t749, .int .i64 t750, .int .i64 t751, .int .i64 t752, .int .i64 t753, .int .i64 t754] 27 (0, 0)) (by (with_reducible repeat (first | refine Zn ?_ _ | refine Zd ?_ | refine Za ?_ _)); exact BK757.out)) : gb757 ≠ gb781)); have n11_ := Zm ((by rw [hg]; exact Nat.ne_of_gt (blk_lt (g := gb757) (o := .cells #[.int .i64 t746, .int .i64 t747, .int .i64 t748, .int .i64 t749, .int .i64 t750, .int .i64 t751, .int .i64 t752, .int .i64 t753, .int .i64 t754] 27 (0, 0)) (by (with_reducible repeat (first | refine Zn ?_ _ | refine Zd ?_ | refine Za ?_ _)); exact BK757.out)) : gb781 ≠ gb757)); clear HO745; clear HO760; clear BK732; clear BK757; clear HB; have HO745 := n0_; have HO760 := n1_; have BK732 := n2_; have BK757 := n3_; have HB := n4_; have BK781 := n5_; have GW781 := n6_; have GE781 := n7_; have NB732_781 := n8_; have NB781_732 := n9_; have NB757_781 := n10_; have NB781_757 := n11_; clear n0_ n1_ n2_ n3_ n4_ n5_ n6_ n7_ n8_ n9_ n10_ n11_; clear hb hbox hg; have hnb28 := NB781_732.out; have hnc28 := NB732_781.out; have hnb29 := NB781_757.out; have hnc29 := NB757_781.out; have hcz30_0 : w27.cell? ⟨gb781, 0, none⟩ = some (.int .i64 0) := (Zc BK781.out 0).trans rfl; have hcz30_1 : w27.cell? ⟨gb781, 1, none⟩ = some (.int .i64 0) := (Zc BK781.out 1).trans rfl; have hcz30_2 : w27.cell? ⟨gb781, 2, none⟩ = some (.int .i64 0) := (Zc BK781.out 2).trans rfl; have hcz30_3 : w27.cell? ⟨gb781, 3, none⟩ = some (.int .i64 0) := (Zc BK781.out 3).trans rfl; have hcz30_4 : w27.cell? ⟨gb781, 4, none⟩ = some (.int .i64 0) := (Zc BK781.out 4).trans rfl; have hcz30_5 : w27.cell? ⟨gb781, 5, none⟩ = some (.int .i64 0) := (Zc BK781.out 5).trans rfl; have hcz30_6 : w27.cell? ⟨gb781, 6, none⟩ = some (.int .i64 0) := (Zc BK781.out 6).trans rfl; have hcz30_7 : w27.cell? ⟨gb781, 7, none⟩ = some (.int .i64 0) := (Zc BK781.out 7).trans rfl; have hcz30_8 : w27.cell? ⟨gb781, 8, none⟩ = some (.int .i64 0) := (Zc BK781.out 8).trans rfl; have hfz30_0 := Zf BK781.out 0; have hfz30_1 := Zf BK781.out 1; have hfz30_2 := Zf BK781.out 2; have hfz30_3 := Zf BK781.out 3; have hfz30_4 := Zf BK781.out 4; have hfz30_5 := Zf BK781.out 5; have hfz30_6 := Zf BK781.out 6; have hfz30_7 := Zf BK781.out 7; have hfz30_8 := Zf BK781.out 8))
  (try simp only [Act.put, List.setIfInBounds_toArray, List.set_cons_zero, List.set_cons_succ])
  go_cut [50] (fun v50 wc => ∃ (kq : Nat) (x50_11 : Bool), v50 = .bool x50_11 ∧ Aside0 (laws_FnExactDoCycles.j0 kq l1 t758 x50_11 = some r) ∧ Aside0 (kq ≤ k) ∧ Aside0 (Kd.R k58 58 wc w.heap.size (fun _ => True) (.slice Ao25 t758.length co25) t758) ∧ Aside0 (wc.heap[gb732]? = some (.cells #[.int .i64 a0_0, .int .i64 a0_1, .int .i64 a0_2, .int .i64 a0_3, .int .i64 a0_4, .int .i64 a0_5, .int .i64 a0_6, .int .i64 a0_7, .int .i64 a0_8] 39 (0, 0))) ∧ Aside0 (wc.heap[gb757]? = some (.cells #[.int .i64 t746, .int .i64 t747, .int .i64 t748, .int .i64 t749, .int .i64 t750, .int .i64 t751, .int .i64 t752, .int .i64 t753, .int .i64 t754] 27 (0, 0))) ∧ Aside0 (wc.heap[gb781]? = some (.cells #[.int .i64 t770, .int .i64 t771, .int .i64 t772, .int .i64 t773, .int .i64 t774, .int .i64 t775, .int .i64 t776, .int .i64 t777, .int .i64 t778] 27 (0, 0))) ∧ Aside0 (Below w.heap.size w wc))
  case first =>
   have H := HC12.out
   clear HC12
   replace H := Option.bind_eq_some_iff.mp H
   obtain ⟨t782, A310, H⟩ := H
   replace H : (if t782 = true then (if t779 = t755 then (laws_FnExactDoCycles.j0 k l1 t758 (t780 != t756)) else (laws_FnExactDoCycles.j0 k l1 t758 true)) else (laws_FnExactDoCycles.j0 k l1 t758 true)) = some r := H
   have A31 := Zm A310
   clear A310
   by_cases c32 : t782 = true
   ·subst c32
    have H1 : (if t779 = t755 then (laws_FnExactDoCycles.j0 k l1 t758 (t780 != t756)) else (laws_FnExactDoCycles.j0 k l1 t758 true)) = some r := by rw [if_pos rfl] at H; exact H
    clear H
    have H := H1
    clear H1
    by_cases c33 : t779 = t755
    ·rw [if_pos c33] at H
     have c33b0 : (t779 == t755) = true := beq_iff_eq.mpr c33
     have c33b1 : (t779 != t755) = false := bne_eq_false_iff_eq.mpr c33
     clear c33
     (first | rw [c33b0] | (simp only [i64_w, i32_w]; rw [c33b0]) | skip)
     have H' := Zm H
     clear H
     have hnb34 := NB781_732.out
     have hnc34 := NB732_781.out
     have hnb35 := NB781_757.out
     have hnc35 := NB757_781.out
     have hcz36_0 : w27.cell? ⟨gb781, 0, none⟩ = some (.int .i64 0) := (Zc BK781.out 0).trans rfl
     have hcz36_1 : w27.cell? ⟨gb781, 1, none⟩ = some (.int .i64 0) := (Zc BK781.out 1).trans rfl
     have hcz36_2 : w27.cell? ⟨gb781, 2, none⟩ = some (.int .i64 0) := (Zc BK781.out 2).trans rfl
     have hcz36_3 : w27.cell? ⟨gb781, 3, none⟩ = some (.int .i64 0) := (Zc BK781.out 3).trans rfl
     have hcz36_4 : w27.cell? ⟨gb781, 4, none⟩ = some (.int .i64 0) := (Zc BK781.out 4).trans rfl
     have hcz36_5 : w27.cell? ⟨gb781, 5, none⟩ = some (.int .i64 0) := (Zc BK781.out 5).trans rfl
     have hcz36_6 : w27.cell? ⟨gb781, 6, none⟩ = some (.int .i64 0) := (Zc BK781.out 6).trans rfl
     have hcz36_7 : w27.cell? ⟨gb781, 7, none⟩ = some (.int .i64 0) := (Zc BK781.out 7).trans rfl
     have hcz36_8 : w27.cell? ⟨gb781, 8, none⟩ = some (.int .i64 0) := (Zc BK781.out 8).trans rfl
     have hfz36_0 := Zf BK781.out 0
     have hfz36_1 := Zf BK781.out 1
     have hfz36_2 := Zf BK781.out 2
     have hfz36_3 := Zf BK781.out 3
     have hfz36_4 := Zf BK781.out 4
     have hfz36_5 := Zf BK781.out 5
     have hfz36_6 := Zf BK781.out 6
     have hfz36_7 := Zf BK781.out 7
     have hfz36_8 := Zf BK781.out 8
     have hnb37 := NB757_732.out
     have hnc37 := NB732_757.out
     have hcz38_0 : w27.cell? ⟨gb757, 0, none⟩ = some (.int .i64 t746) := (Zc BK757.out 0).trans rfl
     have hcz38_1 : w27.cell? ⟨gb757, 1, none⟩ = some (.int .i64 t747) := (Zc BK757.out 1).trans rfl
     have hcz38_2 : w27.cell? ⟨gb757, 2, none⟩ = some (.int .i64 t748) := (Zc BK757.out 2).trans rfl
     have hcz38_3 : w27.cell? ⟨gb757, 3, none⟩ = some (.int .i64 t749) := (Zc BK757.out 3).trans rfl
     have hcz38_4 : w27.cell? ⟨gb757, 4, none⟩ = some (.int .i64 t750) := (Zc BK757.out 4).trans rfl
     have hcz38_5 : w27.cell? ⟨gb757, 5, none⟩ = some (.int .i64 t751) := (Zc BK757.out 5).trans rfl
     have hcz38_6 : w27.cell? ⟨gb757, 6, none⟩ = some (.int .i64 t752) := (Zc BK757.out 6).trans rfl
     have hcz38_7 : w27.cell? ⟨gb757, 7, none⟩ = some (.int .i64 t753) := (Zc BK757.out 7).trans rfl
     have hcz38_8 : w27.cell? ⟨gb757, 8, none⟩ = some (.int .i64 t754) := (Zc BK757.out 8).trans rfl
     have hfz38_0 := Zf BK757.out 0
     have hfz38_1 := Zf BK757.out 1
     have hfz38_2 := Zf BK757.out 2
     have hfz38_3 := Zf BK757.out 3
     have hfz38_4 := Zf BK757.out 4
     have hfz38_5 := Zf BK757.out 5
     have hfz38_6 := Zf BK757.out 6
     have hfz38_7 := Zf BK757.out 7
     have hfz38_8 := Zf BK757.out 8
     go_wp2_with (first | ((with_reducible refine gate_callee (f := 35) rfl ?_); refine goesL_ (some 39) rfl rfl Try.func35 (by kernel_rfl) rfl #[.agg #[.int .i64 t770, .int .i64 t771, .int .i64 t772, .int .i64 t773, .int .i64 t774, .int .i64 t775, .int .i64 t776, .int .i64 t777, .int .i64 t778], .agg #[.int .i64 t746, .int .i64 t747, .int .i64 t748, .int .i64 t749, .int .i64 t750, .int .i64 t751, .int .i64 t752, .int .i64 t753, .int .i64 t754]] rfl (by (try simp only [List.map_toArray, List.map_cons, List.map_nil]); first | done | rfl | (simp only [List.length_drop, List.length_take]; rfl)) ?_; (with_reducible refine (laws_eqMachine.calls t770 t771 t772 t773 t774 t775 t776 t777 t778 t746 t747 t748 t749 t750 t751 t752 t753 t754 true _ A31.out).mono ?_); rintro e w39 ⟨rfl, hb⟩; refine ⟨_, rfl, ?_⟩; have n0_ := Zm (Kd.R_below (by (with_reducible repeat (first | apply Kd.R_alloc | apply Kd.R_drewN | apply Kd.R_drew)); exact (Kd.R_mono (Kd.R_far (p := ⟨gb781, 8, none⟩) (Kd.R_far (p := ⟨gb781, 7, none⟩) (Kd.R_far (p := ⟨gb781, 6, none⟩) (Kd.R_far (p := ⟨gb781, 5, none⟩) (Kd.R_far (p := ⟨gb781, 4, none⟩) (Kd.R_far (p := ⟨gb781, 3, none⟩) (Kd.R_far (p := ⟨gb781, 2, none⟩) (Kd.R_far (p := ⟨gb781, 1, none⟩) (Kd.R_far (p := ⟨gb781, 0, none⟩) (Kd.R_types HO745.out BK781.out (by decide)) (fun _ hk => hk.2) (.int .i64 t770)) (fun _ hk => hk.2) (.int .i64 t771)) (fun _ hk => hk.2) (.int .i64 t772)) (fun _ hk => hk.2) (.int .i64 t773)) (fun _ hk => hk.2) (.int .i64 t774)) (fun _ hk => hk.2) (.int .i64 t775)) (fun _ hk => hk.2) (.int .i64 t776)) (fun _ hk => hk.2) (.int .i64 t777)) (fun _ hk => hk.2) (.int .i64 t778)) (fun _ h_ => h_.1))) hb); have n1_ := Zm (Kd.R_below (by (with_reducible repeat (first | apply Kd.R_alloc | apply Kd.R_drewN | apply Kd.R_drew)); exact (Kd.R_mono (Kd.R_far (p := ⟨gb781, 8, none⟩) (Kd.R_far (p := ⟨gb781, 7, none⟩) (Kd.R_far (p := ⟨gb781, 6, none⟩) (Kd.R_far (p := ⟨gb781, 5, none⟩) (Kd.R_far (p := ⟨gb781, 4, none⟩) (Kd.R_far (p := ⟨gb781, 3, none⟩) (Kd.R_far (p := ⟨gb781, 2, none⟩) (Kd.R_far (p := ⟨gb781, 1, none⟩) (Kd.R_far (p := ⟨gb781, 0, none⟩) (Kd.R_types HO760.out BK781.out (by decide)) (fun _ hk => hk.2) (.int .i64 t770)) (fun _ hk => hk.2) (.int .i64 t771)) (fun _ hk => hk.2) (.int .i64 t772)) (fun _ hk => hk.2) (.int .i64 t773)) (fun _ hk => hk.2) (.int .i64 t774)) (fun _ hk => hk.2) (.int .i64 t775)) (fun _ hk => hk.2) (.int .i64 t776)) (fun _ hk => hk.2) (.int .i64 t777)) (fun _ hk => hk.2) (.int .i64 t778)) (fun _ h_ => h_.1))) hb); have n2_ := Zm (blk_below (g := gb732) (o := .cells #[.int .i64 a0_0, .int .i64 a0_1, .int .i64 a0_2, .int .i64 a0_3, .int .i64 a0_4, .int .i64 a0_5, .int .i64 a0_6, .int .i64 a0_7, .int .i64 a0_8] 39 (0, 0)) (by (with_reducible repeat (first | refine Zn ?_ _ | refine Zd ?_ | refine Za ?_ _)); refine blk_far ?_ NB732_781.out _; (with_reducible repeat (first | refine Zn ?_ _ | refine Zd ?_ | refine Za ?_ _)); refine blk_far ?_ NB732_781.out _; (with_reducible repeat (first | refine Zn ?_ _ | refine Zd ?_ | refine Za ?_ _)); refine blk_far ?_ NB732_781.out _; (with_reducible repeat (first | refine Zn ?_ _ | refine Zd ?_ | refine Za ?_ _)); refine blk_far ?_ NB732_781.out _; (with_reducible repeat (first | refine Zn ?_ _ | refine Zd ?_ | refine Za ?_ _)); refine blk_far ?_ NB732_781.out _; (with_reducible repeat (first | refine Zn ?_ _ | refine Zd ?_ | refine Za ?_ _)); refine blk_far ?_ NB732_781.out _; (with_reducible repeat (first | refine Zn ?_ _ | refine Zd ?_ | refine Za ?_ _)); refine blk_far ?_ NB732_781.out _; (with_reducible repeat (first | refine Zn ?_ _ | refine Zd ?_ | refine Za ?_ _)); refine blk_far ?_ NB732_781.out _; (with_reducible repeat (first | refine Zn ?_ _ | refine Zd ?_ | refine Za ?_ _)); refine blk_far ?_ NB732_781.out _; (with_reducible repeat (first | refine Zn ?_ _ | refine Zd ?_ | refine Za ?_ _)); exact BK732.out) hb); have n3_ := Zm (blk_below (g := gb757) (o := .cells #[.int .i64 t746, .int .i64 t747, .int .i64 t748, .int .i64 t749, .int .i64 t750, .int .i64 t751, .int .i64 t752, .int .i64 t753, .int .i64 t754] 27 (0, 0)) (by (with_reducible repeat (first | refine Zn ?_ _ | refine Zd ?_ | refine Za ?_ _)); refine blk_far ?_ NB757_781.out _; (with_reducible repeat (first | refine Zn ?_ _ | refine Zd ?_ | refine Za ?_ _)); refine blk_far ?_ NB757_781.out _; (with_reducible repeat (first | refine Zn ?_ _ | refine Zd ?_ | refine Za ?_ _)); refine blk_far ?_ NB757_781.out _; (with_reducible repeat (first | refine Zn ?_ _ | refine Zd ?_ | refine Za ?_ _)); refine blk_far ?_ NB757_781.out _; (with_reducible repeat (first | refine Zn ?_ _ | refine Zd ?_ | refine Za ?_ _)); refine blk_far ?_ NB757_781.out _; (with_reducible repeat (first | refine Zn ?_ _ | refine Zd ?_ | refine Za ?_ _)); refine blk_far ?_ NB757_781.out _; (with_reducible repeat (first | refine Zn ?_ _ | refine Zd ?_ | refine Za ?_ _)); refine blk_far ?_ NB757_781.out _; (with_reducible repeat (first | refine Zn ?_ _ | refine Zd ?_ | refine Za ?_ _)); refine blk_far ?_ NB757_781.out _; (with_reducible repeat (first | refine Zn ?_ _ | refine Zd ?_ | refine Za ?_ _)); refine blk_far ?_ NB757_781.out _; (with_reducible repeat (first | refine Zn ?_ _ | refine Zd ?_ | refine Za ?_ _)); exact BK757.out) hb); have n4_ := Zm (blk_below (g := gb781) (o := .cells #[.int .i64 t770, .int .i64 t771, .int .i64 t772, .int .i64 t773, .int .i64 t774, .int .i64 t775, .int .i64 t776, .int .i64 t777, .int .i64 t778] 27 (0, 0)) (by (with_reducible repeat (first | refine Zn ?_ _ | refine Zd ?_ | refine Za ?_ _)); refine blk_put (cs := #[.int .i64 t770, .int .i64 t771, .int .i64 t772, .int .i64 t773, .int .i64 t774, .int .i64 t775, .int .i64 t776, .int .i64 t777, .int .i64 0]) ?_ 8 _ rfl; (with_reducible repeat (first | refine Zn ?_ _ | refine Zd ?_ | refine Za ?_ _)); refine blk_put (cs := #[.int .i64 t770, .int .i64 t771, .int .i64 t772, .int .i64 t773, .int .i64 t774, .int .i64 t775, .int .i64 t776, .int .i64 0, .int .i64 0]) ?_ 7 _ rfl; (with_reducible repeat (first | refine Zn ?_ _ | refine Zd ?_ | refine Za ?_ _)); refine blk_put (cs := #[.int .i64 t770, .int .i64 t771, .int .i64 t772, .int .i64 t773, .int .i64 t774, .int .i64 t775, .int .i64 0, .int .i64 0, .int .i64 0]) ?_ 6 _ rfl; (with_reducible repeat (first | refine Zn ?_ _ | refine Zd ?_ | refine Za ?_ _)); refine blk_put (cs := #[.int .i64 t770, .int .i64 t771, .int .i64 t772, .int .i64 t773, .int .i64 t774, .int .i64 0, .int .i64 0, .int .i64 0, .int .i64 0]) ?_ 5 _ rfl; (with_reducible repeat (first | refine Zn ?_ _ | refine Zd ?_ | refine Za ?_ _)); refine blk_put (cs := #[.int .i64 t770, .int .i64 t771, .int .i64 t772, .int .i64 t773, .int .i64 0, .int .i64 0, .int .i64 0, .int .i64 0, .int .i64 0]) ?_ 4 _ rfl; (with_reducible repeat (first | refine Zn ?_ _ | refine Zd ?_ | refine Za ?_ _)); refine blk_put (cs := #[.int .i64 t770, .int .i64 t771, .int .i64 t772, .int .i64 0, .int .i64 0, .int .i64 0, .int .i64 0, .int .i64 0, .int .i64 0]) ?_ 3 _ rfl; (with_reducible repeat (first | refine Zn ?_ _ | refine Zd ?_ | refine Za ?_ _)); refine blk_put (cs := #[.int .i64 t770, .int .i64 t771, .int .i64 0, .int .i64 0, .int .i64 0, .int .i64 0, .int .i64 0, .int .i64 0, .int .i64 0]) ?_ 2 _ rfl; (with_reducible repeat (first | refine Zn ?_ _ | refine Zd ?_ | refine Za ?_ _)); refine blk_put (cs := #[.int .i64 t770, .int .i64 0, .int .i64 0, .int .i64 0, .int .i64 0, .int .i64 0, .int .i64 0, .int .i64 0, .int .i64 0]) ?_ 1 _ rfl; (with_reducible repeat (first | refine Zn ?_ _ | refine Zd ?_ | refine Za ?_ _)); refine blk_put (cs := #[.int .i64 0, .int .i64 0, .int .i64 0, .int .i64 0, .int .i64 0, .int .i64 0, .int .i64 0, .int .i64 0, .int .i64 0]) ?_ 0 _ rfl; (with_reducible repeat (first | refine Zn ?_ _ | refine Zd ?_ | refine Za ?_ _)); exact BK781.out) hb); have n5_ := Zm (below_step (by repeat (first | (with_reducible first | exact HB.out | apply Zl | apply Zp | apply Ze | refine Zs ?_ GE732.out | refine Zs ?_ GE757.out | refine Zs ?_ GE781.out) | exact HB.out)) hb); clear HO745; clear HO760; clear BK732; clear BK757; clear BK781; clear HB; have HO745 := n0_; have HO760 := n1_; have BK732 := n2_; have BK757 := n3_; have BK781 := n4_; have HB := n5_; clear n0_ n1_ n2_ n3_ n4_ n5_; (try clear hb); (try clear hb2); (try clear hk); (try clear hi)))
     go_meet
     case rel => exact ⟨_, ((t780 != t756)), (by first | rfl | (simp; done) | (simp [*]; done)), H', ⟨by first | omega | exact Nat.le_refl _⟩, ⟨by (with_reducible repeat (first | apply Kd.R_alloc | apply Kd.R_drewN | apply Kd.R_drew)); exact Kd.R_mono HO760.out (fun _ hk => trivial)⟩, ⟨by (with_reducible repeat (first | refine Zn ?_ _ | refine Zd ?_ | refine Za ?_ _)); exact BK732.out⟩, ⟨by (with_reducible repeat (first | refine Zn ?_ _ | refine Zd ?_ | refine Za ?_ _)); exact BK757.out⟩, ⟨by (with_reducible repeat (first | refine Zn ?_ _ | refine Zd ?_ | refine Za ?_ _)); exact BK781.out⟩, ⟨by repeat (first | (with_reducible first | exact HB.out | apply Zl | apply Zp | apply Ze | refine Zs ?_ GE732.out | refine Zs ?_ GE757.out | refine Zs ?_ GE781.out) | exact HB.out)⟩⟩
    ·rw [if_neg c33] at H
     have c33b0 : (t779 == t755) = false := beq_eq_false_iff_ne.mpr c33
     have c33b1 : (t779 != t755) = true := bne_iff_ne.mpr c33
     (first | rw [c33b0] | (simp only [i64_w, i32_w]; rw [c33b0]) | skip)
     have H' := Zm H
     clear H
     have hnb40 := NB781_732.out
     have hnc40 := NB732_781.out
     have hnb41 := NB781_757.out
     have hnc41 := NB757_781.out
     have hcz42_0 : w27.cell? ⟨gb781, 0, none⟩ = some (.int .i64 0) := (Zc BK781.out 0).trans rfl
     have hcz42_1 : w27.cell? ⟨gb781, 1, none⟩ = some (.int .i64 0) := (Zc BK781.out 1).trans rfl
     have hcz42_2 : w27.cell? ⟨gb781, 2, none⟩ = some (.int .i64 0) := (Zc BK781.out 2).trans rfl
     have hcz42_3 : w27.cell? ⟨gb781, 3, none⟩ = some (.int .i64 0) := (Zc BK781.out 3).trans rfl
     have hcz42_4 : w27.cell? ⟨gb781, 4, none⟩ = some (.int .i64 0) := (Zc BK781.out 4).trans rfl
     have hcz42_5 : w27.cell? ⟨gb781, 5, none⟩ = some (.int .i64 0) := (Zc BK781.out 5).trans rfl
     have hcz42_6 : w27.cell? ⟨gb781, 6, none⟩ = some (.int .i64 0) := (Zc BK781.out 6).trans rfl
     have hcz42_7 : w27.cell? ⟨gb781, 7, none⟩ = some (.int .i64 0) := (Zc BK781.out 7).trans rfl
     have hcz42_8 : w27.cell? ⟨gb781, 8, none⟩ = some (.int .i64 0) := (Zc BK781.out 8).trans rfl
     have hfz42_0 := Zf BK781.out 0
     have hfz42_1 := Zf BK781.out 1
     have hfz42_2 := Zf BK781.out 2
     have hfz42_3 := Zf BK781.out 3
     have hfz42_4 := Zf BK781.out 4
     have hfz42_5 := Zf BK781.out 5
     have hfz42_6 := Zf BK781.out 6
     have hfz42_7 := Zf BK781.out 7
     have hfz42_8 := Zf BK781.out 8
     have hnb43 := NB757_732.out
     have hnc43 := NB732_757.out
     have hcz44_0 : w27.cell? ⟨gb757, 0, none⟩ = some (.int .i64 t746) := (Zc BK757.out 0).trans rfl
     have hcz44_1 : w27.cell? ⟨gb757, 1, none⟩ = some (.int .i64 t747) := (Zc BK757.out 1).trans rfl
     have hcz44_2 : w27.cell? ⟨gb757, 2, none⟩ = some (.int .i64 t748) := (Zc BK757.out 2).trans rfl
     have hcz44_3 : w27.cell? ⟨gb757, 3, none⟩ = some (.int .i64 t749) := (Zc BK757.out 3).trans rfl
     have hcz44_4 : w27.cell? ⟨gb757, 4, none⟩ = some (.int .i64 t750) := (Zc BK757.out 4).trans rfl
     have hcz44_5 : w27.cell? ⟨gb757, 5, none⟩ = some (.int .i64 t751) := (Zc BK757.out 5).trans rfl
     have hcz44_6 : w27.cell? ⟨gb757, 6, none⟩ = some (.int .i64 t752) := (Zc BK757.out 6).trans rfl
     have hcz44_7 : w27.cell? ⟨gb757, 7, none⟩ = some (.int .i64 t753) := (Zc BK757.out 7).trans rfl
     have hcz44_8 : w27.cell? ⟨gb757, 8, none⟩ = some (.int .i64 t754) := (Zc BK757.out 8).trans rfl
     have hfz44_0 := Zf BK757.out 0
     have hfz44_1 := Zf BK757.out 1
     have hfz44_2 := Zf BK757.out 2
     have hfz44_3 := Zf BK757.out 3
     have hfz44_4 := Zf BK757.out 4
     have hfz44_5 := Zf BK757.out 5
     have hfz44_6 := Zf BK757.out 6
     have hfz44_7 := Zf BK757.out 7
     have hfz44_8 := Zf BK757.out 8
     go_wp2_with (first | ((with_reducible refine gate_callee (f := 35) rfl ?_); refine goesL_ (some 39) rfl rfl Try.func35 (by kernel_rfl) rfl #[.agg #[.int .i64 t770, .int .i64 t771, .int .i64 t772, .int .i64 t773, .int .i64 t774, .int .i64 t775, .int .i64 t776, .int .i64 t777, .int .i64 t778], .agg #[.int .i64 t746, .int .i64 t747, .int .i64 t748, .int .i64 t749, .int .i64 t750, .int .i64 t751, .int .i64 t752, .int .i64 t753, .int .i64 t754]] rfl (by (try simp only [List.map_toArray, List.map_cons, List.map_nil]); first | done | rfl | (simp only [List.length_drop, List.length_take]; rfl)) ?_; (with_reducible refine (laws_eqMachine.calls t770 t771 t772 t773 t774 t775 t776 t777 t778 t746 t747 t748 t749 t750 t751 t752 t753 t754 true _ A31.out).mono ?_); rintro e w45 ⟨rfl, hb⟩; refine ⟨_, rfl, ?_⟩; have n0_ := Zm (Kd.R_below (by (with_reducible repeat (first | apply Kd.R_alloc | apply Kd.R_drewN | apply Kd.R_drew)); exact (Kd.R_mono (Kd.R_far (p := ⟨gb781, 8, none⟩) (Kd.R_far (p := ⟨gb781, 7, none⟩) (Kd.R_far (p := ⟨gb781, 6, none⟩) (Kd.R_far (p := ⟨gb781, 5, none⟩) (Kd.R_far (p := ⟨gb781, 4, none⟩) (Kd.R_far (p := ⟨gb781, 3, none⟩) (Kd.R_far (p := ⟨gb781, 2, none⟩) (Kd.R_far (p := ⟨gb781, 1, none⟩) (Kd.R_far (p := ⟨gb781, 0, none⟩) (Kd.R_types HO745.out BK781.out (by decide)) (fun _ hk => hk.2) (.int .i64 t770)) (fun _ hk => hk.2) (.int .i64 t771)) (fun _ hk => hk.2) (.int .i64 t772)) (fun _ hk => hk.2) (.int .i64 t773)) (fun _ hk => hk.2) (.int .i64 t774)) (fun _ hk => hk.2) (.int .i64 t775)) (fun _ hk => hk.2) (.int .i64 t776)) (fun _ hk => hk.2) (.int .i64 t777)) (fun _ hk => hk.2) (.int .i64 t778)) (fun _ h_ => h_.1))) hb); have n1_ := Zm (Kd.R_below (by (with_reducible repeat (first | apply Kd.R_alloc | apply Kd.R_drewN | apply Kd.R_drew)); exact (Kd.R_mono (Kd.R_far (p := ⟨gb781, 8, none⟩) (Kd.R_far (p := ⟨gb781, 7, none⟩) (Kd.R_far (p := ⟨gb781, 6, none⟩) (Kd.R_far (p := ⟨gb781, 5, none⟩) (Kd.R_far (p := ⟨gb781, 4, none⟩) (Kd.R_far (p := ⟨gb781, 3, none⟩) (Kd.R_far (p := ⟨gb781, 2, none⟩) (Kd.R_far (p := ⟨gb781, 1, none⟩) (Kd.R_far (p := ⟨gb781, 0, none⟩) (Kd.R_types HO760.out BK781.out (by decide)) (fun _ hk => hk.2) (.int .i64 t770)) (fun _ hk => hk.2) (.int .i64 t771)) (fun _ hk => hk.2) (.int .i64 t772)) (fun _ hk => hk.2) (.int .i64 t773)) (fun _ hk => hk.2) (.int .i64 t774)) (fun _ hk => hk.2) (.int .i64 t775)) (fun _ hk => hk.2) (.int .i64 t776)) (fun _ hk => hk.2) (.int .i64 t777)) (fun _ hk => hk.2) (.int .i64 t778)) (fun _ h_ => h_.1))) hb); have n2_ := Zm (blk_below (g := gb732) (o := .cells #[.int .i64 a0_0, .int .i64 a0_1, .int .i64 a0_2, .int .i64 a0_3, .int .i64 a0_4, .int .i64 a0_5, .int .i64 a0_6, .int .i64 a0_7, .int .i64 a0_8] 39 (0, 0)) (by (with_reducible repeat (first | refine Zn ?_ _ | refine Zd ?_ | refine Za ?_ _)); refine blk_far ?_ NB732_781.out _; (with_reducible repeat (first | refine Zn ?_ _ | refine Zd ?_ | refine Za ?_ _)); refine blk_far ?_ NB732_781.out _; (with_reducible repeat (first | refine Zn ?_ _ | refine Zd ?_ | refine Za ?_ _)); refine blk_far ?_ NB732_781.out _; (with_reducible repeat (first | refine Zn ?_ _ | refine Zd ?_ | refine Za ?_ _)); refine blk_far ?_ NB732_781.out _; (with_reducible repeat (first | refine Zn ?_ _ | refine Zd ?_ | refine Za ?_ _)); refine blk_far ?_ NB732_781.out _; (with_reducible repeat (first | refine Zn ?_ _ | refine Zd ?_ | refine Za ?_ _)); refine blk_far ?_ NB732_781.out _; (with_reducible repeat (first | refine Zn ?_ _ | refine Zd ?_ | refine Za ?_ _)); refine blk_far ?_ NB732_781.out _; (with_reducible repeat (first | refine Zn ?_ _ | refine Zd ?_ | refine Za ?_ _)); refine blk_far ?_ NB732_781.out _; (with_reducible repeat (first | refine Zn ?_ _ | refine Zd ?_ | refine Za ?_ _)); refine blk_far ?_ NB732_781.out _; (with_reducible repeat (first | refine Zn ?_ _ | refine Zd ?_ | refine Za ?_ _)); exact BK732.out) hb); have n3_ := Zm (blk_below (g := gb757) (o := .cells #[.int .i64 t746, .int .i64 t747, .int .i64 t748, .int .i64 t749, .int .i64 t750, .int .i64 t751, .int .i64 t752, .int .i64 t753, .int .i64 t754] 27 (0, 0)) (by (with_reducible repeat (first | refine Zn ?_ _ | refine Zd ?_ | refine Za ?_ _)); refine blk_far ?_ NB757_781.out _; (with_reducible repeat (first | refine Zn ?_ _ | refine Zd ?_ | refine Za ?_ _)); refine blk_far ?_ NB757_781.out _; (with_reducible repeat (first | refine Zn ?_ _ | refine Zd ?_ | refine Za ?_ _)); refine blk_far ?_ NB757_781.out _; (with_reducible repeat (first | refine Zn ?_ _ | refine Zd ?_ | refine Za ?_ _)); refine blk_far ?_ NB757_781.out _; (with_reducible repeat (first | refine Zn ?_ _ | refine Zd ?_ | refine Za ?_ _)); refine blk_far ?_ NB757_781.out _; (with_reducible repeat (first | refine Zn ?_ _ | refine Zd ?_ | refine Za ?_ _)); refine blk_far ?_ NB757_781.out _; (with_reducible repeat (first | refine Zn ?_ _ | refine Zd ?_ | refine Za ?_ _)); refine blk_far ?_ NB757_781.out _; (with_reducible repeat (first | refine Zn ?_ _ | refine Zd ?_ | refine Za ?_ _)); refine blk_far ?_ NB757_781.out _; (with_reducible repeat (first | refine Zn ?_ _ | refine Zd ?_ | refine Za ?_ _)); refine blk_far ?_ NB757_781.out _; (with_reducible repeat (first | refine Zn ?_ _ | refine Zd ?_ | refine Za ?_ _)); exact BK757.out) hb); have n4_ := Zm (blk_below (g := gb781) (o := .cells #[.int .i64 t770, .int .i64 t771, .int .i64 t772, .int .i64 t773, .int .i64 t774, .int .i64 t775, .int .i64 t776, .int .i64 t777, .int .i64 t778] 27 (0, 0)) (by (with_reducible repeat (first | refine Zn ?_ _ | refine Zd ?_ | refine Za ?_ _)); refine blk_put (cs := #[.int .i64 t770, .int .i64 t771, .int .i64 t772, .int .i64 t773, .int .i64 t774, .int .i64 t775, .int .i64 t776, .int .i64 t777, .int .i64 0]) ?_ 8 _ rfl; (with_reducible repeat (first | refine Zn ?_ _ | refine Zd ?_ | refine Za ?_ _)); refine blk_put (cs := #[.int .i64 t770, .int .i64 t771, .int .i64 t772, .int .i64 t773, .int .i64 t774, .int .i64 t775, .int .i64 t776, .int .i64 0, .int .i64 0]) ?_ 7 _ rfl; (with_reducible repeat (first | refine Zn ?_ _ | refine Zd ?_ | refine Za ?_ _)); refine blk_put (cs := #[.int .i64 t770, .int .i64 t771, .int .i64 t772, .int .i64 t773, .int .i64 t774, .int .i64 t775, .int .i64 0, .int .i64 0, .int .i64 0]) ?_ 6 _ rfl; (with_reducible repeat (first | refine Zn ?_ _ | refine Zd ?_ | refine Za ?_ _)); refine blk_put (cs := #[.int .i64 t770, .int .i64 t771, .int .i64 t772, .int .i64 t773, .int .i64 t774, .int .i64 0, .int .i64 0, .int .i64 0, .int .i64 0]) ?_ 5 _ rfl; (with_reducible repeat (first | refine Zn ?_ _ | refine Zd ?_ | refine Za ?_ _)); refine blk_put (cs := #[.int .i64 t770, .int .i64 t771, .int .i64 t772, .int .i64 t773, .int .i64 0, .int .i64 0, .int .i64 0, .int .i64 0, .int .i64 0]) ?_ 4 _ rfl; (with_reducible repeat (first | refine Zn ?_ _ | refine Zd ?_ | refine Za ?_ _)); refine blk_put (cs := #[.int .i64 t770, .int .i64 t771, .int .i64 t772, .int .i64 0, .int .i64 0, .int .i64 0, .int .i64 0, .int .i64 0, .int .i64 0]) ?_ 3 _ rfl; (with_reducible repeat (first | refine Zn ?_ _ | refine Zd ?_ | refine Za ?_ _)); refine blk_put (cs := #[.int .i64 t770, .int .i64 t771, .int .i64 0, .int .i64 0, .int .i64 0, .int .i64 0, .int .i64 0, .int .i64 0, .int .i64 0]) ?_ 2 _ rfl; (with_reducible repeat (first | refine Zn ?_ _ | refine Zd ?_ | refine Za ?_ _)); refine blk_put (cs := #[.int .i64 t770, .int .i64 0, .int .i64 0, .int .i64 0, .int .i64 0, .int .i64 0, .int .i64 0, .int .i64 0, .int .i64 0]) ?_ 1 _ rfl; (with_reducible repeat (first | refine Zn ?_ _ | refine Zd ?_ | refine Za ?_ _)); refine blk_put (cs := #[.int .i64 0, .int .i64 0, .int .i64 0, .int .i64 0, .int .i64 0, .int .i64 0, .int .i64 0, .int .i64 0, .int .i64 0]) ?_ 0 _ rfl; (with_reducible repeat (first | refine Zn ?_ _ | refine Zd ?_ | refine Za ?_ _)); exact BK781.out) hb); have n5_ := Zm (below_step (by repeat (first | (with_reducible first | exact HB.out | apply Zl | apply Zp | apply Ze | refine Zs ?_ GE732.out | refine Zs ?_ GE757.out | refine Zs ?_ GE781.out) | exact HB.out)) hb); clear HO745; clear HO760; clear BK732; clear BK757; clear BK781; clear HB; have HO745 := n0_; have HO760 := n1_; have BK732 := n2_; have BK757 := n3_; have BK781 := n4_; have HB := n5_; clear n0_ n1_ n2_ n3_ n4_ n5_; (try clear hb); (try clear hb2); (try clear hk); (try clear hi)))
     go_meet
     case rel => exact ⟨_, (true), (by first | rfl | (simp; done) | (simp [*]; done)), H', ⟨by first | omega | exact Nat.le_refl _⟩, ⟨by (with_reducible repeat (first | apply Kd.R_alloc | apply Kd.R_drewN | apply Kd.R_drew)); exact Kd.R_mono HO760.out (fun _ hk => trivial)⟩, ⟨by (with_reducible repeat (first | refine Zn ?_ _ | refine Zd ?_ | refine Za ?_ _)); exact BK732.out⟩, ⟨by (with_reducible repeat (first | refine Zn ?_ _ | refine Zd ?_ | refine Za ?_ _)); exact BK757.out⟩, ⟨by (with_reducible repeat (first | refine Zn ?_ _ | refine Zd ?_ | refine Za ?_ _)); exact BK781.out⟩, ⟨by repeat (first | (with_reducible first | exact HB.out | apply Zl | apply Zp | apply Ze | refine Zs ?_ GE732.out | refine Zs ?_ GE757.out | refine Zs ?_ GE781.out) | exact HB.out)⟩⟩
   ·replace c32 := Bool.eq_false_iff.mpr c32
    subst c32
    have H1 : (laws_FnExactDoCycles.j0 k l1 t758 true) = some r := by rw [if_neg (show ¬ (false = true) by decide)] at H; exact H
    clear H
    have H := H1
    clear H1
    have H' := Zm H
    clear H
    have hnb46 := NB781_732.out
    have hnc46 := NB732_781.out
    have hnb47 := NB781_757.out
    have hnc47 := NB757_781.out
    have hcz48_0 : w27.cell? ⟨gb781, 0, none⟩ = some (.int .i64 0) := (Zc BK781.out 0).trans rfl
    have hcz48_1 : w27.cell? ⟨gb781, 1, none⟩ = some (.int .i64 0) := (Zc BK781.out 1).trans rfl
    have hcz48_2 : w27.cell? ⟨gb781, 2, none⟩ = some (.int .i64 0) := (Zc BK781.out 2).trans rfl
    have hcz48_3 : w27.cell? ⟨gb781, 3, none⟩ = some (.int .i64 0) := (Zc BK781.out 3).trans rfl
    have hcz48_4 : w27.cell? ⟨gb781, 4, none⟩ = some (.int .i64 0) := (Zc BK781.out 4).trans rfl
    have hcz48_5 : w27.cell? ⟨gb781, 5, none⟩ = some (.int .i64 0) := (Zc BK781.out 5).trans rfl
    have hcz48_6 : w27.cell? ⟨gb781, 6, none⟩ = some (.int .i64 0) := (Zc BK781.out 6).trans rfl
    have hcz48_7 : w27.cell? ⟨gb781, 7, none⟩ = some (.int .i64 0) := (Zc BK781.out 7).trans rfl
    have hcz48_8 : w27.cell? ⟨gb781, 8, none⟩ = some (.int .i64 0) := (Zc BK781.out 8).trans rfl
    have hfz48_0 := Zf BK781.out 0
    have hfz48_1 := Zf BK781.out 1
    have hfz48_2 := Zf BK781.out 2
    have hfz48_3 := Zf BK781.out 3
    have hfz48_4 := Zf BK781.out 4
    have hfz48_5 := Zf BK781.out 5
    have hfz48_6 := Zf BK781.out 6
    have hfz48_7 := Zf BK781.out 7
    have hfz48_8 := Zf BK781.out 8
    have hnb49 := NB757_732.out
    have hnc49 := NB732_757.out
    have hcz50_0 : w27.cell? ⟨gb757, 0, none⟩ = some (.int .i64 t746) := (Zc BK757.out 0).trans rfl
    have hcz50_1 : w27.cell? ⟨gb757, 1, none⟩ = some (.int .i64 t747) := (Zc BK757.out 1).trans rfl
    have hcz50_2 : w27.cell? ⟨gb757, 2, none⟩ = some (.int .i64 t748) := (Zc BK757.out 2).trans rfl
    have hcz50_3 : w27.cell? ⟨gb757, 3, none⟩ = some (.int .i64 t749) := (Zc BK757.out 3).trans rfl
    have hcz50_4 : w27.cell? ⟨gb757, 4, none⟩ = some (.int .i64 t750) := (Zc BK757.out 4).trans rfl
    have hcz50_5 : w27.cell? ⟨gb757, 5, none⟩ = some (.int .i64 t751) := (Zc BK757.out 5).trans rfl
    have hcz50_6 : w27.cell? ⟨gb757, 6, none⟩ = some (.int .i64 t752) := (Zc BK757.out 6).trans rfl
    have hcz50_7 : w27.cell? ⟨gb757, 7, none⟩ = some (.int .i64 t753) := (Zc BK757.out 7).trans rfl
    have hcz50_8 : w27.cell? ⟨gb757, 8, none⟩ = some (.int .i64 t754) := (Zc BK757.out 8).trans rfl
    have hfz50_0 := Zf BK757.out 0
    have hfz50_1 := Zf BK757.out 1
    have hfz50_2 := Zf BK757.out 2
    have hfz50_3 := Zf BK757.out 3
    have hfz50_4 := Zf BK757.out 4
    have hfz50_5 := Zf BK757.out 5
    have hfz50_6 := Zf BK757.out 6
    have hfz50_7 := Zf BK757.out 7
    have hfz50_8 := Zf BK757.out 8
    go_wp2_with (first | ((with_reducible refine gate_callee (f := 35) rfl ?_); refine goesL_ (some 39) rfl rfl Try.func35 (by kernel_rfl) rfl #[.agg #[.int .i64 t770, .int .i64 t771, .int .i64 t772, .int .i64 t773, .int .i64 t774, .int .i64 t775, .int .i64 t776, .int .i64 t777, .int .i64 t778], .agg #[.int .i64 t746, .int .i64 t747, .int .i64 t748, .int .i64 t749, .int .i64 t750, .int .i64 t751, .int .i64 t752, .int .i64 t753, .int .i64 t754]] rfl (by (try simp only [List.map_toArray, List.map_cons, List.map_nil]); first | done | rfl | (simp only [List.length_drop, List.length_take]; rfl)) ?_; (with_reducible refine (laws_eqMachine.calls t770 t771 t772 t773 t774 t775 t776 t777 t778 t746 t747 t748 t749 t750 t751 t752 t753 t754 false _ A31.out).mono ?_); rintro e w51 ⟨rfl, hb⟩; refine ⟨_, rfl, ?_⟩; have n0_ := Zm (Kd.R_below (by (with_reducible repeat (first | apply Kd.R_alloc | apply Kd.R_drewN | apply Kd.R_drew)); exact (Kd.R_mono (Kd.R_far (p := ⟨gb781, 8, none⟩) (Kd.R_far (p := ⟨gb781, 7, none⟩) (Kd.R_far (p := ⟨gb781, 6, none⟩) (Kd.R_far (p := ⟨gb781, 5, none⟩) (Kd.R_far (p := ⟨gb781, 4, none⟩) (Kd.R_far (p := ⟨gb781, 3, none⟩) (Kd.R_far (p := ⟨gb781, 2, none⟩) (Kd.R_far (p := ⟨gb781, 1, none⟩) (Kd.R_far (p := ⟨gb781, 0, none⟩) (Kd.R_types HO745.out BK781.out (by decide)) (fun _ hk => hk.2) (.int .i64 t770)) (fun _ hk => hk.2) (.int .i64 t771)) (fun _ hk => hk.2) (.int .i64 t772)) (fun _ hk => hk.2) (.int .i64 t773)) (fun _ hk => hk.2) (.int .i64 t774)) (fun _ hk => hk.2) (.int .i64 t775)) (fun _ hk => hk.2) (.int .i64 t776)) (fun _ hk => hk.2) (.int .i64 t777)) (fun _ hk => hk.2) (.int .i64 t778)) (fun _ h_ => h_.1))) hb); have n1_ := Zm (Kd.R_below (by (with_reducible repeat (first | apply Kd.R_alloc | apply Kd.R_drewN | apply Kd.R_drew)); exact (Kd.R_mono (Kd.R_far (p := ⟨gb781, 8, none⟩) (Kd.R_far (p := ⟨gb781, 7, none⟩) (Kd.R_far (p := ⟨gb781, 6, none⟩) (Kd.R_far (p := ⟨gb781, 5, none⟩) (Kd.R_far (p := ⟨gb781, 4, none⟩) (Kd.R_far (p := ⟨gb781, 3, none⟩) (Kd.R_far (p := ⟨gb781, 2, none⟩) (Kd.R_far (p := ⟨gb781, 1, none⟩) (Kd.R_far (p := ⟨gb781, 0, none⟩) (Kd.R_types HO760.out BK781.out (by decide)) (fun _ hk => hk.2) (.int .i64 t770)) (fun _ hk => hk.2) (.int .i64 t771)) (fun _ hk => hk.2) (.int .i64 t772)) (fun _ hk => hk.2) (.int .i64 t773)) (fun _ hk => hk.2) (.int .i64 t774)) (fun _ hk => hk.2) (.int .i64 t775)) (fun _ hk => hk.2) (.int .i64 t776)) (fun _ hk => hk.2) (.int .i64 t777)) (fun _ hk => hk.2) (.int .i64 t778)) (fun _ h_ => h_.1))) hb); have n2_ := Zm (blk_below (g := gb732) (o := .cells #[.int .i64 a0_0, .int .i64 a0_1, .int .i64 a0_2, .int .i64 a0_3, .int .i64 a0_4, .int .i64 a0_5, .int .i64 a0_6, .int .i64 a0_7, .int .i64 a0_8] 39 (0, 0)) (by (with_reducible repeat (first | refine Zn ?_ _ | refine Zd ?_ | refine Za ?_ _)); refine blk_far ?_ NB732_781.out _; (with_reducible repeat (first | refine Zn ?_ _ | refine Zd ?_ | refine Za ?_ _)); refine blk_far ?_ NB732_781.out _; (with_reducible repeat (first | refine Zn ?_ _ | refine Zd ?_ | refine Za ?_ _)); refine blk_far ?_ NB732_781.out _; (with_reducible repeat (first | refine Zn ?_ _ | refine Zd ?_ | refine Za ?_ _)); refine blk_far ?_ NB732_781.out _; (with_reducible repeat (first | refine Zn ?_ _ | refine Zd ?_ | refine Za ?_ _)); refine blk_far ?_ NB732_781.out _; (with_reducible repeat (first | refine Zn ?_ _ | refine Zd ?_ | refine Za ?_ _)); refine blk_far ?_ NB732_781.out _; (with_reducible repeat (first | refine Zn ?_ _ | refine Zd ?_ | refine Za ?_ _)); refine blk_far ?_ NB732_781.out _; (with_reducible repeat (first | refine Zn ?_ _ | refine Zd ?_ | refine Za ?_ _)); refine blk_far ?_ NB732_781.out _; (with_reducible repeat (first | refine Zn ?_ _ | refine Zd ?_ | refine Za ?_ _)); refine blk_far ?_ NB732_781.out _; (with_reducible repeat (first | refine Zn ?_ _ | refine Zd ?_ | refine Za ?_ _)); exact BK732.out) hb); have n3_ := Zm (blk_below (g := gb757) (o := .cells #[.int .i64 t746, .int .i64 t747, .int .i64 t748, .int .i64 t749, .int .i64 t750, .int .i64 t751, .int .i64 t752, .int .i64 t753, .int .i64 t754] 27 (0, 0)) (by (with_reducible repeat (first | refine Zn ?_ _ | refine Zd ?_ | refine Za ?_ _)); refine blk_far ?_ NB757_781.out _; (with_reducible repeat (first | refine Zn ?_ _ | refine Zd ?_ | refine Za ?_ _)); refine blk_far ?_ NB757_781.out _; (with_reducible repeat (first | refine Zn ?_ _ | refine Zd ?_ | refine Za ?_ _)); refine blk_far ?_ NB757_781.out _; (with_reducible repeat (first | refine Zn ?_ _ | refine Zd ?_ | refine Za ?_ _)); refine blk_far ?_ NB757_781.out _; (with_reducible repeat (first | refine Zn ?_ _ | refine Zd ?_ | refine Za ?_ _)); refine blk_far ?_ NB757_781.out _; (with_reducible repeat (first | refine Zn ?_ _ | refine Zd ?_ | refine Za ?_ _)); refine blk_far ?_ NB757_781.out _; (with_reducible repeat (first | refine Zn ?_ _ | refine Zd ?_ | refine Za ?_ _)); refine blk_far ?_ NB757_781.out _; (with_reducible repeat (first | refine Zn ?_ _ | refine Zd ?_ | refine Za ?_ _)); refine blk_far ?_ NB757_781.out _; (with_reducible repeat (first | refine Zn ?_ _ | refine Zd ?_ | refine Za ?_ _)); refine blk_far ?_ NB757_781.out _; (with_reducible repeat (first | refine Zn ?_ _ | refine Zd ?_ | refine Za ?_ _)); exact BK757.out) hb); have n4_ := Zm (blk_below (g := gb781) (o := .cells #[.int .i64 t770, .int .i64 t771, .int .i64 t772, .int .i64 t773, .int .i64 t774, .int .i64 t775, .int .i64 t776, .int .i64 t777, .int .i64 t778] 27 (0, 0)) (by (with_reducible repeat (first | refine Zn ?_ _ | refine Zd ?_ | refine Za ?_ _)); refine blk_put (cs := #[.int .i64 t770, .int .i64 t771, .int .i64 t772, .int .i64 t773, .int .i64 t774, .int .i64 t775, .int .i64 t776, .int .i64 t777, .int .i64 0]) ?_ 8 _ rfl; (with_reducible repeat (first | refine Zn ?_ _ | refine Zd ?_ | refine Za ?_ _)); refine blk_put (cs := #[.int .i64 t770, .int .i64 t771, .int .i64 t772, .int .i64 t773, .int .i64 t774, .int .i64 t775, .int .i64 t776, .int .i64 0, .int .i64 0]) ?_ 7 _ rfl; (with_reducible repeat (first | refine Zn ?_ _ | refine Zd ?_ | refine Za ?_ _)); refine blk_put (cs := #[.int .i64 t770, .int .i64 t771, .int .i64 t772, .int .i64 t773, .int .i64 t774, .int .i64 t775, .int .i64 0, .int .i64 0, .int .i64 0]) ?_ 6 _ rfl; (with_reducible repeat (first | refine Zn ?_ _ | refine Zd ?_ | refine Za ?_ _)); refine blk_put (cs := #[.int .i64 t770, .int .i64 t771, .int .i64 t772, .int .i64 t773, .int .i64 t774, .int .i64 0, .int .i64 0, .int .i64 0, .int .i64 0]) ?_ 5 _ rfl; (with_reducible repeat (first | refine Zn ?_ _ | refine Zd ?_ | refine Za ?_ _)); refine blk_put (cs := #[.int .i64 t770, .int .i64 t771, .int .i64 t772, .int .i64 t773, .int .i64 0, .int .i64 0, .int .i64 0, .int .i64 0, .int .i64 0]) ?_ 4 _ rfl; (with_reducible repeat (first | refine Zn ?_ _ | refine Zd ?_ | refine Za ?_ _)); refine blk_put (cs := #[.int .i64 t770, .int .i64 t771, .int .i64 t772, .int .i64 0, .int .i64 0, .int .i64 0, .int .i64 0, .int .i64 0, .int .i64 0]) ?_ 3 _ rfl; (with_reducible repeat (first | refine Zn ?_ _ | refine Zd ?_ | refine Za ?_ _)); refine blk_put (cs := #[.int .i64 t770, .int .i64 t771, .int .i64 0, .int .i64 0, .int .i64 0, .int .i64 0, .int .i64 0, .int .i64 0, .int .i64 0]) ?_ 2 _ rfl; (with_reducible repeat (first | refine Zn ?_ _ | refine Zd ?_ | refine Za ?_ _)); refine blk_put (cs := #[.int .i64 t770, .int .i64 0, .int .i64 0, .int .i64 0, .int .i64 0, .int .i64 0, .int .i64 0, .int .i64 0, .int .i64 0]) ?_ 1 _ rfl; (with_reducible repeat (first | refine Zn ?_ _ | refine Zd ?_ | refine Za ?_ _)); refine blk_put (cs := #[.int .i64 0, .int .i64 0, .int .i64 0, .int .i64 0, .int .i64 0, .int .i64 0, .int .i64 0, .int .i64 0, .int .i64 0]) ?_ 0 _ rfl; (with_reducible repeat (first | refine Zn ?_ _ | refine Zd ?_ | refine Za ?_ _)); exact BK781.out) hb); have n5_ := Zm (below_step (by repeat (first | (with_reducible first | exact HB.out | apply Zl | apply Zp | apply Ze | refine Zs ?_ GE732.out | refine Zs ?_ GE757.out | refine Zs ?_ GE781.out) | exact HB.out)) hb); clear HO745; clear HO760; clear BK732; clear BK757; clear BK781; clear HB; have HO745 := n0_; have HO760 := n1_; have BK732 := n2_; have BK757 := n3_; have BK781 := n4_; have HB := n5_; clear n0_ n1_ n2_ n3_ n4_ n5_; (try clear hb); (try clear hb2); (try clear hk); (try clear hi)))
    go_meet
    case rel => exact ⟨_, (true), (by first | rfl | (simp; done) | (simp [*]; done)), H', ⟨by first | omega | exact Nat.le_refl _⟩, ⟨by (with_reducible repeat (first | apply Kd.R_alloc | apply Kd.R_drewN | apply Kd.R_drew)); exact Kd.R_mono HO760.out (fun _ hk => trivial)⟩, ⟨by (with_reducible repeat (first | refine Zn ?_ _ | refine Zd ?_ | refine Za ?_ _)); exact BK732.out⟩, ⟨by (with_reducible repeat (first | refine Zn ?_ _ | refine Zd ?_ | refine Za ?_ _)); exact BK757.out⟩, ⟨by (with_reducible repeat (first | refine Zn ?_ _ | refine Zd ?_ | refine Za ?_ _)); exact BK781.out⟩, ⟨by repeat (first | (with_reducible first | exact HB.out | apply Zl | apply Zp | apply Ze | refine Zs ?_ GE732.out | refine Zs ?_ GE757.out | refine Zs ?_ GE781.out) | exact HB.out)⟩⟩
  case rest =>
   clear HC12
   try clear c1
   try clear c2
   try clear p2
   try clear c3
   try clear c4
   try clear c4b0
   try clear c8
   try clear c18
   try clear c20
   try clear c26
   try clear c28
   try clear c29
   try clear c32
   try clear c33
   try clear c33b0
   try clear c33b1
   try clear c34
   try clear c35
   try clear c37
   try clear c40
   try clear c41
   try clear c43
   try clear c46
   try clear c47
   try clear c49
   try clear hcz14_0
   try clear hcz14_1
   try clear hcz14_2
   try clear hcz14_3
   try clear hcz14_4
   try clear hcz14_5
   try clear hcz14_6
   try clear hcz14_7
   try clear hcz14_8
   try clear hcz21_0
   try clear hcz21_1
   try clear hcz21_2
   try clear hcz21_3
   try clear hcz21_4
   try clear hcz21_5
   try clear hcz21_6
   try clear hcz21_7
   try clear hcz21_8
   try clear hcz23_0
   try clear hcz23_1
   try clear hcz23_2
   try clear hcz23_3
   try clear hcz23_4
   try clear hcz23_5
   try clear hcz23_6
   try clear hcz23_7
   try clear hcz23_8
   try clear hcz30_0
   try clear hcz30_1
   try clear hcz30_2
   try clear hcz30_3
   try clear hcz30_4
   try clear hcz30_5
   try clear hcz30_6
   try clear hcz30_7
   try clear hcz30_8
   try clear hcz36_0
   try clear hcz36_1
   try clear hcz36_2
   try clear hcz36_3
   try clear hcz36_4
   try clear hcz36_5
   try clear hcz36_6
   try clear hcz36_7
   try clear hcz36_8
   try clear hcz38_0
   try clear hcz38_1
   try clear hcz38_2
   try clear hcz38_3
   try clear hcz38_4
   try clear hcz38_5
   try clear hcz38_6
   try clear hcz38_7
   try clear hcz38_8
   try clear hcz42_0
   try clear hcz42_1
   try clear hcz42_2
   try clear hcz42_3
   try clear hcz42_4
   try clear hcz42_5
   try clear hcz42_6
   try clear hcz42_7
   try clear hcz42_8
   try clear hcz44_0
   try clear hcz44_1
   try clear hcz44_2
   try clear hcz44_3
   try clear hcz44_4
   try clear hcz44_5
   try clear hcz44_6
   try clear hcz44_7
   try clear hcz44_8
   try clear hcz48_0
   try clear hcz48_1
   try clear hcz48_2
   try clear hcz48_3
   try clear hcz48_4
   try clear hcz48_5
   try clear hcz48_6
   try clear hcz48_7
   try clear hcz48_8
   try clear hcz50_0
   try clear hcz50_1
   try clear hcz50_2
   try clear hcz50_3
   try clear hcz50_4
   try clear hcz50_5
   try clear hcz50_6
   try clear hcz50_7
   try clear hcz50_8
   try clear hfz14_0
   try clear hfz14_1
   try clear hfz14_2
   try clear hfz14_3
   try clear hfz14_4
   try clear hfz14_5
   try clear hfz14_6
   try clear hfz14_7
   try clear hfz14_8
   try clear hfz21_0
   try clear hfz21_1
   try clear hfz21_2
   try clear hfz21_3
   try clear hfz21_4
   try clear hfz21_5
   try clear hfz21_6
   try clear hfz21_7
   try clear hfz21_8
   try clear hfz23_0
   try clear hfz23_1
   try clear hfz23_2
   try clear hfz23_3
   try clear hfz23_4
   try clear hfz23_5
   try clear hfz23_6
   try clear hfz23_7
   try clear hfz23_8
   try clear hfz30_0
   try clear hfz30_1
   try clear hfz30_2
   try clear hfz30_3
   try clear hfz30_4
   try clear hfz30_5
   try clear hfz30_6
   try clear hfz30_7
   try clear hfz30_8
   try clear hfz36_0
   try clear hfz36_1
   try clear hfz36_2
   try clear hfz36_3
   try clear hfz36_4
   try clear hfz36_5
   try clear hfz36_6
   try clear hfz36_7
   try clear hfz36_8
   try clear hfz38_0
   try clear hfz38_1
   try clear hfz38_2
   try clear hfz38_3
   try clear hfz38_4
   try clear hfz38_5
   try clear hfz38_6
   try clear hfz38_7
   try clear hfz38_8
   try clear hfz42_0
   try clear hfz42_1
   try clear hfz42_2
   try clear hfz42_3
   try clear hfz42_4
   try clear hfz42_5
   try clear hfz42_6
   try clear hfz42_7
   try clear hfz42_8
   try clear hfz44_0
   try clear hfz44_1
   try clear hfz44_2
   try clear hfz44_3
   try clear hfz44_4
   try clear hfz44_5
   try clear hfz44_6
   try clear hfz44_7
   try clear hfz44_8
   try clear hfz48_0
   try clear hfz48_1
   try clear hfz48_2
   try clear hfz48_3
   try clear hfz48_4
   try clear hfz48_5
   try clear hfz48_6
   try clear hfz48_7
   try clear hfz48_8
   try clear hfz50_0
   try clear hfz50_1
   try clear hfz50_2
   try clear hfz50_3
   try clear hfz50_4
   try clear hfz50_5
   try clear hfz50_6
   try clear hfz50_7
   try clear hfz50_8
   obtain ⟨kq, x50_11, rfl, HA, HJ11, HO_9, BK732, BK757, BK781, HB⟩ := hcut
   cases kq with
   | zero => exact absurd HA.out (by simp [laws_FnExactDoCycles.j0])
   | succ kj11 =>
    have H := HA.out
    clear HA
    simp only [laws_FnExactDoCycles.j0] at H
    by_cases c52 : x50_11 = true
    ·subst c52
     have H1 : (some false) = some r := by rw [if_pos rfl] at H; exact H
     clear H
     have H := H1
     clear H1
     obtain rfl := Option.some.inj H
     go_wp2
     go_ret
     exact ⟨by first | rfl | (simp [errW_none, errW_some] <;> rfl) | (simp [*, errW_none, errW_some] <;> rfl), by repeat (first | (with_reducible first | exact HB.out | apply Zl | apply Zp | apply Ze | refine Zs ?_ GE732.out | refine Zs ?_ GE757.out | refine Zs ?_ GE781.out) | exact HB.out)⟩
    ·replace c52 := Bool.eq_false_iff.mpr c52
     subst c52
     have H1 : ((laws_toCycleS.f kj11 l1).bind fun t783 => ((laws_eqCycleS.f kj11 t758 t783).bind fun t786 => (if t786 = true then (some true) else (some false)))) = some r := by rw [if_neg (show ¬ (false = true) by decide)] at H; exact H
     clear H
     have H := H1
     clear H1
     replace H := Option.bind_eq_some_iff.mp H
     obtain ⟨t783, A530, H⟩ := H
     replace H : ((laws_eqCycleS.f kj11 t758 t783).bind fun t786 => (if t786 = true then (some true) else (some false))) = some r := H
     have A53 := Zm A530
     clear A530
     replace H := Option.bind_eq_some_iff.mp H
     obtain ⟨t786, A540, H⟩ := H
     replace H : (if t786 = true then (some true) else (some false)) = some r := H
     have A54 := Zm A540
     clear A540
     by_cases c55 : t786 = true
     ·subst c55
      have H1 : (some true) = some r := by rw [if_pos rfl] at H; exact H
      clear H
      have H := H1
      clear H1
      obtain rfl := Option.some.inj H
      go_wp2_with (first | ((with_reducible refine gate_callee (f := 34) rfl ?_); refine goesL_ (some 53) rfl rfl Try.func34 (by kernel_rfl) rfl #[.slice A1 l1.length c1] rfl (by (try simp only [List.map_toArray, List.map_cons, List.map_nil]); first | done | rfl | (simp only [List.length_drop, List.length_take]; rfl)) ?_; (with_reducible refine (laws_toCycleS.calls kj11 _ _ l1 t783 _ ?side1 ?side2 A53.out).mono ?_); (case side1 => repeat (first | exact (Kd.C_below HR1.out HB.out) | (with_reducible refine Kd.C_alloc ?_ _) | (with_reducible refine Kd.C_drewN ?_ _) | (with_reducible refine Kd.C_drew ?_))); (case side2 => exact HC1.out); rintro e w56 ⟨v784, rfl, ho0, hb⟩; refine ⟨_, rfl, ?_⟩; have n0_ := Zm (Kd.R_elder' (by (with_reducible repeat (first | apply Kd.R_alloc | apply Kd.R_drewN | apply Kd.R_drew)); exact HO_9.out) (Kd.R_base ho0) hb); have n1_ := Zm (Kd.R_lower (Kd.R_new' ho0 (Kd.R_lt (by (with_reducible repeat (first | apply Kd.R_alloc | apply Kd.R_drewN | apply Kd.R_drew)); exact HO_9.out))) (below_size (by repeat (first | (with_reducible first | exact HB.out | apply Zl | apply Zp | apply Ze | refine Zs ?_ GE732.out | refine Zs ?_ GE757.out | refine Zs ?_ GE781.out) | exact HB.out)))); have n2_ := Zm (blk_below (g := gb732) (o := .cells #[.int .i64 a0_0, .int .i64 a0_1, .int .i64 a0_2, .int .i64 a0_3, .int .i64 a0_4, .int .i64 a0_5, .int .i64 a0_6, .int .i64 a0_7, .int .i64 a0_8] 39 (0, 0)) (by (with_reducible repeat (first | refine Zn ?_ _ | refine Zd ?_ | refine Za ?_ _)); exact BK732.out) hb); have n3_ := Zm (blk_below (g := gb757) (o := .cells #[.int .i64 t746, .int .i64 t747, .int .i64 t748, .int .i64 t749, .int .i64 t750, .int .i64 t751, .int .i64 t752, .int .i64 t753, .int .i64 t754] 27 (0, 0)) (by (with_reducible repeat (first | refine Zn ?_ _ | refine Zd ?_ | refine Za ?_ _)); exact BK757.out) hb); have n4_ := Zm (blk_below (g := gb781) (o := .cells #[.int .i64 t770, .int .i64 t771, .int .i64 t772, .int .i64 t773, .int .i64 t774, .int .i64 t775, .int .i64 t776, .int .i64 t777, .int .i64 t778] 27 (0, 0)) (by (with_reducible repeat (first | refine Zn ?_ _ | refine Zd ?_ | refine Za ?_ _)); exact BK781.out) hb); have n5_ := Zm (below_step (by repeat (first | (with_reducible first | exact HB.out | apply Zl | apply Zp | apply Ze | refine Zs ?_ GE732.out | refine Zs ?_ GE757.out | refine Zs ?_ GE781.out) | exact HB.out)) hb); clear HO_9; clear BK732; clear BK757; clear BK781; clear HB; have HO_9 := n0_; have HO785 := n1_; have BK732 := n2_; have BK757 := n3_; have BK781 := n4_; have HB := n5_; clear n0_ n1_ n2_ n3_ n4_ n5_; (try clear hb); (try clear hb2); (try clear hk); (try clear hi); (try clear ho0); obtain ⟨Ao57, co57, eo57⟩ := Kd.R_slice HO785.out; subst eo57) | ((with_reducible refine gate_callee (f := 36) rfl ?_); refine goesL_ (some 54) rfl rfl Try.func36 (by kernel_rfl) rfl #[.slice Ao25 t758.length co25, .slice Ao57 t783.length co57] rfl (by (try simp only [List.map_toArray, List.map_cons, List.map_nil]); first | done | rfl | (simp only [List.length_drop, List.length_take]; rfl)) ?_; (with_reducible refine (laws_eqCycleS.calls kj11 _ _ t758 _ _ t783 true _ ?side1 ?side2 ?side3 ?side4 A54.out).mono ?_); (case side1 => repeat (first | exact (Kd.R_reads' HO_9.out).2.2 | (with_reducible refine Kd.C_alloc ?_ _) | (with_reducible refine Kd.C_drewN ?_ _) | (with_reducible refine Kd.C_drew ?_))); (case side2 => exact (Kd.R_reads' HO_9.out).2.1); (case side3 => repeat (first | exact (Kd.R_reads' HO785.out).2.2 | (with_reducible refine Kd.C_alloc ?_ _) | (with_reducible refine Kd.C_drewN ?_ _) | (with_reducible refine Kd.C_drew ?_))); (case side4 => exact (Kd.R_reads' HO785.out).2.1); rintro e w58 ⟨rfl, hb⟩; refine ⟨_, rfl, ?_⟩; have n0_ := Zm (Kd.R_below (by (with_reducible repeat (first | apply Kd.R_alloc | apply Kd.R_drewN | apply Kd.R_drew)); exact HO_9.out) hb); have n1_ := Zm (Kd.R_below (by (with_reducible repeat (first | apply Kd.R_alloc | apply Kd.R_drewN | apply Kd.R_drew)); exact HO785.out) hb); have n2_ := Zm (blk_below (g := gb732) (o := .cells #[.int .i64 a0_0, .int .i64 a0_1, .int .i64 a0_2, .int .i64 a0_3, .int .i64 a0_4, .int .i64 a0_5, .int .i64 a0_6, .int .i64 a0_7, .int .i64 a0_8] 39 (0, 0)) (by (with_reducible repeat (first | refine Zn ?_ _ | refine Zd ?_ | refine Za ?_ _)); exact BK732.out) hb); have n3_ := Zm (blk_below (g := gb757) (o := .cells #[.int .i64 t746, .int .i64 t747, .int .i64 t748, .int .i64 t749, .int .i64 t750, .int .i64 t751, .int .i64 t752, .int .i64 t753, .int .i64 t754] 27 (0, 0)) (by (with_reducible repeat (first | refine Zn ?_ _ | refine Zd ?_ | refine Za ?_ _)); exact BK757.out) hb); have n4_ := Zm (blk_below (g := gb781) (o := .cells #[.int .i64 t770, .int .i64 t771, .int .i64 t772, .int .i64 t773, .int .i64 t774, .int .i64 t775, .int .i64 t776, .int .i64 t777, .int .i64 t778] 27 (0, 0)) (by (with_reducible repeat (first | refine Zn ?_ _ | refine Zd ?_ | refine Za ?_ _)); exact BK781.out) hb); have n5_ := Zm (below_step (by repeat (first | (with_reducible first | exact HB.out | apply Zl | apply Zp | apply Ze | refine Zs ?_ GE732.out | refine Zs ?_ GE757.out | refine Zs ?_ GE781.out) | exact HB.out)) hb); clear HO_9; clear HO785; clear BK732; clear BK757; clear BK781; clear HB; have HO_9 := n0_; have HO785 := n1_; have BK732 := n2_; have BK757 := n3_; have BK781 := n4_; have HB := n5_; clear n0_ n1_ n2_ n3_ n4_ n5_; (try clear hb); (try clear hb2); (try clear hk); (try clear hi)))
      go_ret
      exact ⟨by first | rfl | (simp [errW_none, errW_some] <;> rfl) | (simp [*, errW_none, errW_some] <;> rfl), by repeat (first | (with_reducible first | exact HB.out | apply Zl | apply Zp | apply Ze | refine Zs ?_ GE732.out | refine Zs ?_ GE757.out | refine Zs ?_ GE781.out) | exact HB.out)⟩
     ·replace c55 := Bool.eq_false_iff.mpr c55
      subst c55
      have H1 : (some false) = some r := by rw [if_neg (show ¬ (false = true) by decide)] at H; exact H
      clear H
      have H := H1
      clear H1
      obtain rfl := Option.some.inj H
      go_wp2_with (first | ((with_reducible refine gate_callee (f := 34) rfl ?_); refine goesL_ (some 53) rfl rfl Try.func34 (by kernel_rfl) rfl #[.slice A1 l1.length c1] rfl (by (try simp only [List.map_toArray, List.map_cons, List.map_nil]); first | done | rfl | (simp only [List.length_drop, List.length_take]; rfl)) ?_; (with_reducible refine (laws_toCycleS.calls kj11 _ _ l1 t783 _ ?side1 ?side2 A53.out).mono ?_); (case side1 => repeat (first | exact (Kd.C_below HR1.out HB.out) | (with_reducible refine Kd.C_alloc ?_ _) | (with_reducible refine Kd.C_drewN ?_ _) | (with_reducible refine Kd.C_drew ?_))); (case side2 => exact HC1.out); rintro e w59 ⟨v784, rfl, ho0, hb⟩; refine ⟨_, rfl, ?_⟩; have n0_ := Zm (Kd.R_elder' (by (with_reducible repeat (first | apply Kd.R_alloc | apply Kd.R_drewN | apply Kd.R_drew)); exact HO_9.out) (Kd.R_base ho0) hb); have n1_ := Zm (Kd.R_lower (Kd.R_new' ho0 (Kd.R_lt (by (with_reducible repeat (first | apply Kd.R_alloc | apply Kd.R_drewN | apply Kd.R_drew)); exact HO_9.out))) (below_size (by repeat (first | (with_reducible first | exact HB.out | apply Zl | apply Zp | apply Ze | refine Zs ?_ GE732.out | refine Zs ?_ GE757.out | refine Zs ?_ GE781.out) | exact HB.out)))); have n2_ := Zm (blk_below (g := gb732) (o := .cells #[.int .i64 a0_0, .int .i64 a0_1, .int .i64 a0_2, .int .i64 a0_3, .int .i64 a0_4, .int .i64 a0_5, .int .i64 a0_6, .int .i64 a0_7, .int .i64 a0_8] 39 (0, 0)) (by (with_reducible repeat (first | refine Zn ?_ _ | refine Zd ?_ | refine Za ?_ _)); exact BK732.out) hb); have n3_ := Zm (blk_below (g := gb757) (o := .cells #[.int .i64 t746, .int .i64 t747, .int .i64 t748, .int .i64 t749, .int .i64 t750, .int .i64 t751, .int .i64 t752, .int .i64 t753, .int .i64 t754] 27 (0, 0)) (by (with_reducible repeat (first | refine Zn ?_ _ | refine Zd ?_ | refine Za ?_ _)); exact BK757.out) hb); have n4_ := Zm (blk_below (g := gb781) (o := .cells #[.int .i64 t770, .int .i64 t771, .int .i64 t772, .int .i64 t773, .int .i64 t774, .int .i64 t775, .int .i64 t776, .int .i64 t777, .int .i64 t778] 27 (0, 0)) (by (with_reducible repeat (first | refine Zn ?_ _ | refine Zd ?_ | refine Za ?_ _)); exact BK781.out) hb); have n5_ := Zm (below_step (by repeat (first | (with_reducible first | exact HB.out | apply Zl | apply Zp | apply Ze | refine Zs ?_ GE732.out | refine Zs ?_ GE757.out | refine Zs ?_ GE781.out) | exact HB.out)) hb); clear HO_9; clear BK732; clear BK757; clear BK781; clear HB; have HO_9 := n0_; have HO785 := n1_; have BK732 := n2_; have BK757 := n3_; have BK781 := n4_; have HB := n5_; clear n0_ n1_ n2_ n3_ n4_ n5_; (try clear hb); (try clear hb2); (try clear hk); (try clear hi); (try clear ho0); obtain ⟨Ao60, co60, eo60⟩ := Kd.R_slice HO785.out; subst eo60) | ((with_reducible refine gate_callee (f := 36) rfl ?_); refine goesL_ (some 54) rfl rfl Try.func36 (by kernel_rfl) rfl #[.slice Ao25 t758.length co25, .slice Ao60 t783.length co60] rfl (by (try simp only [List.map_toArray, List.map_cons, List.map_nil]); first | done | rfl | (simp only [List.length_drop, List.length_take]; rfl)) ?_; (with_reducible refine (laws_eqCycleS.calls kj11 _ _ t758 _ _ t783 false _ ?side1 ?side2 ?side3 ?side4 A54.out).mono ?_); (case side1 => repeat (first | exact (Kd.R_reads' HO_9.out).2.2 | (with_reducible refine Kd.C_alloc ?_ _) | (with_reducible refine Kd.C_drewN ?_ _) | (with_reducible refine Kd.C_drew ?_))); (case side2 => exact (Kd.R_reads' HO_9.out).2.1); (case side3 => repeat (first | exact (Kd.R_reads' HO785.out).2.2 | (with_reducible refine Kd.C_alloc ?_ _) | (with_reducible refine Kd.C_drewN ?_ _) | (with_reducible refine Kd.C_drew ?_))); (case side4 => exact (Kd.R_reads' HO785.out).2.1); rintro e w61 ⟨rfl, hb⟩; refine ⟨_, rfl, ?_⟩; have n0_ := Zm (Kd.R_below (by (with_reducible repeat (first | apply Kd.R_alloc | apply Kd.R_drewN | apply Kd.R_drew)); exact HO_9.out) hb); have n1_ := Zm (Kd.R_below (by (with_reducible repeat (first | apply Kd.R_alloc | apply Kd.R_drewN | apply Kd.R_drew)); exact HO785.out) hb); have n2_ := Zm (blk_below (g := gb732) (o := .cells #[.int .i64 a0_0, .int .i64 a0_1, .int .i64 a0_2, .int .i64 a0_3, .int .i64 a0_4, .int .i64 a0_5, .int .i64 a0_6, .int .i64 a0_7, .int .i64 a0_8] 39 (0, 0)) (by (with_reducible repeat (first | refine Zn ?_ _ | refine Zd ?_ | refine Za ?_ _)); exact BK732.out) hb); have n3_ := Zm (blk_below (g := gb757) (o := .cells #[.int .i64 t746, .int .i64 t747, .int .i64 t748, .int .i64 t749, .int .i64 t750, .int .i64 t751, .int .i64 t752, .int .i64 t753, .int .i64 t754] 27 (0, 0)) (by (with_reducible repeat (first | refine Zn ?_ _ | refine Zd ?_ | refine Za ?_ _)); exact BK757.out) hb); have n4_ := Zm (blk_below (g := gb781) (o := .cells #[.int .i64 t770, .int .i64 t771, .int .i64 t772, .int .i64 t773, .int .i64 t774, .int .i64 t775, .int .i64 t776, .int .i64 t777, .int .i64 t778] 27 (0, 0)) (by (with_reducible repeat (first | refine Zn ?_ _ | refine Zd ?_ | refine Za ?_ _)); exact BK781.out) hb); have n5_ := Zm (below_step (by repeat (first | (with_reducible first | exact HB.out | apply Zl | apply Zp | apply Ze | refine Zs ?_ GE732.out | refine Zs ?_ GE757.out | refine Zs ?_ GE781.out) | exact HB.out)) hb); clear HO_9; clear HO785; clear BK732; clear BK757; clear BK781; clear HB; have HO_9 := n0_; have HO785 := n1_; have BK732 := n2_; have BK757 := n3_; have BK781 := n4_; have HB := n5_; clear n0_ n1_ n2_ n3_ n4_ n5_; (try clear hb); (try clear hb2); (try clear hk); (try clear hi)))
      go_ret
      exact ⟨by first | rfl | (simp [errW_none, errW_some] <;> rfl) | (simp [*, errW_none, errW_some] <;> rfl), by repeat (first | (with_reducible first | exact HB.out | apply Zl | apply Zp | apply Ze | refine Zs ?_ GE732.out | refine Zs ?_ GE757.out | refine Zs ?_ GE781.out) | exact HB.out)⟩

end Go.Proofs.Ytncdmooobfomeaa.G
