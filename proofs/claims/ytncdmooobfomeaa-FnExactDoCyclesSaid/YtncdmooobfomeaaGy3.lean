-- laid by wip/tools/regroup.py: printed functions, grouped by the laws that need them. Lean checks it.
import Derived.Test.YtncdmooobfomeaaGx0
import Derived.Test.YtncdmooobfomeaaGy1
import Derived.Test.YtncdmooobfomeaaGy2
namespace Go.Proofs.Ytncdmooobfomeaa.G
open Go.RowKit Go.Proofs.YtncdmooobfomeaaW.PrintWords Go.Proofs.YtncdmooobfomeaaW.PrintLast Go.Proofs.YtncdmooobfomeaaW.PrintMore
attribute [local go_sem] max2_int min2_int max_two min_two max_three min_three max_four min_four   -- for this text's walks alone
set_option linter.unusedVariables false
set_option linter.unusedSimpArgs false

/-! ### spec_l04Build: function 77 -/
def spec_l04Build.f (k : Nat) (a0_0 : Int) (a0_1 : Int) (a0_2 : Int) (a0_3 : Int) (a0_4 : Int) (a0_5 : Int) (a0_6 : Int) (a0_7 : Int) (a0_8 : Int) (a1_0 : Int) (a1_1 : Int) : Option (Int × Int × Int × Int × Int × Int × Int × Int × Int × Bool) := (spec_l03Is.f a1_0 a1_1).bind fun t308 => (if t308 = true then ((spec_l03Turn.f a1_0 a1_1).bind fun bt309 => ((spec_l02Next.f a0_4 a0_5 a0_6 a0_7 bt309.1 bt309.2).bind fun bt311 => ((spec_l04Is.f k a0_0 a0_1 a0_2 a0_3 bt311.1 bt311.2.1 bt311.2.2.1 bt311.2.2.2 (wrap64 (a0_8 - 1500))).bind fun t316 => (if t316 = true then (some (a0_0, a0_1, a0_2, a0_3, bt311.1, bt311.2.1, bt311.2.2.1, bt311.2.2.2, wrap64 (a0_8 - 1500), true)) else (some (0, 0, 0, 0, 0, 0, 0, 0, 0, false)))))) else (some (0, 0, 0, 0, 0, 0, 0, 0, 0, false)))
theorem spec_l04Build.mono : ∀ a0 a1 a2 a3 a4 a5 a6 a7 a8 a9 a10 k, LeO (spec_l04Build.f k a0 a1 a2 a3 a4 a5 a6 a7 a8 a9 a10) (spec_l04Build.f (k + 1) a0 a1 a2 a3 a4 a5 a6 a7 a8 a9 a10) := by
 intro a0 a1 a2 a3 a4 a5 a6 a7 a8 a9 a10 k
 unfold spec_l04Build.f
 repeat' first
   | (with_reducible exact spec_l04Is.mono _ _ _ _ _ _ _ _ _ _)
   | (with_reducible exact LeO.refl _)
   | (with_reducible exact LeO.none _)
   | (with_reducible refine LeO.ite ?_ ?_)
   | (with_reducible refine LeO.bind ?_ (fun _ => ?_))
   | exact spec_l04Is.mono _ _ _ _ _ _ _ _ _ _
   | exact LeO.none _
   | refine LeO.ite ?_ ?_
   | refine LeO.bind ?_ (fun _ => ?_)
def spec_l04Build.T4 : Bool × List (List Nat × List Nat) := (true, [([], []), ([0], [0]), ([1], [1]), ([2], [2]), ([], []), ([4], [4]), ([5], [5]), ([6], [6]), ([], []), ([], []), ([7, 8, 9], [7, 8, 9]), ([], []), ([11], [11]), ([12], [12]), ([13], [13]), ([14], [14]), ([3, 10, 15], [3, 10, 15]), ([], []), ([17, 16, 10, 0, 1, 2, 3, 4, 5, 6, 7, 8, 9, 10, 11, 12, 13, 14, 15, 16, 17], [16, 17])])
def spec_l04Build.B4 : List Nat := [0, 1, 3, 7, 0, 16, 48, 112, 0, 0, 1008, 0, 2048, 6144, 14336, 30720, 65535, 0, 262143]
theorem spec_l04Build.tab4 : rtab .any (opsOf Try.f77 4) = spec_l04Build.T4 := by kernel_rfl
theorem spec_l04Build.bits4 : waitsOk spec_l04Build.T4.2 spec_l04Build.B4 = true := by kernel_rfl
set_option maxHeartbeats 8000000 in
set_option maxRecDepth 100000 in
theorem spec_l04Build.calls (k : Nat) (gp0 : Nat) (a0_0 : Int) (a0_1 : Int) (a0_2 : Int) (a0_3 : Int) (a0_4 : Int) (a0_5 : Int) (a0_6 : Int) (a0_7 : Int) (a0_8 : Int) (a1_0 : Int) (a1_1 : Int) (r1 : Int) (r2 : Int) (r3 : Int) (r4 : Int) (r5 : Int) (r6 : Int) (r7 : Int) (r8 : Int) (r9 : Int) (r10 : Bool) (w : World) (hbx0 : w.heap[gp0]? = some (.cells #[.int .i64 a0_0, .int .i64 a0_1, .int .i64 a0_2, .int .i64 a0_3, .int .i64 a0_4, .int .i64 a0_5, .int .i64 a0_6, .int .i64 a0_7, .int .i64 a0_8] 27 (0, 0))) (h : spec_l04Build.f k a0_0 a0_1 a0_2 a0_3 a0_4 a0_5 a0_6 a0_7 a0_8 a1_0 a1_1 = some (r1, r2, r3, r4, r5, r6, r7, r8, r9, r10)) :
  Calls Try.prog 77 #[.pointer (some ⟨gp0, 0, none⟩), .agg #[.int .i64 a1_0, .int .i64 a1_1]] w fun e w' => e = .returned (.tuple #[.agg #[.int .i64 r1, .int .i64 r2, .int .i64 r3, .int .i64 r4, .int .i64 r5, .int .i64 r6, .int .i64 r7, .int .i64 r8, .int .i64 r9], .bool r10]) ∧ Below w.heap.size w w' := by
 have hu47 := Try.underlying47
 have hu27 := Try.underlying27
 have hu25 := Try.underlying25
 have BK0 := Zm hbx0
 clear hbx0
 have HB := Zm (Below.refl w.heap.size w)
 have H : ((spec_l03Is.f a1_0 a1_1).bind fun t308 => (if t308 = true then ((spec_l03Turn.f a1_0 a1_1).bind fun bt309 => ((spec_l02Next.f a0_4 a0_5 a0_6 a0_7 bt309.1 bt309.2).bind fun bt311 => ((spec_l04Is.f k a0_0 a0_1 a0_2 a0_3 bt311.1 bt311.2.1 bt311.2.2.1 bt311.2.2.2 (wrap64 (a0_8 - 1500))).bind fun t316 => (if t316 = true then (some (a0_0, a0_1, a0_2, a0_3, bt311.1, bt311.2.1, bt311.2.2.1, bt311.2.2.2, wrap64 (a0_8 - 1500), true)) else (some (0, 0, 0, 0, 0, 0, 0, 0, 0, false)))))) else (some (0, 0, 0, 0, 0, 0, 0, 0, 0, false)))) = some (r1, r2, r3, r4, r5, r6, r7, r8, r9, r10) := h
 clear h
 replace H := Option.bind_eq_some_iff.mp H
 obtain ⟨t308, A30, H⟩ := H
 replace H : (if t308 = true then ((spec_l03Turn.f a1_0 a1_1).bind fun bt309 => ((spec_l02Next.f a0_4 a0_5 a0_6 a0_7 bt309.1 bt309.2).bind fun bt311 => ((spec_l04Is.f k a0_0 a0_1 a0_2 a0_3 bt311.1 bt311.2.1 bt311.2.2.1 bt311.2.2.2 (wrap64 (a0_8 - 1500))).bind fun t316 => (if t316 = true then (some (a0_0, a0_1, a0_2, a0_3, bt311.1, bt311.2.1, bt311.2.2.1, bt311.2.2.2, wrap64 (a0_8 - 1500), true)) else (some (0, 0, 0, 0, 0, 0, 0, 0, 0, false)))))) else (some (0, 0, 0, 0, 0, 0, 0, 0, 0, false))) = some (r1, r2, r3, r4, r5, r6, r7, r8, r9, r10) := H
 have A3 := Zm A30
 clear A30
 by_cases c4 : t308 = true
 ·subst c4
  have H1 : ((spec_l03Turn.f a1_0 a1_1).bind fun bt309 => ((spec_l02Next.f a0_4 a0_5 a0_6 a0_7 bt309.1 bt309.2).bind fun bt311 => ((spec_l04Is.f k a0_0 a0_1 a0_2 a0_3 bt311.1 bt311.2.1 bt311.2.2.1 bt311.2.2.2 (wrap64 (a0_8 - 1500))).bind fun t316 => (if t316 = true then (some (a0_0, a0_1, a0_2, a0_3, bt311.1, bt311.2.1, bt311.2.2.1, bt311.2.2.2, wrap64 (a0_8 - 1500), true)) else (some (0, 0, 0, 0, 0, 0, 0, 0, 0, false)))))) = some (r1, r2, r3, r4, r5, r6, r7, r8, r9, r10) := by rw [if_pos rfl] at H; exact H
  clear H
  have H := H1
  clear H1
  replace H := Option.bind_eq_some_iff.mp H
  obtain ⟨⟨t309, t310⟩, A50, H⟩ := H
  replace H : ((spec_l02Next.f a0_4 a0_5 a0_6 a0_7 t309 t310).bind fun bt311 => ((spec_l04Is.f k a0_0 a0_1 a0_2 a0_3 bt311.1 bt311.2.1 bt311.2.2.1 bt311.2.2.2 (wrap64 (a0_8 - 1500))).bind fun t316 => (if t316 = true then (some (a0_0, a0_1, a0_2, a0_3, bt311.1, bt311.2.1, bt311.2.2.1, bt311.2.2.2, wrap64 (a0_8 - 1500), true)) else (some (0, 0, 0, 0, 0, 0, 0, 0, 0, false))))) = some (r1, r2, r3, r4, r5, r6, r7, r8, r9, r10) := H
  have A5 := Zm A50
  clear A50
  replace H := Option.bind_eq_some_iff.mp H
  obtain ⟨⟨t311, t312, t313, t314⟩, A60, H⟩ := H
  replace H : ((spec_l04Is.f k a0_0 a0_1 a0_2 a0_3 t311 t312 t313 t314 (wrap64 (a0_8 - 1500))).bind fun t316 => (if t316 = true then (some (a0_0, a0_1, a0_2, a0_3, t311, t312, t313, t314, wrap64 (a0_8 - 1500), true)) else (some (0, 0, 0, 0, 0, 0, 0, 0, 0, false)))) = some (r1, r2, r3, r4, r5, r6, r7, r8, r9, r10) := H
  have A6 := Zm A60
  clear A60
  replace H := Option.bind_eq_some_iff.mp H
  obtain ⟨t316, A70, H⟩ := H
  replace H : (if t316 = true then (some (a0_0, a0_1, a0_2, a0_3, t311, t312, t313, t314, wrap64 (a0_8 - 1500), true)) else (some (0, 0, 0, 0, 0, 0, 0, 0, 0, false))) = some (r1, r2, r3, r4, r5, r6, r7, r8, r9, r10) := H
  have A7 := Zm A70
  clear A70
  by_cases c8 : t316 = true
  ·subst c8
   have H1 : (some (a0_0, a0_1, a0_2, a0_3, t311, t312, t313, t314, wrap64 (a0_8 - 1500), true)) = some (r1, r2, r3, r4, r5, r6, r7, r8, r9, r10) := by rw [if_pos rfl] at H; exact H
   clear H
   have H := H1
   clear H1
   simp only [Option.some.injEq, Prod.mk.injEq] at H
   obtain ⟨rfl, rfl, rfl, rfl, rfl, rfl, rfl, rfl, rfl, rfl⟩ := H
   go_enter Try.func77, Try.ntmps77
   try go_wp2_with (first | ((with_reducible refine gate_dst (N := 3) rfl ?_); refine box_event ?hg (N := 3) ?hd (cs := #[.int .i64 a1_0, .int .i64 a1_1]) (t := 47) ?hr ?_; (case hd => rfl); (case hg => rfl); (case hr => first | (go_simp; done) | (go_simp; rfl)); intro gb306 hg w9 hbox hb; have n0_ := Zm (blk_below (g := gp0) (o := .cells #[.int .i64 a0_0, .int .i64 a0_1, .int .i64 a0_2, .int .i64 a0_3, .int .i64 a0_4, .int .i64 a0_5, .int .i64 a0_6, .int .i64 a0_7, .int .i64 a0_8] 27 (0, 0)) (by (with_reducible repeat (first | refine Zn ?_ _ | refine Zd ?_ | refine Za ?_ _)); exact BK0.out) hb); have n1_ := Zm (below_step (by repeat (first | (with_reducible first | exact HB.out | apply Zl | apply Zp | apply Ze | refine Zs ?_ GE0.out) | exact HB.out)) hb); have n2_ := Zm (hbox); have n3_ := Zm ((by rw [hg]; exact (below_size (by repeat (first | (with_reducible first | exact HB.out | apply Zl | apply Zp | apply Ze | refine Zs ?_ GE0.out) | exact HB.out))) : w.heap.size ≤ gb306)); have n4_ := Zm ((by rw [hg]; exact (below_size (by repeat (first | (with_reducible first | exact HB.out | apply Zl | apply Zp | apply Ze | refine Zs ?_ GE0.out) | exact HB.out))) : w.heap.size ≤ gb306)); have n5_ := Zm ((by rw [hg]; exact Nat.ne_of_lt (blk_lt (g := gp0) (o := .cells #[.int .i64 a0_0, .int .i64 a0_1, .int .i64 a0_2, .int .i64 a0_3, .int .i64 a0_4, .int .i64 a0_5, .int .i64 a0_6, .int .i64 a0_7, .int .i64 a0_8] 27 (0, 0)) (by (with_reducible repeat (first | refine Zn ?_ _ | refine Zd ?_ | refine Za ?_ _)); exact BK0.out)) : gp0 ≠ gb306)); have n6_ := Zm ((by rw [hg]; exact Nat.ne_of_gt (blk_lt (g := gp0) (o := .cells #[.int .i64 a0_0, .int .i64 a0_1, .int .i64 a0_2, .int .i64 a0_3, .int .i64 a0_4, .int .i64 a0_5, .int .i64 a0_6, .int .i64 a0_7, .int .i64 a0_8] 27 (0, 0)) (by (with_reducible repeat (first | refine Zn ?_ _ | refine Zd ?_ | refine Za ?_ _)); exact BK0.out)) : gb306 ≠ gp0)); clear BK0; clear HB; have BK0 := n0_; have HB := n1_; have BK306 := n2_; have GW306 := n3_; have GE306 := n4_; have NB0_306 := n5_; have NB306_0 := n6_; clear n0_ n1_ n2_ n3_ n4_ n5_ n6_; clear hb hbox hg) | ((with_reducible refine gate_dst (N := 4) rfl ?_); refine box_event ?hg (N := 4) ?hd (cs := #[.int .i64 0, .int .i64 0, .int .i64 0, .int .i64 0, .int .i64 0, .int .i64 0, .int .i64 0, .int .i64 0, .int .i64 0]) (t := 27) ?hr ?_; (case hd => rfl); (case hg => rfl); (case hr => first | (go_simp; done) | (go_simp; rfl)); intro gb307 hg w10 hbox hb; have n0_ := Zm (blk_below (g := gp0) (o := .cells #[.int .i64 a0_0, .int .i64 a0_1, .int .i64 a0_2, .int .i64 a0_3, .int .i64 a0_4, .int .i64 a0_5, .int .i64 a0_6, .int .i64 a0_7, .int .i64 a0_8] 27 (0, 0)) (by (with_reducible repeat (first | refine Zn ?_ _ | refine Zd ?_ | refine Za ?_ _)); exact BK0.out) hb); have n1_ := Zm (blk_below (g := gb306) (o := .cells #[.int .i64 a1_0, .int .i64 a1_1] 47 (0, 0)) (by (with_reducible repeat (first | refine Zn ?_ _ | refine Zd ?_ | refine Za ?_ _)); exact BK306.out) hb); have n2_ := Zm (below_step (by repeat (first | (with_reducible first | exact HB.out | apply Zl | apply Zp | apply Ze | refine Zs ?_ GE0.out | refine Zs ?_ GE306.out) | exact HB.out)) hb); have n3_ := Zm (hbox); have n4_ := Zm ((by rw [hg]; exact (below_size (by repeat (first | (with_reducible first | exact HB.out | apply Zl | apply Zp | apply Ze | refine Zs ?_ GE0.out | refine Zs ?_ GE306.out) | exact HB.out))) : w.heap.size ≤ gb307)); have n5_ := Zm ((by rw [hg]; exact (below_size (by repeat (first | (with_reducible first | exact HB.out | apply Zl | apply Zp | apply Ze | refine Zs ?_ GE0.out | refine Zs ?_ GE306.out) | exact HB.out))) : w.heap.size ≤ gb307)); have n6_ := Zm ((by rw [hg]; exact Nat.ne_of_lt (blk_lt (g := gp0) (o := .cells #[.int .i64 a0_0, .int .i64 a0_1, .int .i64 a0_2, .int .i64 a0_3, .int .i64 a0_4, .int .i64 a0_5, .int .i64 a0_6, .int .i64 a0_7, .int .i64 a0_8] 27 (0, 0)) (by (with_reducible repeat (first | refine Zn ?_ _ | refine Zd ?_ | refine Za ?_ _)); exact BK0.out)) : gp0 ≠ gb307)); have n7_ := Zm ((by rw [hg]; exact Nat.ne_of_gt (blk_lt (g := gp0) (o := .cells #[.int .i64 a0_0, .int .i64 a0_1, .int .i64 a0_2, .int .i64 a0_3, .int .i64 a0_4, .int .i64 a0_5, .int .i64 a0_6, .int .i64 a0_7, .int .i64 a0_8] 27 (0, 0)) (by (with_reducible repeat (first | refine Zn ?_ _ | refine Zd ?_ | refine Za ?_ _)); exact BK0.out)) : gb307 ≠ gp0)); have n8_ := Zm ((by rw [hg]; exact Nat.ne_of_lt (blk_lt (g := gb306) (o := .cells #[.int .i64 a1_0, .int .i64 a1_1] 47 (0, 0)) (by (with_reducible repeat (first | refine Zn ?_ _ | refine Zd ?_ | refine Za ?_ _)); exact BK306.out)) : gb306 ≠ gb307)); have n9_ := Zm ((by rw [hg]; exact Nat.ne_of_gt (blk_lt (g := gb306) (o := .cells #[.int .i64 a1_0, .int .i64 a1_1] 47 (0, 0)) (by (with_reducible repeat (first | refine Zn ?_ _ | refine Zd ?_ | refine Za ?_ _)); exact BK306.out)) : gb307 ≠ gb306)); clear BK0; clear BK306; clear HB; have BK0 := n0_; have BK306 := n1_; have HB := n2_; have BK307 := n3_; have GW307 := n4_; have GE307 := n5_; have NB0_307 := n6_; have NB307_0 := n7_; have NB306_307 := n8_; have NB307_306 := n9_; clear n0_ n1_ n2_ n3_ n4_ n5_ n6_ n7_ n8_ n9_; clear hb hbox hg; have hnb11 := NB306_0.out; have hnc11 := NB0_306.out; have hnb12 := NB306_307.out; have hnc12 := NB307_306.out; have hcz13_0 : w10.cell? ⟨gb306, 0, none⟩ = some (.int .i64 a1_0) := (Zc BK306.out 0).trans rfl; have hcz13_1 : w10.cell? ⟨gb306, 1, none⟩ = some (.int .i64 a1_1) := (Zc BK306.out 1).trans rfl; have hfz13_0 := Zf BK306.out 0; have hfz13_1 := Zf BK306.out 1) | ((with_reducible refine gate_callee (f := 84) rfl ?_); refine goesL_ (some 10) rfl rfl Try.func84 (by kernel_rfl) rfl #[.agg #[.int .i64 a1_0, .int .i64 a1_1]] rfl (by (try simp only [List.map_toArray, List.map_cons, List.map_nil]); first | done | rfl | (simp only [List.length_drop, List.length_take]; rfl)) ?_; (with_reducible refine (spec_l03Is.calls a1_0 a1_1 true _ A3.out).mono ?_); rintro e w14 ⟨rfl, hb⟩; refine ⟨_, rfl, ?_⟩; have n0_ := Zm (blk_below (g := gp0) (o := .cells #[.int .i64 a0_0, .int .i64 a0_1, .int .i64 a0_2, .int .i64 a0_3, .int .i64 a0_4, .int .i64 a0_5, .int .i64 a0_6, .int .i64 a0_7, .int .i64 a0_8] 27 (0, 0)) (by (with_reducible repeat (first | refine Zn ?_ _ | refine Zd ?_ | refine Za ?_ _)); exact BK0.out) hb); have n1_ := Zm (blk_below (g := gb306) (o := .cells #[.int .i64 a1_0, .int .i64 a1_1] 47 (0, 0)) (by (with_reducible repeat (first | refine Zn ?_ _ | refine Zd ?_ | refine Za ?_ _)); exact BK306.out) hb); have n2_ := Zm (blk_below (g := gb307) (o := .cells #[.int .i64 0, .int .i64 0, .int .i64 0, .int .i64 0, .int .i64 0, .int .i64 0, .int .i64 0, .int .i64 0, .int .i64 0] 27 (0, 0)) (by (with_reducible repeat (first | refine Zn ?_ _ | refine Zd ?_ | refine Za ?_ _)); exact BK307.out) hb); have n3_ := Zm (below_step (by repeat (first | (with_reducible first | exact HB.out | apply Zl | apply Zp | apply Ze | refine Zs ?_ GE0.out | refine Zs ?_ GE306.out | refine Zs ?_ GE307.out) | exact HB.out)) hb); clear BK0; clear BK306; clear BK307; clear HB; have BK0 := n0_; have BK306 := n1_; have BK307 := n2_; have HB := n3_; clear n0_ n1_ n2_ n3_; (try clear hb); (try clear hb2); (try clear hk); (try clear hi); have hcz15_0 : w14.cell? ⟨gb306, 0, none⟩ = some (.int .i64 a1_0) := (Zc BK306.out 0).trans rfl; have hcz15_1 : w14.cell? ⟨gb306, 1, none⟩ = some (.int .i64 a1_1) := (Zc BK306.out 1).trans rfl; have hfz15_0 := Zf BK306.out 0; have hfz15_1 := Zf BK306.out 1) | ((with_reducible refine gate_callee (f := 85) rfl ?_); refine goesL_ (some 15) rfl rfl Try.func85 (by kernel_rfl) rfl #[.agg #[.int .i64 a1_0, .int .i64 a1_1]] rfl (by (try simp only [List.map_toArray, List.map_cons, List.map_nil]); first | done | rfl | (simp only [List.length_drop, List.length_take]; rfl)) ?_; (with_reducible refine (spec_l03Turn.calls a1_0 a1_1 t309 t310 _ A5.out).mono ?_); rintro e w16 ⟨rfl, hb⟩; refine ⟨_, rfl, ?_⟩; have n0_ := Zm (blk_below (g := gp0) (o := .cells #[.int .i64 a0_0, .int .i64 a0_1, .int .i64 a0_2, .int .i64 a0_3, .int .i64 a0_4, .int .i64 a0_5, .int .i64 a0_6, .int .i64 a0_7, .int .i64 a0_8] 27 (0, 0)) (by (with_reducible repeat (first | refine Zn ?_ _ | refine Zd ?_ | refine Za ?_ _)); exact BK0.out) hb); have n1_ := Zm (blk_below (g := gb306) (o := .cells #[.int .i64 a1_0, .int .i64 a1_1] 47 (0, 0)) (by (with_reducible repeat (first | refine Zn ?_ _ | refine Zd ?_ | refine Za ?_ _)); exact BK306.out) hb); have n2_ := Zm (blk_below (g := gb307) (o := .cells #[.int .i64 0, .int .i64 0, .int .i64 0, .int .i64 0, .int .i64 0, .int .i64 0, .int .i64 0, .int .i64 0, .int .i64 0] 27 (0, 0)) (by (with_reducible repeat (first | refine Zn ?_ _ | refine Zd ?_ | refine Za ?_ _)); exact BK307.out) hb); have n3_ := Zm (below_step (by repeat (first | (with_reducible first | exact HB.out | apply Zl | apply Zp | apply Ze | refine Zs ?_ GE0.out | refine Zs ?_ GE306.out | refine Zs ?_ GE307.out) | exact HB.out)) hb); clear BK0; clear BK306; clear BK307; clear HB; have BK0 := n0_; have BK306 := n1_; have BK307 := n2_; have HB := n3_; clear n0_ n1_ n2_ n3_; (try clear hb); (try clear hb2); (try clear hk); (try clear hi)))
   have n0_ := Zm (Zd BK0.out)
   have n1_ := Zm (Zd BK306.out)
   have n2_ := Zm (Zd BK307.out)
   have n3_ := Zm (Ze HB.out)
   clear BK0
   clear BK306
   clear BK307
   clear HB
   have BK0 := n0_
   have BK306 := n1_
   have BK307 := n2_
   have HB := n3_
   clear n0_ n1_ n2_ n3_
   refine start_ (n := 19) (S := fun w' => w'.cell? ⟨gp0, 0, none⟩ = some (.int .i64 a0_0) ∧ w'.cell? ⟨gp0, 1, none⟩ = some (.int .i64 a0_1) ∧ w'.cell? ⟨gp0, 2, none⟩ = some (.int .i64 a0_2) ∧ w'.cell? ⟨gp0, 3, none⟩ = some (.int .i64 a0_3) ∧ w'.cell? ⟨gp0, 4, none⟩ = some (.int .i64 a0_4) ∧ w'.cell? ⟨gp0, 5, none⟩ = some (.int .i64 a0_5) ∧ w'.cell? ⟨gp0, 6, none⟩ = some (.int .i64 a0_6) ∧ w'.cell? ⟨gp0, 7, none⟩ = some (.int .i64 a0_7) ∧ w'.cell? ⟨gp0, 8, none⟩ = some (.int .i64 a0_8)) (ds := []) #[false, false, false, false, false, false, false, false, false, false, false, false, false, false, false, false, false, false, false] (by kernel_rfl) rfl rfl ⟨(Zc BK0.out 0).trans rfl, (Zc BK0.out 1).trans rfl, (Zc BK0.out 2).trans rfl, (Zc BK0.out 3).trans rfl, (Zc BK0.out 4).trans rfl, (Zc BK0.out 5).trans rfl, (Zc BK0.out 6).trans rfl, (Zc BK0.out 7).trans rfl, (Zc BK0.out 8).trans rfl⟩ (fun hHeld => ?_); refine with_tabW spec_l04Build.tab4 spec_l04Build.bits4 (fun HT_ HW_ => ?_)
   generalize w16.drew = w17 at BK0 BK306 BK307 HB hHeld ⊢
   refine pure_ (i := 0) (N := some 18) (v := ?_) (a' := ?_) #[true, false, false, false, false, false, false, false, false, false, false, false, false, false, false, false, false, false, false] rfl rfl (any_of HT_.out (by kernel_rfl)) (fun _ _ _ h => h) (Or.inl ⟨by rfl, ?_⟩) ?_ ?_
   rotate_left
   ·intro w'
    go_simp
    with_reducible rfl
   rotate_left
   ·simp only [Act.put, List.setIfInBounds_toArray, List.set_cons_zero, List.set_cons_succ, i64_w, i32_w]
    rfl
   refine pure_ (i := 1) (N := some 19) (v := ?_) (a' := ?_) #[true, true, false, false, false, false, false, false, false, false, false, false, false, false, false, false, false, false, false] rfl rfl (any_of HT_.out (by kernel_rfl)) (fun _ _ _ h => h) (Or.inl ⟨by rfl, ?_⟩) ?_ ?_
   rotate_left
   ·intro w'
    go_simp
    with_reducible rfl
   rotate_left
   ·simp only [Act.put, List.setIfInBounds_toArray, List.set_cons_zero, List.set_cons_succ, i64_w, i32_w]
    rfl
   refine pure_ (i := 2) (N := some 20) (v := ?_) (a' := ?_) #[true, true, true, false, false, false, false, false, false, false, false, false, false, false, false, false, false, false, false] rfl rfl (any_of HT_.out (by kernel_rfl)) (fun _ _ _ h => h) (Or.inl ⟨by rfl, ?_⟩) ?_ ?_
   rotate_left
   ·intro w'
    go_simp
    with_reducible rfl
   rotate_left
   ·simp only [Act.put, List.setIfInBounds_toArray, List.set_cons_zero, List.set_cons_succ, i64_w, i32_w]
    rfl
   refine pure_ (i := 4) (N := some 22) (v := ?_) (a' := ?_) #[true, true, true, false, true, false, false, false, false, false, false, false, false, false, false, false, false, false, false] rfl rfl (any_of HT_.out (by kernel_rfl)) (fun _ _ _ h => h) (Or.inl ⟨by rfl, ?_⟩) ?_ ?_
   rotate_left
   ·intro w'
    go_simp
    with_reducible rfl
   rotate_left
   ·simp only [Act.put, List.setIfInBounds_toArray, List.set_cons_zero, List.set_cons_succ, i64_w, i32_w]
    rfl
   refine pure_ (i := 5) (N := some 23) (v := ?_) (a' := ?_) #[true, true, true, false, true, true, false, false, false, false, false, false, false, false, false, false, false, false, false] rfl rfl (any_of HT_.out (by kernel_rfl)) (fun _ _ _ h => h) (Or.inl ⟨by rfl, ?_⟩) ?_ ?_
   rotate_left
   ·intro w'
    go_simp
    with_reducible rfl
   rotate_left
   ·simp only [Act.put, List.setIfInBounds_toArray, List.set_cons_zero, List.set_cons_succ, i64_w, i32_w]
    rfl
   refine pure_ (i := 6) (N := some 24) (v := ?_) (a' := ?_) #[true, true, true, false, true, true, true, false, false, false, false, false, false, false, false, false, false, false, false] rfl rfl (any_of HT_.out (by kernel_rfl)) (fun _ _ _ h => h) (Or.inl ⟨by rfl, ?_⟩) ?_ ?_
   rotate_left
   ·intro w'
    go_simp
    with_reducible rfl
   rotate_left
   ·simp only [Act.put, List.setIfInBounds_toArray, List.set_cons_zero, List.set_cons_succ, i64_w, i32_w]
    rfl
   refine pure_ (i := 8) (N := some 26) (v := ?_) (a' := ?_) #[true, true, true, false, true, true, true, false, true, false, false, false, false, false, false, false, false, false, false] rfl rfl (any_of HT_.out (by kernel_rfl)) (fun _ _ _ h => h) (Or.inl ⟨by rfl, ?_⟩) ?_ ?_
   rotate_left
   ·intro w'
    go_simp
    with_reducible rfl
   rotate_left
   ·simp only [Act.put, List.setIfInBounds_toArray, List.set_cons_zero, List.set_cons_succ, i64_w, i32_w]
    rfl
   refine pure_ (i := 9) (N := some 27) (v := ?_) (a' := ?_) #[true, true, true, false, true, true, true, false, true, true, false, false, false, false, false, false, false, false, false] rfl rfl (any_of HT_.out (by kernel_rfl)) (fun _ _ _ h => h) (Or.inl ⟨by rfl, ?_⟩) ?_ ?_
   rotate_left
   ·intro w'
    go_simp
    with_reducible rfl
   rotate_left
   ·simp only [Act.put, List.setIfInBounds_toArray, List.set_cons_zero, List.set_cons_succ, i64_w, i32_w]
    rfl
   refine pure_ (i := 11) (N := some 29) (v := ?_) (a' := ?_) #[true, true, true, false, true, true, true, false, true, true, false, true, false, false, false, false, false, false, false] rfl rfl (any_of HT_.out (by kernel_rfl)) (fun _ _ _ h => h) (Or.inl ⟨by rfl, ?_⟩) ?_ ?_
   rotate_left
   ·intro w'
    go_simp
    with_reducible rfl
   rotate_left
   ·simp only [Act.put, List.setIfInBounds_toArray, List.set_cons_zero, List.set_cons_succ, i64_w, i32_w]
    rfl
   refine pure_ (i := 12) (N := some 30) (v := ?_) (a' := ?_) #[true, true, true, false, true, true, true, false, true, true, false, true, true, false, false, false, false, false, false] rfl rfl (any_of HT_.out (by kernel_rfl)) (fun _ _ _ h => h) (Or.inl ⟨by rfl, ?_⟩) ?_ ?_
   rotate_left
   ·intro w'
    go_simp
    with_reducible rfl
   rotate_left
   ·simp only [Act.put, List.setIfInBounds_toArray, List.set_cons_zero, List.set_cons_succ, i64_w, i32_w]
    rfl
   refine pure_ (i := 13) (N := some 31) (v := ?_) (a' := ?_) #[true, true, true, false, true, true, true, false, true, true, false, true, true, true, false, false, false, false, false] rfl rfl (any_of HT_.out (by kernel_rfl)) (fun _ _ _ h => h) (Or.inl ⟨by rfl, ?_⟩) ?_ ?_
   rotate_left
   ·intro w'
    go_simp
    with_reducible rfl
   rotate_left
   ·simp only [Act.put, List.setIfInBounds_toArray, List.set_cons_zero, List.set_cons_succ, i64_w, i32_w]
    rfl
   refine take_ (i := 3) (N := some 21) (v := ?_) (a' := ?_) #[true, true, true, true, true, true, true, false, true, true, false, true, true, true, false, false, false, false, false] rfl rfl (take_ofW HT_.out HW_.out (by kernel_rfl)) (fun _ _ _ h => h) (Or.inl ⟨by rfl, ?_⟩) hHeld ?_ ?_
   rotate_left
   ·rintro w' ⟨s0, s1, s2, s3, s4, s5, s6, s7, s8⟩
    go_simp
    with_reducible rfl
   rotate_left
   ·simp only [Act.put, List.setIfInBounds_toArray, List.set_cons_zero, List.set_cons_succ, i64_w, i32_w]
    rfl
   refine take_ (i := 7) (N := some 25) (v := ?_) (a' := ?_) #[true, true, true, true, true, true, true, true, true, true, false, true, true, true, false, false, false, false, false] rfl rfl (take_ofW HT_.out HW_.out (by kernel_rfl)) (fun _ _ _ h => h) (Or.inl ⟨by rfl, ?_⟩) hHeld ?_ ?_
   rotate_left
   ·rintro w' ⟨s0, s1, s2, s3, s4, s5, s6, s7, s8⟩
    go_simp
    with_reducible rfl
   rotate_left
   ·simp only [Act.put, List.setIfInBounds_toArray, List.set_cons_zero, List.set_cons_succ, i64_w, i32_w]
    rfl
   refine take_ (i := 14) (N := some 32) (v := ?_) (a' := ?_) #[true, true, true, true, true, true, true, true, true, true, false, true, true, true, true, false, false, false, false] rfl rfl (take_ofW HT_.out HW_.out (by kernel_rfl)) (fun _ _ _ h => h) (Or.inl ⟨by rfl, ?_⟩) hHeld ?_ ?_
   rotate_left
   ·rintro w' ⟨s0, s1, s2, s3, s4, s5, s6, s7, s8⟩
    go_simp
    with_reducible rfl
   rotate_left
   ·simp only [Act.put, List.setIfInBounds_toArray, List.set_cons_zero, List.set_cons_succ, i64_w, i32_w]
    rfl
   refine pure_ (i := 15) (N := some 33) (v := ?_) (a' := ?_) #[true, true, true, true, true, true, true, true, true, true, false, true, true, true, true, true, false, false, false] rfl rfl (any_of HT_.out (by kernel_rfl)) (fun _ _ _ h => h) (Or.inl ⟨by rfl, ?_⟩) ?_ ?_
   rotate_left
   ·intro w'
    go_simp
    with_reducible rfl
   rotate_left
   ·simp only [Act.put, List.setIfInBounds_toArray, List.set_cons_zero, List.set_cons_succ, i64_w, i32_w]
    rfl
   refine join_ (σ := Nat) 1 #[true, true, true, true, true, true, true, true, true, true, true, true, true, true, true, true, true, true, false] (fun s_ => [(28, .agg #[.int .i64 t311, .int .i64 t312, .int .i64 t313, .int .i64 t314]), (8, .pointer (some ⟨s_, 0, none⟩)), (34, .agg #[.int .i64 a0_0, .int .i64 a0_1, .int .i64 a0_2, .int .i64 a0_3, .int .i64 t311, .int .i64 t312, .int .i64 t313, .int .i64 t314, .int .i64 (wrap64 (a0_8 - 1500))])]) (fun s_ w' => (w'.cell? ⟨gp0, 0, none⟩ = some (.int .i64 a0_0) ∧ w'.cell? ⟨gp0, 1, none⟩ = some (.int .i64 a0_1) ∧ w'.cell? ⟨gp0, 2, none⟩ = some (.int .i64 a0_2) ∧ w'.cell? ⟨gp0, 3, none⟩ = some (.int .i64 a0_3) ∧ w'.cell? ⟨gp0, 4, none⟩ = some (.int .i64 a0_4) ∧ w'.cell? ⟨gp0, 5, none⟩ = some (.int .i64 a0_5) ∧ w'.cell? ⟨gp0, 6, none⟩ = some (.int .i64 a0_6) ∧ w'.cell? ⟨gp0, 7, none⟩ = some (.int .i64 a0_7) ∧ w'.cell? ⟨gp0, 8, none⟩ = some (.int .i64 a0_8)) ∧ (w'.heap[gp0]? = some (.cells #[.int .i64 a0_0, .int .i64 a0_1, .int .i64 a0_2, .int .i64 a0_3, .int .i64 a0_4, .int .i64 a0_5, .int .i64 a0_6, .int .i64 a0_7, .int .i64 a0_8] 27 (0, 0))) ∧ (w'.heap[gb306]? = some (.cells #[.int .i64 a1_0, .int .i64 a1_1] 47 (0, 0))) ∧ (w'.heap[gb307]? = some (.cells #[.int .i64 0, .int .i64 0, .int .i64 0, .int .i64 0, .int .i64 0, .int .i64 0, .int .i64 0, .int .i64 0, .int .i64 0] 27 (0, 0))) ∧ (w'.heap[s_]? = some (.cells #[.int .i64 0, .int .i64 0, .int .i64 0, .int .i64 0, .int .i64 0, .int .i64 0, .int .i64 0, .int .i64 0, .int .i64 0] 27 (0, 0))) ∧ (w.heap.size ≤ s_) ∧ (w.heap.size ≤ s_) ∧ (gp0 ≠ s_) ∧ (s_ ≠ gp0) ∧ (gb306 ≠ s_) ∧ (s_ ≠ gb306) ∧ (gb307 ≠ s_) ∧ (s_ ≠ gb307) ∧ (Below w.heap.size w w')) ?_ ?_
   rotate_left
   ·intro hCont
    refine two_ (i := 10) (j := 17) (Ni := some 28) (Nj := some 8) #[true, true, true, true, true, true, true, true, true, true, true, true, true, true, true, true, false, false, false] #[true, true, true, true, true, true, true, true, true, true, false, true, true, true, true, true, false, true, false] rfl rfl rfl rfl (two_of HT_.out (by kernel_rfl)) (by decide) (by decide) (fun K hK => ?_) (fun K hK => ?_)
    ·skip
     refine goes_ Try.func86 (by kernel_rfl) rfl #[.agg #[.int .i64 a0_4, .int .i64 a0_5, .int .i64 a0_6, .int .i64 a0_7], .int .i64 t309, .int .i64 t310] (by rfl) rfl rfl (by (try simp only [List.map_toArray, List.map_cons, List.map_nil]); first | done | rfl | (simp only [List.length_drop, List.length_take]; rfl)) ?_
     with_reducible refine (spec_l02Next.calls a0_4 a0_5 a0_6 a0_7 t309 t310 t311 t312 t313 t314 _ A6.out).mono ?_
     rintro e w18 ⟨rfl, hb⟩
     refine ⟨_, rfl, ?_⟩
     have n0_ := Zm (blk_below (g := gp0) (o := .cells #[.int .i64 a0_0, .int .i64 a0_1, .int .i64 a0_2, .int .i64 a0_3, .int .i64 a0_4, .int .i64 a0_5, .int .i64 a0_6, .int .i64 a0_7, .int .i64 a0_8] 27 (0, 0)) (by (with_reducible repeat (first | refine Zn ?_ _ | refine Zd ?_ | refine Za ?_ _)); exact BK0.out) hb)
     have n1_ := Zm (blk_below (g := gb306) (o := .cells #[.int .i64 a1_0, .int .i64 a1_1] 47 (0, 0)) (by (with_reducible repeat (first | refine Zn ?_ _ | refine Zd ?_ | refine Za ?_ _)); exact BK306.out) hb)
     have n2_ := Zm (blk_below (g := gb307) (o := .cells #[.int .i64 0, .int .i64 0, .int .i64 0, .int .i64 0, .int .i64 0, .int .i64 0, .int .i64 0, .int .i64 0, .int .i64 0] 27 (0, 0)) (by (with_reducible repeat (first | refine Zn ?_ _ | refine Zd ?_ | refine Za ?_ _)); exact BK307.out) hb)
     have n3_ := Zm (below_step (by repeat (first | (with_reducible first | exact HB.out | apply Zl | apply Zp | apply Ze | refine Zs ?_ GE0.out | refine Zs ?_ GE306.out | refine Zs ?_ GE307.out) | exact HB.out)) hb)
     clear BK0
     clear BK306
     clear BK307
     clear HB
     have BK0 := n0_
     have BK306 := n1_
     have BK307 := n2_
     have HB := n3_
     clear n0_ n1_ n2_ n3_
     (try clear hb)
     (try clear hb2)
     (try clear hk)
     (try clear hi)
     refine hK.out _ _ ⟨(Zc BK0.out 0).trans rfl, (Zc BK0.out 1).trans rfl, (Zc BK0.out 2).trans rfl, (Zc BK0.out 3).trans rfl, (Zc BK0.out 4).trans rfl, (Zc BK0.out 5).trans rfl, (Zc BK0.out 6).trans rfl, (Zc BK0.out 7).trans rfl, (Zc BK0.out 8).trans rfl⟩ (fun hHeld => ?_)
     clear hK K
     refine norm_ (a' := ?_) ?_ ?_
     rotate_left
     ·show Act.put _ (some 28) _ = _
      simp only [Act.put, List.setIfInBounds_toArray, List.set_cons_zero, List.set_cons_succ, i64_w, i32_w]
      rfl
     refine pure_ (i := 16) (N := some 34) (v := ?_) (a' := ?_) #[true, true, true, true, true, true, true, true, true, true, true, true, true, true, true, true, true, false, false] rfl rfl (any_of HT_.out (by kernel_rfl)) (fun _ _ _ h => h) (Or.inl ⟨by rfl, ?_⟩) ?_ ?_
     rotate_left
     ·intro w'
      go_simp
      with_reducible rfl
     rotate_left
     ·simp only [Act.put, List.setIfInBounds_toArray, List.set_cons_zero, List.set_cons_succ, i64_w, i32_w]
      rfl
     refine one_ (i := 17) (N := some 8) #[true, true, true, true, true, true, true, true, true, true, true, true, true, true, true, true, true, true, false] rfl rfl (one_of HT_.out (by kernel_rfl)) (by decide) (fun K hK => ?_)
     refine box_step ?hg (N := 8) ?hd (cs := #[.int .i64 0, .int .i64 0, .int .i64 0, .int .i64 0, .int .i64 0, .int .i64 0, .int .i64 0, .int .i64 0, .int .i64 0]) (t := 27) ?hr ?_; (case hd => rfl); (case hg => rfl); (case hr => first | (go_simp; done) | (go_simp; rfl))
     intro gb315 hg w19 hbox hb
     have n0_ := Zm (blk_below (g := gp0) (o := .cells #[.int .i64 a0_0, .int .i64 a0_1, .int .i64 a0_2, .int .i64 a0_3, .int .i64 a0_4, .int .i64 a0_5, .int .i64 a0_6, .int .i64 a0_7, .int .i64 a0_8] 27 (0, 0)) (by (with_reducible repeat (first | refine Zn ?_ _ | refine Zd ?_ | refine Za ?_ _)); exact BK0.out) hb)
     have n1_ := Zm (blk_below (g := gb306) (o := .cells #[.int .i64 a1_0, .int .i64 a1_1] 47 (0, 0)) (by (with_reducible repeat (first | refine Zn ?_ _ | refine Zd ?_ | refine Za ?_ _)); exact BK306.out) hb)
     have n2_ := Zm (blk_below (g := gb307) (o := .cells #[.int .i64 0, .int .i64 0, .int .i64 0, .int .i64 0, .int .i64 0, .int .i64 0, .int .i64 0, .int .i64 0, .int .i64 0] 27 (0, 0)) (by (with_reducible repeat (first | refine Zn ?_ _ | refine Zd ?_ | refine Za ?_ _)); exact BK307.out) hb)
     have n3_ := Zm (below_step (by repeat (first | (with_reducible first | exact HB.out | apply Zl | apply Zp | apply Ze | refine Zs ?_ GE0.out | refine Zs ?_ GE306.out | refine Zs ?_ GE307.out) | exact HB.out)) hb)
     have n4_ := Zm (hbox)
     have n5_ := Zm ((by rw [hg]; exact (below_size (by repeat (first | (with_reducible first | exact HB.out | apply Zl | apply Zp | apply Ze | refine Zs ?_ GE0.out | refine Zs ?_ GE306.out | refine Zs ?_ GE307.out) | exact HB.out))) : w.heap.size ≤ gb315))
     have n6_ := Zm ((by rw [hg]; exact (below_size (by repeat (first | (with_reducible first | exact HB.out | apply Zl | apply Zp | apply Ze | refine Zs ?_ GE0.out | refine Zs ?_ GE306.out | refine Zs ?_ GE307.out) | exact HB.out))) : w.heap.size ≤ gb315))
     have n7_ := Zm ((by rw [hg]; exact Nat.ne_of_lt (blk_lt (g := gp0) (o := .cells #[.int .i64 a0_0, .int .i64 a0_1, .int .i64 a0_2, .int .i64 a0_3, .int .i64 a0_4, .int .i64 a0_5, .int .i64 a0_6, .int .i64 a0_7, .int .i64 a0_8] 27 (0, 0)) (by (with_reducible repeat (first | refine Zn ?_ _ | refine Zd ?_ | refine Za ?_ _)); exact BK0.out)) : gp0 ≠ gb315))
     have n8_ := Zm ((by rw [hg]; exact Nat.ne_of_gt (blk_lt (g := gp0) (o := .cells #[.int .i64 a0_0, .int .i64 a0_1, .int .i64 a0_2, .int .i64 a0_3, .int .i64 a0_4, .int .i64 a0_5, .int .i64 a0_6, .int .i64 a0_7, .int .i64 a0_8] 27 (0, 0)) (by (with_reducible repeat (first | refine Zn ?_ _ | refine Zd ?_ | refine Za ?_ _)); exact BK0.out)) : gb315 ≠ gp0))
     have n9_ := Zm ((by rw [hg]; exact Nat.ne_of_lt (blk_lt (g := gb306) (o := .cells #[.int .i64 a1_0, .int .i64 a1_1] 47 (0, 0)) (by (with_reducible repeat (first | refine Zn ?_ _ | refine Zd ?_ | refine Za ?_ _)); exact BK306.out)) : gb306 ≠ gb315))
     have n10_ := Zm ((by rw [hg]; exact Nat.ne_of_gt (blk_lt (g := gb306) (o := .cells #[.int .i64 a1_0, .int .i64 a1_1] 47 (0, 0)) (by (with_reducible repeat (first | refine Zn ?_ _ | refine Zd ?_ | refine Za ?_ _)); exact BK306.out)) : gb315 ≠ gb306))
     have n11_ := Zm ((by rw [hg]; exact Nat.ne_of_lt (blk_lt (g := gb307) (o := .cells #[.int .i64 0, .int .i64 0, .int .i64 0, .int .i64 0, .int .i64 0, .int .i64 0, .int .i64 0, .int .i64 0, .int .i64 0] 27 (0, 0)) (by (with_reducible repeat (first | refine Zn ?_ _ | refine Zd ?_ | refine Za ?_ _)); exact BK307.out)) : gb307 ≠ gb315))
     have n12_ := Zm ((by rw [hg]; exact Nat.ne_of_gt (blk_lt (g := gb307) (o := .cells #[.int .i64 0, .int .i64 0, .int .i64 0, .int .i64 0, .int .i64 0, .int .i64 0, .int .i64 0, .int .i64 0, .int .i64 0] 27 (0, 0)) (by (with_reducible repeat (first | refine Zn ?_ _ | refine Zd ?_ | refine Za ?_ _)); exact BK307.out)) : gb315 ≠ gb307))
     clear BK0
     clear BK306
     clear BK307
     clear HB
     have BK0 := n0_
     have BK306 := n1_
     have BK307 := n2_
     have HB := n3_
     have BK315 := n4_
     have GW315 := n5_
     have GE315 := n6_
     have NB0_315 := n7_
     have NB315_0 := n8_
     have NB306_315 := n9_
     have NB315_306 := n10_
     have NB307_315 := n11_
     have NB315_307 := n12_
     clear n0_ n1_ n2_ n3_ n4_ n5_ n6_ n7_ n8_ n9_ n10_ n11_ n12_
     clear hb hbox hg
     refine hK.out _ _ ⟨(Zc BK0.out 0).trans rfl, (Zc BK0.out 1).trans rfl, (Zc BK0.out 2).trans rfl, (Zc BK0.out 3).trans rfl, (Zc BK0.out 4).trans rfl, (Zc BK0.out 5).trans rfl, (Zc BK0.out 6).trans rfl, (Zc BK0.out 7).trans rfl, (Zc BK0.out 8).trans rfl⟩ (fun hHeld => ?_)
     clear hK K
     refine norm_ (a' := ?_) ?_ ?_
     rotate_left
     ·show Act.put _ (some 8) _ = _
      simp only [Act.put, List.setIfInBounds_toArray, List.set_cons_zero, List.set_cons_succ, i64_w, i32_w]
      rfl
     exact norm_ (by simp only [putAll, Act.put, List.setIfInBounds_toArray, List.set_cons_zero, List.set_cons_succ]) (hCont (gb315) _ ⟨hHeld, (by (with_reducible repeat (first | refine Zn ?_ _ | refine Zd ?_ | refine Za ?_ _)); exact BK0.out), (by (with_reducible repeat (first | refine Zn ?_ _ | refine Zd ?_ | refine Za ?_ _)); exact BK306.out), (by (with_reducible repeat (first | refine Zn ?_ _ | refine Zd ?_ | refine Za ?_ _)); exact BK307.out), (by (with_reducible repeat (first | refine Zn ?_ _ | refine Zd ?_ | refine Za ?_ _)); exact BK315.out), GW315.out, GE315.out, NB0_315.out, NB315_0.out, NB306_315.out, NB315_306.out, NB307_315.out, NB315_307.out, (by repeat (first | (with_reducible first | exact HB.out | apply Zl | apply Zp | apply Ze | refine Zs ?_ GE0.out | refine Zs ?_ GE306.out | refine Zs ?_ GE307.out | refine Zs ?_ GE315.out) | exact HB.out))⟩)
    ·skip
     refine box_step ?hg (N := 8) ?hd (cs := #[.int .i64 0, .int .i64 0, .int .i64 0, .int .i64 0, .int .i64 0, .int .i64 0, .int .i64 0, .int .i64 0, .int .i64 0]) (t := 27) ?hr ?_; (case hd => rfl); (case hg => rfl); (case hr => first | (go_simp; done) | (go_simp; rfl))
     intro gb315 hg w18 hbox hb
     have n0_ := Zm (blk_below (g := gp0) (o := .cells #[.int .i64 a0_0, .int .i64 a0_1, .int .i64 a0_2, .int .i64 a0_3, .int .i64 a0_4, .int .i64 a0_5, .int .i64 a0_6, .int .i64 a0_7, .int .i64 a0_8] 27 (0, 0)) (by (with_reducible repeat (first | refine Zn ?_ _ | refine Zd ?_ | refine Za ?_ _)); exact BK0.out) hb)
     have n1_ := Zm (blk_below (g := gb306) (o := .cells #[.int .i64 a1_0, .int .i64 a1_1] 47 (0, 0)) (by (with_reducible repeat (first | refine Zn ?_ _ | refine Zd ?_ | refine Za ?_ _)); exact BK306.out) hb)
     have n2_ := Zm (blk_below (g := gb307) (o := .cells #[.int .i64 0, .int .i64 0, .int .i64 0, .int .i64 0, .int .i64 0, .int .i64 0, .int .i64 0, .int .i64 0, .int .i64 0] 27 (0, 0)) (by (with_reducible repeat (first | refine Zn ?_ _ | refine Zd ?_ | refine Za ?_ _)); exact BK307.out) hb)
     have n3_ := Zm (below_step (by repeat (first | (with_reducible first | exact HB.out | apply Zl | apply Zp | apply Ze | refine Zs ?_ GE0.out | refine Zs ?_ GE306.out | refine Zs ?_ GE307.out) | exact HB.out)) hb)
     have n4_ := Zm (hbox)
     have n5_ := Zm ((by rw [hg]; exact (below_size (by repeat (first | (with_reducible first | exact HB.out | apply Zl | apply Zp | apply Ze | refine Zs ?_ GE0.out | refine Zs ?_ GE306.out | refine Zs ?_ GE307.out) | exact HB.out))) : w.heap.size ≤ gb315))
     have n6_ := Zm ((by rw [hg]; exact (below_size (by repeat (first | (with_reducible first | exact HB.out | apply Zl | apply Zp | apply Ze | refine Zs ?_ GE0.out | refine Zs ?_ GE306.out | refine Zs ?_ GE307.out) | exact HB.out))) : w.heap.size ≤ gb315))
     have n7_ := Zm ((by rw [hg]; exact Nat.ne_of_lt (blk_lt (g := gp0) (o := .cells #[.int .i64 a0_0, .int .i64 a0_1, .int .i64 a0_2, .int .i64 a0_3, .int .i64 a0_4, .int .i64 a0_5, .int .i64 a0_6, .int .i64 a0_7, .int .i64 a0_8] 27 (0, 0)) (by (with_reducible repeat (first | refine Zn ?_ _ | refine Zd ?_ | refine Za ?_ _)); exact BK0.out)) : gp0 ≠ gb315))
     have n8_ := Zm ((by rw [hg]; exact Nat.ne_of_gt (blk_lt (g := gp0) (o := .cells #[.int .i64 a0_0, .int .i64 a0_1, .int .i64 a0_2, .int .i64 a0_3, .int .i64 a0_4, .int .i64 a0_5, .int .i64 a0_6, .int .i64 a0_7, .int .i64 a0_8] 27 (0, 0)) (by (with_reducible repeat (first | refine Zn ?_ _ | refine Zd ?_ | refine Za ?_ _)); exact BK0.out)) : gb315 ≠ gp0))
     have n9_ := Zm ((by rw [hg]; exact Nat.ne_of_lt (blk_lt (g := gb306) (o := .cells #[.int .i64 a1_0, .int .i64 a1_1] 47 (0, 0)) (by (with_reducible repeat (first | refine Zn ?_ _ | refine Zd ?_ | refine Za ?_ _)); exact BK306.out)) : gb306 ≠ gb315))
     have n10_ := Zm ((by rw [hg]; exact Nat.ne_of_gt (blk_lt (g := gb306) (o := .cells #[.int .i64 a1_0, .int .i64 a1_1] 47 (0, 0)) (by (with_reducible repeat (first | refine Zn ?_ _ | refine Zd ?_ | refine Za ?_ _)); exact BK306.out)) : gb315 ≠ gb306))
     have n11_ := Zm ((by rw [hg]; exact Nat.ne_of_lt (blk_lt (g := gb307) (o := .cells #[.int .i64 0, .int .i64 0, .int .i64 0, .int .i64 0, .int .i64 0, .int .i64 0, .int .i64 0, .int .i64 0, .int .i64 0] 27 (0, 0)) (by (with_reducible repeat (first | refine Zn ?_ _ | refine Zd ?_ | refine Za ?_ _)); exact BK307.out)) : gb307 ≠ gb315))
     have n12_ := Zm ((by rw [hg]; exact Nat.ne_of_gt (blk_lt (g := gb307) (o := .cells #[.int .i64 0, .int .i64 0, .int .i64 0, .int .i64 0, .int .i64 0, .int .i64 0, .int .i64 0, .int .i64 0, .int .i64 0] 27 (0, 0)) (by (with_reducible repeat (first | refine Zn ?_ _ | refine Zd ?_ | refine Za ?_ _)); exact BK307.out)) : gb315 ≠ gb307))
     clear BK0
     clear BK306
     clear BK307
     clear HB
     have BK0 := n0_
     have BK306 := n1_
     have BK307 := n2_
     have HB := n3_
     have BK315 := n4_
     have GW315 := n5_
     have GE315 := n6_
     have NB0_315 := n7_
     have NB315_0 := n8_
     have NB306_315 := n9_
     have NB315_306 := n10_
     have NB307_315 := n11_
     have NB315_307 := n12_
     clear n0_ n1_ n2_ n3_ n4_ n5_ n6_ n7_ n8_ n9_ n10_ n11_ n12_
     clear hb hbox hg
     refine hK.out _ _ ⟨(Zc BK0.out 0).trans rfl, (Zc BK0.out 1).trans rfl, (Zc BK0.out 2).trans rfl, (Zc BK0.out 3).trans rfl, (Zc BK0.out 4).trans rfl, (Zc BK0.out 5).trans rfl, (Zc BK0.out 6).trans rfl, (Zc BK0.out 7).trans rfl, (Zc BK0.out 8).trans rfl⟩ (fun hHeld => ?_)
     clear hK K
     refine norm_ (a' := ?_) ?_ ?_
     rotate_left
     ·show Act.put _ (some 8) _ = _
      simp only [Act.put, List.setIfInBounds_toArray, List.set_cons_zero, List.set_cons_succ, i64_w, i32_w]
      rfl
     refine one_ (i := 10) (N := some 28) #[true, true, true, true, true, true, true, true, true, true, true, true, true, true, true, true, false, true, false] rfl rfl (one_of HT_.out (by kernel_rfl)) (by decide) (fun K hK => ?_)
     refine goes_ Try.func86 (by kernel_rfl) rfl #[.agg #[.int .i64 a0_4, .int .i64 a0_5, .int .i64 a0_6, .int .i64 a0_7], .int .i64 t309, .int .i64 t310] (by rfl) rfl rfl (by (try simp only [List.map_toArray, List.map_cons, List.map_nil]); first | done | rfl | (simp only [List.length_drop, List.length_take]; rfl)) ?_
     with_reducible refine (spec_l02Next.calls a0_4 a0_5 a0_6 a0_7 t309 t310 t311 t312 t313 t314 _ A6.out).mono ?_
     rintro e w19 ⟨rfl, hb⟩
     refine ⟨_, rfl, ?_⟩
     have n0_ := Zm (blk_below (g := gp0) (o := .cells #[.int .i64 a0_0, .int .i64 a0_1, .int .i64 a0_2, .int .i64 a0_3, .int .i64 a0_4, .int .i64 a0_5, .int .i64 a0_6, .int .i64 a0_7, .int .i64 a0_8] 27 (0, 0)) (by (with_reducible repeat (first | refine Zn ?_ _ | refine Zd ?_ | refine Za ?_ _)); exact BK0.out) hb)
     have n1_ := Zm (blk_below (g := gb306) (o := .cells #[.int .i64 a1_0, .int .i64 a1_1] 47 (0, 0)) (by (with_reducible repeat (first | refine Zn ?_ _ | refine Zd ?_ | refine Za ?_ _)); exact BK306.out) hb)
     have n2_ := Zm (blk_below (g := gb307) (o := .cells #[.int .i64 0, .int .i64 0, .int .i64 0, .int .i64 0, .int .i64 0, .int .i64 0, .int .i64 0, .int .i64 0, .int .i64 0] 27 (0, 0)) (by (with_reducible repeat (first | refine Zn ?_ _ | refine Zd ?_ | refine Za ?_ _)); exact BK307.out) hb)
     have n3_ := Zm (blk_below (g := gb315) (o := .cells #[.int .i64 0, .int .i64 0, .int .i64 0, .int .i64 0, .int .i64 0, .int .i64 0, .int .i64 0, .int .i64 0, .int .i64 0] 27 (0, 0)) (by (with_reducible repeat (first | refine Zn ?_ _ | refine Zd ?_ | refine Za ?_ _)); exact BK315.out) hb)
     have n4_ := Zm (below_step (by repeat (first | (with_reducible first | exact HB.out | apply Zl | apply Zp | apply Ze | refine Zs ?_ GE0.out | refine Zs ?_ GE306.out | refine Zs ?_ GE307.out | refine Zs ?_ GE315.out) | exact HB.out)) hb)
     clear BK0
     clear BK306
     clear BK307
     clear BK315
     clear HB
     have BK0 := n0_
     have BK306 := n1_
     have BK307 := n2_
     have BK315 := n3_
     have HB := n4_
     clear n0_ n1_ n2_ n3_ n4_
     (try clear hb)
     (try clear hb2)
     (try clear hk)
     (try clear hi)
     refine hK.out _ _ ⟨(Zc BK0.out 0).trans rfl, (Zc BK0.out 1).trans rfl, (Zc BK0.out 2).trans rfl, (Zc BK0.out 3).trans rfl, (Zc BK0.out 4).trans rfl, (Zc BK0.out 5).trans rfl, (Zc BK0.out 6).trans rfl, (Zc BK0.out 7).trans rfl, (Zc BK0.out 8).trans rfl⟩ (fun hHeld => ?_)
     clear hK K
     refine norm_ (a' := ?_) ?_ ?_
     rotate_left
     ·show Act.put _ (some 28) _ = _
      simp only [Act.put, List.setIfInBounds_toArray, List.set_cons_zero, List.set_cons_succ, i64_w, i32_w]
      rfl
     refine pure_ (i := 16) (N := some 34) (v := ?_) (a' := ?_) #[true, true, true, true, true, true, true, true, true, true, true, true, true, true, true, true, true, true, false] rfl rfl (any_of HT_.out (by kernel_rfl)) (fun _ _ _ h => h) (Or.inl ⟨by rfl, ?_⟩) ?_ ?_
     rotate_left
     ·intro w'
      go_simp
      with_reducible rfl
     rotate_left
     ·simp only [Act.put, List.setIfInBounds_toArray, List.set_cons_zero, List.set_cons_succ, i64_w, i32_w]
      rfl
     exact norm_ (by simp only [putAll, Act.put, List.setIfInBounds_toArray, List.set_cons_zero, List.set_cons_succ]) (hCont (gb315) _ ⟨hHeld, (by (with_reducible repeat (first | refine Zn ?_ _ | refine Zd ?_ | refine Za ?_ _)); exact BK0.out), (by (with_reducible repeat (first | refine Zn ?_ _ | refine Zd ?_ | refine Za ?_ _)); exact BK306.out), (by (with_reducible repeat (first | refine Zn ?_ _ | refine Zd ?_ | refine Za ?_ _)); exact BK307.out), (by (with_reducible repeat (first | refine Zn ?_ _ | refine Zd ?_ | refine Za ?_ _)); exact BK315.out), GW315.out, GE315.out, NB0_315.out, NB315_0.out, NB306_315.out, NB315_306.out, NB307_315.out, NB315_307.out, (by repeat (first | (with_reducible first | exact HB.out | apply Zl | apply Zp | apply Ze | refine Zs ?_ GE0.out | refine Zs ?_ GE306.out | refine Zs ?_ GE307.out | refine Zs ?_ GE315.out) | exact HB.out))⟩)
   rintro gb315 w20 ⟨hS_, h0_, h1_, h2_, h3_, h4_, h5_, h6_, h7_, h8_, h9_, h10_, h11_, h12_⟩
   have n0_ : Aside0 (w20.heap[gp0]? = some (.cells #[.int .i64 a0_0, .int .i64 a0_1, .int .i64 a0_2, .int .i64 a0_3, .int .i64 a0_4, .int .i64 a0_5, .int .i64 a0_6, .int .i64 a0_7, .int .i64 a0_8] 27 (0, 0))) := ⟨h0_⟩
   have n1_ : Aside0 (w20.heap[gb306]? = some (.cells #[.int .i64 a1_0, .int .i64 a1_1] 47 (0, 0))) := ⟨h1_⟩
   have n2_ : Aside0 (w20.heap[gb307]? = some (.cells #[.int .i64 0, .int .i64 0, .int .i64 0, .int .i64 0, .int .i64 0, .int .i64 0, .int .i64 0, .int .i64 0, .int .i64 0] 27 (0, 0))) := ⟨h2_⟩
   have n3_ : Aside0 (w20.heap[gb315]? = some (.cells #[.int .i64 0, .int .i64 0, .int .i64 0, .int .i64 0, .int .i64 0, .int .i64 0, .int .i64 0, .int .i64 0, .int .i64 0] 27 (0, 0))) := ⟨h3_⟩
   have n4_ : Aside0 (w.heap.size ≤ gb315) := ⟨h4_⟩
   have n5_ : Aside0 (w.heap.size ≤ gb315) := ⟨h5_⟩
   have n6_ : Aside0 (gp0 ≠ gb315) := ⟨h6_⟩
   have n7_ : Aside0 (gb315 ≠ gp0) := ⟨h7_⟩
   have n8_ : Aside0 (gb306 ≠ gb315) := ⟨h8_⟩
   have n9_ : Aside0 (gb315 ≠ gb306) := ⟨h9_⟩
   have n10_ : Aside0 (gb307 ≠ gb315) := ⟨h10_⟩
   have n11_ : Aside0 (gb315 ≠ gb307) := ⟨h11_⟩
   have n12_ : Aside0 (Below w.heap.size w w20) := ⟨h12_⟩
   clear BK0
   clear BK306
   clear BK307
   clear HB
   clear h0_ h1_ h2_ h3_ h4_ h5_ h6_ h7_ h8_ h9_ h10_ h11_ h12_
   have BK0 := n0_
   have BK306 := n1_
   have BK307 := n2_
   have BK315 := n3_
   have GW315 := n4_
   have GE315 := n5_
   have NB0_315 := n6_
   have NB315_0 := n7_
   have NB306_315 := n8_
   have NB315_306 := n9_
   have NB307_315 := n10_
   have NB315_307 := n11_
   have HB := n12_
   clear n0_ n1_ n2_ n3_ n4_ n5_ n6_ n7_ n8_ n9_ n10_ n11_ n12_
   have hHeld : w20.cell? ⟨gp0, 0, none⟩ = some (.int .i64 a0_0) ∧ w20.cell? ⟨gp0, 1, none⟩ = some (.int .i64 a0_1) ∧ w20.cell? ⟨gp0, 2, none⟩ = some (.int .i64 a0_2) ∧ w20.cell? ⟨gp0, 3, none⟩ = some (.int .i64 a0_3) ∧ w20.cell? ⟨gp0, 4, none⟩ = some (.int .i64 a0_4) ∧ w20.cell? ⟨gp0, 5, none⟩ = some (.int .i64 a0_5) ∧ w20.cell? ⟨gp0, 6, none⟩ = some (.int .i64 a0_6) ∧ w20.cell? ⟨gp0, 7, none⟩ = some (.int .i64 a0_7) ∧ w20.cell? ⟨gp0, 8, none⟩ = some (.int .i64 a0_8) := hS_
   refine norm_ (a' := ?_) ?_ ?_
   rotate_left
   ·simp only [putAll, Act.put, List.setIfInBounds_toArray, List.set_cons_zero, List.set_cons_succ]
    rfl
   refine one_ (i := 18) (N := none) #[true, true, true, true, true, true, true, true, true, true, true, true, true, true, true, true, true, true, true] rfl rfl (one_of HT_.out (by kernel_rfl)) (by decide) (fun K hK => ?_)
   have hs21 : w20.cell? ⟨gb315, 0, none⟩ = some (.int .i64 0) := (Zc BK315.out 0).trans rfl
   have hfs21 := Zf BK315.out 0
   have hns21_0 := NB0_315.out
   have hns21_1 := NB306_315.out
   have hns21_2 := NB307_315.out
   have hms21_0 := NB315_0.out
   have hms21_1 := NB315_306.out
   have hms21_2 := NB315_307.out
   have hs22 : w20.cell? ⟨gb315, 1, none⟩ = some (.int .i64 0) := (Zc BK315.out 1).trans rfl
   have hfs22 := Zf BK315.out 1
   have hns22_0 := NB0_315.out
   have hns22_1 := NB306_315.out
   have hns22_2 := NB307_315.out
   have hms22_0 := NB315_0.out
   have hms22_1 := NB315_306.out
   have hms22_2 := NB315_307.out
   have hs23 : w20.cell? ⟨gb315, 2, none⟩ = some (.int .i64 0) := (Zc BK315.out 2).trans rfl
   have hfs23 := Zf BK315.out 2
   have hns23_0 := NB0_315.out
   have hns23_1 := NB306_315.out
   have hns23_2 := NB307_315.out
   have hms23_0 := NB315_0.out
   have hms23_1 := NB315_306.out
   have hms23_2 := NB315_307.out
   have hs24 : w20.cell? ⟨gb315, 3, none⟩ = some (.int .i64 0) := (Zc BK315.out 3).trans rfl
   have hfs24 := Zf BK315.out 3
   have hns24_0 := NB0_315.out
   have hns24_1 := NB306_315.out
   have hns24_2 := NB307_315.out
   have hms24_0 := NB315_0.out
   have hms24_1 := NB315_306.out
   have hms24_2 := NB315_307.out
   have hs25 : w20.cell? ⟨gb315, 4, none⟩ = some (.int .i64 0) := (Zc BK315.out 4).trans rfl
   have hfs25 := Zf BK315.out 4
   have hns25_0 := NB0_315.out
   have hns25_1 := NB306_315.out
   have hns25_2 := NB307_315.out
   have hms25_0 := NB315_0.out
   have hms25_1 := NB315_306.out
   have hms25_2 := NB315_307.out
   have hs26 : w20.cell? ⟨gb315, 5, none⟩ = some (.int .i64 0) := (Zc BK315.out 5).trans rfl
   have hfs26 := Zf BK315.out 5
   have hns26_0 := NB0_315.out
   have hns26_1 := NB306_315.out
   have hns26_2 := NB307_315.out
   have hms26_0 := NB315_0.out
   have hms26_1 := NB315_306.out
   have hms26_2 := NB315_307.out
   have hs27 : w20.cell? ⟨gb315, 6, none⟩ = some (.int .i64 0) := (Zc BK315.out 6).trans rfl
   have hfs27 := Zf BK315.out 6
   have hns27_0 := NB0_315.out
   have hns27_1 := NB306_315.out
   have hns27_2 := NB307_315.out
   have hms27_0 := NB315_0.out
   have hms27_1 := NB315_306.out
   have hms27_2 := NB315_307.out
   have hs28 : w20.cell? ⟨gb315, 7, none⟩ = some (.int .i64 0) := (Zc BK315.out 7).trans rfl
   have hfs28 := Zf BK315.out 7
   have hns28_0 := NB0_315.out
   have hns28_1 := NB306_315.out
   have hns28_2 := NB307_315.out
   have hms28_0 := NB315_0.out
   have hms28_1 := NB315_306.out
   have hms28_2 := NB315_307.out
   have hs29 : w20.cell? ⟨gb315, 8, none⟩ = some (.int .i64 0) := (Zc BK315.out 8).trans rfl
   have hfs29 := Zf BK315.out 8
   have hns29_0 := NB0_315.out
   have hns29_1 := NB306_315.out
   have hns29_2 := NB307_315.out
   have hms29_0 := NB315_0.out
   have hms29_1 := NB315_306.out
   have hms29_2 := NB315_307.out
   refine skip_ (w1 := ?_) (by rfl) rfl ?_ ?_
   rotate_left
   ·go_simp
    rfl
   refine hK.out _ _ ⟨((cell_far (p := ⟨gb315, _, none⟩) NB0_315.out _).trans (((cell_far (p := ⟨gb315, _, none⟩) NB0_315.out _).trans (((cell_far (p := ⟨gb315, _, none⟩) NB0_315.out _).trans (((cell_far (p := ⟨gb315, _, none⟩) NB0_315.out _).trans (((cell_far (p := ⟨gb315, _, none⟩) NB0_315.out _).trans (((cell_far (p := ⟨gb315, _, none⟩) NB0_315.out _).trans (((cell_far (p := ⟨gb315, _, none⟩) NB0_315.out _).trans (((cell_far (p := ⟨gb315, _, none⟩) NB0_315.out _).trans (((cell_far (p := ⟨gb315, _, none⟩) NB0_315.out _).trans (hHeld.1)))))))))))))))))), ((cell_far (p := ⟨gb315, _, none⟩) NB0_315.out _).trans (((cell_far (p := ⟨gb315, _, none⟩) NB0_315.out _).trans (((cell_far (p := ⟨gb315, _, none⟩) NB0_315.out _).trans (((cell_far (p := ⟨gb315, _, none⟩) NB0_315.out _).trans (((cell_far (p := ⟨gb315, _, none⟩) NB0_315.out _).trans (((cell_far (p := ⟨gb315, _, none⟩) NB0_315.out _).trans (((cell_far (p := ⟨gb315, _, none⟩) NB0_315.out _).trans (((cell_far (p := ⟨gb315, _, none⟩) NB0_315.out _).trans (((cell_far (p := ⟨gb315, _, none⟩) NB0_315.out _).trans (hHeld.2.1)))))))))))))))))), ((cell_far (p := ⟨gb315, _, none⟩) NB0_315.out _).trans (((cell_far (p := ⟨gb315, _, none⟩) NB0_315.out _).trans (((cell_far (p := ⟨gb315, _, none⟩) NB0_315.out _).trans (((cell_far (p := ⟨gb315, _, none⟩) NB0_315.out _).trans (((cell_far (p := ⟨gb315, _, none⟩) NB0_315.out _).trans (((cell_far (p := ⟨gb315, _, none⟩) NB0_315.out _).trans (((cell_far (p := ⟨gb315, _, none⟩) NB0_315.out _).trans (((cell_far (p := ⟨gb315, _, none⟩) NB0_315.out _).trans (((cell_far (p := ⟨gb315, _, none⟩) NB0_315.out _).trans (hHeld.2.2.1)))))))))))))))))), ((cell_far (p := ⟨gb315, _, none⟩) NB0_315.out _).trans (((cell_far (p := ⟨gb315, _, none⟩) NB0_315.out _).trans (((cell_far (p := ⟨gb315, _, none⟩) NB0_315.out _).trans (((cell_far (p := ⟨gb315, _, none⟩) NB0_315.out _).trans (((cell_far (p := ⟨gb315, _, none⟩) NB0_315.out _).trans (((cell_far (p := ⟨gb315, _, none⟩) NB0_315.out _).trans (((cell_far (p := ⟨gb315, _, none⟩) NB0_315.out _).trans (((cell_far (p := ⟨gb315, _, none⟩) NB0_315.out _).trans (((cell_far (p := ⟨gb315, _, none⟩) NB0_315.out _).trans (hHeld.2.2.2.1)))))))))))))))))), ((cell_far (p := ⟨gb315, _, none⟩) NB0_315.out _).trans (((cell_far (p := ⟨gb315, _, none⟩) NB0_315.out _).trans (((cell_far (p := ⟨gb315, _, none⟩) NB0_315.out _).trans (((cell_far (p := ⟨gb315, _, none⟩) NB0_315.out _).trans (((cell_far (p := ⟨gb315, _, none⟩) NB0_315.out _).trans (((cell_far (p := ⟨gb315, _, none⟩) NB0_315.out _).trans (((cell_far (p := ⟨gb315, _, none⟩) NB0_315.out _).trans (((cell_far (p := ⟨gb315, _, none⟩) NB0_315.out _).trans (((cell_far (p := ⟨gb315, _, none⟩) NB0_315.out _).trans (hHeld.2.2.2.2.1)))))))))))))))))), ((cell_far (p := ⟨gb315, _, none⟩) NB0_315.out _).trans (((cell_far (p := ⟨gb315, _, none⟩) NB0_315.out _).trans (((cell_far (p := ⟨gb315, _, none⟩) NB0_315.out _).trans (((cell_far (p := ⟨gb315, _, none⟩) NB0_315.out _).trans (((cell_far (p := ⟨gb315, _, none⟩) NB0_315.out _).trans (((cell_far (p := ⟨gb315, _, none⟩) NB0_315.out _).trans (((cell_far (p := ⟨gb315, _, none⟩) NB0_315.out _).trans (((cell_far (p := ⟨gb315, _, none⟩) NB0_315.out _).trans (((cell_far (p := ⟨gb315, _, none⟩) NB0_315.out _).trans (hHeld.2.2.2.2.2.1)))))))))))))))))), ((cell_far (p := ⟨gb315, _, none⟩) NB0_315.out _).trans (((cell_far (p := ⟨gb315, _, none⟩) NB0_315.out _).trans (((cell_far (p := ⟨gb315, _, none⟩) NB0_315.out _).trans (((cell_far (p := ⟨gb315, _, none⟩) NB0_315.out _).trans (((cell_far (p := ⟨gb315, _, none⟩) NB0_315.out _).trans (((cell_far (p := ⟨gb315, _, none⟩) NB0_315.out _).trans (((cell_far (p := ⟨gb315, _, none⟩) NB0_315.out _).trans (((cell_far (p := ⟨gb315, _, none⟩) NB0_315.out _).trans (((cell_far (p := ⟨gb315, _, none⟩) NB0_315.out _).trans (hHeld.2.2.2.2.2.2.1)))))))))))))))))), ((cell_far (p := ⟨gb315, _, none⟩) NB0_315.out _).trans (((cell_far (p := ⟨gb315, _, none⟩) NB0_315.out _).trans (((cell_far (p := ⟨gb315, _, none⟩) NB0_315.out _).trans (((cell_far (p := ⟨gb315, _, none⟩) NB0_315.out _).trans (((cell_far (p := ⟨gb315, _, none⟩) NB0_315.out _).trans (((cell_far (p := ⟨gb315, _, none⟩) NB0_315.out _).trans (((cell_far (p := ⟨gb315, _, none⟩) NB0_315.out _).trans (((cell_far (p := ⟨gb315, _, none⟩) NB0_315.out _).trans (((cell_far (p := ⟨gb315, _, none⟩) NB0_315.out _).trans (hHeld.2.2.2.2.2.2.2.1)))))))))))))))))), ((cell_far (p := ⟨gb315, _, none⟩) NB0_315.out _).trans (((cell_far (p := ⟨gb315, _, none⟩) NB0_315.out _).trans (((cell_far (p := ⟨gb315, _, none⟩) NB0_315.out _).trans (((cell_far (p := ⟨gb315, _, none⟩) NB0_315.out _).trans (((cell_far (p := ⟨gb315, _, none⟩) NB0_315.out _).trans (((cell_far (p := ⟨gb315, _, none⟩) NB0_315.out _).trans (((cell_far (p := ⟨gb315, _, none⟩) NB0_315.out _).trans (((cell_far (p := ⟨gb315, _, none⟩) NB0_315.out _).trans (((cell_far (p := ⟨gb315, _, none⟩) NB0_315.out _).trans (hHeld.2.2.2.2.2.2.2.2))))))))))))))))))⟩ (fun hHeld => ?_)
   clear hK K
   refine done_ (done_of HT_.out (by kernel_rfl)) ?_
   try go_wp2_with (first | ((with_reducible refine gate_callee (f := 52) rfl ?_); refine goesL_ (some 35) rfl rfl Try.func52 (by kernel_rfl) rfl #[.pointer (some ⟨gb315, 0, none⟩)] rfl (by (try simp only [List.map_toArray, List.map_cons, List.map_nil]); first | done | rfl | (simp only [List.length_drop, List.length_take]; rfl)) ?_; (with_reducible refine (spec_l04Is.calls k gb315 a0_0 a0_1 a0_2 a0_3 t311 t312 t313 t314 (wrap64 (a0_8 - 1500)) true _ ?side1 A7.out).mono ?_); (case side1 => (with_reducible repeat (first | refine Zn ?_ _ | refine Zd ?_ | refine Za ?_ _)); refine blk_put (cs := #[.int .i64 a0_0, .int .i64 a0_1, .int .i64 a0_2, .int .i64 a0_3, .int .i64 t311, .int .i64 t312, .int .i64 t313, .int .i64 t314, .int .i64 0]) ?_ 8 _ rfl; (with_reducible repeat (first | refine Zn ?_ _ | refine Zd ?_ | refine Za ?_ _)); refine blk_put (cs := #[.int .i64 a0_0, .int .i64 a0_1, .int .i64 a0_2, .int .i64 a0_3, .int .i64 t311, .int .i64 t312, .int .i64 t313, .int .i64 0, .int .i64 0]) ?_ 7 _ rfl; (with_reducible repeat (first | refine Zn ?_ _ | refine Zd ?_ | refine Za ?_ _)); refine blk_put (cs := #[.int .i64 a0_0, .int .i64 a0_1, .int .i64 a0_2, .int .i64 a0_3, .int .i64 t311, .int .i64 t312, .int .i64 0, .int .i64 0, .int .i64 0]) ?_ 6 _ rfl; (with_reducible repeat (first | refine Zn ?_ _ | refine Zd ?_ | refine Za ?_ _)); refine blk_put (cs := #[.int .i64 a0_0, .int .i64 a0_1, .int .i64 a0_2, .int .i64 a0_3, .int .i64 t311, .int .i64 0, .int .i64 0, .int .i64 0, .int .i64 0]) ?_ 5 _ rfl; (with_reducible repeat (first | refine Zn ?_ _ | refine Zd ?_ | refine Za ?_ _)); refine blk_put (cs := #[.int .i64 a0_0, .int .i64 a0_1, .int .i64 a0_2, .int .i64 a0_3, .int .i64 0, .int .i64 0, .int .i64 0, .int .i64 0, .int .i64 0]) ?_ 4 _ rfl; (with_reducible repeat (first | refine Zn ?_ _ | refine Zd ?_ | refine Za ?_ _)); refine blk_put (cs := #[.int .i64 a0_0, .int .i64 a0_1, .int .i64 a0_2, .int .i64 0, .int .i64 0, .int .i64 0, .int .i64 0, .int .i64 0, .int .i64 0]) ?_ 3 _ rfl; (with_reducible repeat (first | refine Zn ?_ _ | refine Zd ?_ | refine Za ?_ _)); refine blk_put (cs := #[.int .i64 a0_0, .int .i64 a0_1, .int .i64 0, .int .i64 0, .int .i64 0, .int .i64 0, .int .i64 0, .int .i64 0, .int .i64 0]) ?_ 2 _ rfl; (with_reducible repeat (first | refine Zn ?_ _ | refine Zd ?_ | refine Za ?_ _)); refine blk_put (cs := #[.int .i64 a0_0, .int .i64 0, .int .i64 0, .int .i64 0, .int .i64 0, .int .i64 0, .int .i64 0, .int .i64 0, .int .i64 0]) ?_ 1 _ rfl; (with_reducible repeat (first | refine Zn ?_ _ | refine Zd ?_ | refine Za ?_ _)); refine blk_put (cs := #[.int .i64 0, .int .i64 0, .int .i64 0, .int .i64 0, .int .i64 0, .int .i64 0, .int .i64 0, .int .i64 0, .int .i64 0]) ?_ 0 _ rfl; (with_reducible repeat (first | refine Zn ?_ _ | refine Zd ?_ | refine Za ?_ _)); exact BK315.out); rintro e w30 ⟨rfl, hb⟩; refine ⟨_, rfl, ?_⟩; have n0_ := Zm (blk_below (g := gp0) (o := .cells #[.int .i64 a0_0, .int .i64 a0_1, .int .i64 a0_2, .int .i64 a0_3, .int .i64 a0_4, .int .i64 a0_5, .int .i64 a0_6, .int .i64 a0_7, .int .i64 a0_8] 27 (0, 0)) (by (with_reducible repeat (first | refine Zn ?_ _ | refine Zd ?_ | refine Za ?_ _)); refine blk_far ?_ NB0_315.out _; (with_reducible repeat (first | refine Zn ?_ _ | refine Zd ?_ | refine Za ?_ _)); refine blk_far ?_ NB0_315.out _; (with_reducible repeat (first | refine Zn ?_ _ | refine Zd ?_ | refine Za ?_ _)); refine blk_far ?_ NB0_315.out _; (with_reducible repeat (first | refine Zn ?_ _ | refine Zd ?_ | refine Za ?_ _)); refine blk_far ?_ NB0_315.out _; (with_reducible repeat (first | refine Zn ?_ _ | refine Zd ?_ | refine Za ?_ _)); refine blk_far ?_ NB0_315.out _; (with_reducible repeat (first | refine Zn ?_ _ | refine Zd ?_ | refine Za ?_ _)); refine blk_far ?_ NB0_315.out _; (with_reducible repeat (first | refine Zn ?_ _ | refine Zd ?_ | refine Za ?_ _)); refine blk_far ?_ NB0_315.out _; (with_reducible repeat (first | refine Zn ?_ _ | refine Zd ?_ | refine Za ?_ _)); refine blk_far ?_ NB0_315.out _; (with_reducible repeat (first | refine Zn ?_ _ | refine Zd ?_ | refine Za ?_ _)); refine blk_far ?_ NB0_315.out _; (with_reducible repeat (first | refine Zn ?_ _ | refine Zd ?_ | refine Za ?_ _)); exact BK0.out) hb); have n1_ := Zm (blk_below (g := gb306) (o := .cells #[.int .i64 a1_0, .int .i64 a1_1] 47 (0, 0)) (by (with_reducible repeat (first | refine Zn ?_ _ | refine Zd ?_ | refine Za ?_ _)); refine blk_far ?_ NB306_315.out _; (with_reducible repeat (first | refine Zn ?_ _ | refine Zd ?_ | refine Za ?_ _)); refine blk_far ?_ NB306_315.out _; (with_reducible repeat (first | refine Zn ?_ _ | refine Zd ?_ | refine Za ?_ _)); refine blk_far ?_ NB306_315.out _; (with_reducible repeat (first | refine Zn ?_ _ | refine Zd ?_ | refine Za ?_ _)); refine blk_far ?_ NB306_315.out _; (with_reducible repeat (first | refine Zn ?_ _ | refine Zd ?_ | refine Za ?_ _)); refine blk_far ?_ NB306_315.out _; (with_reducible repeat (first | refine Zn ?_ _ | refine Zd ?_ | refine Za ?_ _)); refine blk_far ?_ NB306_315.out _; (with_reducible repeat (first | refine Zn ?_ _ | refine Zd ?_ | refine Za ?_ _)); refine blk_far ?_ NB306_315.out _; (with_reducible repeat (first | refine Zn ?_ _ | refine Zd ?_ | refine Za ?_ _)); refine blk_far ?_ NB306_315.out _; (with_reducible repeat (first | refine Zn ?_ _ | refine Zd ?_ | refine Za ?_ _)); refine blk_far ?_ NB306_315.out _; (with_reducible repeat (first | refine Zn ?_ _ | refine Zd ?_ | refine Za ?_ _)); exact BK306.out) hb); have n2_ := Zm (blk_below (g := gb307) (o := .cells #[.int .i64 0, .int .i64 0, .int .i64 0, .int .i64 0, .int .i64 0, .int .i64 0, .int .i64 0, .int .i64 0, .int .i64 0] 27 (0, 0)) (by (with_reducible repeat (first | refine Zn ?_ _ | refine Zd ?_ | refine Za ?_ _)); refine blk_far ?_ NB307_315.out _; (with_reducible repeat (first | refine Zn ?_ _ | refine Zd ?_ | refine Za ?_ _)); refine blk_far ?_ NB307_315.out _; (with_reducible repeat (first | refine Zn ?_ _ | refine Zd ?_ | refine Za ?_ _)); refine blk_far ?_ NB307_315.out _; (with_reducible repeat (first | refine Zn ?_ _ | refine Zd ?_ | refine Za ?_ _)); refine blk_far ?_ NB307_315.out _; (with_reducible repeat (first | refine Zn ?_ _ | refine Zd ?_ | refine Za ?_ _)); refine blk_far ?_ NB307_315.out _; (with_reducible repeat (first | refine Zn ?_ _ | refine Zd ?_ | refine Za ?_ _)); refine blk_far ?_ NB307_315.out _; (with_reducible repeat (first | refine Zn ?_ _ | refine Zd ?_ | refine Za ?_ _)); refine blk_far ?_ NB307_315.out _; (with_reducible repeat (first | refine Zn ?_ _ | refine Zd ?_ | refine Za ?_ _)); refine blk_far ?_ NB307_315.out _; (with_reducible repeat (first | refine Zn ?_ _ | refine Zd ?_ | refine Za ?_ _)); refine blk_far ?_ NB307_315.out _; (with_reducible repeat (first | refine Zn ?_ _ | refine Zd ?_ | refine Za ?_ _)); exact BK307.out) hb); have n3_ := Zm (blk_below (g := gb315) (o := .cells #[.int .i64 a0_0, .int .i64 a0_1, .int .i64 a0_2, .int .i64 a0_3, .int .i64 t311, .int .i64 t312, .int .i64 t313, .int .i64 t314, .int .i64 (wrap64 (a0_8 - 1500))] 27 (0, 0)) (by (with_reducible repeat (first | refine Zn ?_ _ | refine Zd ?_ | refine Za ?_ _)); refine blk_put (cs := #[.int .i64 a0_0, .int .i64 a0_1, .int .i64 a0_2, .int .i64 a0_3, .int .i64 t311, .int .i64 t312, .int .i64 t313, .int .i64 t314, .int .i64 0]) ?_ 8 _ rfl; (with_reducible repeat (first | refine Zn ?_ _ | refine Zd ?_ | refine Za ?_ _)); refine blk_put (cs := #[.int .i64 a0_0, .int .i64 a0_1, .int .i64 a0_2, .int .i64 a0_3, .int .i64 t311, .int .i64 t312, .int .i64 t313, .int .i64 0, .int .i64 0]) ?_ 7 _ rfl; (with_reducible repeat (first | refine Zn ?_ _ | refine Zd ?_ | refine Za ?_ _)); refine blk_put (cs := #[.int .i64 a0_0, .int .i64 a0_1, .int .i64 a0_2, .int .i64 a0_3, .int .i64 t311, .int .i64 t312, .int .i64 0, .int .i64 0, .int .i64 0]) ?_ 6 _ rfl; (with_reducible repeat (first | refine Zn ?_ _ | refine Zd ?_ | refine Za ?_ _)); refine blk_put (cs := #[.int .i64 a0_0, .int .i64 a0_1, .int .i64 a0_2, .int .i64 a0_3, .int .i64 t311, .int .i64 0, .int .i64 0, .int .i64 0, .int .i64 0]) ?_ 5 _ rfl; (with_reducible repeat (first | refine Zn ?_ _ | refine Zd ?_ | refine Za ?_ _)); refine blk_put (cs := #[.int .i64 a0_0, .int .i64 a0_1, .int .i64 a0_2, .int .i64 a0_3, .int .i64 0, .int .i64 0, .int .i64 0, .int .i64 0, .int .i64 0]) ?_ 4 _ rfl; (with_reducible repeat (first | refine Zn ?_ _ | refine Zd ?_ | refine Za ?_ _)); refine blk_put (cs := #[.int .i64 a0_0, .int .i64 a0_1, .int .i64 a0_2, .int .i64 0, .int .i64 0, .int .i64 0, .int .i64 0, .int .i64 0, .int .i64 0]) ?_ 3 _ rfl; (with_reducible repeat (first | refine Zn ?_ _ | refine Zd ?_ | refine Za ?_ _)); refine blk_put (cs := #[.int .i64 a0_0, .int .i64 a0_1, .int .i64 0, .int .i64 0, .int .i64 0, .int .i64 0, .int .i64 0, .int .i64 0, .int .i64 0]) ?_ 2 _ rfl; (with_reducible repeat (first | refine Zn ?_ _ | refine Zd ?_ | refine Za ?_ _)); refine blk_put (cs := #[.int .i64 a0_0, .int .i64 0, .int .i64 0, .int .i64 0, .int .i64 0, .int .i64 0, .int .i64 0, .int .i64 0, .int .i64 0]) ?_ 1 _ rfl; (with_reducible repeat (first | refine Zn ?_ _ | refine Zd ?_ | refine Za ?_ _)); refine blk_put (cs := #[.int .i64 0, .int .i64 0, .int .i64 0, .int .i64 0, .int .i64 0, .int .i64 0, .int .i64 0, .int .i64 0, .int .i64 0]) ?_ 0 _ rfl; (with_reducible repeat (first | refine Zn ?_ _ | refine Zd ?_ | refine Za ?_ _)); exact BK315.out) hb); have n4_ := Zm (below_step (by repeat (first | (with_reducible first | exact HB.out | apply Zl | apply Zp | apply Ze | refine Zs ?_ GE0.out | refine Zs ?_ GE306.out | refine Zs ?_ GE307.out | refine Zs ?_ GE315.out) | exact HB.out)) hb); clear BK0; clear BK306; clear BK307; clear BK315; clear HB; have BK0 := n0_; have BK306 := n1_; have BK307 := n2_; have BK315 := n3_; have HB := n4_; clear n0_ n1_ n2_ n3_ n4_; (try clear hb); (try clear hb2); (try clear hk); (try clear hi); have hnb31 := NB315_0.out; have hnc31 := NB0_315.out; have hnb32 := NB315_306.out; have hnc32 := NB306_315.out; have hnb33 := NB315_307.out; have hnc33 := NB307_315.out; have hcz34_0 : w30.cell? ⟨gb315, 0, none⟩ = some (.int .i64 a0_0) := (Zc BK315.out 0).trans rfl; have hcz34_1 : w30.cell? ⟨gb315, 1, none⟩ = some (.int .i64 a0_1) := (Zc BK315.out 1).trans rfl; have hcz34_2 : w30.cell? ⟨gb315, 2, none⟩ = some (.int .i64 a0_2) := (Zc BK315.out 2).trans rfl; have hcz34_3 : w30.cell? ⟨gb315, 3, none⟩ = some (.int .i64 a0_3) := (Zc BK315.out 3).trans rfl; have hcz34_4 : w30.cell? ⟨gb315, 4, none⟩ = some (.int .i64 t311) := (Zc BK315.out 4).trans rfl; have hcz34_5 : w30.cell? ⟨gb315, 5, none⟩ = some (.int .i64 t312) := (Zc BK315.out 5).trans rfl; have hcz34_6 : w30.cell? ⟨gb315, 6, none⟩ = some (.int .i64 t313) := (Zc BK315.out 6).trans rfl; have hcz34_7 : w30.cell? ⟨gb315, 7, none⟩ = some (.int .i64 t314) := (Zc BK315.out 7).trans rfl; have hcz34_8 : w30.cell? ⟨gb315, 8, none⟩ = some (.int .i64 (wrap64 (a0_8 - 1500))) := (Zc BK315.out 8).trans rfl; have hfz34_0 := Zf BK315.out 0; have hfz34_1 := Zf BK315.out 1; have hfz34_2 := Zf BK315.out 2; have hfz34_3 := Zf BK315.out 3; have hfz34_4 := Zf BK315.out 4; have hfz34_5 := Zf BK315.out 5; have hfz34_6 := Zf BK315.out 6; have hfz34_7 := Zf BK315.out 7; have hfz34_8 := Zf BK315.out 8; have hnb35 := NB307_0.out; have hnc35 := NB0_307.out; have hcz36_0 : w30.cell? ⟨gb307, 0, none⟩ = some (.int .i64 0) := (Zc BK307.out 0).trans rfl; have hcz36_1 : w30.cell? ⟨gb307, 1, none⟩ = some (.int .i64 0) := (Zc BK307.out 1).trans rfl; have hcz36_2 : w30.cell? ⟨gb307, 2, none⟩ = some (.int .i64 0) := (Zc BK307.out 2).trans rfl; have hcz36_3 : w30.cell? ⟨gb307, 3, none⟩ = some (.int .i64 0) := (Zc BK307.out 3).trans rfl; have hcz36_4 : w30.cell? ⟨gb307, 4, none⟩ = some (.int .i64 0) := (Zc BK307.out 4).trans rfl; have hcz36_5 : w30.cell? ⟨gb307, 5, none⟩ = some (.int .i64 0) := (Zc BK307.out 5).trans rfl; have hcz36_6 : w30.cell? ⟨gb307, 6, none⟩ = some (.int .i64 0) := (Zc BK307.out 6).trans rfl; have hcz36_7 : w30.cell? ⟨gb307, 7, none⟩ = some (.int .i64 0) := (Zc BK307.out 7).trans rfl; have hcz36_8 : w30.cell? ⟨gb307, 8, none⟩ = some (.int .i64 0) := (Zc BK307.out 8).trans rfl; have hfz36_0 := Zf BK307.out 0; have hfz36_1 := Zf BK307.out 1; have hfz36_2 := Zf BK307.out 2; have hfz36_3 := Zf BK307.out 3; have hfz36_4 := Zf BK307.out 4; have hfz36_5 := Zf BK307.out 5; have hfz36_6 := Zf BK307.out 6; have hfz36_7 := Zf BK307.out 7; have hfz36_8 := Zf BK307.out 8))
   refine bodyPost_ret (results_ct rfl _ _ gb307 27 #[.int .i64 a0_0, .int .i64 a0_1, .int .i64 a0_2, .int .i64 a0_3, .int .i64 t311, .int .i64 t312, .int .i64 t313, .int .i64 t314, .int .i64 (wrap64 (a0_8 - 1500))] (0, 0) _ rfl (by (with_reducible repeat (first | refine Zn ?_ _ | refine Zd ?_ | refine Za ?_ _)); refine blk_put (cs := #[.int .i64 a0_0, .int .i64 a0_1, .int .i64 a0_2, .int .i64 a0_3, .int .i64 t311, .int .i64 t312, .int .i64 t313, .int .i64 t314, .int .i64 0]) ?_ 8 _ rfl; (with_reducible repeat (first | refine Zn ?_ _ | refine Zd ?_ | refine Za ?_ _)); refine blk_put (cs := #[.int .i64 a0_0, .int .i64 a0_1, .int .i64 a0_2, .int .i64 a0_3, .int .i64 t311, .int .i64 t312, .int .i64 t313, .int .i64 0, .int .i64 0]) ?_ 7 _ rfl; (with_reducible repeat (first | refine Zn ?_ _ | refine Zd ?_ | refine Za ?_ _)); refine blk_put (cs := #[.int .i64 a0_0, .int .i64 a0_1, .int .i64 a0_2, .int .i64 a0_3, .int .i64 t311, .int .i64 t312, .int .i64 0, .int .i64 0, .int .i64 0]) ?_ 6 _ rfl; (with_reducible repeat (first | refine Zn ?_ _ | refine Zd ?_ | refine Za ?_ _)); refine blk_put (cs := #[.int .i64 a0_0, .int .i64 a0_1, .int .i64 a0_2, .int .i64 a0_3, .int .i64 t311, .int .i64 0, .int .i64 0, .int .i64 0, .int .i64 0]) ?_ 5 _ rfl; (with_reducible repeat (first | refine Zn ?_ _ | refine Zd ?_ | refine Za ?_ _)); refine blk_put (cs := #[.int .i64 a0_0, .int .i64 a0_1, .int .i64 a0_2, .int .i64 a0_3, .int .i64 0, .int .i64 0, .int .i64 0, .int .i64 0, .int .i64 0]) ?_ 4 _ rfl; (with_reducible repeat (first | refine Zn ?_ _ | refine Zd ?_ | refine Za ?_ _)); refine blk_put (cs := #[.int .i64 a0_0, .int .i64 a0_1, .int .i64 a0_2, .int .i64 0, .int .i64 0, .int .i64 0, .int .i64 0, .int .i64 0, .int .i64 0]) ?_ 3 _ rfl; (with_reducible repeat (first | refine Zn ?_ _ | refine Zd ?_ | refine Za ?_ _)); refine blk_put (cs := #[.int .i64 a0_0, .int .i64 a0_1, .int .i64 0, .int .i64 0, .int .i64 0, .int .i64 0, .int .i64 0, .int .i64 0, .int .i64 0]) ?_ 2 _ rfl; (with_reducible repeat (first | refine Zn ?_ _ | refine Zd ?_ | refine Za ?_ _)); refine blk_put (cs := #[.int .i64 a0_0, .int .i64 0, .int .i64 0, .int .i64 0, .int .i64 0, .int .i64 0, .int .i64 0, .int .i64 0, .int .i64 0]) ?_ 1 _ rfl; (with_reducible repeat (first | refine Zn ?_ _ | refine Zd ?_ | refine Za ?_ _)); refine blk_put (cs := #[.int .i64 0, .int .i64 0, .int .i64 0, .int .i64 0, .int .i64 0, .int .i64 0, .int .i64 0, .int .i64 0, .int .i64 0]) ?_ 0 _ rfl; (with_reducible repeat (first | refine Zn ?_ _ | refine Zd ?_ | refine Za ?_ _)); exact BK307.out) Try.underlying27 rfl (by kernel_rfl)) rfl ?_
   exact ⟨by first | rfl | (simp [errW_none, errW_some] <;> rfl) | (simp [*, errW_none, errW_some] <;> rfl), by repeat (first | (with_reducible first | exact HB.out | apply Zl | apply Zp | apply Ze | refine Zs ?_ GE0.out | refine Zs ?_ GE306.out | refine Zs ?_ GE307.out | refine Zs ?_ GE315.out) | exact HB.out)⟩
  ·replace c8 := Bool.eq_false_iff.mpr c8
   subst c8
   have H1 : (some (0, 0, 0, 0, 0, 0, 0, 0, 0, false)) = some (r1, r2, r3, r4, r5, r6, r7, r8, r9, r10) := by rw [if_neg (show ¬ (false = true) by decide)] at H; exact H
   clear H
   have H := H1
   clear H1
   simp only [Option.some.injEq, Prod.mk.injEq] at H
   obtain ⟨rfl, rfl, rfl, rfl, rfl, rfl, rfl, rfl, rfl, rfl⟩ := H
   go_enter Try.func77, Try.ntmps77
   try go_wp2_with (first | ((with_reducible refine gate_dst (N := 3) rfl ?_); refine box_event ?hg (N := 3) ?hd (cs := #[.int .i64 a1_0, .int .i64 a1_1]) (t := 47) ?hr ?_; (case hd => rfl); (case hg => rfl); (case hr => first | (go_simp; done) | (go_simp; rfl)); intro gb306 hg w37 hbox hb; have n0_ := Zm (blk_below (g := gp0) (o := .cells #[.int .i64 a0_0, .int .i64 a0_1, .int .i64 a0_2, .int .i64 a0_3, .int .i64 a0_4, .int .i64 a0_5, .int .i64 a0_6, .int .i64 a0_7, .int .i64 a0_8] 27 (0, 0)) (by (with_reducible repeat (first | refine Zn ?_ _ | refine Zd ?_ | refine Za ?_ _)); exact BK0.out) hb); have n1_ := Zm (below_step (by repeat (first | (with_reducible first | exact HB.out | apply Zl | apply Zp | apply Ze | refine Zs ?_ GE0.out) | exact HB.out)) hb); have n2_ := Zm (hbox); have n3_ := Zm ((by rw [hg]; exact (below_size (by repeat (first | (with_reducible first | exact HB.out | apply Zl | apply Zp | apply Ze | refine Zs ?_ GE0.out) | exact HB.out))) : w.heap.size ≤ gb306)); have n4_ := Zm ((by rw [hg]; exact (below_size (by repeat (first | (with_reducible first | exact HB.out | apply Zl | apply Zp | apply Ze | refine Zs ?_ GE0.out) | exact HB.out))) : w.heap.size ≤ gb306)); have n5_ := Zm ((by rw [hg]; exact Nat.ne_of_lt (blk_lt (g := gp0) (o := .cells #[.int .i64 a0_0, .int .i64 a0_1, .int .i64 a0_2, .int .i64 a0_3, .int .i64 a0_4, .int .i64 a0_5, .int .i64 a0_6, .int .i64 a0_7, .int .i64 a0_8] 27 (0, 0)) (by (with_reducible repeat (first | refine Zn ?_ _ | refine Zd ?_ | refine Za ?_ _)); exact BK0.out)) : gp0 ≠ gb306)); have n6_ := Zm ((by rw [hg]; exact Nat.ne_of_gt (blk_lt (g := gp0) (o := .cells #[.int .i64 a0_0, .int .i64 a0_1, .int .i64 a0_2, .int .i64 a0_3, .int .i64 a0_4, .int .i64 a0_5, .int .i64 a0_6, .int .i64 a0_7, .int .i64 a0_8] 27 (0, 0)) (by (with_reducible repeat (first | refine Zn ?_ _ | refine Zd ?_ | refine Za ?_ _)); exact BK0.out)) : gb306 ≠ gp0)); clear BK0; clear HB; have BK0 := n0_; have HB := n1_; have BK306 := n2_; have GW306 := n3_; have GE306 := n4_; have NB0_306 := n5_; have NB306_0 := n6_; clear n0_ n1_ n2_ n3_ n4_ n5_ n6_; clear hb hbox hg) | ((with_reducible refine gate_dst (N := 4) rfl ?_); refine box_event ?hg (N := 4) ?hd (cs := #[.int .i64 0, .int .i64 0, .int .i64 0, .int .i64 0, .int .i64 0, .int .i64 0, .int .i64 0, .int .i64 0, .int .i64 0]) (t := 27) ?hr ?_; (case hd => rfl); (case hg => rfl); (case hr => first | (go_simp; done) | (go_simp; rfl)); intro gb307 hg w38 hbox hb; have n0_ := Zm (blk_below (g := gp0) (o := .cells #[.int .i64 a0_0, .int .i64 a0_1, .int .i64 a0_2, .int .i64 a0_3, .int .i64 a0_4, .int .i64 a0_5, .int .i64 a0_6, .int .i64 a0_7, .int .i64 a0_8] 27 (0, 0)) (by (with_reducible repeat (first | refine Zn ?_ _ | refine Zd ?_ | refine Za ?_ _)); exact BK0.out) hb); have n1_ := Zm (blk_below (g := gb306) (o := .cells #[.int .i64 a1_0, .int .i64 a1_1] 47 (0, 0)) (by (with_reducible repeat (first | refine Zn ?_ _ | refine Zd ?_ | refine Za ?_ _)); exact BK306.out) hb); have n2_ := Zm (below_step (by repeat (first | (with_reducible first | exact HB.out | apply Zl | apply Zp | apply Ze | refine Zs ?_ GE0.out | refine Zs ?_ GE306.out) | exact HB.out)) hb); have n3_ := Zm (hbox); have n4_ := Zm ((by rw [hg]; exact (below_size (by repeat (first | (with_reducible first | exact HB.out | apply Zl | apply Zp | apply Ze | refine Zs ?_ GE0.out | refine Zs ?_ GE306.out) | exact HB.out))) : w.heap.size ≤ gb307)); have n5_ := Zm ((by rw [hg]; exact (below_size (by repeat (first | (with_reducible first | exact HB.out | apply Zl | apply Zp | apply Ze | refine Zs ?_ GE0.out | refine Zs ?_ GE306.out) | exact HB.out))) : w.heap.size ≤ gb307)); have n6_ := Zm ((by rw [hg]; exact Nat.ne_of_lt (blk_lt (g := gp0) (o := .cells #[.int .i64 a0_0, .int .i64 a0_1, .int .i64 a0_2, .int .i64 a0_3, .int .i64 a0_4, .int .i64 a0_5, .int .i64 a0_6, .int .i64 a0_7, .int .i64 a0_8] 27 (0, 0)) (by (with_reducible repeat (first | refine Zn ?_ _ | refine Zd ?_ | refine Za ?_ _)); exact BK0.out)) : gp0 ≠ gb307)); have n7_ := Zm ((by rw [hg]; exact Nat.ne_of_gt (blk_lt (g := gp0) (o := .cells #[.int .i64 a0_0, .int .i64 a0_1, .int .i64 a0_2, .int .i64 a0_3, .int .i64 a0_4, .int .i64 a0_5, .int .i64 a0_6, .int .i64 a0_7, .int .i64 a0_8] 27 (0, 0)) (by (with_reducible repeat (first | refine Zn ?_ _ | refine Zd ?_ | refine Za ?_ _)); exact BK0.out)) : gb307 ≠ gp0)); have n8_ := Zm ((by rw [hg]; exact Nat.ne_of_lt (blk_lt (g := gb306) (o := .cells #[.int .i64 a1_0, .int .i64 a1_1] 47 (0, 0)) (by (with_reducible repeat (first | refine Zn ?_ _ | refine Zd ?_ | refine Za ?_ _)); exact BK306.out)) : gb306 ≠ gb307)); have n9_ := Zm ((by rw [hg]; exact Nat.ne_of_gt (blk_lt (g := gb306) (o := .cells #[.int .i64 a1_0, .int .i64 a1_1] 47 (0, 0)) (by (with_reducible repeat (first | refine Zn ?_ _ | refine Zd ?_ | refine Za ?_ _)); exact BK306.out)) : gb307 ≠ gb306)); clear BK0; clear BK306; clear HB; have BK0 := n0_; have BK306 := n1_; have HB := n2_; have BK307 := n3_; have GW307 := n4_; have GE307 := n5_; have NB0_307 := n6_; have NB307_0 := n7_; have NB306_307 := n8_; have NB307_306 := n9_; clear n0_ n1_ n2_ n3_ n4_ n5_ n6_ n7_ n8_ n9_; clear hb hbox hg; have hnb39 := NB306_0.out; have hnc39 := NB0_306.out; have hnb40 := NB306_307.out; have hnc40 := NB307_306.out; have hcz41_0 : w38.cell? ⟨gb306, 0, none⟩ = some (.int .i64 a1_0) := (Zc BK306.out 0).trans rfl; have hcz41_1 : w38.cell? ⟨gb306, 1, none⟩ = some (.int .i64 a1_1) := (Zc BK306.out 1).trans rfl; have hfz41_0 := Zf BK306.out 0; have hfz41_1 := Zf BK306.out 1) | ((with_reducible refine gate_callee (f := 84) rfl ?_); refine goesL_ (some 10) rfl rfl Try.func84 (by kernel_rfl) rfl #[.agg #[.int .i64 a1_0, .int .i64 a1_1]] rfl (by (try simp only [List.map_toArray, List.map_cons, List.map_nil]); first | done | rfl | (simp only [List.length_drop, List.length_take]; rfl)) ?_; (with_reducible refine (spec_l03Is.calls a1_0 a1_1 true _ A3.out).mono ?_); rintro e w42 ⟨rfl, hb⟩; refine ⟨_, rfl, ?_⟩; have n0_ := Zm (blk_below (g := gp0) (o := .cells #[.int .i64 a0_0, .int .i64 a0_1, .int .i64 a0_2, .int .i64 a0_3, .int .i64 a0_4, .int .i64 a0_5, .int .i64 a0_6, .int .i64 a0_7, .int .i64 a0_8] 27 (0, 0)) (by (with_reducible repeat (first | refine Zn ?_ _ | refine Zd ?_ | refine Za ?_ _)); exact BK0.out) hb); have n1_ := Zm (blk_below (g := gb306) (o := .cells #[.int .i64 a1_0, .int .i64 a1_1] 47 (0, 0)) (by (with_reducible repeat (first | refine Zn ?_ _ | refine Zd ?_ | refine Za ?_ _)); exact BK306.out) hb); have n2_ := Zm (blk_below (g := gb307) (o := .cells #[.int .i64 0, .int .i64 0, .int .i64 0, .int .i64 0, .int .i64 0, .int .i64 0, .int .i64 0, .int .i64 0, .int .i64 0] 27 (0, 0)) (by (with_reducible repeat (first | refine Zn ?_ _ | refine Zd ?_ | refine Za ?_ _)); exact BK307.out) hb); have n3_ := Zm (below_step (by repeat (first | (with_reducible first | exact HB.out | apply Zl | apply Zp | apply Ze | refine Zs ?_ GE0.out | refine Zs ?_ GE306.out | refine Zs ?_ GE307.out) | exact HB.out)) hb); clear BK0; clear BK306; clear BK307; clear HB; have BK0 := n0_; have BK306 := n1_; have BK307 := n2_; have HB := n3_; clear n0_ n1_ n2_ n3_; (try clear hb); (try clear hb2); (try clear hk); (try clear hi); have hcz43_0 : w42.cell? ⟨gb306, 0, none⟩ = some (.int .i64 a1_0) := (Zc BK306.out 0).trans rfl; have hcz43_1 : w42.cell? ⟨gb306, 1, none⟩ = some (.int .i64 a1_1) := (Zc BK306.out 1).trans rfl; have hfz43_0 := Zf BK306.out 0; have hfz43_1 := Zf BK306.out 1) | ((with_reducible refine gate_callee (f := 85) rfl ?_); refine goesL_ (some 15) rfl rfl Try.func85 (by kernel_rfl) rfl #[.agg #[.int .i64 a1_0, .int .i64 a1_1]] rfl (by (try simp only [List.map_toArray, List.map_cons, List.map_nil]); first | done | rfl | (simp only [List.length_drop, List.length_take]; rfl)) ?_; (with_reducible refine (spec_l03Turn.calls a1_0 a1_1 t309 t310 _ A5.out).mono ?_); rintro e w44 ⟨rfl, hb⟩; refine ⟨_, rfl, ?_⟩; have n0_ := Zm (blk_below (g := gp0) (o := .cells #[.int .i64 a0_0, .int .i64 a0_1, .int .i64 a0_2, .int .i64 a0_3, .int .i64 a0_4, .int .i64 a0_5, .int .i64 a0_6, .int .i64 a0_7, .int .i64 a0_8] 27 (0, 0)) (by (with_reducible repeat (first | refine Zn ?_ _ | refine Zd ?_ | refine Za ?_ _)); exact BK0.out) hb); have n1_ := Zm (blk_below (g := gb306) (o := .cells #[.int .i64 a1_0, .int .i64 a1_1] 47 (0, 0)) (by (with_reducible repeat (first | refine Zn ?_ _ | refine Zd ?_ | refine Za ?_ _)); exact BK306.out) hb); have n2_ := Zm (blk_below (g := gb307) (o := .cells #[.int .i64 0, .int .i64 0, .int .i64 0, .int .i64 0, .int .i64 0, .int .i64 0, .int .i64 0, .int .i64 0, .int .i64 0] 27 (0, 0)) (by (with_reducible repeat (first | refine Zn ?_ _ | refine Zd ?_ | refine Za ?_ _)); exact BK307.out) hb); have n3_ := Zm (below_step (by repeat (first | (with_reducible first | exact HB.out | apply Zl | apply Zp | apply Ze | refine Zs ?_ GE0.out | refine Zs ?_ GE306.out | refine Zs ?_ GE307.out) | exact HB.out)) hb); clear BK0; clear BK306; clear BK307; clear HB; have BK0 := n0_; have BK306 := n1_; have BK307 := n2_; have HB := n3_; clear n0_ n1_ n2_ n3_; (try clear hb); (try clear hb2); (try clear hk); (try clear hi)))
   have n0_ := Zm (Zd BK0.out)
   have n1_ := Zm (Zd BK306.out)
   have n2_ := Zm (Zd BK307.out)
   have n3_ := Zm (Ze HB.out)
   clear BK0
   clear BK306
   clear BK307
   clear HB
   have BK0 := n0_
   have BK306 := n1_
   have BK307 := n2_
   have HB := n3_
   clear n0_ n1_ n2_ n3_
   refine start_ (n := 19) (S := fun w' => w'.cell? ⟨gp0, 0, none⟩ = some (.int .i64 a0_0) ∧ w'.cell? ⟨gp0, 1, none⟩ = some (.int .i64 a0_1) ∧ w'.cell? ⟨gp0, 2, none⟩ = some (.int .i64 a0_2) ∧ w'.cell? ⟨gp0, 3, none⟩ = some (.int .i64 a0_3) ∧ w'.cell? ⟨gp0, 4, none⟩ = some (.int .i64 a0_4) ∧ w'.cell? ⟨gp0, 5, none⟩ = some (.int .i64 a0_5) ∧ w'.cell? ⟨gp0, 6, none⟩ = some (.int .i64 a0_6) ∧ w'.cell? ⟨gp0, 7, none⟩ = some (.int .i64 a0_7) ∧ w'.cell? ⟨gp0, 8, none⟩ = some (.int .i64 a0_8)) (ds := []) #[false, false, false, false, false, false, false, false, false, false, false, false, false, false, false, false, false, false, false] (by kernel_rfl) rfl rfl ⟨(Zc BK0.out 0).trans rfl, (Zc BK0.out 1).trans rfl, (Zc BK0.out 2).trans rfl, (Zc BK0.out 3).trans rfl, (Zc BK0.out 4).trans rfl, (Zc BK0.out 5).trans rfl, (Zc BK0.out 6).trans rfl, (Zc BK0.out 7).trans rfl, (Zc BK0.out 8).trans rfl⟩ (fun hHeld => ?_); refine with_tabW spec_l04Build.tab4 spec_l04Build.bits4 (fun HT_ HW_ => ?_)
   generalize w44.drew = w45 at BK0 BK306 BK307 HB hHeld ⊢
   refine pure_ (i := 0) (N := some 18) (v := ?_) (a' := ?_) #[true, false, false, false, false, false, false, false, false, false, false, false, false, false, false, false, false, false, false] rfl rfl (any_of HT_.out (by kernel_rfl)) (fun _ _ _ h => h) (Or.inl ⟨by rfl, ?_⟩) ?_ ?_
   rotate_left
   ·intro w'
    go_simp
    with_reducible rfl
   rotate_left
   ·simp only [Act.put, List.setIfInBounds_toArray, List.set_cons_zero, List.set_cons_succ, i64_w, i32_w]
    rfl
   refine pure_ (i := 1) (N := some 19) (v := ?_) (a' := ?_) #[true, true, false, false, false, false, false, false, false, false, false, false, false, false, false, false, false, false, false] rfl rfl (any_of HT_.out (by kernel_rfl)) (fun _ _ _ h => h) (Or.inl ⟨by rfl, ?_⟩) ?_ ?_
   rotate_left
   ·intro w'
    go_simp
    with_reducible rfl
   rotate_left
   ·simp only [Act.put, List.setIfInBounds_toArray, List.set_cons_zero, List.set_cons_succ, i64_w, i32_w]
    rfl
   refine pure_ (i := 2) (N := some 20) (v := ?_) (a' := ?_) #[true, true, true, false, false, false, false, false, false, false, false, false, false, false, false, false, false, false, false] rfl rfl (any_of HT_.out (by kernel_rfl)) (fun _ _ _ h => h) (Or.inl ⟨by rfl, ?_⟩) ?_ ?_
   rotate_left
   ·intro w'
    go_simp
    with_reducible rfl
   rotate_left
   ·simp only [Act.put, List.setIfInBounds_toArray, List.set_cons_zero, List.set_cons_succ, i64_w, i32_w]
    rfl
   refine pure_ (i := 4) (N := some 22) (v := ?_) (a' := ?_) #[true, true, true, false, true, false, false, false, false, false, false, false, false, false, false, false, false, false, false] rfl rfl (any_of HT_.out (by kernel_rfl)) (fun _ _ _ h => h) (Or.inl ⟨by rfl, ?_⟩) ?_ ?_
   rotate_left
   ·intro w'
    go_simp
    with_reducible rfl
   rotate_left
   ·simp only [Act.put, List.setIfInBounds_toArray, List.set_cons_zero, List.set_cons_succ, i64_w, i32_w]
    rfl
   refine pure_ (i := 5) (N := some 23) (v := ?_) (a' := ?_) #[true, true, true, false, true, true, false, false, false, false, false, false, false, false, false, false, false, false, false] rfl rfl (any_of HT_.out (by kernel_rfl)) (fun _ _ _ h => h) (Or.inl ⟨by rfl, ?_⟩) ?_ ?_
   rotate_left
   ·intro w'
    go_simp
    with_reducible rfl
   rotate_left
   ·simp only [Act.put, List.setIfInBounds_toArray, List.set_cons_zero, List.set_cons_succ, i64_w, i32_w]
    rfl
   refine pure_ (i := 6) (N := some 24) (v := ?_) (a' := ?_) #[true, true, true, false, true, true, true, false, false, false, false, false, false, false, false, false, false, false, false] rfl rfl (any_of HT_.out (by kernel_rfl)) (fun _ _ _ h => h) (Or.inl ⟨by rfl, ?_⟩) ?_ ?_
   rotate_left
   ·intro w'
    go_simp
    with_reducible rfl
   rotate_left
   ·simp only [Act.put, List.setIfInBounds_toArray, List.set_cons_zero, List.set_cons_succ, i64_w, i32_w]
    rfl
   refine pure_ (i := 8) (N := some 26) (v := ?_) (a' := ?_) #[true, true, true, false, true, true, true, false, true, false, false, false, false, false, false, false, false, false, false] rfl rfl (any_of HT_.out (by kernel_rfl)) (fun _ _ _ h => h) (Or.inl ⟨by rfl, ?_⟩) ?_ ?_
   rotate_left
   ·intro w'
    go_simp
    with_reducible rfl
   rotate_left
   ·simp only [Act.put, List.setIfInBounds_toArray, List.set_cons_zero, List.set_cons_succ, i64_w, i32_w]
    rfl
   refine pure_ (i := 9) (N := some 27) (v := ?_) (a' := ?_) #[true, true, true, false, true, true, true, false, true, true, false, false, false, false, false, false, false, false, false] rfl rfl (any_of HT_.out (by kernel_rfl)) (fun _ _ _ h => h) (Or.inl ⟨by rfl, ?_⟩) ?_ ?_
   rotate_left
   ·intro w'
    go_simp
    with_reducible rfl
   rotate_left
   ·simp only [Act.put, List.setIfInBounds_toArray, List.set_cons_zero, List.set_cons_succ, i64_w, i32_w]
    rfl
   refine pure_ (i := 11) (N := some 29) (v := ?_) (a' := ?_) #[true, true, true, false, true, true, true, false, true, true, false, true, false, false, false, false, false, false, false] rfl rfl (any_of HT_.out (by kernel_rfl)) (fun _ _ _ h => h) (Or.inl ⟨by rfl, ?_⟩) ?_ ?_
   rotate_left
   ·intro w'
    go_simp
    with_reducible rfl
   rotate_left
   ·simp only [Act.put, List.setIfInBounds_toArray, List.set_cons_zero, List.set_cons_succ, i64_w, i32_w]
    rfl
   refine pure_ (i := 12) (N := some 30) (v := ?_) (a' := ?_) #[true, true, true, false, true, true, true, false, true, true, false, true, true, false, false, false, false, false, false] rfl rfl (any_of HT_.out (by kernel_rfl)) (fun _ _ _ h => h) (Or.inl ⟨by rfl, ?_⟩) ?_ ?_
   rotate_left
   ·intro w'
    go_simp
    with_reducible rfl
   rotate_left
   ·simp only [Act.put, List.setIfInBounds_toArray, List.set_cons_zero, List.set_cons_succ, i64_w, i32_w]
    rfl
   refine pure_ (i := 13) (N := some 31) (v := ?_) (a' := ?_) #[true, true, true, false, true, true, true, false, true, true, false, true, true, true, false, false, false, false, false] rfl rfl (any_of HT_.out (by kernel_rfl)) (fun _ _ _ h => h) (Or.inl ⟨by rfl, ?_⟩) ?_ ?_
   rotate_left
   ·intro w'
    go_simp
    with_reducible rfl
   rotate_left
   ·simp only [Act.put, List.setIfInBounds_toArray, List.set_cons_zero, List.set_cons_succ, i64_w, i32_w]
    rfl
   refine take_ (i := 3) (N := some 21) (v := ?_) (a' := ?_) #[true, true, true, true, true, true, true, false, true, true, false, true, true, true, false, false, false, false, false] rfl rfl (take_ofW HT_.out HW_.out (by kernel_rfl)) (fun _ _ _ h => h) (Or.inl ⟨by rfl, ?_⟩) hHeld ?_ ?_
   rotate_left
   ·rintro w' ⟨s0, s1, s2, s3, s4, s5, s6, s7, s8⟩
    go_simp
    with_reducible rfl
   rotate_left
   ·simp only [Act.put, List.setIfInBounds_toArray, List.set_cons_zero, List.set_cons_succ, i64_w, i32_w]
    rfl
   refine take_ (i := 7) (N := some 25) (v := ?_) (a' := ?_) #[true, true, true, true, true, true, true, true, true, true, false, true, true, true, false, false, false, false, false] rfl rfl (take_ofW HT_.out HW_.out (by kernel_rfl)) (fun _ _ _ h => h) (Or.inl ⟨by rfl, ?_⟩) hHeld ?_ ?_
   rotate_left
   ·rintro w' ⟨s0, s1, s2, s3, s4, s5, s6, s7, s8⟩
    go_simp
    with_reducible rfl
   rotate_left
   ·simp only [Act.put, List.setIfInBounds_toArray, List.set_cons_zero, List.set_cons_succ, i64_w, i32_w]
    rfl
   refine take_ (i := 14) (N := some 32) (v := ?_) (a' := ?_) #[true, true, true, true, true, true, true, true, true, true, false, true, true, true, true, false, false, false, false] rfl rfl (take_ofW HT_.out HW_.out (by kernel_rfl)) (fun _ _ _ h => h) (Or.inl ⟨by rfl, ?_⟩) hHeld ?_ ?_
   rotate_left
   ·rintro w' ⟨s0, s1, s2, s3, s4, s5, s6, s7, s8⟩
    go_simp
    with_reducible rfl
   rotate_left
   ·simp only [Act.put, List.setIfInBounds_toArray, List.set_cons_zero, List.set_cons_succ, i64_w, i32_w]
    rfl
   refine pure_ (i := 15) (N := some 33) (v := ?_) (a' := ?_) #[true, true, true, true, true, true, true, true, true, true, false, true, true, true, true, true, false, false, false] rfl rfl (any_of HT_.out (by kernel_rfl)) (fun _ _ _ h => h) (Or.inl ⟨by rfl, ?_⟩) ?_ ?_
   rotate_left
   ·intro w'
    go_simp
    with_reducible rfl
   rotate_left
   ·simp only [Act.put, List.setIfInBounds_toArray, List.set_cons_zero, List.set_cons_succ, i64_w, i32_w]
    rfl
   refine join_ (σ := Nat) 1 #[true, true, true, true, true, true, true, true, true, true, true, true, true, true, true, true, true, true, false] (fun s_ => [(28, .agg #[.int .i64 t311, .int .i64 t312, .int .i64 t313, .int .i64 t314]), (8, .pointer (some ⟨s_, 0, none⟩)), (34, .agg #[.int .i64 a0_0, .int .i64 a0_1, .int .i64 a0_2, .int .i64 a0_3, .int .i64 t311, .int .i64 t312, .int .i64 t313, .int .i64 t314, .int .i64 (wrap64 (a0_8 - 1500))])]) (fun s_ w' => (w'.cell? ⟨gp0, 0, none⟩ = some (.int .i64 a0_0) ∧ w'.cell? ⟨gp0, 1, none⟩ = some (.int .i64 a0_1) ∧ w'.cell? ⟨gp0, 2, none⟩ = some (.int .i64 a0_2) ∧ w'.cell? ⟨gp0, 3, none⟩ = some (.int .i64 a0_3) ∧ w'.cell? ⟨gp0, 4, none⟩ = some (.int .i64 a0_4) ∧ w'.cell? ⟨gp0, 5, none⟩ = some (.int .i64 a0_5) ∧ w'.cell? ⟨gp0, 6, none⟩ = some (.int .i64 a0_6) ∧ w'.cell? ⟨gp0, 7, none⟩ = some (.int .i64 a0_7) ∧ w'.cell? ⟨gp0, 8, none⟩ = some (.int .i64 a0_8)) ∧ (w'.heap[gp0]? = some (.cells #[.int .i64 a0_0, .int .i64 a0_1, .int .i64 a0_2, .int .i64 a0_3, .int .i64 a0_4, .int .i64 a0_5, .int .i64 a0_6, .int .i64 a0_7, .int .i64 a0_8] 27 (0, 0))) ∧ (w'.heap[gb306]? = some (.cells #[.int .i64 a1_0, .int .i64 a1_1] 47 (0, 0))) ∧ (w'.heap[gb307]? = some (.cells #[.int .i64 0, .int .i64 0, .int .i64 0, .int .i64 0, .int .i64 0, .int .i64 0, .int .i64 0, .int .i64 0, .int .i64 0] 27 (0, 0))) ∧ (w'.heap[s_]? = some (.cells #[.int .i64 0, .int .i64 0, .int .i64 0, .int .i64 0, .int .i64 0, .int .i64 0, .int .i64 0, .int .i64 0, .int .i64 0] 27 (0, 0))) ∧ (w.heap.size ≤ s_) ∧ (w.heap.size ≤ s_) ∧ (gp0 ≠ s_) ∧ (s_ ≠ gp0) ∧ (gb306 ≠ s_) ∧ (s_ ≠ gb306) ∧ (gb307 ≠ s_) ∧ (s_ ≠ gb307) ∧ (Below w.heap.size w w')) ?_ ?_
   rotate_left
   ·intro hCont
    refine two_ (i := 10) (j := 17) (Ni := some 28) (Nj := some 8) #[true, true, true, true, true, true, true, true, true, true, true, true, true, true, true, true, false, false, false] #[true, true, true, true, true, true, true, true, true, true, false, true, true, true, true, true, false, true, false] rfl rfl rfl rfl (two_of HT_.out (by kernel_rfl)) (by decide) (by decide) (fun K hK => ?_) (fun K hK => ?_)
    ·skip
     refine goes_ Try.func86 (by kernel_rfl) rfl #[.agg #[.int .i64 a0_4, .int .i64 a0_5, .int .i64 a0_6, .int .i64 a0_7], .int .i64 t309, .int .i64 t310] (by rfl) rfl rfl (by (try simp only [List.map_toArray, List.map_cons, List.map_nil]); first | done | rfl | (simp only [List.length_drop, List.length_take]; rfl)) ?_
     with_reducible refine (spec_l02Next.calls a0_4 a0_5 a0_6 a0_7 t309 t310 t311 t312 t313 t314 _ A6.out).mono ?_
     rintro e w46 ⟨rfl, hb⟩
     refine ⟨_, rfl, ?_⟩
     have n0_ := Zm (blk_below (g := gp0) (o := .cells #[.int .i64 a0_0, .int .i64 a0_1, .int .i64 a0_2, .int .i64 a0_3, .int .i64 a0_4, .int .i64 a0_5, .int .i64 a0_6, .int .i64 a0_7, .int .i64 a0_8] 27 (0, 0)) (by (with_reducible repeat (first | refine Zn ?_ _ | refine Zd ?_ | refine Za ?_ _)); exact BK0.out) hb)
     have n1_ := Zm (blk_below (g := gb306) (o := .cells #[.int .i64 a1_0, .int .i64 a1_1] 47 (0, 0)) (by (with_reducible repeat (first | refine Zn ?_ _ | refine Zd ?_ | refine Za ?_ _)); exact BK306.out) hb)
     have n2_ := Zm (blk_below (g := gb307) (o := .cells #[.int .i64 0, .int .i64 0, .int .i64 0, .int .i64 0, .int .i64 0, .int .i64 0, .int .i64 0, .int .i64 0, .int .i64 0] 27 (0, 0)) (by (with_reducible repeat (first | refine Zn ?_ _ | refine Zd ?_ | refine Za ?_ _)); exact BK307.out) hb)
     have n3_ := Zm (below_step (by repeat (first | (with_reducible first | exact HB.out | apply Zl | apply Zp | apply Ze | refine Zs ?_ GE0.out | refine Zs ?_ GE306.out | refine Zs ?_ GE307.out) | exact HB.out)) hb)
     clear BK0
     clear BK306
     clear BK307
     clear HB
     have BK0 := n0_
     have BK306 := n1_
     have BK307 := n2_
     have HB := n3_
     clear n0_ n1_ n2_ n3_
     (try clear hb)
     (try clear hb2)
     (try clear hk)
     (try clear hi)
     refine hK.out _ _ ⟨(Zc BK0.out 0).trans rfl, (Zc BK0.out 1).trans rfl, (Zc BK0.out 2).trans rfl, (Zc BK0.out 3).trans rfl, (Zc BK0.out 4).trans rfl, (Zc BK0.out 5).trans rfl, (Zc BK0.out 6).trans rfl, (Zc BK0.out 7).trans rfl, (Zc BK0.out 8).trans rfl⟩ (fun hHeld => ?_)
     clear hK K
     refine norm_ (a' := ?_) ?_ ?_
     rotate_left
     ·show Act.put _ (some 28) _ = _
      simp only [Act.put, List.setIfInBounds_toArray, List.set_cons_zero, List.set_cons_succ, i64_w, i32_w]
      rfl
     refine pure_ (i := 16) (N := some 34) (v := ?_) (a' := ?_) #[true, true, true, true, true, true, true, true, true, true, true, true, true, true, true, true, true, false, false] rfl rfl (any_of HT_.out (by kernel_rfl)) (fun _ _ _ h => h) (Or.inl ⟨by rfl, ?_⟩) ?_ ?_
     rotate_left
     ·intro w'
      go_simp
      with_reducible rfl
     rotate_left
     ·simp only [Act.put, List.setIfInBounds_toArray, List.set_cons_zero, List.set_cons_succ, i64_w, i32_w]
      rfl
     refine one_ (i := 17) (N := some 8) #[true, true, true, true, true, true, true, true, true, true, true, true, true, true, true, true, true, true, false] rfl rfl (one_of HT_.out (by kernel_rfl)) (by decide) (fun K hK => ?_)
     refine box_step ?hg (N := 8) ?hd (cs := #[.int .i64 0, .int .i64 0, .int .i64 0, .int .i64 0, .int .i64 0, .int .i64 0, .int .i64 0, .int .i64 0, .int .i64 0]) (t := 27) ?hr ?_; (case hd => rfl); (case hg => rfl); (case hr => first | (go_simp; done) | (go_simp; rfl))
     intro gb315 hg w47 hbox hb
     have n0_ := Zm (blk_below (g := gp0) (o := .cells #[.int .i64 a0_0, .int .i64 a0_1, .int .i64 a0_2, .int .i64 a0_3, .int .i64 a0_4, .int .i64 a0_5, .int .i64 a0_6, .int .i64 a0_7, .int .i64 a0_8] 27 (0, 0)) (by (with_reducible repeat (first | refine Zn ?_ _ | refine Zd ?_ | refine Za ?_ _)); exact BK0.out) hb)
     have n1_ := Zm (blk_below (g := gb306) (o := .cells #[.int .i64 a1_0, .int .i64 a1_1] 47 (0, 0)) (by (with_reducible repeat (first | refine Zn ?_ _ | refine Zd ?_ | refine Za ?_ _)); exact BK306.out) hb)
     have n2_ := Zm (blk_below (g := gb307) (o := .cells #[.int .i64 0, .int .i64 0, .int .i64 0, .int .i64 0, .int .i64 0, .int .i64 0, .int .i64 0, .int .i64 0, .int .i64 0] 27 (0, 0)) (by (with_reducible repeat (first | refine Zn ?_ _ | refine Zd ?_ | refine Za ?_ _)); exact BK307.out) hb)
     have n3_ := Zm (below_step (by repeat (first | (with_reducible first | exact HB.out | apply Zl | apply Zp | apply Ze | refine Zs ?_ GE0.out | refine Zs ?_ GE306.out | refine Zs ?_ GE307.out) | exact HB.out)) hb)
     have n4_ := Zm (hbox)
     have n5_ := Zm ((by rw [hg]; exact (below_size (by repeat (first | (with_reducible first | exact HB.out | apply Zl | apply Zp | apply Ze | refine Zs ?_ GE0.out | refine Zs ?_ GE306.out | refine Zs ?_ GE307.out) | exact HB.out))) : w.heap.size ≤ gb315))
     have n6_ := Zm ((by rw [hg]; exact (below_size (by repeat (first | (with_reducible first | exact HB.out | apply Zl | apply Zp | apply Ze | refine Zs ?_ GE0.out | refine Zs ?_ GE306.out | refine Zs ?_ GE307.out) | exact HB.out))) : w.heap.size ≤ gb315))
     have n7_ := Zm ((by rw [hg]; exact Nat.ne_of_lt (blk_lt (g := gp0) (o := .cells #[.int .i64 a0_0, .int .i64 a0_1, .int .i64 a0_2, .int .i64 a0_3, .int .i64 a0_4, .int .i64 a0_5, .int .i64 a0_6, .int .i64 a0_7, .int .i64 a0_8] 27 (0, 0)) (by (with_reducible repeat (first | refine Zn ?_ _ | refine Zd ?_ | refine Za ?_ _)); exact BK0.out)) : gp0 ≠ gb315))
     have n8_ := Zm ((by rw [hg]; exact Nat.ne_of_gt (blk_lt (g := gp0) (o := .cells #[.int .i64 a0_0, .int .i64 a0_1, .int .i64 a0_2, .int .i64 a0_3, .int .i64 a0_4, .int .i64 a0_5, .int .i64 a0_6, .int .i64 a0_7, .int .i64 a0_8] 27 (0, 0)) (by (with_reducible repeat (first | refine Zn ?_ _ | refine Zd ?_ | refine Za ?_ _)); exact BK0.out)) : gb315 ≠ gp0))
     have n9_ := Zm ((by rw [hg]; exact Nat.ne_of_lt (blk_lt (g := gb306) (o := .cells #[.int .i64 a1_0, .int .i64 a1_1] 47 (0, 0)) (by (with_reducible repeat (first | refine Zn ?_ _ | refine Zd ?_ | refine Za ?_ _)); exact BK306.out)) : gb306 ≠ gb315))
     have n10_ := Zm ((by rw [hg]; exact Nat.ne_of_gt (blk_lt (g := gb306) (o := .cells #[.int .i64 a1_0, .int .i64 a1_1] 47 (0, 0)) (by (with_reducible repeat (first | refine Zn ?_ _ | refine Zd ?_ | refine Za ?_ _)); exact BK306.out)) : gb315 ≠ gb306))
     have n11_ := Zm ((by rw [hg]; exact Nat.ne_of_lt (blk_lt (g := gb307) (o := .cells #[.int .i64 0, .int .i64 0, .int .i64 0, .int .i64 0, .int .i64 0, .int .i64 0, .int .i64 0, .int .i64 0, .int .i64 0] 27 (0, 0)) (by (with_reducible repeat (first | refine Zn ?_ _ | refine Zd ?_ | refine Za ?_ _)); exact BK307.out)) : gb307 ≠ gb315))
     have n12_ := Zm ((by rw [hg]; exact Nat.ne_of_gt (blk_lt (g := gb307) (o := .cells #[.int .i64 0, .int .i64 0, .int .i64 0, .int .i64 0, .int .i64 0, .int .i64 0, .int .i64 0, .int .i64 0, .int .i64 0] 27 (0, 0)) (by (with_reducible repeat (first | refine Zn ?_ _ | refine Zd ?_ | refine Za ?_ _)); exact BK307.out)) : gb315 ≠ gb307))
     clear BK0
     clear BK306
     clear BK307
     clear HB
     have BK0 := n0_
     have BK306 := n1_
     have BK307 := n2_
     have HB := n3_
     have BK315 := n4_
     have GW315 := n5_
     have GE315 := n6_
     have NB0_315 := n7_
     have NB315_0 := n8_
     have NB306_315 := n9_
     have NB315_306 := n10_
     have NB307_315 := n11_
     have NB315_307 := n12_
     clear n0_ n1_ n2_ n3_ n4_ n5_ n6_ n7_ n8_ n9_ n10_ n11_ n12_
     clear hb hbox hg
     refine hK.out _ _ ⟨(Zc BK0.out 0).trans rfl, (Zc BK0.out 1).trans rfl, (Zc BK0.out 2).trans rfl, (Zc BK0.out 3).trans rfl, (Zc BK0.out 4).trans rfl, (Zc BK0.out 5).trans rfl, (Zc BK0.out 6).trans rfl, (Zc BK0.out 7).trans rfl, (Zc BK0.out 8).trans rfl⟩ (fun hHeld => ?_)
     clear hK K
     refine norm_ (a' := ?_) ?_ ?_
     rotate_left
     ·show Act.put _ (some 8) _ = _
      simp only [Act.put, List.setIfInBounds_toArray, List.set_cons_zero, List.set_cons_succ, i64_w, i32_w]
      rfl
     exact norm_ (by simp only [putAll, Act.put, List.setIfInBounds_toArray, List.set_cons_zero, List.set_cons_succ]) (hCont (gb315) _ ⟨hHeld, (by (with_reducible repeat (first | refine Zn ?_ _ | refine Zd ?_ | refine Za ?_ _)); exact BK0.out), (by (with_reducible repeat (first | refine Zn ?_ _ | refine Zd ?_ | refine Za ?_ _)); exact BK306.out), (by (with_reducible repeat (first | refine Zn ?_ _ | refine Zd ?_ | refine Za ?_ _)); exact BK307.out), (by (with_reducible repeat (first | refine Zn ?_ _ | refine Zd ?_ | refine Za ?_ _)); exact BK315.out), GW315.out, GE315.out, NB0_315.out, NB315_0.out, NB306_315.out, NB315_306.out, NB307_315.out, NB315_307.out, (by repeat (first | (with_reducible first | exact HB.out | apply Zl | apply Zp | apply Ze | refine Zs ?_ GE0.out | refine Zs ?_ GE306.out | refine Zs ?_ GE307.out | refine Zs ?_ GE315.out) | exact HB.out))⟩)
    ·skip
     refine box_step ?hg (N := 8) ?hd (cs := #[.int .i64 0, .int .i64 0, .int .i64 0, .int .i64 0, .int .i64 0, .int .i64 0, .int .i64 0, .int .i64 0, .int .i64 0]) (t := 27) ?hr ?_; (case hd => rfl); (case hg => rfl); (case hr => first | (go_simp; done) | (go_simp; rfl))
     intro gb315 hg w46 hbox hb
     have n0_ := Zm (blk_below (g := gp0) (o := .cells #[.int .i64 a0_0, .int .i64 a0_1, .int .i64 a0_2, .int .i64 a0_3, .int .i64 a0_4, .int .i64 a0_5, .int .i64 a0_6, .int .i64 a0_7, .int .i64 a0_8] 27 (0, 0)) (by (with_reducible repeat (first | refine Zn ?_ _ | refine Zd ?_ | refine Za ?_ _)); exact BK0.out) hb)
     have n1_ := Zm (blk_below (g := gb306) (o := .cells #[.int .i64 a1_0, .int .i64 a1_1] 47 (0, 0)) (by (with_reducible repeat (first | refine Zn ?_ _ | refine Zd ?_ | refine Za ?_ _)); exact BK306.out) hb)
     have n2_ := Zm (blk_below (g := gb307) (o := .cells #[.int .i64 0, .int .i64 0, .int .i64 0, .int .i64 0, .int .i64 0, .int .i64 0, .int .i64 0, .int .i64 0, .int .i64 0] 27 (0, 0)) (by (with_reducible repeat (first | refine Zn ?_ _ | refine Zd ?_ | refine Za ?_ _)); exact BK307.out) hb)
     have n3_ := Zm (below_step (by repeat (first | (with_reducible first | exact HB.out | apply Zl | apply Zp | apply Ze | refine Zs ?_ GE0.out | refine Zs ?_ GE306.out | refine Zs ?_ GE307.out) | exact HB.out)) hb)
     have n4_ := Zm (hbox)
     have n5_ := Zm ((by rw [hg]; exact (below_size (by repeat (first | (with_reducible first | exact HB.out | apply Zl | apply Zp | apply Ze | refine Zs ?_ GE0.out | refine Zs ?_ GE306.out | refine Zs ?_ GE307.out) | exact HB.out))) : w.heap.size ≤ gb315))
     have n6_ := Zm ((by rw [hg]; exact (below_size (by repeat (first | (with_reducible first | exact HB.out | apply Zl | apply Zp | apply Ze | refine Zs ?_ GE0.out | refine Zs ?_ GE306.out | refine Zs ?_ GE307.out) | exact HB.out))) : w.heap.size ≤ gb315))
     have n7_ := Zm ((by rw [hg]; exact Nat.ne_of_lt (blk_lt (g := gp0) (o := .cells #[.int .i64 a0_0, .int .i64 a0_1, .int .i64 a0_2, .int .i64 a0_3, .int .i64 a0_4, .int .i64 a0_5, .int .i64 a0_6, .int .i64 a0_7, .int .i64 a0_8] 27 (0, 0)) (by (with_reducible repeat (first | refine Zn ?_ _ | refine Zd ?_ | refine Za ?_ _)); exact BK0.out)) : gp0 ≠ gb315))
     have n8_ := Zm ((by rw [hg]; exact Nat.ne_of_gt (blk_lt (g := gp0) (o := .cells #[.int .i64 a0_0, .int .i64 a0_1, .int .i64 a0_2, .int .i64 a0_3, .int .i64 a0_4, .int .i64 a0_5, .int .i64 a0_6, .int .i64 a0_7, .int .i64 a0_8] 27 (0, 0)) (by (with_reducible repeat (first | refine Zn ?_ _ | refine Zd ?_ | refine Za ?_ _)); exact BK0.out)) : gb315 ≠ gp0))
     have n9_ := Zm ((by rw [hg]; exact Nat.ne_of_lt (blk_lt (g := gb306) (o := .cells #[.int .i64 a1_0, .int .i64 a1_1] 47 (0, 0)) (by (with_reducible repeat (first | refine Zn ?_ _ | refine Zd ?_ | refine Za ?_ _)); exact BK306.out)) : gb306 ≠ gb315))
     have n10_ := Zm ((by rw [hg]; exact Nat.ne_of_gt (blk_lt (g := gb306) (o := .cells #[.int .i64 a1_0, .int .i64 a1_1] 47 (0, 0)) (by (with_reducible repeat (first | refine Zn ?_ _ | refine Zd ?_ | refine Za ?_ _)); exact BK306.out)) : gb315 ≠ gb306))
     have n11_ := Zm ((by rw [hg]; exact Nat.ne_of_lt (blk_lt (g := gb307) (o := .cells #[.int .i64 0, .int .i64 0, .int .i64 0, .int .i64 0, .int .i64 0, .int .i64 0, .int .i64 0, .int .i64 0, .int .i64 0] 27 (0, 0)) (by (with_reducible repeat (first | refine Zn ?_ _ | refine Zd ?_ | refine Za ?_ _)); exact BK307.out)) : gb307 ≠ gb315))
     have n12_ := Zm ((by rw [hg]; exact Nat.ne_of_gt (blk_lt (g := gb307) (o := .cells #[.int .i64 0, .int .i64 0, .int .i64 0, .int .i64 0, .int .i64 0, .int .i64 0, .int .i64 0, .int .i64 0, .int .i64 0] 27 (0, 0)) (by (with_reducible repeat (first | refine Zn ?_ _ | refine Zd ?_ | refine Za ?_ _)); exact BK307.out)) : gb315 ≠ gb307))
     clear BK0
     clear BK306
     clear BK307
     clear HB
     have BK0 := n0_
     have BK306 := n1_
     have BK307 := n2_
     have HB := n3_
     have BK315 := n4_
     have GW315 := n5_
     have GE315 := n6_
     have NB0_315 := n7_
     have NB315_0 := n8_
     have NB306_315 := n9_
     have NB315_306 := n10_
     have NB307_315 := n11_
     have NB315_307 := n12_
     clear n0_ n1_ n2_ n3_ n4_ n5_ n6_ n7_ n8_ n9_ n10_ n11_ n12_
     clear hb hbox hg
     refine hK.out _ _ ⟨(Zc BK0.out 0).trans rfl, (Zc BK0.out 1).trans rfl, (Zc BK0.out 2).trans rfl, (Zc BK0.out 3).trans rfl, (Zc BK0.out 4).trans rfl, (Zc BK0.out 5).trans rfl, (Zc BK0.out 6).trans rfl, (Zc BK0.out 7).trans rfl, (Zc BK0.out 8).trans rfl⟩ (fun hHeld => ?_)
     clear hK K
     refine norm_ (a' := ?_) ?_ ?_
     rotate_left
     ·show Act.put _ (some 8) _ = _
      simp only [Act.put, List.setIfInBounds_toArray, List.set_cons_zero, List.set_cons_succ, i64_w, i32_w]
      rfl
     refine one_ (i := 10) (N := some 28) #[true, true, true, true, true, true, true, true, true, true, true, true, true, true, true, true, false, true, false] rfl rfl (one_of HT_.out (by kernel_rfl)) (by decide) (fun K hK => ?_)
     refine goes_ Try.func86 (by kernel_rfl) rfl #[.agg #[.int .i64 a0_4, .int .i64 a0_5, .int .i64 a0_6, .int .i64 a0_7], .int .i64 t309, .int .i64 t310] (by rfl) rfl rfl (by (try simp only [List.map_toArray, List.map_cons, List.map_nil]); first | done | rfl | (simp only [List.length_drop, List.length_take]; rfl)) ?_
     with_reducible refine (spec_l02Next.calls a0_4 a0_5 a0_6 a0_7 t309 t310 t311 t312 t313 t314 _ A6.out).mono ?_
     rintro e w47 ⟨rfl, hb⟩
     refine ⟨_, rfl, ?_⟩
     have n0_ := Zm (blk_below (g := gp0) (o := .cells #[.int .i64 a0_0, .int .i64 a0_1, .int .i64 a0_2, .int .i64 a0_3, .int .i64 a0_4, .int .i64 a0_5, .int .i64 a0_6, .int .i64 a0_7, .int .i64 a0_8] 27 (0, 0)) (by (with_reducible repeat (first | refine Zn ?_ _ | refine Zd ?_ | refine Za ?_ _)); exact BK0.out) hb)
     have n1_ := Zm (blk_below (g := gb306) (o := .cells #[.int .i64 a1_0, .int .i64 a1_1] 47 (0, 0)) (by (with_reducible repeat (first | refine Zn ?_ _ | refine Zd ?_ | refine Za ?_ _)); exact BK306.out) hb)
     have n2_ := Zm (blk_below (g := gb307) (o := .cells #[.int .i64 0, .int .i64 0, .int .i64 0, .int .i64 0, .int .i64 0, .int .i64 0, .int .i64 0, .int .i64 0, .int .i64 0] 27 (0, 0)) (by (with_reducible repeat (first | refine Zn ?_ _ | refine Zd ?_ | refine Za ?_ _)); exact BK307.out) hb)
     have n3_ := Zm (blk_below (g := gb315) (o := .cells #[.int .i64 0, .int .i64 0, .int .i64 0, .int .i64 0, .int .i64 0, .int .i64 0, .int .i64 0, .int .i64 0, .int .i64 0] 27 (0, 0)) (by (with_reducible repeat (first | refine Zn ?_ _ | refine Zd ?_ | refine Za ?_ _)); exact BK315.out) hb)
     have n4_ := Zm (below_step (by repeat (first | (with_reducible first | exact HB.out | apply Zl | apply Zp | apply Ze | refine Zs ?_ GE0.out | refine Zs ?_ GE306.out | refine Zs ?_ GE307.out | refine Zs ?_ GE315.out) | exact HB.out)) hb)
     clear BK0
     clear BK306
     clear BK307
     clear BK315
     clear HB
     have BK0 := n0_
     have BK306 := n1_
     have BK307 := n2_
     have BK315 := n3_
     have HB := n4_
     clear n0_ n1_ n2_ n3_ n4_
     (try clear hb)
     (try clear hb2)
     (try clear hk)
     (try clear hi)
     refine hK.out _ _ ⟨(Zc BK0.out 0).trans rfl, (Zc BK0.out 1).trans rfl, (Zc BK0.out 2).trans rfl, (Zc BK0.out 3).trans rfl, (Zc BK0.out 4).trans rfl, (Zc BK0.out 5).trans rfl, (Zc BK0.out 6).trans rfl, (Zc BK0.out 7).trans rfl, (Zc BK0.out 8).trans rfl⟩ (fun hHeld => ?_)
     clear hK K
     refine norm_ (a' := ?_) ?_ ?_
     rotate_left
     ·show Act.put _ (some 28) _ = _
      simp only [Act.put, List.setIfInBounds_toArray, List.set_cons_zero, List.set_cons_succ, i64_w, i32_w]
      rfl
     refine pure_ (i := 16) (N := some 34) (v := ?_) (a' := ?_) #[true, true, true, true, true, true, true, true, true, true, true, true, true, true, true, true, true, true, false] rfl rfl (any_of HT_.out (by kernel_rfl)) (fun _ _ _ h => h) (Or.inl ⟨by rfl, ?_⟩) ?_ ?_
     rotate_left
     ·intro w'
      go_simp
      with_reducible rfl
     rotate_left
     ·simp only [Act.put, List.setIfInBounds_toArray, List.set_cons_zero, List.set_cons_succ, i64_w, i32_w]
      rfl
     exact norm_ (by simp only [putAll, Act.put, List.setIfInBounds_toArray, List.set_cons_zero, List.set_cons_succ]) (hCont (gb315) _ ⟨hHeld, (by (with_reducible repeat (first | refine Zn ?_ _ | refine Zd ?_ | refine Za ?_ _)); exact BK0.out), (by (with_reducible repeat (first | refine Zn ?_ _ | refine Zd ?_ | refine Za ?_ _)); exact BK306.out), (by (with_reducible repeat (first | refine Zn ?_ _ | refine Zd ?_ | refine Za ?_ _)); exact BK307.out), (by (with_reducible repeat (first | refine Zn ?_ _ | refine Zd ?_ | refine Za ?_ _)); exact BK315.out), GW315.out, GE315.out, NB0_315.out, NB315_0.out, NB306_315.out, NB315_306.out, NB307_315.out, NB315_307.out, (by repeat (first | (with_reducible first | exact HB.out | apply Zl | apply Zp | apply Ze | refine Zs ?_ GE0.out | refine Zs ?_ GE306.out | refine Zs ?_ GE307.out | refine Zs ?_ GE315.out) | exact HB.out))⟩)
   rintro gb315 w48 ⟨hS_, h0_, h1_, h2_, h3_, h4_, h5_, h6_, h7_, h8_, h9_, h10_, h11_, h12_⟩
   have n0_ : Aside0 (w48.heap[gp0]? = some (.cells #[.int .i64 a0_0, .int .i64 a0_1, .int .i64 a0_2, .int .i64 a0_3, .int .i64 a0_4, .int .i64 a0_5, .int .i64 a0_6, .int .i64 a0_7, .int .i64 a0_8] 27 (0, 0))) := ⟨h0_⟩
   have n1_ : Aside0 (w48.heap[gb306]? = some (.cells #[.int .i64 a1_0, .int .i64 a1_1] 47 (0, 0))) := ⟨h1_⟩
   have n2_ : Aside0 (w48.heap[gb307]? = some (.cells #[.int .i64 0, .int .i64 0, .int .i64 0, .int .i64 0, .int .i64 0, .int .i64 0, .int .i64 0, .int .i64 0, .int .i64 0] 27 (0, 0))) := ⟨h2_⟩
   have n3_ : Aside0 (w48.heap[gb315]? = some (.cells #[.int .i64 0, .int .i64 0, .int .i64 0, .int .i64 0, .int .i64 0, .int .i64 0, .int .i64 0, .int .i64 0, .int .i64 0] 27 (0, 0))) := ⟨h3_⟩
   have n4_ : Aside0 (w.heap.size ≤ gb315) := ⟨h4_⟩
   have n5_ : Aside0 (w.heap.size ≤ gb315) := ⟨h5_⟩
   have n6_ : Aside0 (gp0 ≠ gb315) := ⟨h6_⟩
   have n7_ : Aside0 (gb315 ≠ gp0) := ⟨h7_⟩
   have n8_ : Aside0 (gb306 ≠ gb315) := ⟨h8_⟩
   have n9_ : Aside0 (gb315 ≠ gb306) := ⟨h9_⟩
   have n10_ : Aside0 (gb307 ≠ gb315) := ⟨h10_⟩
   have n11_ : Aside0 (gb315 ≠ gb307) := ⟨h11_⟩
   have n12_ : Aside0 (Below w.heap.size w w48) := ⟨h12_⟩
   clear BK0
   clear BK306
   clear BK307
   clear HB
   clear h0_ h1_ h2_ h3_ h4_ h5_ h6_ h7_ h8_ h9_ h10_ h11_ h12_
   have BK0 := n0_
   have BK306 := n1_
   have BK307 := n2_
   have BK315 := n3_
   have GW315 := n4_
   have GE315 := n5_
   have NB0_315 := n6_
   have NB315_0 := n7_
   have NB306_315 := n8_
   have NB315_306 := n9_
   have NB307_315 := n10_
   have NB315_307 := n11_
   have HB := n12_
   clear n0_ n1_ n2_ n3_ n4_ n5_ n6_ n7_ n8_ n9_ n10_ n11_ n12_
   have hHeld : w48.cell? ⟨gp0, 0, none⟩ = some (.int .i64 a0_0) ∧ w48.cell? ⟨gp0, 1, none⟩ = some (.int .i64 a0_1) ∧ w48.cell? ⟨gp0, 2, none⟩ = some (.int .i64 a0_2) ∧ w48.cell? ⟨gp0, 3, none⟩ = some (.int .i64 a0_3) ∧ w48.cell? ⟨gp0, 4, none⟩ = some (.int .i64 a0_4) ∧ w48.cell? ⟨gp0, 5, none⟩ = some (.int .i64 a0_5) ∧ w48.cell? ⟨gp0, 6, none⟩ = some (.int .i64 a0_6) ∧ w48.cell? ⟨gp0, 7, none⟩ = some (.int .i64 a0_7) ∧ w48.cell? ⟨gp0, 8, none⟩ = some (.int .i64 a0_8) := hS_
   refine norm_ (a' := ?_) ?_ ?_
   rotate_left
   ·simp only [putAll, Act.put, List.setIfInBounds_toArray, List.set_cons_zero, List.set_cons_succ]
    rfl
   refine one_ (i := 18) (N := none) #[true, true, true, true, true, true, true, true, true, true, true, true, true, true, true, true, true, true, true] rfl rfl (one_of HT_.out (by kernel_rfl)) (by decide) (fun K hK => ?_)
   have hs49 : w48.cell? ⟨gb315, 0, none⟩ = some (.int .i64 0) := (Zc BK315.out 0).trans rfl
   have hfs49 := Zf BK315.out 0
   have hns49_0 := NB0_315.out
   have hns49_1 := NB306_315.out
   have hns49_2 := NB307_315.out
   have hms49_0 := NB315_0.out
   have hms49_1 := NB315_306.out
   have hms49_2 := NB315_307.out
   have hs50 : w48.cell? ⟨gb315, 1, none⟩ = some (.int .i64 0) := (Zc BK315.out 1).trans rfl
   have hfs50 := Zf BK315.out 1
   have hns50_0 := NB0_315.out
   have hns50_1 := NB306_315.out
   have hns50_2 := NB307_315.out
   have hms50_0 := NB315_0.out
   have hms50_1 := NB315_306.out
   have hms50_2 := NB315_307.out
   have hs51 : w48.cell? ⟨gb315, 2, none⟩ = some (.int .i64 0) := (Zc BK315.out 2).trans rfl
   have hfs51 := Zf BK315.out 2
   have hns51_0 := NB0_315.out
   have hns51_1 := NB306_315.out
   have hns51_2 := NB307_315.out
   have hms51_0 := NB315_0.out
   have hms51_1 := NB315_306.out
   have hms51_2 := NB315_307.out
   have hs52 : w48.cell? ⟨gb315, 3, none⟩ = some (.int .i64 0) := (Zc BK315.out 3).trans rfl
   have hfs52 := Zf BK315.out 3
   have hns52_0 := NB0_315.out
   have hns52_1 := NB306_315.out
   have hns52_2 := NB307_315.out
   have hms52_0 := NB315_0.out
   have hms52_1 := NB315_306.out
   have hms52_2 := NB315_307.out
   have hs53 : w48.cell? ⟨gb315, 4, none⟩ = some (.int .i64 0) := (Zc BK315.out 4).trans rfl
   have hfs53 := Zf BK315.out 4
   have hns53_0 := NB0_315.out
   have hns53_1 := NB306_315.out
   have hns53_2 := NB307_315.out
   have hms53_0 := NB315_0.out
   have hms53_1 := NB315_306.out
   have hms53_2 := NB315_307.out
   have hs54 : w48.cell? ⟨gb315, 5, none⟩ = some (.int .i64 0) := (Zc BK315.out 5).trans rfl
   have hfs54 := Zf BK315.out 5
   have hns54_0 := NB0_315.out
   have hns54_1 := NB306_315.out
   have hns54_2 := NB307_315.out
   have hms54_0 := NB315_0.out
   have hms54_1 := NB315_306.out
   have hms54_2 := NB315_307.out
   have hs55 : w48.cell? ⟨gb315, 6, none⟩ = some (.int .i64 0) := (Zc BK315.out 6).trans rfl
   have hfs55 := Zf BK315.out 6
   have hns55_0 := NB0_315.out
   have hns55_1 := NB306_315.out
   have hns55_2 := NB307_315.out
   have hms55_0 := NB315_0.out
   have hms55_1 := NB315_306.out
   have hms55_2 := NB315_307.out
   have hs56 : w48.cell? ⟨gb315, 7, none⟩ = some (.int .i64 0) := (Zc BK315.out 7).trans rfl
   have hfs56 := Zf BK315.out 7
   have hns56_0 := NB0_315.out
   have hns56_1 := NB306_315.out
   have hns56_2 := NB307_315.out
   have hms56_0 := NB315_0.out
   have hms56_1 := NB315_306.out
   have hms56_2 := NB315_307.out
   have hs57 : w48.cell? ⟨gb315, 8, none⟩ = some (.int .i64 0) := (Zc BK315.out 8).trans rfl
   have hfs57 := Zf BK315.out 8
   have hns57_0 := NB0_315.out
   have hns57_1 := NB306_315.out
   have hns57_2 := NB307_315.out
   have hms57_0 := NB315_0.out
   have hms57_1 := NB315_306.out
   have hms57_2 := NB315_307.out
   refine skip_ (w1 := ?_) (by rfl) rfl ?_ ?_
   rotate_left
   ·go_simp
    rfl
   refine hK.out _ _ ⟨((cell_far (p := ⟨gb315, _, none⟩) NB0_315.out _).trans (((cell_far (p := ⟨gb315, _, none⟩) NB0_315.out _).trans (((cell_far (p := ⟨gb315, _, none⟩) NB0_315.out _).trans (((cell_far (p := ⟨gb315, _, none⟩) NB0_315.out _).trans (((cell_far (p := ⟨gb315, _, none⟩) NB0_315.out _).trans (((cell_far (p := ⟨gb315, _, none⟩) NB0_315.out _).trans (((cell_far (p := ⟨gb315, _, none⟩) NB0_315.out _).trans (((cell_far (p := ⟨gb315, _, none⟩) NB0_315.out _).trans (((cell_far (p := ⟨gb315, _, none⟩) NB0_315.out _).trans (hHeld.1)))))))))))))))))), ((cell_far (p := ⟨gb315, _, none⟩) NB0_315.out _).trans (((cell_far (p := ⟨gb315, _, none⟩) NB0_315.out _).trans (((cell_far (p := ⟨gb315, _, none⟩) NB0_315.out _).trans (((cell_far (p := ⟨gb315, _, none⟩) NB0_315.out _).trans (((cell_far (p := ⟨gb315, _, none⟩) NB0_315.out _).trans (((cell_far (p := ⟨gb315, _, none⟩) NB0_315.out _).trans (((cell_far (p := ⟨gb315, _, none⟩) NB0_315.out _).trans (((cell_far (p := ⟨gb315, _, none⟩) NB0_315.out _).trans (((cell_far (p := ⟨gb315, _, none⟩) NB0_315.out _).trans (hHeld.2.1)))))))))))))))))), ((cell_far (p := ⟨gb315, _, none⟩) NB0_315.out _).trans (((cell_far (p := ⟨gb315, _, none⟩) NB0_315.out _).trans (((cell_far (p := ⟨gb315, _, none⟩) NB0_315.out _).trans (((cell_far (p := ⟨gb315, _, none⟩) NB0_315.out _).trans (((cell_far (p := ⟨gb315, _, none⟩) NB0_315.out _).trans (((cell_far (p := ⟨gb315, _, none⟩) NB0_315.out _).trans (((cell_far (p := ⟨gb315, _, none⟩) NB0_315.out _).trans (((cell_far (p := ⟨gb315, _, none⟩) NB0_315.out _).trans (((cell_far (p := ⟨gb315, _, none⟩) NB0_315.out _).trans (hHeld.2.2.1)))))))))))))))))), ((cell_far (p := ⟨gb315, _, none⟩) NB0_315.out _).trans (((cell_far (p := ⟨gb315, _, none⟩) NB0_315.out _).trans (((cell_far (p := ⟨gb315, _, none⟩) NB0_315.out _).trans (((cell_far (p := ⟨gb315, _, none⟩) NB0_315.out _).trans (((cell_far (p := ⟨gb315, _, none⟩) NB0_315.out _).trans (((cell_far (p := ⟨gb315, _, none⟩) NB0_315.out _).trans (((cell_far (p := ⟨gb315, _, none⟩) NB0_315.out _).trans (((cell_far (p := ⟨gb315, _, none⟩) NB0_315.out _).trans (((cell_far (p := ⟨gb315, _, none⟩) NB0_315.out _).trans (hHeld.2.2.2.1)))))))))))))))))), ((cell_far (p := ⟨gb315, _, none⟩) NB0_315.out _).trans (((cell_far (p := ⟨gb315, _, none⟩) NB0_315.out _).trans (((cell_far (p := ⟨gb315, _, none⟩) NB0_315.out _).trans (((cell_far (p := ⟨gb315, _, none⟩) NB0_315.out _).trans (((cell_far (p := ⟨gb315, _, none⟩) NB0_315.out _).trans (((cell_far (p := ⟨gb315, _, none⟩) NB0_315.out _).trans (((cell_far (p := ⟨gb315, _, none⟩) NB0_315.out _).trans (((cell_far (p := ⟨gb315, _, none⟩) NB0_315.out _).trans (((cell_far (p := ⟨gb315, _, none⟩) NB0_315.out _).trans (hHeld.2.2.2.2.1)))))))))))))))))), ((cell_far (p := ⟨gb315, _, none⟩) NB0_315.out _).trans (((cell_far (p := ⟨gb315, _, none⟩) NB0_315.out _).trans (((cell_far (p := ⟨gb315, _, none⟩) NB0_315.out _).trans (((cell_far (p := ⟨gb315, _, none⟩) NB0_315.out _).trans (((cell_far (p := ⟨gb315, _, none⟩) NB0_315.out _).trans (((cell_far (p := ⟨gb315, _, none⟩) NB0_315.out _).trans (((cell_far (p := ⟨gb315, _, none⟩) NB0_315.out _).trans (((cell_far (p := ⟨gb315, _, none⟩) NB0_315.out _).trans (((cell_far (p := ⟨gb315, _, none⟩) NB0_315.out _).trans (hHeld.2.2.2.2.2.1)))))))))))))))))), ((cell_far (p := ⟨gb315, _, none⟩) NB0_315.out _).trans (((cell_far (p := ⟨gb315, _, none⟩) NB0_315.out _).trans (((cell_far (p := ⟨gb315, _, none⟩) NB0_315.out _).trans (((cell_far (p := ⟨gb315, _, none⟩) NB0_315.out _).trans (((cell_far (p := ⟨gb315, _, none⟩) NB0_315.out _).trans (((cell_far (p := ⟨gb315, _, none⟩) NB0_315.out _).trans (((cell_far (p := ⟨gb315, _, none⟩) NB0_315.out _).trans (((cell_far (p := ⟨gb315, _, none⟩) NB0_315.out _).trans (((cell_far (p := ⟨gb315, _, none⟩) NB0_315.out _).trans (hHeld.2.2.2.2.2.2.1)))))))))))))))))), ((cell_far (p := ⟨gb315, _, none⟩) NB0_315.out _).trans (((cell_far (p := ⟨gb315, _, none⟩) NB0_315.out _).trans (((cell_far (p := ⟨gb315, _, none⟩) NB0_315.out _).trans (((cell_far (p := ⟨gb315, _, none⟩) NB0_315.out _).trans (((cell_far (p := ⟨gb315, _, none⟩) NB0_315.out _).trans (((cell_far (p := ⟨gb315, _, none⟩) NB0_315.out _).trans (((cell_far (p := ⟨gb315, _, none⟩) NB0_315.out _).trans (((cell_far (p := ⟨gb315, _, none⟩) NB0_315.out _).trans (((cell_far (p := ⟨gb315, _, none⟩) NB0_315.out _).trans (hHeld.2.2.2.2.2.2.2.1)))))))))))))))))), ((cell_far (p := ⟨gb315, _, none⟩) NB0_315.out _).trans (((cell_far (p := ⟨gb315, _, none⟩) NB0_315.out _).trans (((cell_far (p := ⟨gb315, _, none⟩) NB0_315.out _).trans (((cell_far (p := ⟨gb315, _, none⟩) NB0_315.out _).trans (((cell_far (p := ⟨gb315, _, none⟩) NB0_315.out _).trans (((cell_far (p := ⟨gb315, _, none⟩) NB0_315.out _).trans (((cell_far (p := ⟨gb315, _, none⟩) NB0_315.out _).trans (((cell_far (p := ⟨gb315, _, none⟩) NB0_315.out _).trans (((cell_far (p := ⟨gb315, _, none⟩) NB0_315.out _).trans (hHeld.2.2.2.2.2.2.2.2))))))))))))))))))⟩ (fun hHeld => ?_)
   clear hK K
   refine done_ (done_of HT_.out (by kernel_rfl)) ?_
   try go_wp2_with (first | ((with_reducible refine gate_callee (f := 52) rfl ?_); refine goesL_ (some 35) rfl rfl Try.func52 (by kernel_rfl) rfl #[.pointer (some ⟨gb315, 0, none⟩)] rfl (by (try simp only [List.map_toArray, List.map_cons, List.map_nil]); first | done | rfl | (simp only [List.length_drop, List.length_take]; rfl)) ?_; (with_reducible refine (spec_l04Is.calls k gb315 a0_0 a0_1 a0_2 a0_3 t311 t312 t313 t314 (wrap64 (a0_8 - 1500)) false _ ?side1 A7.out).mono ?_); (case side1 => (with_reducible repeat (first | refine Zn ?_ _ | refine Zd ?_ | refine Za ?_ _)); refine blk_put (cs := #[.int .i64 a0_0, .int .i64 a0_1, .int .i64 a0_2, .int .i64 a0_3, .int .i64 t311, .int .i64 t312, .int .i64 t313, .int .i64 t314, .int .i64 0]) ?_ 8 _ rfl; (with_reducible repeat (first | refine Zn ?_ _ | refine Zd ?_ | refine Za ?_ _)); refine blk_put (cs := #[.int .i64 a0_0, .int .i64 a0_1, .int .i64 a0_2, .int .i64 a0_3, .int .i64 t311, .int .i64 t312, .int .i64 t313, .int .i64 0, .int .i64 0]) ?_ 7 _ rfl; (with_reducible repeat (first | refine Zn ?_ _ | refine Zd ?_ | refine Za ?_ _)); refine blk_put (cs := #[.int .i64 a0_0, .int .i64 a0_1, .int .i64 a0_2, .int .i64 a0_3, .int .i64 t311, .int .i64 t312, .int .i64 0, .int .i64 0, .int .i64 0]) ?_ 6 _ rfl; (with_reducible repeat (first | refine Zn ?_ _ | refine Zd ?_ | refine Za ?_ _)); refine blk_put (cs := #[.int .i64 a0_0, .int .i64 a0_1, .int .i64 a0_2, .int .i64 a0_3, .int .i64 t311, .int .i64 0, .int .i64 0, .int .i64 0, .int .i64 0]) ?_ 5 _ rfl; (with_reducible repeat (first | refine Zn ?_ _ | refine Zd ?_ | refine Za ?_ _)); refine blk_put (cs := #[.int .i64 a0_0, .int .i64 a0_1, .int .i64 a0_2, .int .i64 a0_3, .int .i64 0, .int .i64 0, .int .i64 0, .int .i64 0, .int .i64 0]) ?_ 4 _ rfl; (with_reducible repeat (first | refine Zn ?_ _ | refine Zd ?_ | refine Za ?_ _)); refine blk_put (cs := #[.int .i64 a0_0, .int .i64 a0_1, .int .i64 a0_2, .int .i64 0, .int .i64 0, .int .i64 0, .int .i64 0, .int .i64 0, .int .i64 0]) ?_ 3 _ rfl; (with_reducible repeat (first | refine Zn ?_ _ | refine Zd ?_ | refine Za ?_ _)); refine blk_put (cs := #[.int .i64 a0_0, .int .i64 a0_1, .int .i64 0, .int .i64 0, .int .i64 0, .int .i64 0, .int .i64 0, .int .i64 0, .int .i64 0]) ?_ 2 _ rfl; (with_reducible repeat (first | refine Zn ?_ _ | refine Zd ?_ | refine Za ?_ _)); refine blk_put (cs := #[.int .i64 a0_0, .int .i64 0, .int .i64 0, .int .i64 0, .int .i64 0, .int .i64 0, .int .i64 0, .int .i64 0, .int .i64 0]) ?_ 1 _ rfl; (with_reducible repeat (first | refine Zn ?_ _ | refine Zd ?_ | refine Za ?_ _)); refine blk_put (cs := #[.int .i64 0, .int .i64 0, .int .i64 0, .int .i64 0, .int .i64 0, .int .i64 0, .int .i64 0, .int .i64 0, .int .i64 0]) ?_ 0 _ rfl; (with_reducible repeat (first | refine Zn ?_ _ | refine Zd ?_ | refine Za ?_ _)); exact BK315.out); rintro e w58 ⟨rfl, hb⟩; refine ⟨_, rfl, ?_⟩; have n0_ := Zm (blk_below (g := gp0) (o := .cells #[.int .i64 a0_0, .int .i64 a0_1, .int .i64 a0_2, .int .i64 a0_3, .int .i64 a0_4, .int .i64 a0_5, .int .i64 a0_6, .int .i64 a0_7, .int .i64 a0_8] 27 (0, 0)) (by (with_reducible repeat (first | refine Zn ?_ _ | refine Zd ?_ | refine Za ?_ _)); refine blk_far ?_ NB0_315.out _; (with_reducible repeat (first | refine Zn ?_ _ | refine Zd ?_ | refine Za ?_ _)); refine blk_far ?_ NB0_315.out _; (with_reducible repeat (first | refine Zn ?_ _ | refine Zd ?_ | refine Za ?_ _)); refine blk_far ?_ NB0_315.out _; (with_reducible repeat (first | refine Zn ?_ _ | refine Zd ?_ | refine Za ?_ _)); refine blk_far ?_ NB0_315.out _; (with_reducible repeat (first | refine Zn ?_ _ | refine Zd ?_ | refine Za ?_ _)); refine blk_far ?_ NB0_315.out _; (with_reducible repeat (first | refine Zn ?_ _ | refine Zd ?_ | refine Za ?_ _)); refine blk_far ?_ NB0_315.out _; (with_reducible repeat (first | refine Zn ?_ _ | refine Zd ?_ | refine Za ?_ _)); refine blk_far ?_ NB0_315.out _; (with_reducible repeat (first | refine Zn ?_ _ | refine Zd ?_ | refine Za ?_ _)); refine blk_far ?_ NB0_315.out _; (with_reducible repeat (first | refine Zn ?_ _ | refine Zd ?_ | refine Za ?_ _)); refine blk_far ?_ NB0_315.out _; (with_reducible repeat (first | refine Zn ?_ _ | refine Zd ?_ | refine Za ?_ _)); exact BK0.out) hb); have n1_ := Zm (blk_below (g := gb306) (o := .cells #[.int .i64 a1_0, .int .i64 a1_1] 47 (0, 0)) (by (with_reducible repeat (first | refine Zn ?_ _ | refine Zd ?_ | refine Za ?_ _)); refine blk_far ?_ NB306_315.out _; (with_reducible repeat (first | refine Zn ?_ _ | refine Zd ?_ | refine Za ?_ _)); refine blk_far ?_ NB306_315.out _; (with_reducible repeat (first | refine Zn ?_ _ | refine Zd ?_ | refine Za ?_ _)); refine blk_far ?_ NB306_315.out _; (with_reducible repeat (first | refine Zn ?_ _ | refine Zd ?_ | refine Za ?_ _)); refine blk_far ?_ NB306_315.out _; (with_reducible repeat (first | refine Zn ?_ _ | refine Zd ?_ | refine Za ?_ _)); refine blk_far ?_ NB306_315.out _; (with_reducible repeat (first | refine Zn ?_ _ | refine Zd ?_ | refine Za ?_ _)); refine blk_far ?_ NB306_315.out _; (with_reducible repeat (first | refine Zn ?_ _ | refine Zd ?_ | refine Za ?_ _)); refine blk_far ?_ NB306_315.out _; (with_reducible repeat (first | refine Zn ?_ _ | refine Zd ?_ | refine Za ?_ _)); refine blk_far ?_ NB306_315.out _; (with_reducible repeat (first | refine Zn ?_ _ | refine Zd ?_ | refine Za ?_ _)); refine blk_far ?_ NB306_315.out _; (with_reducible repeat (first | refine Zn ?_ _ | refine Zd ?_ | refine Za ?_ _)); exact BK306.out) hb); have n2_ := Zm (blk_below (g := gb307) (o := .cells #[.int .i64 0, .int .i64 0, .int .i64 0, .int .i64 0, .int .i64 0, .int .i64 0, .int .i64 0, .int .i64 0, .int .i64 0] 27 (0, 0)) (by (with_reducible repeat (first | refine Zn ?_ _ | refine Zd ?_ | refine Za ?_ _)); refine blk_far ?_ NB307_315.out _; (with_reducible repeat (first | refine Zn ?_ _ | refine Zd ?_ | refine Za ?_ _)); refine blk_far ?_ NB307_315.out _; (with_reducible repeat (first | refine Zn ?_ _ | refine Zd ?_ | refine Za ?_ _)); refine blk_far ?_ NB307_315.out _; (with_reducible repeat (first | refine Zn ?_ _ | refine Zd ?_ | refine Za ?_ _)); refine blk_far ?_ NB307_315.out _; (with_reducible repeat (first | refine Zn ?_ _ | refine Zd ?_ | refine Za ?_ _)); refine blk_far ?_ NB307_315.out _; (with_reducible repeat (first | refine Zn ?_ _ | refine Zd ?_ | refine Za ?_ _)); refine blk_far ?_ NB307_315.out _; (with_reducible repeat (first | refine Zn ?_ _ | refine Zd ?_ | refine Za ?_ _)); refine blk_far ?_ NB307_315.out _; (with_reducible repeat (first | refine Zn ?_ _ | refine Zd ?_ | refine Za ?_ _)); refine blk_far ?_ NB307_315.out _; (with_reducible repeat (first | refine Zn ?_ _ | refine Zd ?_ | refine Za ?_ _)); refine blk_far ?_ NB307_315.out _; (with_reducible repeat (first | refine Zn ?_ _ | refine Zd ?_ | refine Za ?_ _)); exact BK307.out) hb); have n3_ := Zm (blk_below (g := gb315) (o := .cells #[.int .i64 a0_0, .int .i64 a0_1, .int .i64 a0_2, .int .i64 a0_3, .int .i64 t311, .int .i64 t312, .int .i64 t313, .int .i64 t314, .int .i64 (wrap64 (a0_8 - 1500))] 27 (0, 0)) (by (with_reducible repeat (first | refine Zn ?_ _ | refine Zd ?_ | refine Za ?_ _)); refine blk_put (cs := #[.int .i64 a0_0, .int .i64 a0_1, .int .i64 a0_2, .int .i64 a0_3, .int .i64 t311, .int .i64 t312, .int .i64 t313, .int .i64 t314, .int .i64 0]) ?_ 8 _ rfl; (with_reducible repeat (first | refine Zn ?_ _ | refine Zd ?_ | refine Za ?_ _)); refine blk_put (cs := #[.int .i64 a0_0, .int .i64 a0_1, .int .i64 a0_2, .int .i64 a0_3, .int .i64 t311, .int .i64 t312, .int .i64 t313, .int .i64 0, .int .i64 0]) ?_ 7 _ rfl; (with_reducible repeat (first | refine Zn ?_ _ | refine Zd ?_ | refine Za ?_ _)); refine blk_put (cs := #[.int .i64 a0_0, .int .i64 a0_1, .int .i64 a0_2, .int .i64 a0_3, .int .i64 t311, .int .i64 t312, .int .i64 0, .int .i64 0, .int .i64 0]) ?_ 6 _ rfl; (with_reducible repeat (first | refine Zn ?_ _ | refine Zd ?_ | refine Za ?_ _)); refine blk_put (cs := #[.int .i64 a0_0, .int .i64 a0_1, .int .i64 a0_2, .int .i64 a0_3, .int .i64 t311, .int .i64 0, .int .i64 0, .int .i64 0, .int .i64 0]) ?_ 5 _ rfl; (with_reducible repeat (first | refine Zn ?_ _ | refine Zd ?_ | refine Za ?_ _)); refine blk_put (cs := #[.int .i64 a0_0, .int .i64 a0_1, .int .i64 a0_2, .int .i64 a0_3, .int .i64 0, .int .i64 0, .int .i64 0, .int .i64 0, .int .i64 0]) ?_ 4 _ rfl; (with_reducible repeat (first | refine Zn ?_ _ | refine Zd ?_ | refine Za ?_ _)); refine blk_put (cs := #[.int .i64 a0_0, .int .i64 a0_1, .int .i64 a0_2, .int .i64 0, .int .i64 0, .int .i64 0, .int .i64 0, .int .i64 0, .int .i64 0]) ?_ 3 _ rfl; (with_reducible repeat (first | refine Zn ?_ _ | refine Zd ?_ | refine Za ?_ _)); refine blk_put (cs := #[.int .i64 a0_0, .int .i64 a0_1, .int .i64 0, .int .i64 0, .int .i64 0, .int .i64 0, .int .i64 0, .int .i64 0, .int .i64 0]) ?_ 2 _ rfl; (with_reducible repeat (first | refine Zn ?_ _ | refine Zd ?_ | refine Za ?_ _)); refine blk_put (cs := #[.int .i64 a0_0, .int .i64 0, .int .i64 0, .int .i64 0, .int .i64 0, .int .i64 0, .int .i64 0, .int .i64 0, .int .i64 0]) ?_ 1 _ rfl; (with_reducible repeat (first | refine Zn ?_ _ | refine Zd ?_ | refine Za ?_ _)); refine blk_put (cs := #[.int .i64 0, .int .i64 0, .int .i64 0, .int .i64 0, .int .i64 0, .int .i64 0, .int .i64 0, .int .i64 0, .int .i64 0]) ?_ 0 _ rfl; (with_reducible repeat (first | refine Zn ?_ _ | refine Zd ?_ | refine Za ?_ _)); exact BK315.out) hb); have n4_ := Zm (below_step (by repeat (first | (with_reducible first | exact HB.out | apply Zl | apply Zp | apply Ze | refine Zs ?_ GE0.out | refine Zs ?_ GE306.out | refine Zs ?_ GE307.out | refine Zs ?_ GE315.out) | exact HB.out)) hb); clear BK0; clear BK306; clear BK307; clear BK315; clear HB; have BK0 := n0_; have BK306 := n1_; have BK307 := n2_; have BK315 := n3_; have HB := n4_; clear n0_ n1_ n2_ n3_ n4_; (try clear hb); (try clear hb2); (try clear hk); (try clear hi); have hnb59 := NB307_0.out; have hnc59 := NB0_307.out; have hnb60 := NB307_315.out; have hnc60 := NB315_307.out; have hcz61_0 : w58.cell? ⟨gb307, 0, none⟩ = some (.int .i64 0) := (Zc BK307.out 0).trans rfl; have hcz61_1 : w58.cell? ⟨gb307, 1, none⟩ = some (.int .i64 0) := (Zc BK307.out 1).trans rfl; have hcz61_2 : w58.cell? ⟨gb307, 2, none⟩ = some (.int .i64 0) := (Zc BK307.out 2).trans rfl; have hcz61_3 : w58.cell? ⟨gb307, 3, none⟩ = some (.int .i64 0) := (Zc BK307.out 3).trans rfl; have hcz61_4 : w58.cell? ⟨gb307, 4, none⟩ = some (.int .i64 0) := (Zc BK307.out 4).trans rfl; have hcz61_5 : w58.cell? ⟨gb307, 5, none⟩ = some (.int .i64 0) := (Zc BK307.out 5).trans rfl; have hcz61_6 : w58.cell? ⟨gb307, 6, none⟩ = some (.int .i64 0) := (Zc BK307.out 6).trans rfl; have hcz61_7 : w58.cell? ⟨gb307, 7, none⟩ = some (.int .i64 0) := (Zc BK307.out 7).trans rfl; have hcz61_8 : w58.cell? ⟨gb307, 8, none⟩ = some (.int .i64 0) := (Zc BK307.out 8).trans rfl; have hfz61_0 := Zf BK307.out 0; have hfz61_1 := Zf BK307.out 1; have hfz61_2 := Zf BK307.out 2; have hfz61_3 := Zf BK307.out 3; have hfz61_4 := Zf BK307.out 4; have hfz61_5 := Zf BK307.out 5; have hfz61_6 := Zf BK307.out 6; have hfz61_7 := Zf BK307.out 7; have hfz61_8 := Zf BK307.out 8))
   refine bodyPost_ret (results_ct rfl _ _ gb307 27 #[.int .i64 0, .int .i64 0, .int .i64 0, .int .i64 0, .int .i64 0, .int .i64 0, .int .i64 0, .int .i64 0, .int .i64 0] (0, 0) _ rfl (by (with_reducible repeat (first | refine Zn ?_ _ | refine Zd ?_ | refine Za ?_ _)); refine blk_put (cs := #[.int .i64 0, .int .i64 0, .int .i64 0, .int .i64 0, .int .i64 0, .int .i64 0, .int .i64 0, .int .i64 0, .int .i64 0]) ?_ 8 _ rfl; (with_reducible repeat (first | refine Zn ?_ _ | refine Zd ?_ | refine Za ?_ _)); refine blk_put (cs := #[.int .i64 0, .int .i64 0, .int .i64 0, .int .i64 0, .int .i64 0, .int .i64 0, .int .i64 0, .int .i64 0, .int .i64 0]) ?_ 7 _ rfl; (with_reducible repeat (first | refine Zn ?_ _ | refine Zd ?_ | refine Za ?_ _)); refine blk_put (cs := #[.int .i64 0, .int .i64 0, .int .i64 0, .int .i64 0, .int .i64 0, .int .i64 0, .int .i64 0, .int .i64 0, .int .i64 0]) ?_ 6 _ rfl; (with_reducible repeat (first | refine Zn ?_ _ | refine Zd ?_ | refine Za ?_ _)); refine blk_put (cs := #[.int .i64 0, .int .i64 0, .int .i64 0, .int .i64 0, .int .i64 0, .int .i64 0, .int .i64 0, .int .i64 0, .int .i64 0]) ?_ 5 _ rfl; (with_reducible repeat (first | refine Zn ?_ _ | refine Zd ?_ | refine Za ?_ _)); refine blk_put (cs := #[.int .i64 0, .int .i64 0, .int .i64 0, .int .i64 0, .int .i64 0, .int .i64 0, .int .i64 0, .int .i64 0, .int .i64 0]) ?_ 4 _ rfl; (with_reducible repeat (first | refine Zn ?_ _ | refine Zd ?_ | refine Za ?_ _)); refine blk_put (cs := #[.int .i64 0, .int .i64 0, .int .i64 0, .int .i64 0, .int .i64 0, .int .i64 0, .int .i64 0, .int .i64 0, .int .i64 0]) ?_ 3 _ rfl; (with_reducible repeat (first | refine Zn ?_ _ | refine Zd ?_ | refine Za ?_ _)); refine blk_put (cs := #[.int .i64 0, .int .i64 0, .int .i64 0, .int .i64 0, .int .i64 0, .int .i64 0, .int .i64 0, .int .i64 0, .int .i64 0]) ?_ 2 _ rfl; (with_reducible repeat (first | refine Zn ?_ _ | refine Zd ?_ | refine Za ?_ _)); refine blk_put (cs := #[.int .i64 0, .int .i64 0, .int .i64 0, .int .i64 0, .int .i64 0, .int .i64 0, .int .i64 0, .int .i64 0, .int .i64 0]) ?_ 1 _ rfl; (with_reducible repeat (first | refine Zn ?_ _ | refine Zd ?_ | refine Za ?_ _)); refine blk_put (cs := #[.int .i64 0, .int .i64 0, .int .i64 0, .int .i64 0, .int .i64 0, .int .i64 0, .int .i64 0, .int .i64 0, .int .i64 0]) ?_ 0 _ rfl; (with_reducible repeat (first | refine Zn ?_ _ | refine Zd ?_ | refine Za ?_ _)); exact BK307.out) Try.underlying27 rfl (by kernel_rfl)) rfl ?_
   exact ⟨by first | rfl | (simp [errW_none, errW_some] <;> rfl) | (simp [*, errW_none, errW_some] <;> rfl), by repeat (first | (with_reducible first | exact HB.out | apply Zl | apply Zp | apply Ze | refine Zs ?_ GE0.out | refine Zs ?_ GE306.out | refine Zs ?_ GE307.out | refine Zs ?_ GE315.out) | exact HB.out)⟩
 ·replace c4 := Bool.eq_false_iff.mpr c4
  subst c4
  have H1 : (some (0, 0, 0, 0, 0, 0, 0, 0, 0, false)) = some (r1, r2, r3, r4, r5, r6, r7, r8, r9, r10) := by rw [if_neg (show ¬ (false = true) by decide)] at H; exact H
  clear H
  have H := H1
  clear H1
  simp only [Option.some.injEq, Prod.mk.injEq] at H
  obtain ⟨rfl, rfl, rfl, rfl, rfl, rfl, rfl, rfl, rfl, rfl⟩ := H
  go_enter Try.func77, Try.ntmps77
  go_wp2_with (first | ((with_reducible refine gate_dst (N := 3) rfl ?_); refine box_event ?hg (N := 3) ?hd (cs := #[.int .i64 a1_0, .int .i64 a1_1]) (t := 47) ?hr ?_; (case hd => rfl); (case hg => rfl); (case hr => first | (go_simp; done) | (go_simp; rfl)); intro gb306 hg w62 hbox hb; have n0_ := Zm (blk_below (g := gp0) (o := .cells #[.int .i64 a0_0, .int .i64 a0_1, .int .i64 a0_2, .int .i64 a0_3, .int .i64 a0_4, .int .i64 a0_5, .int .i64 a0_6, .int .i64 a0_7, .int .i64 a0_8] 27 (0, 0)) (by (with_reducible repeat (first | refine Zn ?_ _ | refine Zd ?_ | refine Za ?_ _)); exact BK0.out) hb); have n1_ := Zm (below_step (by repeat (first | (with_reducible first | exact HB.out | apply Zl | apply Zp | apply Ze | refine Zs ?_ GE0.out) | exact HB.out)) hb); have n2_ := Zm (hbox); have n3_ := Zm ((by rw [hg]; exact (below_size (by repeat (first | (with_reducible first | exact HB.out | apply Zl | apply Zp | apply Ze | refine Zs ?_ GE0.out) | exact HB.out))) : w.heap.size ≤ gb306)); have n4_ := Zm ((by rw [hg]; exact (below_size (by repeat (first | (with_reducible first | exact HB.out | apply Zl | apply Zp | apply Ze | refine Zs ?_ GE0.out) | exact HB.out))) : w.heap.size ≤ gb306)); have n5_ := Zm ((by rw [hg]; exact Nat.ne_of_lt (blk_lt (g := gp0) (o := .cells #[.int .i64 a0_0, .int .i64 a0_1, .int .i64 a0_2, .int .i64 a0_3, .int .i64 a0_4, .int .i64 a0_5, .int .i64 a0_6, .int .i64 a0_7, .int .i64 a0_8] 27 (0, 0)) (by (with_reducible repeat (first | refine Zn ?_ _ | refine Zd ?_ | refine Za ?_ _)); exact BK0.out)) : gp0 ≠ gb306)); have n6_ := Zm ((by rw [hg]; exact Nat.ne_of_gt (blk_lt (g := gp0) (o := .cells #[.int .i64 a0_0, .int .i64 a0_1, .int .i64 a0_2, .int .i64 a0_3, .int .i64 a0_4, .int .i64 a0_5, .int .i64 a0_6, .int .i64 a0_7, .int .i64 a0_8] 27 (0, 0)) (by (with_reducible repeat (first | refine Zn ?_ _ | refine Zd ?_ | refine Za ?_ _)); exact BK0.out)) : gb306 ≠ gp0)); clear BK0; clear HB; have BK0 := n0_; have HB := n1_; have BK306 := n2_; have GW306 := n3_; have GE306 := n4_; have NB0_306 := n5_; have NB306_0 := n6_; clear n0_ n1_ n2_ n3_ n4_ n5_ n6_; clear hb hbox hg) | ((with_reducible refine gate_dst (N := 4) rfl ?_); refine box_event ?hg (N := 4) ?hd (cs := #[.int .i64 0, .int .i64 0, .int .i64 0, .int .i64 0, .int .i64 0, .int .i64 0, .int .i64 0, .int .i64 0, .int .i64 0]) (t := 27) ?hr ?_; (case hd => rfl); (case hg => rfl); (case hr => first | (go_simp; done) | (go_simp; rfl)); intro gb307 hg w63 hbox hb; have n0_ := Zm (blk_below (g := gp0) (o := .cells #[.int .i64 a0_0, .int .i64 a0_1, .int .i64 a0_2, .int .i64 a0_3, .int .i64 a0_4, .int .i64 a0_5, .int .i64 a0_6, .int .i64 a0_7, .int .i64 a0_8] 27 (0, 0)) (by (with_reducible repeat (first | refine Zn ?_ _ | refine Zd ?_ | refine Za ?_ _)); exact BK0.out) hb); have n1_ := Zm (blk_below (g := gb306) (o := .cells #[.int .i64 a1_0, .int .i64 a1_1] 47 (0, 0)) (by (with_reducible repeat (first | refine Zn ?_ _ | refine Zd ?_ | refine Za ?_ _)); exact BK306.out) hb); have n2_ := Zm (below_step (by repeat (first | (with_reducible first | exact HB.out | apply Zl | apply Zp | apply Ze | refine Zs ?_ GE0.out | refine Zs ?_ GE306.out) | exact HB.out)) hb); have n3_ := Zm (hbox); have n4_ := Zm ((by rw [hg]; exact (below_size (by repeat (first | (with_reducible first | exact HB.out | apply Zl | apply Zp | apply Ze | refine Zs ?_ GE0.out | refine Zs ?_ GE306.out) | exact HB.out))) : w.heap.size ≤ gb307)); have n5_ := Zm ((by rw [hg]; exact (below_size (by repeat (first | (with_reducible first | exact HB.out | apply Zl | apply Zp | apply Ze | refine Zs ?_ GE0.out | refine Zs ?_ GE306.out) | exact HB.out))) : w.heap.size ≤ gb307)); have n6_ := Zm ((by rw [hg]; exact Nat.ne_of_lt (blk_lt (g := gp0) (o := .cells #[.int .i64 a0_0, .int .i64 a0_1, .int .i64 a0_2, .int .i64 a0_3, .int .i64 a0_4, .int .i64 a0_5, .int .i64 a0_6, .int .i64 a0_7, .int .i64 a0_8] 27 (0, 0)) (by (with_reducible repeat (first | refine Zn ?_ _ | refine Zd ?_ | refine Za ?_ _)); exact BK0.out)) : gp0 ≠ gb307)); have n7_ := Zm ((by rw [hg]; exact Nat.ne_of_gt (blk_lt (g := gp0) (o := .cells #[.int .i64 a0_0, .int .i64 a0_1, .int .i64 a0_2, .int .i64 a0_3, .int .i64 a0_4, .int .i64 a0_5, .int .i64 a0_6, .int .i64 a0_7, .int .i64 a0_8] 27 (0, 0)) (by (with_reducible repeat (first | refine Zn ?_ _ | refine Zd ?_ | refine Za ?_ _)); exact BK0.out)) : gb307 ≠ gp0)); have n8_ := Zm ((by rw [hg]; exact Nat.ne_of_lt (blk_lt (g := gb306) (o := .cells #[.int .i64 a1_0, .int .i64 a1_1] 47 (0, 0)) (by (with_reducible repeat (first | refine Zn ?_ _ | refine Zd ?_ | refine Za ?_ _)); exact BK306.out)) : gb306 ≠ gb307)); have n9_ := Zm ((by rw [hg]; exact Nat.ne_of_gt (blk_lt (g := gb306) (o := .cells #[.int .i64 a1_0, .int .i64 a1_1] 47 (0, 0)) (by (with_reducible repeat (first | refine Zn ?_ _ | refine Zd ?_ | refine Za ?_ _)); exact BK306.out)) : gb307 ≠ gb306)); clear BK0; clear BK306; clear HB; have BK0 := n0_; have BK306 := n1_; have HB := n2_; have BK307 := n3_; have GW307 := n4_; have GE307 := n5_; have NB0_307 := n6_; have NB307_0 := n7_; have NB306_307 := n8_; have NB307_306 := n9_; clear n0_ n1_ n2_ n3_ n4_ n5_ n6_ n7_ n8_ n9_; clear hb hbox hg; have hnb64 := NB306_0.out; have hnc64 := NB0_306.out; have hnb65 := NB306_307.out; have hnc65 := NB307_306.out; have hcz66_0 : w63.cell? ⟨gb306, 0, none⟩ = some (.int .i64 a1_0) := (Zc BK306.out 0).trans rfl; have hcz66_1 : w63.cell? ⟨gb306, 1, none⟩ = some (.int .i64 a1_1) := (Zc BK306.out 1).trans rfl; have hfz66_0 := Zf BK306.out 0; have hfz66_1 := Zf BK306.out 1) | ((with_reducible refine gate_callee (f := 84) rfl ?_); refine goesL_ (some 10) rfl rfl Try.func84 (by kernel_rfl) rfl #[.agg #[.int .i64 a1_0, .int .i64 a1_1]] rfl (by (try simp only [List.map_toArray, List.map_cons, List.map_nil]); first | done | rfl | (simp only [List.length_drop, List.length_take]; rfl)) ?_; (with_reducible refine (spec_l03Is.calls a1_0 a1_1 false _ A3.out).mono ?_); rintro e w67 ⟨rfl, hb⟩; refine ⟨_, rfl, ?_⟩; have n0_ := Zm (blk_below (g := gp0) (o := .cells #[.int .i64 a0_0, .int .i64 a0_1, .int .i64 a0_2, .int .i64 a0_3, .int .i64 a0_4, .int .i64 a0_5, .int .i64 a0_6, .int .i64 a0_7, .int .i64 a0_8] 27 (0, 0)) (by (with_reducible repeat (first | refine Zn ?_ _ | refine Zd ?_ | refine Za ?_ _)); exact BK0.out) hb); have n1_ := Zm (blk_below (g := gb306) (o := .cells #[.int .i64 a1_0, .int .i64 a1_1] 47 (0, 0)) (by (with_reducible repeat (first | refine Zn ?_ _ | refine Zd ?_ | refine Za ?_ _)); exact BK306.out) hb); have n2_ := Zm (blk_below (g := gb307) (o := .cells #[.int .i64 0, .int .i64 0, .int .i64 0, .int .i64 0, .int .i64 0, .int .i64 0, .int .i64 0, .int .i64 0, .int .i64 0] 27 (0, 0)) (by (with_reducible repeat (first | refine Zn ?_ _ | refine Zd ?_ | refine Za ?_ _)); exact BK307.out) hb); have n3_ := Zm (below_step (by repeat (first | (with_reducible first | exact HB.out | apply Zl | apply Zp | apply Ze | refine Zs ?_ GE0.out | refine Zs ?_ GE306.out | refine Zs ?_ GE307.out) | exact HB.out)) hb); clear BK0; clear BK306; clear BK307; clear HB; have BK0 := n0_; have BK306 := n1_; have BK307 := n2_; have HB := n3_; clear n0_ n1_ n2_ n3_; (try clear hb); (try clear hb2); (try clear hk); (try clear hi); have hnb68 := NB307_0.out; have hnc68 := NB0_307.out; have hcz69_0 : w67.cell? ⟨gb307, 0, none⟩ = some (.int .i64 0) := (Zc BK307.out 0).trans rfl; have hcz69_1 : w67.cell? ⟨gb307, 1, none⟩ = some (.int .i64 0) := (Zc BK307.out 1).trans rfl; have hcz69_2 : w67.cell? ⟨gb307, 2, none⟩ = some (.int .i64 0) := (Zc BK307.out 2).trans rfl; have hcz69_3 : w67.cell? ⟨gb307, 3, none⟩ = some (.int .i64 0) := (Zc BK307.out 3).trans rfl; have hcz69_4 : w67.cell? ⟨gb307, 4, none⟩ = some (.int .i64 0) := (Zc BK307.out 4).trans rfl; have hcz69_5 : w67.cell? ⟨gb307, 5, none⟩ = some (.int .i64 0) := (Zc BK307.out 5).trans rfl; have hcz69_6 : w67.cell? ⟨gb307, 6, none⟩ = some (.int .i64 0) := (Zc BK307.out 6).trans rfl; have hcz69_7 : w67.cell? ⟨gb307, 7, none⟩ = some (.int .i64 0) := (Zc BK307.out 7).trans rfl; have hcz69_8 : w67.cell? ⟨gb307, 8, none⟩ = some (.int .i64 0) := (Zc BK307.out 8).trans rfl; have hfz69_0 := Zf BK307.out 0; have hfz69_1 := Zf BK307.out 1; have hfz69_2 := Zf BK307.out 2; have hfz69_3 := Zf BK307.out 3; have hfz69_4 := Zf BK307.out 4; have hfz69_5 := Zf BK307.out 5; have hfz69_6 := Zf BK307.out 6; have hfz69_7 := Zf BK307.out 7; have hfz69_8 := Zf BK307.out 8))
  refine bodyPost_ret (results_ct rfl _ _ gb307 27 #[.int .i64 0, .int .i64 0, .int .i64 0, .int .i64 0, .int .i64 0, .int .i64 0, .int .i64 0, .int .i64 0, .int .i64 0] (0, 0) _ rfl (by (with_reducible repeat (first | refine Zn ?_ _ | refine Zd ?_ | refine Za ?_ _)); refine blk_put (cs := #[.int .i64 0, .int .i64 0, .int .i64 0, .int .i64 0, .int .i64 0, .int .i64 0, .int .i64 0, .int .i64 0, .int .i64 0]) ?_ 8 _ rfl; (with_reducible repeat (first | refine Zn ?_ _ | refine Zd ?_ | refine Za ?_ _)); refine blk_put (cs := #[.int .i64 0, .int .i64 0, .int .i64 0, .int .i64 0, .int .i64 0, .int .i64 0, .int .i64 0, .int .i64 0, .int .i64 0]) ?_ 7 _ rfl; (with_reducible repeat (first | refine Zn ?_ _ | refine Zd ?_ | refine Za ?_ _)); refine blk_put (cs := #[.int .i64 0, .int .i64 0, .int .i64 0, .int .i64 0, .int .i64 0, .int .i64 0, .int .i64 0, .int .i64 0, .int .i64 0]) ?_ 6 _ rfl; (with_reducible repeat (first | refine Zn ?_ _ | refine Zd ?_ | refine Za ?_ _)); refine blk_put (cs := #[.int .i64 0, .int .i64 0, .int .i64 0, .int .i64 0, .int .i64 0, .int .i64 0, .int .i64 0, .int .i64 0, .int .i64 0]) ?_ 5 _ rfl; (with_reducible repeat (first | refine Zn ?_ _ | refine Zd ?_ | refine Za ?_ _)); refine blk_put (cs := #[.int .i64 0, .int .i64 0, .int .i64 0, .int .i64 0, .int .i64 0, .int .i64 0, .int .i64 0, .int .i64 0, .int .i64 0]) ?_ 4 _ rfl; (with_reducible repeat (first | refine Zn ?_ _ | refine Zd ?_ | refine Za ?_ _)); refine blk_put (cs := #[.int .i64 0, .int .i64 0, .int .i64 0, .int .i64 0, .int .i64 0, .int .i64 0, .int .i64 0, .int .i64 0, .int .i64 0]) ?_ 3 _ rfl; (with_reducible repeat (first | refine Zn ?_ _ | refine Zd ?_ | refine Za ?_ _)); refine blk_put (cs := #[.int .i64 0, .int .i64 0, .int .i64 0, .int .i64 0, .int .i64 0, .int .i64 0, .int .i64 0, .int .i64 0, .int .i64 0]) ?_ 2 _ rfl; (with_reducible repeat (first | refine Zn ?_ _ | refine Zd ?_ | refine Za ?_ _)); refine blk_put (cs := #[.int .i64 0, .int .i64 0, .int .i64 0, .int .i64 0, .int .i64 0, .int .i64 0, .int .i64 0, .int .i64 0, .int .i64 0]) ?_ 1 _ rfl; (with_reducible repeat (first | refine Zn ?_ _ | refine Zd ?_ | refine Za ?_ _)); refine blk_put (cs := #[.int .i64 0, .int .i64 0, .int .i64 0, .int .i64 0, .int .i64 0, .int .i64 0, .int .i64 0, .int .i64 0, .int .i64 0]) ?_ 0 _ rfl; (with_reducible repeat (first | refine Zn ?_ _ | refine Zd ?_ | refine Za ?_ _)); exact BK307.out) Try.underlying27 rfl (by kernel_rfl)) rfl ?_
  exact ⟨by first | rfl | (simp [errW_none, errW_some] <;> rfl) | (simp [*, errW_none, errW_some] <;> rfl), by repeat (first | (with_reducible first | exact HB.out | apply Zl | apply Zp | apply Ze | refine Zs ?_ GE0.out | refine Zs ?_ GE306.out | refine Zs ?_ GE307.out) | exact HB.out)⟩

end Go.Proofs.Ytncdmooobfomeaa.G
