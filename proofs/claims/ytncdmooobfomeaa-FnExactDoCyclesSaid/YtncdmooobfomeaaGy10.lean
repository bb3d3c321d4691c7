-- laid by wip/tools/regroup.py: printed functions, grouped by the laws that need them. Lean checks it.
import Derived.Test.YtncdmooobfomeaaGx0
import Derived.Test.YtncdmooobfomeaaGy2
import Derived.Test.YtncdmooobfomeaaGy9
namespace Go.Proofs.Ytncdmooobfomeaa.G
open Go.RowKit Go.Proofs.YtncdmooobfomeaaW.PrintWords Go.Proofs.YtncdmooobfomeaaW.PrintLast Go.Proofs.YtncdmooobfomeaaW.PrintMore
attribute [local go_sem] max2_int min2_int max_two min_two max_three min_three max_four min_four   -- for this text's walks alone
set_option linter.unusedVariables false
set_option linter.unusedSimpArgs false

/-! ### impl_DoCycles: function 26 -/
mutual
def impl_DoCycles.j0 : Nat → List (S58) → Bool → Int → Int → Int → Int → Int → Int → Int → Int → Int → Option (Int × Int × Int × Int × Int × Int × Int × Int × Int × Int × Bool)
 | 0, _, _, _, _, _, _, _, _, _, _, _ => none
 | k + 1, x1, x18, x609000, x609001, x609002, x609003, x609004, x609005, x609006, x609007, x609008 => if x18 = true then (some (0, 0, 0, 0, 0, 0, 0, 0, 0, 0, false)) else (impl_DoCycles.l0 k x1 x1 (x1.length : Int) 0 x609000 x609001 x609002 x609003 x609004 x609005 x609006 x609007 x609008)
def impl_DoCycles.l0 : Nat → List (S58) → List (S58) → Int → Int → Int → Int → Int → Int → Int → Int → Int → Int → Int → Option (Int × Int × Int × Int × Int × Int × Int × Int × Int × Int × Bool)
 | 0, _, _, _, _, _, _, _, _, _, _, _, _, _ => none
 | k + 1, x1, x20, x21, x22, x609000, x609001, x609002, x609003, x609004, x609005, x609006, x609007, x609008 => if x22 < x21 then (if 0 ≤ x22 then (if x22 < (x20.length : Int) then ((impl_Machine_cycle.f k x609000 x609001 x609002 x609003 x609004 x609005 x609006 x609007 x609008 ((rd_T58 x20 x22).f0) ((rd_T58 x20 x22).f1) ((rd_T58 x20 x22).f2.f0) ((rd_T58 x20 x22).f2.f1)).bind fun bt613 => (if bt613.2.2.2.2.2.2.2.2.2 = true then (impl_DoCycles.l0 k x1 x20 x21 (wrap64 (x22 + 1)) bt613.1 bt613.2.1 bt613.2.2.1 bt613.2.2.2.1 bt613.2.2.2.2.1 bt613.2.2.2.2.2.1 bt613.2.2.2.2.2.2.1 bt613.2.2.2.2.2.2.2.1 bt613.2.2.2.2.2.2.2.2.1) else (some (x609000, x609001, x609002, x609003, x609004, x609005, x609006, x609007, x609008, x22, true)))) else (none)) else (none)) else (some (x609000, x609001, x609002, x609003, x609004, x609005, x609006, x609007, x609008, (x1.length : Int), true))
end
def impl_DoCycles.f (k : Nat) (a0_0 : Int) (a0_1 : Int) (a0_2 : Int) (a0_3 : Int) (a0_4 : Int) (a0_5 : Int) (a0_6 : Int) (a0_7 : Int) (a0_8 : Int) (l1 : List (S58)) : Option (Int × Int × Int × Int × Int × Int × Int × Int × Int × Int × Bool) := (impl_ValidMachine.f a0_0 a0_1 a0_2 a0_3 a0_4 a0_5 a0_6 a0_7 a0_8).bind fun t610 => (if t610 = true then (impl_DoCycles.j0 k l1 (decide ((l1.length : Int) > 20)) a0_0 a0_1 a0_2 a0_3 a0_4 a0_5 a0_6 a0_7 a0_8) else (impl_DoCycles.j0 k l1 true a0_0 a0_1 a0_2 a0_3 a0_4 a0_5 a0_6 a0_7 a0_8))
theorem impl_DoCycles.mono_l : ∀ k, (∀ y0 y1 y2 y3 y4 y5 y6 y7 y8 y9 y10, LeO (impl_DoCycles.j0 k y0 y1 y2 y3 y4 y5 y6 y7 y8 y9 y10) (impl_DoCycles.j0 (k + 1) y0 y1 y2 y3 y4 y5 y6 y7 y8 y9 y10)) ∧ (∀ y0 y1 y2 y3 y4 y5 y6 y7 y8 y9 y10 y11 y12, LeO (impl_DoCycles.l0 k y0 y1 y2 y3 y4 y5 y6 y7 y8 y9 y10 y11 y12) (impl_DoCycles.l0 (k + 1) y0 y1 y2 y3 y4 y5 y6 y7 y8 y9 y10 y11 y12))
 | 0 => ⟨fun _ _ _ _ _ _ _ _ _ _ _ r h => by simp [impl_DoCycles.j0] at h, fun _ _ _ _ _ _ _ _ _ _ _ _ _ r h => by simp [impl_DoCycles.l0] at h⟩
 | k + 1 => by
  obtain ⟨ih0, ih1⟩ := impl_DoCycles.mono_l k
  refine ⟨?_, ?_⟩
  ·intro y0 y1 y2 y3 y4 y5 y6 y7 y8 y9 y10
   unfold impl_DoCycles.j0
   repeat' first
   | (with_reducible exact ih0 _ _ _ _ _ _ _ _ _ _ _)
   | (with_reducible exact ih1 _ _ _ _ _ _ _ _ _ _ _ _ _)
   | (with_reducible exact impl_Machine_cycle.mono _ _ _ _ _ _ _ _ _ _ _ _ _ _)
   | (with_reducible exact LeO.refl _)
   | (with_reducible exact LeO.none _)
   | (with_reducible refine LeO.ite ?_ ?_)
   | (with_reducible refine LeO.bind ?_ (fun _ => ?_))
   | exact ih0 _ _ _ _ _ _ _ _ _ _ _
   | exact ih1 _ _ _ _ _ _ _ _ _ _ _ _ _
   | exact impl_Machine_cycle.mono _ _ _ _ _ _ _ _ _ _ _ _ _ _
   | exact LeO.none _
   | refine LeO.ite ?_ ?_
   | refine LeO.bind ?_ (fun _ => ?_)
  ·intro y0 y1 y2 y3 y4 y5 y6 y7 y8 y9 y10 y11 y12
   unfold impl_DoCycles.l0
   repeat' first
   | (with_reducible exact ih0 _ _ _ _ _ _ _ _ _ _ _)
   | (with_reducible exact ih1 _ _ _ _ _ _ _ _ _ _ _ _ _)
   | (with_reducible exact impl_Machine_cycle.mono _ _ _ _ _ _ _ _ _ _ _ _ _ _)
   | (with_reducible exact LeO.refl _)
   | (with_reducible exact LeO.none _)
   | (with_reducible refine LeO.ite ?_ ?_)
   | (with_reducible refine LeO.bind ?_ (fun _ => ?_))
   | exact ih0 _ _ _ _ _ _ _ _ _ _ _
   | exact ih1 _ _ _ _ _ _ _ _ _ _ _ _ _
   | exact impl_Machine_cycle.mono _ _ _ _ _ _ _ _ _ _ _ _ _ _
   | exact LeO.none _
   | refine LeO.ite ?_ ?_
   | refine LeO.bind ?_ (fun _ => ?_)
theorem impl_DoCycles.mono : ∀ a0 a1 a2 a3 a4 a5 a6 a7 a8 a9 k, LeO (impl_DoCycles.f k a0 a1 a2 a3 a4 a5 a6 a7 a8 a9) (impl_DoCycles.f (k + 1) a0 a1 a2 a3 a4 a5 a6 a7 a8 a9) := by
 intro a0 a1 a2 a3 a4 a5 a6 a7 a8 a9 k
 obtain ⟨ih0, ih1⟩ := impl_DoCycles.mono_l k
 unfold impl_DoCycles.f
 repeat' first
   | (with_reducible exact ih0 _ _ _ _ _ _ _ _ _ _ _)
   | (with_reducible exact ih1 _ _ _ _ _ _ _ _ _ _ _ _ _)
   | (with_reducible exact impl_Machine_cycle.mono _ _ _ _ _ _ _ _ _ _ _ _ _ _)
   | (with_reducible exact LeO.refl _)
   | (with_reducible exact LeO.none _)
   | (with_reducible refine LeO.ite ?_ ?_)
   | (with_reducible refine LeO.bind ?_ (fun _ => ?_))
   | exact ih0 _ _ _ _ _ _ _ _ _ _ _
   | exact ih1 _ _ _ _ _ _ _ _ _ _ _ _ _
   | exact impl_Machine_cycle.mono _ _ _ _ _ _ _ _ _ _ _ _ _ _
   | exact LeO.none _
   | refine LeO.ite ?_ ?_
   | refine LeO.bind ?_ (fun _ => ?_)
set_option maxHeartbeats 8000000 in
set_option maxRecDepth 100000 in
theorem impl_DoCycles.calls (k : Nat) (a0_0 : Int) (a0_1 : Int) (a0_2 : Int) (a0_3 : Int) (a0_4 : Int) (a0_5 : Int) (a0_6 : Int) (a0_7 : Int) (a0_8 : Int) (A1 : Option Addr) (c1 : Nat) (l1 : List (S58)) (r1 : Int) (r2 : Int) (r3 : Int) (r4 : Int) (r5 : Int) (r6 : Int) (r7 : Int) (r8 : Int) (r9 : Int) (r10 : Int) (r11 : Bool) (w : World) (hr1 : Kd.C k58 w A1 l1.length l1) (hc1 : l1.length ≤ c1) (h : impl_DoCycles.f k a0_0 a0_1 a0_2 a0_3 a0_4 a0_5 a0_6 a0_7 a0_8 l1 = some (r1, r2, r3, r4, r5, r6, r7, r8, r9, r10, r11)) :
  Calls Try.prog 26 #[.agg #[.int .i64 a0_0, .int .i64 a0_1, .int .i64 a0_2, .int .i64 a0_3, .int .i64 a0_4, .int .i64 a0_5, .int .i64 a0_6, .int .i64 a0_7, .int .i64 a0_8], .slice A1 l1.length c1] w fun e w' => e = .returned (.tuple #[.agg #[.int .i64 r1, .int .i64 r2, .int .i64 r3, .int .i64 r4, .int .i64 r5, .int .i64 r6, .int .i64 r7, .int .i64 r8, .int .i64 r9], .int .i64 r10, .bool r11]) ∧ Below w.heap.size w w' := by
 have hu27 := Try.underlying27
 have hu58 := Try.underlying58
 have HR1 := Zm hr1
 have HC1 := Zm hc1
 clear hr1 hc1
 have HB := Zm (Below.refl w.heap.size w)
 have H : ((impl_ValidMachine.f a0_0 a0_1 a0_2 a0_3 a0_4 a0_5 a0_6 a0_7 a0_8).bind fun t610 => (if t610 = true then (impl_DoCycles.j0 k l1 (decide ((l1.length : Int) > 20)) a0_0 a0_1 a0_2 a0_3 a0_4 a0_5 a0_6 a0_7 a0_8) else (impl_DoCycles.j0 k l1 true a0_0 a0_1 a0_2 a0_3 a0_4 a0_5 a0_6 a0_7 a0_8))) = some (r1, r2, r3, r4, r5, r6, r7, r8, r9, r10, r11) := h
 clear h
 have HC3 := Zm H
 clear H
 go_enter Try.func26, Try.ntmps26
 go_upto_region 1 with (first | ((with_reducible refine gate_dst (N := 2) rfl ?_); (try (refine gate_guard (by rfl) ?_; dsimp only)); refine box_event ?hg (N := 2) ?hd (cs := #[.int .i64 a0_0, .int .i64 a0_1, .int .i64 a0_2, .int .i64 a0_3, .int .i64 a0_4, .int .i64 a0_5, .int .i64 a0_6, .int .i64 a0_7, .int .i64 a0_8]) (t := 27) ?hr ?_; (case hd => rfl); (case hg => rfl); (case hr => first | (go_simp; done) | (go_simp; rfl)); intro gb608 hg w4 hbox hb; have n0_ := Zm (below_step (by repeat (first | (with_reducible first | exact HB.out | apply Zl | apply Zp | apply Ze) | exact HB.out)) hb); have n1_ := Zm (hbox); have n2_ := Zm ((by rw [hg]; exact (below_size (by repeat (first | (with_reducible first | exact HB.out | apply Zl | apply Zp | apply Ze) | exact HB.out))) : w.heap.size ≤ gb608)); have n3_ := Zm ((by rw [hg]; exact (below_size (by repeat (first | (with_reducible first | exact HB.out | apply Zl | apply Zp | apply Ze) | exact HB.out))) : w.heap.size ≤ gb608)); clear HB; have HB := n0_; have BK608 := n1_; have GW608 := n2_; have GE608 := n3_; clear n0_ n1_ n2_ n3_; clear hb hbox hg) | ((with_reducible refine gate_dst (N := 4) rfl ?_); (try (refine gate_guard (by rfl) ?_; dsimp only)); refine box_event ?hg (N := 4) ?hd (cs := #[.int .i64 0, .int .i64 0, .int .i64 0, .int .i64 0, .int .i64 0, .int .i64 0, .int .i64 0, .int .i64 0, .int .i64 0]) (t := 27) ?hr ?_; (case hd => rfl); (case hg => rfl); (case hr => first | (go_simp; done) | (go_simp; rfl)); intro gb609 hg w5 hbox hb; have n0_ := Zm (blk_below (g := gb608) (o := .cells #[.int .i64 a0_0, .int .i64 a0_1, .int .i64 a0_2, .int .i64 a0_3, .int .i64 a0_4, .int .i64 a0_5, .int .i64 a0_6, .int .i64 a0_7, .int .i64 a0_8] 27 (0, 0)) (by (with_reducible repeat (first | refine Zn ?_ _ | refine Zd ?_ | refine Za ?_ _)); exact BK608.out) hb); have n1_ := Zm (below_step (by repeat (first | (with_reducible first | exact HB.out | apply Zl | apply Zp | apply Ze | refine Zs ?_ GE608.out) | exact HB.out)) hb); have n2_ := Zm (hbox); have n3_ := Zm ((by rw [hg]; exact (below_size (by repeat (first | (with_reducible first | exact HB.out | apply Zl | apply Zp | apply Ze | refine Zs ?_ GE608.out) | exact HB.out))) : w.heap.size ≤ gb609)); have n4_ := Zm ((by rw [hg]; exact (below_size (by repeat (first | (with_reducible first | exact HB.out | apply Zl | apply Zp | apply Ze | refine Zs ?_ GE608.out) | exact HB.out))) : w.heap.size ≤ gb609)); have n5_ := Zm ((by rw [hg]; exact Nat.ne_of_lt (blk_lt (g := gb608) (o := .cells #[.int .i64 a0_0, .int .i64 a0_1, .int .i64 a0_2, .int .i64 a0_3, .int .i64 a0_4, .int .i64 a0_5, .int .i64 a0_6, .int .i64 a0_7, .int .i64 a0_8] 27 (0, 0)) (by (with_reducible repeat (first | refine Zn ?_ _ | refine Zd ?_ | refine Za ?_ _)); exact BK608.out)) : gb608 ≠ gb609)); have n6_ := Zm ((by rw [hg]; exact Nat.ne_of_gt (blk_lt (g := gb608) (o := .cells #[.int .i64 a0_0, .int .i64 a0_1, .int .i64 a0_2, .int .i64 a0_3, .int .i64 a0_4, .int .i64 a0_5, .int .i64 a0_6, .int .i64 a0_7, .int .i64 a0_8] 27 (0, 0)) (by (with_reducible repeat (first | refine Zn ?_ _ | refine Zd ?_ | refine Za ?_ _)); exact BK608.out)) : gb609 ≠ gb608)); clear BK608; clear HB; have BK608 := n0_; have HB := n1_; have BK609 := n2_; have GW609 := n3_; have GE609 := n4_; have NB608_609 := n5_; have NB609_608 := n6_; clear n0_ n1_ n2_ n3_ n4_ n5_ n6_; clear hb hbox hg))
 (try simp only [Act.put, List.setIfInBounds_toArray, List.set_cons_zero, List.set_cons_succ])
 go_cut [18] (fun v18 wc => ∃ (kq : Nat) (x18_2 : Bool), v18 = .bool x18_2 ∧ Aside0 (impl_DoCycles.j0 kq l1 x18_2 a0_0 a0_1 a0_2 a0_3 a0_4 a0_5 a0_6 a0_7 a0_8 = some (r1, r2, r3, r4, r5, r6, r7, r8, r9, r10, r11)) ∧ Aside0 (kq ≤ k) ∧ Aside0 (wc.heap[gb608]? = some (.cells #[.int .i64 a0_0, .int .i64 a0_1, .int .i64 a0_2, .int .i64 a0_3, .int .i64 a0_4, .int .i64 a0_5, .int .i64 a0_6, .int .i64 a0_7, .int .i64 a0_8] 27 (0, 0))) ∧ Aside0 (wc.heap[gb609]? = some (.cells #[.int .i64 0, .int .i64 0, .int .i64 0, .int .i64 0, .int .i64 0, .int .i64 0, .int .i64 0, .int .i64 0, .int .i64 0] 27 (0, 0))) ∧ Aside0 (Below w.heap.size w wc))
 case first =>
  have H := HC3.out
  clear HC3
  replace H := Option.bind_eq_some_iff.mp H
  obtain ⟨t610, A60, H⟩ := H
  replace H : (if t610 = true then (impl_DoCycles.j0 k l1 (decide ((l1.length : Int) > 20)) a0_0 a0_1 a0_2 a0_3 a0_4 a0_5 a0_6 a0_7 a0_8) else (impl_DoCycles.j0 k l1 true a0_0 a0_1 a0_2 a0_3 a0_4 a0_5 a0_6 a0_7 a0_8)) = some (r1, r2, r3, r4, r5, r6, r7, r8, r9, r10, r11) := H
  have A6 := Zm A60
  clear A60
  by_cases c7 : t610 = true
  ·subst c7
   have H1 : (impl_DoCycles.j0 k l1 (decide ((l1.length : Int) > 20)) a0_0 a0_1 a0_2 a0_3 a0_4 a0_5 a0_6 a0_7 a0_8) = some (r1, r2, r3, r4, r5, r6, r7, r8, r9, r10, r11) := by rw [if_pos rfl] at H; exact H
   clear H
   have H := H1
   clear H1
   have H' := Zm H
   clear H
   have hnb8 := NB608_609.out
   have hnc8 := NB609_608.out
   have hcz9_0 : w5.cell? ⟨gb608, 0, none⟩ = some (.int .i64 a0_0) := (Zc BK608.out 0).trans rfl
   have hcz9_1 : w5.cell? ⟨gb608, 1, none⟩ = some (.int .i64 a0_1) := (Zc BK608.out 1).trans rfl
   have hcz9_2 : w5.cell? ⟨gb608, 2, none⟩ = some (.int .i64 a0_2) := (Zc BK608.out 2).trans rfl
   have hcz9_3 : w5.cell? ⟨gb608, 3, none⟩ = some (.int .i64 a0_3) := (Zc BK608.out 3).trans rfl
   have hcz9_4 : w5.cell? ⟨gb608, 4, none⟩ = some (.int .i64 a0_4) := (Zc BK608.out 4).trans rfl
   have hcz9_5 : w5.cell? ⟨gb608, 5, none⟩ = some (.int .i64 a0_5) := (Zc BK608.out 5).trans rfl
   have hcz9_6 : w5.cell? ⟨gb608, 6, none⟩ = some (.int .i64 a0_6) := (Zc BK608.out 6).trans rfl
   have hcz9_7 : w5.cell? ⟨gb608, 7, none⟩ = some (.int .i64 a0_7) := (Zc BK608.out 7).trans rfl
   have hcz9_8 : w5.cell? ⟨gb608, 8, none⟩ = some (.int .i64 a0_8) := (Zc BK608.out 8).trans rfl
   have hfz9_0 := Zf BK608.out 0
   have hfz9_1 := Zf BK608.out 1
   have hfz9_2 := Zf BK608.out 2
   have hfz9_3 := Zf BK608.out 3
   have hfz9_4 := Zf BK608.out 4
   have hfz9_5 := Zf BK608.out 5
   have hfz9_6 := Zf BK608.out 6
   have hfz9_7 := Zf BK608.out 7
   have hfz9_8 := Zf BK608.out 8
   go_wp2_with (first | ((with_reducible refine gate_callee (f := 31) rfl ?_); refine goesL_ (some 12) rfl rfl Try.func31 (by kernel_rfl) rfl #[.agg #[.int .i64 a0_0, .int .i64 a0_1, .int .i64 a0_2, .int .i64 a0_3, .int .i64 a0_4, .int .i64 a0_5, .int .i64 a0_6, .int .i64 a0_7, .int .i64 a0_8]] rfl (by (try simp only [List.map_toArray, List.map_cons, List.map_nil]); first | done | rfl | (simp only [List.length_drop, List.length_take]; rfl)) ?_; (with_reducible refine (impl_ValidMachine.calls a0_0 a0_1 a0_2 a0_3 a0_4 a0_5 a0_6 a0_7 a0_8 true _ A6.out).mono ?_); rintro e w10 ⟨rfl, hb⟩; refine ⟨_, rfl, ?_⟩; have n0_ := Zm (blk_below (g := gb608) (o := .cells #[.int .i64 a0_0, .int .i64 a0_1, .int .i64 a0_2, .int .i64 a0_3, .int .i64 a0_4, .int .i64 a0_5, .int .i64 a0_6, .int .i64 a0_7, .int .i64 a0_8] 27 (0, 0)) (by (with_reducible repeat (first | refine Zn ?_ _ | refine Zd ?_ | refine Za ?_ _)); exact BK608.out) hb); have n1_ := Zm (blk_below (g := gb609) (o := .cells #[.int .i64 0, .int .i64 0, .int .i64 0, .int .i64 0, .int .i64 0, .int .i64 0, .int .i64 0, .int .i64 0, .int .i64 0] 27 (0, 0)) (by (with_reducible repeat (first | refine Zn ?_ _ | refine Zd ?_ | refine Za ?_ _)); exact BK609.out) hb); have n2_ := Zm (below_step (by repeat (first | (with_reducible first | exact HB.out | apply Zl | apply Zp | apply Ze | refine Zs ?_ GE608.out | refine Zs ?_ GE609.out) | exact HB.out)) hb); clear BK608; clear BK609; clear HB; have BK608 := n0_; have BK609 := n1_; have HB := n2_; clear n0_ n1_ n2_; (try clear hb); (try clear hb2); (try clear hk); (try clear hi)))
   go_meet
   case rel => exact ⟨_, (decide ((l1.length : Int) > 20)), (by first | rfl | (simp; done) | (simp [*]; done)), H', ⟨by first | omega | exact Nat.le_refl _⟩, ⟨by (with_reducible repeat (first | refine Zn ?_ _ | refine Zd ?_ | refine Za ?_ _)); exact BK608.out⟩, ⟨by (with_reducible repeat (first | refine Zn ?_ _ | refine Zd ?_ | refine Za ?_ _)); exact BK609.out⟩, ⟨by repeat (first | (with_reducible first | exact HB.out | apply Zl | apply Zp | apply Ze | refine Zs ?_ GE608.out | refine Zs ?_ GE609.out) | exact HB.out)⟩⟩
  ·replace c7 := Bool.eq_false_iff.mpr c7
   subst c7
   have H1 : (impl_DoCycles.j0 k l1 true a0_0 a0_1 a0_2 a0_3 a0_4 a0_5 a0_6 a0_7 a0_8) = some (r1, r2, r3, r4, r5, r6, r7, r8, r9, r10, r11) := by rw [if_neg (show ¬ (false = true) by decide)] at H; exact H
   clear H
   have H := H1
   clear H1
   have H' := Zm H
   clear H
   have hnb11 := NB608_609.out
   have hnc11 := NB609_608.out
   have hcz12_0 : w5.cell? ⟨gb608, 0, none⟩ = some (.int .i64 a0_0) := (Zc BK608.out 0).trans rfl
   have hcz12_1 : w5.cell? ⟨gb608, 1, none⟩ = some (.int .i64 a0_1) := (Zc BK608.out 1).trans rfl
   have hcz12_2 : w5.cell? ⟨gb608, 2, none⟩ = some (.int .i64 a0_2) := (Zc BK608.out 2).trans rfl
   have hcz12_3 : w5.cell? ⟨gb608, 3, none⟩ = some (.int .i64 a0_3) := (Zc BK608.out 3).trans rfl
   have hcz12_4 : w5.cell? ⟨gb608, 4, none⟩ = some (.int .i64 a0_4) := (Zc BK608.out 4).trans rfl
   have hcz12_5 : w5.cell? ⟨gb608, 5, none⟩ = some (.int .i64 a0_5) := (Zc BK608.out 5).trans rfl
   have hcz12_6 : w5.cell? ⟨gb608, 6, none⟩ = some (.int .i64 a0_6) := (Zc BK608.out 6).trans rfl
   have hcz12_7 : w5.cell? ⟨gb608, 7, none⟩ = some (.int .i64 a0_7) := (Zc BK608.out 7).trans rfl
   have hcz12_8 : w5.cell? ⟨gb608, 8, none⟩ = some (.int .i64 a0_8) := (Zc BK608.out 8).trans rfl
   have hfz12_0 := Zf BK608.out 0
   have hfz12_1 := Zf BK608.out 1
   have hfz12_2 := Zf BK608.out 2
   have hfz12_3 := Zf BK608.out 3
   have hfz12_4 := Zf BK608.out 4
   have hfz12_5 := Zf BK608.out 5
   have hfz12_6 := Zf BK608.out 6
   have hfz12_7 := Zf BK608.out 7
   have hfz12_8 := Zf BK608.out 8
   go_wp2_with (first | ((with_reducible refine gate_callee (f := 31) rfl ?_); refine goesL_ (some 12) rfl rfl Try.func31 (by kernel_rfl) rfl #[.agg #[.int .i64 a0_0, .int .i64 a0_1, .int .i64 a0_2, .int .i64 a0_3, .int .i64 a0_4, .int .i64 a0_5, .int .i64 a0_6, .int .i64 a0_7, .int .i64 a0_8]] rfl (by (try simp only [List.map_toArray, List.map_cons, List.map_nil]); first | done | rfl | (simp only [List.length_drop, List.length_take]; rfl)) ?_; (with_reducible refine (impl_ValidMachine.calls a0_0 a0_1 a0_2 a0_3 a0_4 a0_5 a0_6 a0_7 a0_8 false _ A6.out).mono ?_); rintro e w13 ⟨rfl, hb⟩; refine ⟨_, rfl, ?_⟩; have n0_ := Zm (blk_below (g := gb608) (o := .cells #[.int .i64 a0_0, .int .i64 a0_1, .int .i64 a0_2, .int .i64 a0_3, .int .i64 a0_4, .int .i64 a0_5, .int .i64 a0_6, .int .i64 a0_7, .int .i64 a0_8] 27 (0, 0)) (by (with_reducible repeat (first | refine Zn ?_ _ | refine Zd ?_ | refine Za ?_ _)); exact BK608.out) hb); have n1_ := Zm (blk_below (g := gb609) (o := .cells #[.int .i64 0, .int .i64 0, .int .i64 0, .int .i64 0, .int .i64 0, .int .i64 0, .int .i64 0, .int .i64 0, .int .i64 0] 27 (0, 0)) (by (with_reducible repeat (first | refine Zn ?_ _ | refine Zd ?_ | refine Za ?_ _)); exact BK609.out) hb); have n2_ := Zm (below_step (by repeat (first | (with_reducible first | exact HB.out | apply Zl | apply Zp | apply Ze | refine Zs ?_ GE608.out | refine Zs ?_ GE609.out) | exact HB.out)) hb); clear BK608; clear BK609; clear HB; have BK608 := n0_; have BK609 := n1_; have HB := n2_; clear n0_ n1_ n2_; (try clear hb); (try clear hb2); (try clear hk); (try clear hi)))
   go_meet
   case rel => exact ⟨_, (true), (by first | rfl | (simp; done) | (simp [*]; done)), H', ⟨by first | omega | exact Nat.le_refl _⟩, ⟨by (with_reducible repeat (first | refine Zn ?_ _ | refine Zd ?_ | refine Za ?_ _)); exact BK608.out⟩, ⟨by (with_reducible repeat (first | refine Zn ?_ _ | refine Zd ?_ | refine Za ?_ _)); exact BK609.out⟩, ⟨by repeat (first | (with_reducible first | exact HB.out | apply Zl | apply Zp | apply Ze | refine Zs ?_ GE608.out | refine Zs ?_ GE609.out) | exact HB.out)⟩⟩
 case rest =>
  clear HC3
  try clear c1
  try clear c2
  try clear p2
  try clear c3
  try clear c7
  try clear c8
  try clear c11
  try clear hcz12_0
  try clear hcz12_1
  try clear hcz12_2
  try clear hcz12_3
  try clear hcz12_4
  try clear hcz12_5
  try clear hcz12_6
  try clear hcz12_7
  try clear hcz12_8
  try clear hcz9_0
  try clear hcz9_1
  try clear hcz9_2
  try clear hcz9_3
  try clear hcz9_4
  try clear hcz9_5
  try clear hcz9_6
  try clear hcz9_7
  try clear hcz9_8
  try clear hfz12_0
  try clear hfz12_1
  try clear hfz12_2
  try clear hfz12_3
  try clear hfz12_4
  try clear hfz12_5
  try clear hfz12_6
  try clear hfz12_7
  try clear hfz12_8
  try clear hfz9_0
  try clear hfz9_1
  try clear hfz9_2
  try clear hfz9_3
  try clear hfz9_4
  try clear hfz9_5
  try clear hfz9_6
  try clear hfz9_7
  try clear hfz9_8
  obtain ⟨kq, x18_2, rfl, HA, HJ2, BK608, BK609, HB⟩ := hcut
  cases kq with
  | zero => exact absurd HA.out (by simp [impl_DoCycles.j0])
  | succ kj2 =>
   have H := HA.out
   clear HA
   simp only [impl_DoCycles.j0] at H
   by_cases c14 : x18_2 = true
   ·subst c14
    have H1 : (some (0, 0, 0, 0, 0, 0, 0, 0, 0, 0, false)) = some (r1, r2, r3, r4, r5, r6, r7, r8, r9, r10, r11) := by rw [if_pos rfl] at H; exact H
    clear H
    have H := H1
    clear H1
    simp only [Option.some.injEq, Prod.mk.injEq] at H
    obtain ⟨rfl, rfl, rfl, rfl, rfl, rfl, rfl, rfl, rfl, rfl, rfl⟩ := H
    have hnb15 := NB609_608.out
    have hnc15 := NB608_609.out
    have hcz16_0 : wc.cell? ⟨gb609, 0, none⟩ = some (.int .i64 0) := (Zc BK609.out 0).trans rfl
    have hcz16_1 : wc.cell? ⟨gb609, 1, none⟩ = some (.int .i64 0) := (Zc BK609.out 1).trans rfl
    have hcz16_2 : wc.cell? ⟨gb609, 2, none⟩ = some (.int .i64 0) := (Zc BK609.out 2).trans rfl
    have hcz16_3 : wc.cell? ⟨gb609, 3, none⟩ = some (.int .i64 0) := (Zc BK609.out 3).trans rfl
    have hcz16_4 : wc.cell? ⟨gb609, 4, none⟩ = some (.int .i64 0) := (Zc BK609.out 4).trans rfl
    have hcz16_5 : wc.cell? ⟨gb609, 5, none⟩ = some (.int .i64 0) := (Zc BK609.out 5).trans rfl
    have hcz16_6 : wc.cell? ⟨gb609, 6, none⟩ = some (.int .i64 0) := (Zc BK609.out 6).trans rfl
    have hcz16_7 : wc.cell? ⟨gb609, 7, none⟩ = some (.int .i64 0) := (Zc BK609.out 7).trans rfl
    have hcz16_8 : wc.cell? ⟨gb609, 8, none⟩ = some (.int .i64 0) := (Zc BK609.out 8).trans rfl
    have hfz16_0 := Zf BK609.out 0
    have hfz16_1 := Zf BK609.out 1
    have hfz16_2 := Zf BK609.out 2
    have hfz16_3 := Zf BK609.out 3
    have hfz16_4 := Zf BK609.out 4
    have hfz16_5 := Zf BK609.out 5
    have hfz16_6 := Zf BK609.out 6
    have hfz16_7 := Zf BK609.out 7
    have hfz16_8 := Zf BK609.out 8
    go_wp2
    refine bodyPost_ret (results_ctt rfl _ _ gb609 27 #[.int .i64 0, .int .i64 0, .int .i64 0, .int .i64 0, .int .i64 0, .int .i64 0, .int .i64 0, .int .i64 0, .int .i64 0] (0, 0) _ rfl (by (with_reducible repeat (first | refine Zn ?_ _ | refine Zd ?_ | refine Za ?_ _)); refine blk_put (cs := #[.int .i64 0, .int .i64 0, .int .i64 0, .int .i64 0, .int .i64 0, .int .i64 0, .int .i64 0, .int .i64 0, .int .i64 0]) ?_ 8 _ rfl; (with_reducible repeat (first | refine Zn ?_ _ | refine Zd ?_ | refine Za ?_ _)); refine blk_put (cs := #[.int .i64 0, .int .i64 0, .int .i64 0, .int .i64 0, .int .i64 0, .int .i64 0, .int .i64 0, .int .i64 0, .int .i64 0]) ?_ 7 _ rfl; (with_reducible repeat (first | refine Zn ?_ _ | refine Zd ?_ | refine Za ?_ _)); refine blk_put (cs := #[.int .i64 0, .int .i64 0, .int .i64 0, .int .i64 0, .int .i64 0, .int .i64 0, .int .i64 0, .int .i64 0, .int .i64 0]) ?_ 6 _ rfl; (with_reducible repeat (first | refine Zn ?_ _ | refine Zd ?_ | refine Za ?_ _)); refine blk_put (cs := #[.int .i64 0, .int .i64 0, .int .i64 0, .int .i64 0, .int .i64 0, .int .i64 0, .int .i64 0, .int .i64 0, .int .i64 0]) ?_ 5 _ rfl; (with_reducible repeat (first | refine Zn ?_ _ | refine Zd ?_ | refine Za ?_ _)); refine blk_put (cs := #[.int .i64 0, .int .i64 0, .int .i64 0, .int .i64 0, .int .i64 0, .int .i64 0, .int .i64 0, .int .i64 0, .int .i64 0]) ?_ 4 _ rfl; (with_reducible repeat (first | refine Zn ?_ _ | refine Zd ?_ | refine Za ?_ _)); refine blk_put (cs := #[.int .i64 0, .int .i64 0, .int .i64 0, .int .i64 0, .int .i64 0, .int .i64 0, .int .i64 0, .int .i64 0, .int .i64 0]) ?_ 3 _ rfl; (with_reducible repeat (first | refine Zn ?_ _ | refine Zd ?_ | refine Za ?_ _)); refine blk_put (cs := #[.int .i64 0, .int .i64 0, .int .i64 0, .int .i64 0, .int .i64 0, .int .i64 0, .int .i64 0, .int .i64 0, .int .i64 0]) ?_ 2 _ rfl; (with_reducible repeat (first | refine Zn ?_ _ | refine Zd ?_ | refine Za ?_ _)); refine blk_put (cs := #[.int .i64 0, .int .i64 0, .int .i64 0, .int .i64 0, .int .i64 0, .int .i64 0, .int .i64 0, .int .i64 0, .int .i64 0]) ?_ 1 _ rfl; (with_reducible repeat (first | refine Zn ?_ _ | refine Zd ?_ | refine Za ?_ _)); refine blk_put (cs := #[.int .i64 0, .int .i64 0, .int .i64 0, .int .i64 0, .int .i64 0, .int .i64 0, .int .i64 0, .int .i64 0, .int .i64 0]) ?_ 0 _ rfl; (with_reducible repeat (first | refine Zn ?_ _ | refine Zd ?_ | refine Za ?_ _)); exact BK609.out) Try.underlying27 rfl (by kernel_rfl)) rfl ?_
    exact ⟨by first | rfl | (simp [errW_none, errW_some] <;> rfl) | (simp [*, errW_none, errW_some] <;> rfl), by repeat (first | (with_reducible first | exact HB.out | apply Zl | apply Zp | apply Ze | refine Zs ?_ GE608.out | refine Zs ?_ GE609.out) | exact HB.out)⟩
   ·replace c14 := Bool.eq_false_iff.mpr c14
    subst c14
    have H1 : (impl_DoCycles.l0 kj2 l1 l1 (l1.length : Int) 0 a0_0 a0_1 a0_2 a0_3 a0_4 a0_5 a0_6 a0_7 a0_8) = some (r1, r2, r3, r4, r5, r6, r7, r8, r9, r10, r11) := by rw [if_neg (show ¬ (false = true) by decide)] at H; exact H
    clear H
    have H := H1
    clear H1
    have H' := Zm H
    clear H
    go_wp2
    go_loopg [22] kj2 (fun kq v22 w' => ∃ (x22_2 : Int) (x609000_2 : Int) (x609001_2 : Int) (x609002_2 : Int) (x609003_2 : Int) (x609004_2 : Int) (x609005_2 : Int) (x609006_2 : Int) (x609007_2 : Int) (x609008_2 : Int) (x610000_2 : Int) (x610001_2 : Int) (x610002_2 : Int) (x610003_2 : Int) (x610004_2 : Int) (x610005_2 : Int) (x610006_2 : Int) (x610007_2 : Int) (x610008_2 : Int), v22 = .int .i64 x22_2 ∧ Aside0 (impl_DoCycles.l0 kq l1 l1 (l1.length : Int) x22_2 x609000_2 x609001_2 x609002_2 x609003_2 x609004_2 x609005_2 x609006_2 x609007_2 x609008_2 = some (r1, r2, r3, r4, r5, r6, r7, r8, r9, r10, r11)) ∧ Aside0 (kq ≤ kj2) ∧ Aside0 (w'.heap[gb608]? = some (.cells #[.int .i64 x609000_2, .int .i64 x609001_2, .int .i64 x609002_2, .int .i64 x609003_2, .int .i64 x609004_2, .int .i64 x609005_2, .int .i64 x609006_2, .int .i64 x609007_2, .int .i64 x609008_2] 27 (0, 0))) ∧ Aside0 (w'.heap[gb609]? = some (.cells #[.int .i64 x610000_2, .int .i64 x610001_2, .int .i64 x610002_2, .int .i64 x610003_2, .int .i64 x610004_2, .int .i64 x610005_2, .int .i64 x610006_2, .int .i64 x610007_2, .int .i64 x610008_2] 27 (0, 0))) ∧ Aside0 (Below w.heap.size w w'))
    case atStart => exact ⟨(0), (a0_0), (a0_1), (a0_2), (a0_3), (a0_4), (a0_5), (a0_6), (a0_7), (a0_8), (0), (0), (0), (0), (0), (0), (0), (0), (0), (by first | rfl | (simp; done) | (simp [*]; done)), H', ⟨Nat.le_refl _⟩, ⟨by (with_reducible repeat (first | refine Zn ?_ _ | refine Zd ?_ | refine Za ?_ _)); exact BK608.out⟩, ⟨by (with_reducible repeat (first | refine Zn ?_ _ | refine Zd ?_ | refine Za ?_ _)); exact BK609.out⟩, ⟨by repeat (first | (with_reducible first | exact HB.out | apply Zl | apply Zp | apply Ze | refine Zs ?_ GE608.out | refine Zs ?_ GE609.out) | exact HB.out)⟩⟩
    case round =>
     clear H'
     try clear c1
     try clear c2
     try clear p2
     try clear c3
     try clear c7
     try clear c8
     try clear c11
     try clear c14
     try clear c15
     try clear hcz12_0
     try clear hcz12_1
     try clear hcz12_2
     try clear hcz12_3
     try clear hcz12_4
     try clear hcz12_5
     try clear hcz12_6
     try clear hcz12_7
     try clear hcz12_8
     try clear hcz16_0
     try clear hcz16_1
     try clear hcz16_2
     try clear hcz16_3
     try clear hcz16_4
     try clear hcz16_5
     try clear hcz16_6
     try clear hcz16_7
     try clear hcz16_8
     try clear hcz9_0
     try clear hcz9_1
     try clear hcz9_2
     try clear hcz9_3
     try clear hcz9_4
     try clear hcz9_5
     try clear hcz9_6
     try clear hcz9_7
     try clear hcz9_8
     try clear hfz12_0
     try clear hfz12_1
     try clear hfz12_2
     try clear hfz12_3
     try clear hfz12_4
     try clear hfz12_5
     try clear hfz12_6
     try clear hfz12_7
     try clear hfz12_8
     try clear hfz16_0
     try clear hfz16_1
     try clear hfz16_2
     try clear hfz16_3
     try clear hfz16_4
     try clear hfz16_5
     try clear hfz16_6
     try clear hfz16_7
     try clear hfz16_8
     try clear hfz9_0
     try clear hfz9_1
     try clear hfz9_2
     try clear hfz9_3
     try clear hfz9_4
     try clear hfz9_5
     try clear hfz9_6
     try clear hfz9_7
     try clear hfz9_8
     try clear p2
     obtain ⟨x22_2, x609000_2, x609001_2, x609002_2, x609003_2, x609004_2, x609005_2, x609006_2, x609007_2, x609008_2, x610000_2, x610001_2, x610002_2, x610003_2, x610004_2, x610005_2, x610006_2, x610007_2, x610008_2, rfl, HA, HK2, BK608, BK609, HB⟩ := hrel
     cases gk with
     | zero => exact absurd HA.out (by simp [impl_DoCycles.l0])
     | succ k2 =>
      have H := HA.out
      clear HA
      simp only [impl_DoCycles.l0] at H
      by_cases c17 : x22_2 < (l1.length : Int)
      ·rw [if_pos c17] at H
       have c17b0 : decide (x22_2 < (l1.length : Int)) = true := decide_eq_true c17
       clear c17
       by_cases c18 : 0 ≤ x22_2
       ·rw [if_pos c18] at H
        have c18b0 : decide (0 ≤ x22_2) = true := decide_eq_true c18
        clear c18
        by_cases c19 : x22_2 < (l1.length : Int)
        ·rw [if_pos c19] at H
         have c19b0 : decide (x22_2 < (l1.length : Int)) = true := decide_eq_true c19
         clear c19
         replace H := Option.bind_eq_some_iff.mp H
         obtain ⟨⟨t613, t614, t615, t616, t617, t618, t619, t620, t621, t622⟩, A200, H⟩ := H
         replace H : (if t622 = true then (impl_DoCycles.l0 k2 l1 l1 (l1.length : Int) (wrap64 (x22_2 + 1)) t613 t614 t615 t616 t617 t618 t619 t620 t621) else (some (x609000_2, x609001_2, x609002_2, x609003_2, x609004_2, x609005_2, x609006_2, x609007_2, x609008_2, x22_2, true))) = some (r1, r2, r3, r4, r5, r6, r7, r8, r9, r10, r11) := H
         have A20 := Zm A200
         clear A200
         by_cases c21 : t622 = true
         ·subst c21
          have H1 : (impl_DoCycles.l0 k2 l1 l1 (l1.length : Int) (wrap64 (x22_2 + 1)) t613 t614 t615 t616 t617 t618 t619 t620 t621) = some (r1, r2, r3, r4, r5, r6, r7, r8, r9, r10, r11) := by rw [if_pos rfl] at H; exact H
          clear H
          have H := H1
          clear H1
          have H' := Zm H
          clear H
          have p611 : 0 ≤ (x22_2 : Int) := of_decide_eq_true (by first | (with_reducible assumption) | assumption)
          have q611 : x22_2 < (l1.length : Int) := of_decide_eq_true (by first | (with_reducible assumption) | assumption)
          obtain ⟨ad611, e611, hx611_0, hx611_1, hx611_2, hx611_3⟩ := at_T58 HR1.out x22_2 p611 q611
          cases e611
          replace hx611_0 := (HB.out.cell (World.block_lt_of_cell? w _ hx611_0)).trans hx611_0
          replace hx611_1 := (HB.out.cell (World.block_lt_of_cell? w _ hx611_1)).trans hx611_1
          replace hx611_2 := (HB.out.cell (World.block_lt_of_cell? w _ hx611_2)).trans hx611_2
          replace hx611_3 := (HB.out.cell (World.block_lt_of_cell? w _ hx611_3)).trans hx611_3
          replace p611 := eq_true p611
          replace q611 := eq_true q611
          go_wp2_with (first | ((with_reducible refine gate_dst (N := 8) rfl ?_); (try (refine gate_guard (by rfl) ?_; dsimp only)); refine box_event ?hg (N := 8) ?hd (cs := #[.int .i64 0, .int .i64 0, .int .i64 0, .int .i64 0]) (t := 58) ?hr ?_; (case hd => rfl); (case hg => rfl); (case hr => first | (go_simp; done) | (go_simp; rfl)); intro gb612 hg w22 hbox hb; have n0_ := Zm (blk_below (g := gb608) (o := .cells #[.int .i64 x609000_2, .int .i64 x609001_2, .int .i64 x609002_2, .int .i64 x609003_2, .int .i64 x609004_2, .int .i64 x609005_2, .int .i64 x609006_2, .int .i64 x609007_2, .int .i64 x609008_2] 27 (0, 0)) (by (with_reducible repeat (first | refine Zn ?_ _ | refine Zd ?_ | refine Za ?_ _)); exact BK608.out) hb); have n1_ := Zm (blk_below (g := gb609) (o := .cells #[.int .i64 x610000_2, .int .i64 x610001_2, .int .i64 x610002_2, .int .i64 x610003_2, .int .i64 x610004_2, .int .i64 x610005_2, .int .i64 x610006_2, .int .i64 x610007_2, .int .i64 x610008_2] 27 (0, 0)) (by (with_reducible repeat (first | refine Zn ?_ _ | refine Zd ?_ | refine Za ?_ _)); exact BK609.out) hb); have n2_ := Zm (below_step (by repeat (first | (with_reducible first | exact HB.out | apply Zl | apply Zp | apply Ze | refine Zs ?_ GE608.out | refine Zs ?_ GE609.out) | exact HB.out)) hb); have n3_ := Zm (hbox); have n4_ := Zm ((by rw [hg]; exact (below_size (by repeat (first | (with_reducible first | exact HB.out | apply Zl | apply Zp | apply Ze | refine Zs ?_ GE608.out | refine Zs ?_ GE609.out) | exact HB.out))) : w.heap.size ≤ gb612)); have n5_ := Zm ((by rw [hg]; exact (below_size (by repeat (first | (with_reducible first | exact HB.out | apply Zl | apply Zp | apply Ze | refine Zs ?_ GE608.out | refine Zs ?_ GE609.out) | exact HB.out))) : w.heap.size ≤ gb612)); have n6_ := Zm ((by rw [hg]; exact Nat.ne_of_lt (blk_lt (g := gb608) (o := .cells #[.int .i64 x609000_2, .int .i64 x609001_2, .int .i64 x609002_2, .int .i64 x609003_2, .int .i64 x609004_2, .int .i64 x609005_2, .int .i64 x609006_2, .int .i64 x609007_2, .int .i64 x609008_2] 27 (0, 0)) (by (with_reducible repeat (first | refine Zn ?_ _ | refine Zd ?_ | refine Za ?_ _)); exact BK608.out)) : gb608 ≠ gb612)); have n7_ := Zm ((by rw [hg]; exact Nat.ne_of_gt (blk_lt (g := gb608) (o := .cells #[.int .i64 x609000_2, .int .i64 x609001_2, .int .i64 x609002_2, .int .i64 x609003_2, .int .i64 x609004_2, .int .i64 x609005_2, .int .i64 x609006_2, .int .i64 x609007_2, .int .i64 x609008_2] 27 (0, 0)) (by (with_reducible repeat (first | refine Zn ?_ _ | refine Zd ?_ | refine Za ?_ _)); exact BK608.out)) : gb612 ≠ gb608)); have n8_ := Zm ((by rw [hg]; exact Nat.ne_of_lt (blk_lt (g := gb609) (o := .cells #[.int .i64 x610000_2, .int .i64 x610001_2, .int .i64 x610002_2, .int .i64 x610003_2, .int .i64 x610004_2, .int .i64 x610005_2, .int .i64 x610006_2, .int .i64 x610007_2, .int .i64 x610008_2] 27 (0, 0)) (by (with_reducible repeat (first | refine Zn ?_ _ | refine Zd ?_ | refine Za ?_ _)); exact BK609.out)) : gb609 ≠ gb612)); have n9_ := Zm ((by rw [hg]; exact Nat.ne_of_gt (blk_lt (g := gb609) (o := .cells #[.int .i64 x610000_2, .int .i64 x610001_2, .int .i64 x610002_2, .int .i64 x610003_2, .int .i64 x610004_2, .int .i64 x610005_2, .int .i64 x610006_2, .int .i64 x610007_2, .int .i64 x610008_2] 27 (0, 0)) (by (with_reducible repeat (first | refine Zn ?_ _ | refine Zd ?_ | refine Za ?_ _)); exact BK609.out)) : gb612 ≠ gb609)); clear BK608; clear BK609; clear HB; have BK608 := n0_; have BK609 := n1_; have HB := n2_; have BK612 := n3_; have GW612 := n4_; have GE612 := n5_; have NB608_612 := n6_; have NB612_608 := n7_; have NB609_612 := n8_; have NB612_609 := n9_; clear n0_ n1_ n2_ n3_ n4_ n5_ n6_ n7_ n8_ n9_; clear hb hbox hg; have hnb23 := NB612_608.out; have hnc23 := NB608_612.out; have hnb24 := NB612_609.out; have hnc24 := NB609_612.out; have hcz25_0 : w22.cell? ⟨gb612, 0, none⟩ = some (.int .i64 0) := (Zc BK612.out 0).trans rfl; have hcz25_1 : w22.cell? ⟨gb612, 1, none⟩ = some (.int .i64 0) := (Zc BK612.out 1).trans rfl; have hcz25_2 : w22.cell? ⟨gb612, 2, none⟩ = some (.int .i64 0) := (Zc BK612.out 2).trans rfl; have hcz25_3 : w22.cell? ⟨gb612, 3, none⟩ = some (.int .i64 0) := (Zc BK612.out 3).trans rfl; have hfz25_0 := Zf BK612.out 0; have hfz25_1 := Zf BK612.out 1; have hfz25_2 := Zf BK612.out 2; have hfz25_3 := Zf BK612.out 3; have hnb26 := NB608_609.out; have hnc26 := NB609_608.out; have hcz27_0 : w22.cell? ⟨gb608, 0, none⟩ = some (.int .i64 x609000_2) := (Zc BK608.out 0).trans rfl; have hcz27_1 : w22.cell? ⟨gb608, 1, none⟩ = some (.int .i64 x609001_2) := (Zc BK608.out 1).trans rfl; have hcz27_2 : w22.cell? ⟨gb608, 2, none⟩ = some (.int .i64 x609002_2) := (Zc BK608.out 2).trans rfl; have hcz27_3 : w22.cell? ⟨gb608, 3, none⟩ = some (.int .i64 x609003_2) := (Zc BK608.out 3).trans rfl; have hcz27_4 : w22.cell? ⟨gb608, 4, none⟩ = some (.int .i64 x609004_2) := (Zc BK608.out 4).trans rfl; have hcz27_5 : w22.cell? ⟨gb608, 5, none⟩ = some (.int .i64 x609005_2) := (Zc BK608.out 5).trans rfl; have hcz27_6 : w22.cell? ⟨gb608, 6, none⟩ = some (.int .i64 x609006_2) := (Zc BK608.out 6).trans rfl; have hcz27_7 : w22.cell? ⟨gb608, 7, none⟩ = some (.int .i64 x609007_2) := (Zc BK608.out 7).trans rfl; have hcz27_8 : w22.cell? ⟨gb608, 8, none⟩ = some (.int .i64 x609008_2) := (Zc BK608.out 8).trans rfl; have hfz27_0 := Zf BK608.out 0; have hfz27_1 := Zf BK608.out 1; have hfz27_2 := Zf BK608.out 2; have hfz27_3 := Zf BK608.out 3; have hfz27_4 := Zf BK608.out 4; have hfz27_5 := Zf BK608.out 5; have hfz27_6 := Zf BK608.out 6; have hfz27_7 := Zf BK608.out 7; have hfz27_8 := Zf BK608.out 8) | ((with_reducible refine gate_callee (f := 62) rfl ?_); refine goesL_ (some 30) rfl rfl Try.func62 (by kernel_rfl) rfl #[.agg #[.int .i64 x609000_2, .int .i64 x609001_2, .int .i64 x609002_2, .int .i64 x609003_2, .int .i64 x609004_2, .int .i64 x609005_2, .int .i64 x609006_2, .int .i64 x609007_2, .int .i64 x609008_2], .agg #[.int .i64 ((rd_T58 l1 x22_2).f0), .int .i64 ((rd_T58 l1 x22_2).f1), .int .i64 ((rd_T58 l1 x22_2).f2.f0), .int .i64 ((rd_T58 l1 x22_2).f2.f1)]] rfl (by (try simp only [List.map_toArray, List.map_cons, List.map_nil]); first | done | rfl | (simp only [List.length_drop, List.length_take]; rfl)) ?_; (with_reducible refine (impl_Machine_cycle.calls k2 x609000_2 x609001_2 x609002_2 x609003_2 x609004_2 x609005_2 x609006_2 x609007_2 x609008_2 ((rd_T58 l1 x22_2).f0) ((rd_T58 l1 x22_2).f1) ((rd_T58 l1 x22_2).f2.f0) ((rd_T58 l1 x22_2).f2.f1) t613 t614 t615 t616 t617 t618 t619 t620 t621 true _ A20.out).mono ?_); rintro e w28 ⟨rfl, hb⟩; refine ⟨_, rfl, ?_⟩; have n0_ := Zm (blk_below (g := gb608) (o := .cells #[.int .i64 x609000_2, .int .i64 x609001_2, .int .i64 x609002_2, .int .i64 x609003_2, .int .i64 x609004_2, .int .i64 x609005_2, .int .i64 x609006_2, .int .i64 x609007_2, .int .i64 x609008_2] 27 (0, 0)) (by (with_reducible repeat (first | refine Zn ?_ _ | refine Zd ?_ | refine Za ?_ _)); refine blk_far ?_ NB608_612.out _; (with_reducible repeat (first | refine Zn ?_ _ | refine Zd ?_ | refine Za ?_ _)); refine blk_far ?_ NB608_612.out _; (with_reducible repeat (first | refine Zn ?_ _ | refine Zd ?_ | refine Za ?_ _)); refine blk_far ?_ NB608_612.out _; (with_reducible repeat (first | refine Zn ?_ _ | refine Zd ?_ | refine Za ?_ _)); refine blk_far ?_ NB608_612.out _; (with_reducible repeat (first | refine Zn ?_ _ | refine Zd ?_ | refine Za ?_ _)); exact BK608.out) hb); have n1_ := Zm (blk_below (g := gb609) (o := .cells #[.int .i64 x610000_2, .int .i64 x610001_2, .int .i64 x610002_2, .int .i64 x610003_2, .int .i64 x610004_2, .int .i64 x610005_2, .int .i64 x610006_2, .int .i64 x610007_2, .int .i64 x610008_2] 27 (0, 0)) (by (with_reducible repeat (first | refine Zn ?_ _ | refine Zd ?_ | refine Za ?_ _)); refine blk_far ?_ NB609_612.out _; (with_reducible repeat (first | refine Zn ?_ _ | refine Zd ?_ | refine Za ?_ _)); refine blk_far ?_ NB609_612.out _; (with_reducible repeat (first | refine Zn ?_ _ | refine Zd ?_ | refine Za ?_ _)); refine blk_far ?_ NB609_612.out _; (with_reducible repeat (first | refine Zn ?_ _ | refine Zd ?_ | refine Za ?_ _)); refine blk_far ?_ NB609_612.out _; (with_reducible repeat (first | refine Zn ?_ _ | refine Zd ?_ | refine Za ?_ _)); exact BK609.out) hb); have n2_ := Zm (blk_below (g := gb612) (o := .cells #[.int .i64 ((rd_T58 l1 x22_2).f0), .int .i64 ((rd_T58 l1 x22_2).f1), .int .i64 ((rd_T58 l1 x22_2).f2.f0), .int .i64 ((rd_T58 l1 x22_2).f2.f1)] 58 (0, 0)) (by (with_reducible repeat (first | refine Zn ?_ _ | refine Zd ?_ | refine Za ?_ _)); refine blk_put (cs := #[.int .i64 ((rd_T58 l1 x22_2).f0), .int .i64 ((rd_T58 l1 x22_2).f1), .int .i64 ((rd_T58 l1 x22_2).f2.f0), .int .i64 0]) ?_ 3 _ rfl; (with_reducible repeat (first | refine Zn ?_ _ | refine Zd ?_ | refine Za ?_ _)); refine blk_put (cs := #[.int .i64 ((rd_T58 l1 x22_2).f0), .int .i64 ((rd_T58 l1 x22_2).f1), .int .i64 0, .int .i64 0]) ?_ 2 _ rfl; (with_reducible repeat (first | refine Zn ?_ _ | refine Zd ?_ | refine Za ?_ _)); refine blk_put (cs := #[.int .i64 ((rd_T58 l1 x22_2).f0), .int .i64 0, .int .i64 0, .int .i64 0]) ?_ 1 _ rfl; (with_reducible repeat (first | refine Zn ?_ _ | refine Zd ?_ | refine Za ?_ _)); refine blk_put (cs := #[.int .i64 0, .int .i64 0, .int .i64 0, .int .i64 0]) ?_ 0 _ rfl; (with_reducible repeat (first | refine Zn ?_ _ | refine Zd ?_ | refine Za ?_ _)); exact BK612.out) hb); have n3_ := Zm (below_step (by repeat (first | (with_reducible first | exact HB.out | apply Zl | apply Zp | apply Ze | refine Zs ?_ GE608.out | refine Zs ?_ GE609.out | refine Zs ?_ GE612.out) | exact HB.out)) hb); clear BK608; clear BK609; clear BK612; clear HB; have BK608 := n0_; have BK609 := n1_; have BK612 := n2_; have HB := n3_; clear n0_ n1_ n2_ n3_; (try clear hb); (try clear hb2); (try clear hk); (try clear hi)) | ((with_reducible refine gate_dst (N := 9) rfl ?_); (try (refine gate_guard (by rfl) ?_; dsimp only)); refine box_event ?hg (N := 9) ?hd (cs := #[.int .i64 0, .int .i64 0, .int .i64 0, .int .i64 0, .int .i64 0, .int .i64 0, .int .i64 0, .int .i64 0, .int .i64 0]) (t := 27) ?hr ?_; (case hd => rfl); (case hg => rfl); (case hr => first | (go_simp; done) | (go_simp; rfl)); intro gb623 hg w29 hbox hb; have n0_ := Zm (blk_below (g := gb608) (o := .cells #[.int .i64 x609000_2, .int .i64 x609001_2, .int .i64 x609002_2, .int .i64 x609003_2, .int .i64 x609004_2, .int .i64 x609005_2, .int .i64 x609006_2, .int .i64 x609007_2, .int .i64 x609008_2] 27 (0, 0)) (by (with_reducible repeat (first | refine Zn ?_ _ | refine Zd ?_ | refine Za ?_ _)); exact BK608.out) hb); have n1_ := Zm (blk_below (g := gb609) (o := .cells #[.int .i64 x610000_2, .int .i64 x610001_2, .int .i64 x610002_2, .int .i64 x610003_2, .int .i64 x610004_2, .int .i64 x610005_2, .int .i64 x610006_2, .int .i64 x610007_2, .int .i64 x610008_2] 27 (0, 0)) (by (with_reducible repeat (first | refine Zn ?_ _ | refine Zd ?_ | refine Za ?_ _)); exact BK609.out) hb); have n2_ := Zm (blk_below (g := gb612) (o := .cells #[.int .i64 ((rd_T58 l1 x22_2).f0), .int .i64 ((rd_T58 l1 x22_2).f1), .int .i64 ((rd_T58 l1 x22_2).f2.f0), .int .i64 ((rd_T58 l1 x22_2).f2.f1)] 58 (0, 0)) (by (with_reducible repeat (first | refine Zn ?_ _ | refine Zd ?_ | refine Za ?_ _)); exact BK612.out) hb); have n3_ := Zm (below_step (by repeat (first | (with_reducible first | exact HB.out | apply Zl | apply Zp | apply Ze | refine Zs ?_ GE608.out | refine Zs ?_ GE609.out | refine Zs ?_ GE612.out) | exact HB.out)) hb); have n4_ := Zm (hbox); have n5_ := Zm ((by rw [hg]; exact (below_size (by repeat (first | (with_reducible first | exact HB.out | apply Zl | apply Zp | apply Ze | refine Zs ?_ GE608.out | refine Zs ?_ GE609.out | refine Zs ?_ GE612.out) | exact HB.out))) : w.heap.size ≤ gb623)); have n6_ := Zm ((by rw [hg]; exact (below_size (by repeat (first | (with_reducible first | exact HB.out | apply Zl | apply Zp | apply Ze | refine Zs ?_ GE608.out | refine Zs ?_ GE609.out | refine Zs ?_ GE612.out) | exact HB.out))) : w.heap.size ≤ gb623)); have n7_ := Zm ((by rw [hg]; exact Nat.ne_of_lt (blk_lt (g := gb608) (o := .cells #[.int .i64 x609000_2, .int .i64 x609001_2, .int .i64 x609002_2, .int .i64 x609003_2, .int .i64 x609004_2, .int .i64 x609005_2, .int .i64 x609006_2, .int .i64 x609007_2, .int .i64 x609008_2] 27 (0, 0)) (by (with_reducible repeat (first | refine Zn ?_ _ | refine Zd ?_ | refine Za ?_ _)); exact BK608.out)) : gb608 ≠ gb623)); have n8_ := Zm ((by rw [hg]; exact Nat.ne_of_gt (blk_lt (g := gb608) (o := .cells #[.int .i64 x609000_2, .int .i64 x609001_2, .int .i64 x609002_2, .int .i64 x609003_2, .int .i64 x609004_2, .int .i64 x609005_2, .int .i64 x609006_2, .int .i64 x609007_2, .int .i64 x609008_2] 27 (0, 0)) (by (with_reducible repeat (first | refine Zn ?_ _ | refine Zd ?_ | refine Za ?_ _)); exact BK608.out)) : gb623 ≠ gb608)); have n9_ := Zm ((by rw [hg]; exact Nat.ne_of_lt (blk_lt (g := gb609) (o := .cells #[.int .i64 x610000_2, .int .i64 x610001_2, .int .i64 x610002_2, .int .i64 x610003_2, .int .i64 x610004_2, .int .i64 x610005_2, .int .i64 x610006_2, .int .i64 x610007_2, .int .i64 x610008_2] 27 (0, 0)) (by (with_reducible repeat (first | refine Zn ?_ _ | refine Zd ?_ | refine Za ?_ _)); exact BK609.out)) : gb609 ≠ gb623)); have n10_ := Zm ((by rw [hg]; exact Nat.ne_of_gt (blk_lt (g := gb609) (o := .cells #[.int .i64 x610000_2, .int .i64 x610001_2, .int .i64 x610002_2, .int .i64 x610003_2, .int .i64 x610004_2, .int .i64 x610005_2, .int .i64 x610006_2, .int .i64 x610007_2, .int .i64 x610008_2] 27 (0, 0)) (by (with_reducible repeat (first | refine Zn ?_ _ | refine Zd ?_ | refine Za ?_ _)); exact BK609.out)) : gb623 ≠ gb609)); have n11_ := Zm ((by rw [hg]; exact Nat.ne_of_lt (blk_lt (g := gb612) (o := .cells #[.int .i64 ((rd_T58 l1 x22_2).f0), .int .i64 ((rd_T58 l1 x22_2).f1), .int .i64 ((rd_T58 l1 x22_2).f2.f0), .int .i64 ((rd_T58 l1 x22_2).f2.f1)] 58 (0, 0)) (by (with_reducible repeat (first | refine Zn ?_ _ | refine Zd ?_ | refine Za ?_ _)); exact BK612.out)) : gb612 ≠ gb623)); have n12_ := Zm ((by rw [hg]; exact Nat.ne_of_gt (blk_lt (g := gb612) (o := .cells #[.int .i64 ((rd_T58 l1 x22_2).f0), .int .i64 ((rd_T58 l1 x22_2).f1), .int .i64 ((rd_T58 l1 x22_2).f2.f0), .int .i64 ((rd_T58 l1 x22_2).f2.f1)] 58 (0, 0)) (by (with_reducible repeat (first | refine Zn ?_ _ | refine Zd ?_ | refine Za ?_ _)); exact BK612.out)) : gb623 ≠ gb612)); clear BK608; clear BK609; clear BK612; clear HB; have BK608 := n0_; have BK609 := n1_; have BK612 := n2_; have HB := n3_; have BK623 := n4_; have GW623 := n5_; have GE623 := n6_; have NB608_623 := n7_; have NB623_608 := n8_; have NB609_623 := n9_; have NB623_609 := n10_; have NB612_623 := n11_; have NB623_612 := n12_; clear n0_ n1_ n2_ n3_ n4_ n5_ n6_ n7_ n8_ n9_ n10_ n11_ n12_; clear hb hbox hg; have hnb30 := NB623_608.out; have hnc30 := NB608_623.out; have hnb31 := NB623_609.out; have hnc31 := NB609_623.out; have hnb32 := NB623_612.out; have hnc32 := NB612_623.out; have hcz33_0 : w29.cell? ⟨gb623, 0, none⟩ = some (.int .i64 0) := (Zc BK623.out 0).trans rfl; have hcz33_1 : w29.cell? ⟨gb623, 1, none⟩ = some (.int .i64 0) := (Zc BK623.out 1).trans rfl; have hcz33_2 : w29.cell? ⟨gb623, 2, none⟩ = some (.int .i64 0) := (Zc BK623.out 2).trans rfl; have hcz33_3 : w29.cell? ⟨gb623, 3, none⟩ = some (.int .i64 0) := (Zc BK623.out 3).trans rfl; have hcz33_4 : w29.cell? ⟨gb623, 4, none⟩ = some (.int .i64 0) := (Zc BK623.out 4).trans rfl; have hcz33_5 : w29.cell? ⟨gb623, 5, none⟩ = some (.int .i64 0) := (Zc BK623.out 5).trans rfl; have hcz33_6 : w29.cell? ⟨gb623, 6, none⟩ = some (.int .i64 0) := (Zc BK623.out 6).trans rfl; have hcz33_7 : w29.cell? ⟨gb623, 7, none⟩ = some (.int .i64 0) := (Zc BK623.out 7).trans rfl; have hcz33_8 : w29.cell? ⟨gb623, 8, none⟩ = some (.int .i64 0) := (Zc BK623.out 8).trans rfl; have hfz33_0 := Zf BK623.out 0; have hfz33_1 := Zf BK623.out 1; have hfz33_2 := Zf BK623.out 2; have hfz33_3 := Zf BK623.out 3; have hfz33_4 := Zf BK623.out 4; have hfz33_5 := Zf BK623.out 5; have hfz33_6 := Zf BK623.out 6; have hfz33_7 := Zf BK623.out 7; have hfz33_8 := Zf BK623.out 8; have hcz34_0 : w29.cell? ⟨gb608, 0, none⟩ = some (.int .i64 x609000_2) := (Zc BK608.out 0).trans rfl; have hcz34_1 : w29.cell? ⟨gb608, 1, none⟩ = some (.int .i64 x609001_2) := (Zc BK608.out 1).trans rfl; have hcz34_2 : w29.cell? ⟨gb608, 2, none⟩ = some (.int .i64 x609002_2) := (Zc BK608.out 2).trans rfl; have hcz34_3 : w29.cell? ⟨gb608, 3, none⟩ = some (.int .i64 x609003_2) := (Zc BK608.out 3).trans rfl; have hcz34_4 : w29.cell? ⟨gb608, 4, none⟩ = some (.int .i64 x609004_2) := (Zc BK608.out 4).trans rfl; have hcz34_5 : w29.cell? ⟨gb608, 5, none⟩ = some (.int .i64 x609005_2) := (Zc BK608.out 5).trans rfl; have hcz34_6 : w29.cell? ⟨gb608, 6, none⟩ = some (.int .i64 x609006_2) := (Zc BK608.out 6).trans rfl; have hcz34_7 : w29.cell? ⟨gb608, 7, none⟩ = some (.int .i64 x609007_2) := (Zc BK608.out 7).trans rfl; have hcz34_8 : w29.cell? ⟨gb608, 8, none⟩ = some (.int .i64 x609008_2) := (Zc BK608.out 8).trans rfl; have hfz34_0 := Zf BK608.out 0; have hfz34_1 := Zf BK608.out 1; have hfz34_2 := Zf BK608.out 2; have hfz34_3 := Zf BK608.out 3; have hfz34_4 := Zf BK608.out 4; have hfz34_5 := Zf BK608.out 5; have hfz34_6 := Zf BK608.out 6; have hfz34_7 := Zf BK608.out 7; have hfz34_8 := Zf BK608.out 8))
          go_roundg k2
          case measure => have := HJ2.out; have := HK2.out; omega
          case rel => exact ⟨(wrap64 (x22_2 + 1)), (t613), (t614), (t615), (t616), (t617), (t618), (t619), (t620), (t621), (x610000_2), (x610001_2), (x610002_2), (x610003_2), (x610004_2), (x610005_2), (x610006_2), (x610007_2), (x610008_2), (by first | rfl | (simp; done) | (simp [*]; done)), H', ⟨by have := HJ2.out; have := HK2.out; omega⟩, ⟨by (with_reducible repeat (first | refine Zn ?_ _ | refine Zd ?_ | refine Za ?_ _)); refine blk_put (cs := #[.int .i64 t613, .int .i64 t614, .int .i64 t615, .int .i64 t616, .int .i64 t617, .int .i64 t618, .int .i64 t619, .int .i64 t620, .int .i64 x609008_2]) ?_ 8 _ rfl; (with_reducible repeat (first | refine Zn ?_ _ | refine Zd ?_ | refine Za ?_ _)); refine blk_put (cs := #[.int .i64 t613, .int .i64 t614, .int .i64 t615, .int .i64 t616, .int .i64 t617, .int .i64 t618, .int .i64 t619, .int .i64 x609007_2, .int .i64 x609008_2]) ?_ 7 _ rfl; (with_reducible repeat (first | refine Zn ?_ _ | refine Zd ?_ | refine Za ?_ _)); refine blk_put (cs := #[.int .i64 t613, .int .i64 t614, .int .i64 t615, .int .i64 t616, .int .i64 t617, .int .i64 t618, .int .i64 x609006_2, .int .i64 x609007_2, .int .i64 x609008_2]) ?_ 6 _ rfl; (with_reducible repeat (first | refine Zn ?_ _ | refine Zd ?_ | refine Za ?_ _)); refine blk_put (cs := #[.int .i64 t613, .int .i64 t614, .int .i64 t615, .int .i64 t616, .int .i64 t617, .int .i64 x609005_2, .int .i64 x609006_2, .int .i64 x609007_2, .int .i64 x609008_2]) ?_ 5 _ rfl; (with_reducible repeat (first | refine Zn ?_ _ | refine Zd ?_ | refine Za ?_ _)); refine blk_put (cs := #[.int .i64 t613, .int .i64 t614, .int .i64 t615, .int .i64 t616, .int .i64 x609004_2, .int .i64 x609005_2, .int .i64 x609006_2, .int .i64 x609007_2, .int .i64 x609008_2]) ?_ 4 _ rfl; (with_reducible repeat (first | refine Zn ?_ _ | refine Zd ?_ | refine Za ?_ _)); refine blk_put (cs := #[.int .i64 t613, .int .i64 t614, .int .i64 t615, .int .i64 x609003_2, .int .i64 x609004_2, .int .i64 x609005_2, .int .i64 x609006_2, .int .i64 x609007_2, .int .i64 x609008_2]) ?_ 3 _ rfl; (with_reducible repeat (first | refine Zn ?_ _ | refine Zd ?_ | refine Za ?_ _)); refine blk_put (cs := #[.int .i64 t613, .int .i64 t614, .int .i64 x609002_2, .int .i64 x609003_2, .int .i64 x609004_2, .int .i64 x609005_2, .int .i64 x609006_2, .int .i64 x609007_2, .int .i64 x609008_2]) ?_ 2 _ rfl; (with_reducible repeat (first | refine Zn ?_ _ | refine Zd ?_ | refine Za ?_ _)); refine blk_put (cs := #[.int .i64 t613, .int .i64 x609001_2, .int .i64 x609002_2, .int .i64 x609003_2, .int .i64 x609004_2, .int .i64 x609005_2, .int .i64 x609006_2, .int .i64 x609007_2, .int .i64 x609008_2]) ?_ 1 _ rfl; (with_reducible repeat (first | refine Zn ?_ _ | refine Zd ?_ | refine Za ?_ _)); refine blk_put (cs := #[.int .i64 x609000_2, .int .i64 x609001_2, .int .i64 x609002_2, .int .i64 x609003_2, .int .i64 x609004_2, .int .i64 x609005_2, .int .i64 x609006_2, .int .i64 x609007_2, .int .i64 x609008_2]) ?_ 0 _ rfl; (with_reducible repeat (first | refine Zn ?_ _ | refine Zd ?_ | refine Za ?_ _)); refine blk_far ?_ NB608_623.out _; (with_reducible repeat (first | refine Zn ?_ _ | refine Zd ?_ | refine Za ?_ _)); refine blk_far ?_ NB608_623.out _; (with_reducible repeat (first | refine Zn ?_ _ | refine Zd ?_ | refine Za ?_ _)); refine blk_far ?_ NB608_623.out _; (with_reducible repeat (first | refine Zn ?_ _ | refine Zd ?_ | refine Za ?_ _)); refine blk_far ?_ NB608_623.out _; (with_reducible repeat (first | refine Zn ?_ _ | refine Zd ?_ | refine Za ?_ _)); refine blk_far ?_ NB608_623.out _; (with_reducible repeat (first | refine Zn ?_ _ | refine Zd ?_ | refine Za ?_ _)); refine blk_far ?_ NB608_623.out _; (with_reducible repeat (first | refine Zn ?_ _ | refine Zd ?_ | refine Za ?_ _)); refine blk_far ?_ NB608_623.out _; (with_reducible repeat (first | refine Zn ?_ _ | refine Zd ?_ | refine Za ?_ _)); refine blk_far ?_ NB608_623.out _; (with_reducible repeat (first | refine Zn ?_ _ | refine Zd ?_ | refine Za ?_ _)); refine blk_far ?_ NB608_623.out _; (with_reducible repeat (first | refine Zn ?_ _ | refine Zd ?_ | refine Za ?_ _)); exact BK608.out⟩, ⟨by (with_reducible repeat (first | refine Zn ?_ _ | refine Zd ?_ | refine Za ?_ _)); refine blk_far ?_ NB609_608.out _; (with_reducible repeat (first | refine Zn ?_ _ | refine Zd ?_ | refine Za ?_ _)); refine blk_far ?_ NB609_608.out _; (with_reducible repeat (first | refine Zn ?_ _ | refine Zd ?_ | refine Za ?_ _)); refine blk_far ?_ NB609_608.out _; (with_reducible repeat (first | refine Zn ?_ _ | refine Zd ?_ | refine Za ?_ _)); refine blk_far ?_ NB609_608.out _; (with_reducible repeat (first | refine Zn ?_ _ | refine Zd ?_ | refine Za ?_ _)); refine blk_far ?_ NB609_608.out _; (with_reducible repeat (first | refine Zn ?_ _ | refine Zd ?_ | refine Za ?_ _)); refine blk_far ?_ NB609_608.out _; (with_reducible repeat (first | refine Zn ?_ _ | refine Zd ?_ | refine Za ?_ _)); refine blk_far ?_ NB609_608.out _; (with_reducible repeat (first | refine Zn ?_ _ | refine Zd ?_ | refine Za ?_ _)); refine blk_far ?_ NB609_608.out _; (with_reducible repeat (first | refine Zn ?_ _ | refine Zd ?_ | refine Za ?_ _)); refine blk_far ?_ NB609_608.out _; (with_reducible repeat (first | refine Zn ?_ _ | refine Zd ?_ | refine Za ?_ _)); refine blk_far ?_ NB609_623.out _; (with_reducible repeat (first | refine Zn ?_ _ | refine Zd ?_ | refine Za ?_ _)); refine blk_far ?_ NB609_623.out _; (with_reducible repeat (first | refine Zn ?_ _ | refine Zd ?_ | refine Za ?_ _)); refine blk_far ?_ NB609_623.out _; (with_reducible repeat (first | refine Zn ?_ _ | refine Zd ?_ | refine Za ?_ _)); refine blk_far ?_ NB609_623.out _; (with_reducible repeat (first | refine Zn ?_ _ | refine Zd ?_ | refine Za ?_ _)); refine blk_far ?_ NB609_623.out _; (with_reducible repeat (first | refine Zn ?_ _ | refine Zd ?_ | refine Za ?_ _)); refine blk_far ?_ NB609_623.out _; (with_reducible repeat (first | refine Zn ?_ _ | refine Zd ?_ | refine Za ?_ _)); refine blk_far ?_ NB609_623.out _; (with_reducible repeat (first | refine Zn ?_ _ | refine Zd ?_ | refine Za ?_ _)); refine blk_far ?_ NB609_623.out _; (with_reducible repeat (first | refine Zn ?_ _ | refine Zd ?_ | refine Za ?_ _)); refine blk_far ?_ NB609_623.out _; (with_reducible repeat (first | refine Zn ?_ _ | refine Zd ?_ | refine Za ?_ _)); exact BK609.out⟩, ⟨by repeat (first | (with_reducible first | exact HB.out | apply Zl | apply Zp | apply Ze | refine Zs ?_ GE608.out | refine Zs ?_ GE609.out | refine Zs ?_ GE612.out | refine Zs ?_ GE623.out) | exact HB.out)⟩⟩
         ·replace c21 := Bool.eq_false_iff.mpr c21
          subst c21
          have H1 : (some (x609000_2, x609001_2, x609002_2, x609003_2, x609004_2, x609005_2, x609006_2, x609007_2, x609008_2, x22_2, true)) = some (r1, r2, r3, r4, r5, r6, r7, r8, r9, r10, r11) := by rw [if_neg (show ¬ (false = true) by decide)] at H; exact H
          clear H
          have H := H1
          clear H1
          simp only [Option.some.injEq, Prod.mk.injEq] at H
          obtain ⟨rfl, rfl, rfl, rfl, rfl, rfl, rfl, rfl, rfl, rfl, rfl⟩ := H
          have p611 : 0 ≤ (x22_2 : Int) := of_decide_eq_true (by first | (with_reducible assumption) | assumption)
          have q611 : x22_2 < (l1.length : Int) := of_decide_eq_true (by first | (with_reducible assumption) | assumption)
          obtain ⟨ad611, e611, hx611_0, hx611_1, hx611_2, hx611_3⟩ := at_T58 HR1.out x22_2 p611 q611
          cases e611
          replace hx611_0 := (HB.out.cell (World.block_lt_of_cell? w _ hx611_0)).trans hx611_0
          replace hx611_1 := (HB.out.cell (World.block_lt_of_cell? w _ hx611_1)).trans hx611_1
          replace hx611_2 := (HB.out.cell (World.block_lt_of_cell? w _ hx611_2)).trans hx611_2
          replace hx611_3 := (HB.out.cell (World.block_lt_of_cell? w _ hx611_3)).trans hx611_3
          replace p611 := eq_true p611
          replace q611 := eq_true q611
          go_wp2_with (first | ((with_reducible refine gate_dst (N := 8) rfl ?_); (try (refine gate_guard (by rfl) ?_; dsimp only)); refine box_event ?hg (N := 8) ?hd (cs := #[.int .i64 0, .int .i64 0, .int .i64 0, .int .i64 0]) (t := 58) ?hr ?_; (case hd => rfl); (case hg => rfl); (case hr => first | (go_simp; done) | (go_simp; rfl)); intro gb612 hg w35 hbox hb; have n0_ := Zm (blk_below (g := gb608) (o := .cells #[.int .i64 x609000_2, .int .i64 x609001_2, .int .i64 x609002_2, .int .i64 x609003_2, .int .i64 x609004_2, .int .i64 x609005_2, .int .i64 x609006_2, .int .i64 x609007_2, .int .i64 x609008_2] 27 (0, 0)) (by (with_reducible repeat (first | refine Zn ?_ _ | refine Zd ?_ | refine Za ?_ _)); exact BK608.out) hb); have n1_ := Zm (blk_below (g := gb609) (o := .cells #[.int .i64 x610000_2, .int .i64 x610001_2, .int .i64 x610002_2, .int .i64 x610003_2, .int .i64 x610004_2, .int .i64 x610005_2, .int .i64 x610006_2, .int .i64 x610007_2, .int .i64 x610008_2] 27 (0, 0)) (by (with_reducible repeat (first | refine Zn ?_ _ | refine Zd ?_ | refine Za ?_ _)); exact BK609.out) hb); have n2_ := Zm (below_step (by repeat (first | (with_reducible first | exact HB.out | apply Zl | apply Zp | apply Ze | refine Zs ?_ GE608.out | refine Zs ?_ GE609.out) | exact HB.out)) hb); have n3_ := Zm (hbox); have n4_ := Zm ((by rw [hg]; exact (below_size (by repeat (first | (with_reducible first | exact HB.out | apply Zl | apply Zp | apply Ze | refine Zs ?_ GE608.out | refine Zs ?_ GE609.out) | exact HB.out))) : w.heap.size ≤ gb612)); have n5_ := Zm ((by rw [hg]; exact (below_size (by repeat (first | (with_reducible first | exact HB.out | apply Zl | apply Zp | apply Ze | refine Zs ?_ GE608.out | refine Zs ?_ GE609.out) | exact HB.out))) : w.heap.size ≤ gb612)); have n6_ := Zm ((by rw [hg]; exact Nat.ne_of_lt (blk_lt (g := gb608) (o := .cells #[.int .i64 x609000_2, .int .i64 x609001_2, .int .i64 x609002_2, .int .i64 x609003_2, .int .i64 x609004_2, .int .i64 x609005_2, .int .i64 x609006_2, .int .i64 x609007_2, .int .i64 x609008_2] 27 (0, 0)) (by (with_reducible repeat (first | refine Zn ?_ _ | refine Zd ?_ | refine Za ?_ _)); exact BK608.out)) : gb608 ≠ gb612)); have n7_ := Zm ((by rw [hg]; exact Nat.ne_of_gt (blk_lt (g := gb608) (o := .cells #[.int .i64 x609000_2, .int .i64 x609001_2, .int .i64 x609002_2, .int .i64 x609003_2, .int .i64 x609004_2, .int .i64 x609005_2, .int .i64 x609006_2, .int .i64 x609007_2, .int .i64 x609008_2] 27 (0, 0)) (by (with_reducible repeat (first | refine Zn ?_ _ | refine Zd ?_ | refine Za ?_ _)); exact BK608.out)) : gb612 ≠ gb608)); have n8_ := Zm ((by rw [hg]; exact Nat.ne_of_lt (blk_lt (g := gb609) (o := .cells #[.int .i64 x610000_2, .int .i64 x610001_2, .int .i64 x610002_2, .int .i64 x610003_2, .int .i64 x610004_2, .int .i64 x610005_2, .int .i64 x610006_2, .int .i64 x610007_2, .int .i64 x610008_2] 27 (0, 0)) (by (with_reducible repeat (first | refine Zn ?_ _ | refine Zd ?_ | refine Za ?_ _)); exact BK609.out)) : gb609 ≠ gb612)); have n9_ := Zm ((by rw [hg]; exact Nat.ne_of_gt (blk_lt (g := gb609) (o := .cells #[.int .i64 x610000_2, .int .i64 x610001_2, .int .i64 x610002_2, .int .i64 x610003_2, .int .i64 x610004_2, .int .i64 x610005_2, .int .i64 x610006_2, .int .i64 x610007_2, .int .i64 x610008_2] 27 (0, 0)) (by (with_reducible repeat (first | refine Zn ?_ _ | refine Zd ?_ | refine Za ?_ _)); exact BK609.out)) : gb612 ≠ gb609)); clear BK608; clear BK609; clear HB; have BK608 := n0_; have BK609 := n1_; have HB := n2_; have BK612 := n3_; have GW612 := n4_; have GE612 := n5_; have NB608_612 := n6_; have NB612_608 := n7_; have NB609_612 := n8_; have NB612_609 := n9_; clear n0_ n1_ n2_ n3_ n4_ n5_ n6_ n7_ n8_ n9_; clear hb hbox hg; have hnb36 := NB612_608.out; have hnc36 := NB608_612.out; have hnb37 := NB612_609.out; have hnc37 := NB609_612.out; have hcz38_0 : w35.cell? ⟨gb612, 0, none⟩ = some (.int .i64 0) := (Zc BK612.out 0).trans rfl; have hcz38_1 : w35.cell? ⟨gb612, 1, none⟩ = some (.int .i64 0) := (Zc BK612.out 1).trans rfl; have hcz38_2 : w35.cell? ⟨gb612, 2, none⟩ = some (.int .i64 0) := (Zc BK612.out 2).trans rfl; have hcz38_3 : w35.cell? ⟨gb612, 3, none⟩ = some (.int .i64 0) := (Zc BK612.out 3).trans rfl; have hfz38_0 := Zf BK612.out 0; have hfz38_1 := Zf BK612.out 1; have hfz38_2 := Zf BK612.out 2; have hfz38_3 := Zf BK612.out 3; have hnb39 := NB608_609.out; have hnc39 := NB609_608.out; have hcz40_0 : w35.cell? ⟨gb608, 0, none⟩ = some (.int .i64 x609000_2) := (Zc BK608.out 0).trans rfl; have hcz40_1 : w35.cell? ⟨gb608, 1, none⟩ = some (.int .i64 x609001_2) := (Zc BK608.out 1).trans rfl; have hcz40_2 : w35.cell? ⟨gb608, 2, none⟩ = some (.int .i64 x609002_2) := (Zc BK608.out 2).trans rfl; have hcz40_3 : w35.cell? ⟨gb608, 3, none⟩ = some (.int .i64 x609003_2) := (Zc BK608.out 3).trans rfl; have hcz40_4 : w35.cell? ⟨gb608, 4, none⟩ = some (.int .i64 x609004_2) := (Zc BK608.out 4).trans rfl; have hcz40_5 : w35.cell? ⟨gb608, 5, none⟩ = some (.int .i64 x609005_2) := (Zc BK608.out 5).trans rfl; have hcz40_6 : w35.cell? ⟨gb608, 6, none⟩ = some (.int .i64 x609006_2) := (Zc BK608.out 6).trans rfl; have hcz40_7 : w35.cell? ⟨gb608, 7, none⟩ = some (.int .i64 x609007_2) := (Zc BK608.out 7).trans rfl; have hcz40_8 : w35.cell? ⟨gb608, 8, none⟩ = some (.int .i64 x609008_2) := (Zc BK608.out 8).trans rfl; have hfz40_0 := Zf BK608.out 0; have hfz40_1 := Zf BK608.out 1; have hfz40_2 := Zf BK608.out 2; have hfz40_3 := Zf BK608.out 3; have hfz40_4 := Zf BK608.out 4; have hfz40_5 := Zf BK608.out 5; have hfz40_6 := Zf BK608.out 6; have hfz40_7 := Zf BK608.out 7; have hfz40_8 := Zf BK608.out 8) | ((with_reducible refine gate_callee (f := 62) rfl ?_); refine goesL_ (some 30) rfl rfl Try.func62 (by kernel_rfl) rfl #[.agg #[.int .i64 x609000_2, .int .i64 x609001_2, .int .i64 x609002_2, .int .i64 x609003_2, .int .i64 x609004_2, .int .i64 x609005_2, .int .i64 x609006_2, .int .i64 x609007_2, .int .i64 x609008_2], .agg #[.int .i64 ((rd_T58 l1 x22_2).f0), .int .i64 ((rd_T58 l1 x22_2).f1), .int .i64 ((rd_T58 l1 x22_2).f2.f0), .int .i64 ((rd_T58 l1 x22_2).f2.f1)]] rfl (by (try simp only [List.map_toArray, List.map_cons, List.map_nil]); first | done | rfl | (simp only [List.length_drop, List.length_take]; rfl)) ?_; (with_reducible refine (impl_Machine_cycle.calls k2 x609000_2 x609001_2 x609002_2 x609003_2 x609004_2 x609005_2 x609006_2 x609007_2 x609008_2 ((rd_T58 l1 x22_2).f0) ((rd_T58 l1 x22_2).f1) ((rd_T58 l1 x22_2).f2.f0) ((rd_T58 l1 x22_2).f2.f1) t613 t614 t615 t616 t617 t618 t619 t620 t621 false _ A20.out).mono ?_); rintro e w41 ⟨rfl, hb⟩; refine ⟨_, rfl, ?_⟩; have n0_ := Zm (blk_below (g := gb608) (o := .cells #[.int .i64 x609000_2, .int .i64 x609001_2, .int .i64 x609002_2, .int .i64 x609003_2, .int .i64 x609004_2, .int .i64 x609005_2, .int .i64 x609006_2, .int .i64 x609007_2, .int .i64 x609008_2] 27 (0, 0)) (by (with_reducible repeat (first | refine Zn ?_ _ | refine Zd ?_ | refine Za ?_ _)); refine blk_far ?_ NB608_612.out _; (with_reducible repeat (first | refine Zn ?_ _ | refine Zd ?_ | refine Za ?_ _)); refine blk_far ?_ NB608_612.out _; (with_reducible repeat (first | refine Zn ?_ _ | refine Zd ?_ | refine Za ?_ _)); refine blk_far ?_ NB608_612.out _; (with_reducible repeat (first | refine Zn ?_ _ | refine Zd ?_ | refine Za ?_ _)); refine blk_far ?_ NB608_612.out _; (with_reducible repeat (first | refine Zn ?_ _ | refine Zd ?_ | refine Za ?_ _)); exact BK608.out) hb); have n1_ := Zm (blk_below (g := gb609) (o := .cells #[.int .i64 x610000_2, .int .i64 x610001_2, .int .i64 x610002_2, .int .i64 x610003_2, .int .i64 x610004_2, .int .i64 x610005_2, .int .i64 x610006_2, .int .i64 x610007_2, .int .i64 x610008_2] 27 (0, 0)) (by (with_reducible repeat (first | refine Zn ?_ _ | refine Zd ?_ | refine Za ?_ _)); refine blk_far ?_ NB609_612.out _; (with_reducible repeat (first | refine Zn ?_ _ | refine Zd ?_ | refine Za ?_ _)); refine blk_far ?_ NB609_612.out _; (with_reducible repeat (first | refine Zn ?_ _ | refine Zd ?_ | refine Za ?_ _)); refine blk_far ?_ NB609_612.out _; (with_reducible repeat (first | refine Zn ?_ _ | refine Zd ?_ | refine Za ?_ _)); refine blk_far ?_ NB609_612.out _; (with_reducible repeat (first | refine Zn ?_ _ | refine Zd ?_ | refine Za ?_ _)); exact BK609.out) hb); have n2_ := Zm (blk_below (g := gb612) (o := .cells #[.int .i64 ((rd_T58 l1 x22_2).f0), .int .i64 ((rd_T58 l1 x22_2).f1), .int .i64 ((rd_T58 l1 x22_2).f2.f0), .int .i64 ((rd_T58 l1 x22_2).f2.f1)] 58 (0, 0)) (by (with_reducible repeat (first | refine Zn ?_ _ | refine Zd ?_ | refine Za ?_ _)); refine blk_put (cs := #[.int .i64 ((rd_T58 l1 x22_2).f0), .int .i64 ((rd_T58 l1 x22_2).f1), .int .i64 ((rd_T58 l1 x22_2).f2.f0), .int .i64 0]) ?_ 3 _ rfl; (with_reducible repeat (first | refine Zn ?_ _ | refine Zd ?_ | refine Za ?_ _)); refine blk_put (cs := #[.int .i64 ((rd_T58 l1 x22_2).f0), .int .i64 ((rd_T58 l1 x22_2).f1), .int .i64 0, .int .i64 0]) ?_ 2 _ rfl; (with_reducible repeat (first | refine Zn ?_ _ | refine Zd ?_ | refine Za ?_ _)); refine blk_put (cs := #[.int .i64 ((rd_T58 l1 x22_2).f0), .int .i64 0, .int .i64 0, .int .i64 0]) ?_ 1 _ rfl; (with_reducible repeat (first | refine Zn ?_ _ | refine Zd ?_ | refine Za ?_ _)); refine blk_put (cs := #[.int .i64 0, .int .i64 0, .int .i64 0, .int .i64 0]) ?_ 0 _ rfl; (with_reducible repeat (first | refine Zn ?_ _ | refine Zd ?_ | refine Za ?_ _)); exact BK612.out) hb); have n3_ := Zm (below_step (by repeat (first | (with_reducible first | exact HB.out | apply Zl | apply Zp | apply Ze | refine Zs ?_ GE608.out | refine Zs ?_ GE609.out | refine Zs ?_ GE612.out) | exact HB.out)) hb); clear BK608; clear BK609; clear BK612; clear HB; have BK608 := n0_; have BK609 := n1_; have BK612 := n2_; have HB := n3_; clear n0_ n1_ n2_ n3_; (try clear hb); (try clear hb2); (try clear hk); (try clear hi)) | ((with_reducible refine gate_dst (N := 9) rfl ?_); (try (refine gate_guard (by rfl) ?_; dsimp only)); refine box_event ?hg (N := 9) ?hd (cs := #[.int .i64 0, .int .i64 0, .int .i64 0, .int .i64 0, .int .i64 0, .int .i64 0, .int .i64 0, .int .i64 0, .int .i64 0]) (t := 27) ?hr ?_; (case hd => rfl); (case hg => rfl); (case hr => first | (go_simp; done) | (go_simp; rfl)); intro gb623 hg w42 hbox hb; have n0_ := Zm (blk_below (g := gb608) (o := .cells #[.int .i64 x609000_2, .int .i64 x609001_2, .int .i64 x609002_2, .int .i64 x609003_2, .int .i64 x609004_2, .int .i64 x609005_2, .int .i64 x609006_2, .int .i64 x609007_2, .int .i64 x609008_2] 27 (0, 0)) (by (with_reducible repeat (first | refine Zn ?_ _ | refine Zd ?_ | refine Za ?_ _)); exact BK608.out) hb); have n1_ := Zm (blk_below (g := gb609) (o := .cells #[.int .i64 x610000_2, .int .i64 x610001_2, .int .i64 x610002_2, .int .i64 x610003_2, .int .i64 x610004_2, .int .i64 x610005_2, .int .i64 x610006_2, .int .i64 x610007_2, .int .i64 x610008_2] 27 (0, 0)) (by (with_reducible repeat (first | refine Zn ?_ _ | refine Zd ?_ | refine Za ?_ _)); exact BK609.out) hb); have n2_ := Zm (blk_below (g := gb612) (o := .cells #[.int .i64 ((rd_T58 l1 x22_2).f0), .int .i64 ((rd_T58 l1 x22_2).f1), .int .i64 ((rd_T58 l1 x22_2).f2.f0), .int .i64 ((rd_T58 l1 x22_2).f2.f1)] 58 (0, 0)) (by (with_reducible repeat (first | refine Zn ?_ _ | refine Zd ?_ | refine Za ?_ _)); exact BK612.out) hb); have n3_ := Zm (below_step (by repeat (first | (with_reducible first | exact HB.out | apply Zl | apply Zp | apply Ze | refine Zs ?_ GE608.out | refine Zs ?_ GE609.out | refine Zs ?_ GE612.out) | exact HB.out)) hb); have n4_ := Zm (hbox); have n5_ := Zm ((by rw [hg]; exact (below_size (by repeat (first | (with_reducible first | exact HB.out | apply Zl | apply Zp | apply Ze | refine Zs ?_ GE608.out | refine Zs ?_ GE609.out | refine Zs ?_ GE612.out) | exact HB.out))) : w.heap.size ≤ gb623)); have n6_ := Zm ((by rw [hg]; exact (below_size (by repeat (first | (with_reducible first | exact HB.out | apply Zl | apply Zp | apply Ze | refine Zs ?_ GE608.out | refine Zs ?_ GE609.out | refine Zs ?_ GE612.out) | exact HB.out))) : w.heap.size ≤ gb623)); have n7_ := Zm ((by rw [hg]; exact Nat.ne_of_lt (blk_lt (g := gb608) (o := .cells #[.int .i64 x609000_2, .int .i64 x609001_2, .int .i64 x609002_2, .int .i64 x609003_2, .int .i64 x609004_2, .int .i64 x609005_2, .int .i64 x609006_2, .int .i64 x609007_2, .int .i64 x609008_2] 27 (0, 0)) (by (with_reducible repeat (first | refine Zn ?_ _ | refine Zd ?_ | refine Za ?_ _)); exact BK608.out)) : gb608 ≠ gb623)); have n8_ := Zm ((by rw [hg]; exact Nat.ne_of_gt (blk_lt (g := gb608) (o := .cells #[.int .i64 x609000_2, .int .i64 x609001_2, .int .i64 x609002_2, .int .i64 x609003_2, .int .i64 x609004_2, .int .i64 x609005_2, .int .i64 x609006_2, .int .i64 x609007_2, .int .i64 x609008_2] 27 (0, 0)) (by (with_reducible repeat (first | refine Zn ?_ _ | refine Zd ?_ | refine Za ?_ _)); exact BK608.out)) : gb623 ≠ gb608)); have n9_ := Zm ((by rw [hg]; exact Nat.ne_of_lt (blk_lt (g := gb609) (o := .cells #[.int .i64 x610000_2, .int .i64 x610001_2, .int .i64 x610002_2, .int .i64 x610003_2, .int .i64 x610004_2, .int .i64 x610005_2, .int .i64 x610006_2, .int .i64 x610007_2, .int .i64 x610008_2] 27 (0, 0)) (by (with_reducible repeat (first | refine Zn ?_ _ | refine Zd ?_ | refine Za ?_ _)); exact BK609.out)) : gb609 ≠ gb623)); have n10_ := Zm ((by rw [hg]; exact Nat.ne_of_gt (blk_lt (g := gb609) (o := .cells #[.int .i64 x610000_2, .int .i64 x610001_2, .int .i64 x610002_2, .int .i64 x610003_2, .int .i64 x610004_2, .int .i64 x610005_2, .int .i64 x610006_2, .int .i64 x610007_2, .int .i64 x610008_2] 27 (0, 0)) (by (with_reducible repeat (first | refine Zn ?_ _ | refine Zd ?_ | refine Za ?_ _)); exact BK609.out)) : gb623 ≠ gb609)); have n11_ := Zm ((by rw [hg]; exact Nat.ne_of_lt (blk_lt (g := gb612) (o := .cells #[.int .i64 ((rd_T58 l1 x22_2).f0), .int .i64 ((rd_T58 l1 x22_2).f1), .int .i64 ((rd_T58 l1 x22_2).f2.f0), .int .i64 ((rd_T58 l1 x22_2).f2.f1)] 58 (0, 0)) (by (with_reducible repeat (first | refine Zn ?_ _ | refine Zd ?_ | refine Za ?_ _)); exact BK612.out)) : gb612 ≠ gb623)); have n12_ := Zm ((by rw [hg]; exact Nat.ne_of_gt (blk_lt (g := gb612) (o := .cells #[.int .i64 ((rd_T58 l1 x22_2).f0), .int .i64 ((rd_T58 l1 x22_2).f1), .int .i64 ((rd_T58 l1 x22_2).f2.f0), .int .i64 ((rd_T58 l1 x22_2).f2.f1)] 58 (0, 0)) (by (with_reducible repeat (first | refine Zn ?_ _ | refine Zd ?_ | refine Za ?_ _)); exact BK612.out)) : gb623 ≠ gb612)); clear BK608; clear BK609; clear BK612; clear HB; have BK608 := n0_; have BK609 := n1_; have BK612 := n2_; have HB := n3_; have BK623 := n4_; have GW623 := n5_; have GE623 := n6_; have NB608_623 := n7_; have NB623_608 := n8_; have NB609_623 := n9_; have NB623_609 := n10_; have NB612_623 := n11_; have NB623_612 := n12_; clear n0_ n1_ n2_ n3_ n4_ n5_ n6_ n7_ n8_ n9_ n10_ n11_ n12_; clear hb hbox hg; have hnb43 := NB623_608.out; have hnc43 := NB608_623.out; have hnb44 := NB623_609.out; have hnc44 := NB609_623.out; have hnb45 := NB623_612.out; have hnc45 := NB612_623.out; have hcz46_0 : w42.cell? ⟨gb623, 0, none⟩ = some (.int .i64 0) := (Zc BK623.out 0).trans rfl; have hcz46_1 : w42.cell? ⟨gb623, 1, none⟩ = some (.int .i64 0) := (Zc BK623.out 1).trans rfl; have hcz46_2 : w42.cell? ⟨gb623, 2, none⟩ = some (.int .i64 0) := (Zc BK623.out 2).trans rfl; have hcz46_3 : w42.cell? ⟨gb623, 3, none⟩ = some (.int .i64 0) := (Zc BK623.out 3).trans rfl; have hcz46_4 : w42.cell? ⟨gb623, 4, none⟩ = some (.int .i64 0) := (Zc BK623.out 4).trans rfl; have hcz46_5 : w42.cell? ⟨gb623, 5, none⟩ = some (.int .i64 0) := (Zc BK623.out 5).trans rfl; have hcz46_6 : w42.cell? ⟨gb623, 6, none⟩ = some (.int .i64 0) := (Zc BK623.out 6).trans rfl; have hcz46_7 : w42.cell? ⟨gb623, 7, none⟩ = some (.int .i64 0) := (Zc BK623.out 7).trans rfl; have hcz46_8 : w42.cell? ⟨gb623, 8, none⟩ = some (.int .i64 0) := (Zc BK623.out 8).trans rfl; have hfz46_0 := Zf BK623.out 0; have hfz46_1 := Zf BK623.out 1; have hfz46_2 := Zf BK623.out 2; have hfz46_3 := Zf BK623.out 3; have hfz46_4 := Zf BK623.out 4; have hfz46_5 := Zf BK623.out 5; have hfz46_6 := Zf BK623.out 6; have hfz46_7 := Zf BK623.out 7; have hfz46_8 := Zf BK623.out 8; have hcz47_0 : w42.cell? ⟨gb608, 0, none⟩ = some (.int .i64 x609000_2) := (Zc BK608.out 0).trans rfl; have hcz47_1 : w42.cell? ⟨gb608, 1, none⟩ = some (.int .i64 x609001_2) := (Zc BK608.out 1).trans rfl; have hcz47_2 : w42.cell? ⟨gb608, 2, none⟩ = some (.int .i64 x609002_2) := (Zc BK608.out 2).trans rfl; have hcz47_3 : w42.cell? ⟨gb608, 3, none⟩ = some (.int .i64 x609003_2) := (Zc BK608.out 3).trans rfl; have hcz47_4 : w42.cell? ⟨gb608, 4, none⟩ = some (.int .i64 x609004_2) := (Zc BK608.out 4).trans rfl; have hcz47_5 : w42.cell? ⟨gb608, 5, none⟩ = some (.int .i64 x609005_2) := (Zc BK608.out 5).trans rfl; have hcz47_6 : w42.cell? ⟨gb608, 6, none⟩ = some (.int .i64 x609006_2) := (Zc BK608.out 6).trans rfl; have hcz47_7 : w42.cell? ⟨gb608, 7, none⟩ = some (.int .i64 x609007_2) := (Zc BK608.out 7).trans rfl; have hcz47_8 : w42.cell? ⟨gb608, 8, none⟩ = some (.int .i64 x609008_2) := (Zc BK608.out 8).trans rfl; have hfz47_0 := Zf BK608.out 0; have hfz47_1 := Zf BK608.out 1; have hfz47_2 := Zf BK608.out 2; have hfz47_3 := Zf BK608.out 3; have hfz47_4 := Zf BK608.out 4; have hfz47_5 := Zf BK608.out 5; have hfz47_6 := Zf BK608.out 6; have hfz47_7 := Zf BK608.out 7; have hfz47_8 := Zf BK608.out 8; have hcz48_0 : w42.cell? ⟨gb609, 0, none⟩ = some (.int .i64 x610000_2) := (Zc BK609.out 0).trans rfl; have hcz48_1 : w42.cell? ⟨gb609, 1, none⟩ = some (.int .i64 x610001_2) := (Zc BK609.out 1).trans rfl; have hcz48_2 : w42.cell? ⟨gb609, 2, none⟩ = some (.int .i64 x610002_2) := (Zc BK609.out 2).trans rfl; have hcz48_3 : w42.cell? ⟨gb609, 3, none⟩ = some (.int .i64 x610003_2) := (Zc BK609.out 3).trans rfl; have hcz48_4 : w42.cell? ⟨gb609, 4, none⟩ = some (.int .i64 x610004_2) := (Zc BK609.out 4).trans rfl; have hcz48_5 : w42.cell? ⟨gb609, 5, none⟩ = some (.int .i64 x610005_2) := (Zc BK609.out 5).trans rfl; have hcz48_6 : w42.cell? ⟨gb609, 6, none⟩ = some (.int .i64 x610006_2) := (Zc BK609.out 6).trans rfl; have hcz48_7 : w42.cell? ⟨gb609, 7, none⟩ = some (.int .i64 x610007_2) := (Zc BK609.out 7).trans rfl; have hcz48_8 : w42.cell? ⟨gb609, 8, none⟩ = some (.int .i64 x610008_2) := (Zc BK609.out 8).trans rfl; have hfz48_0 := Zf BK609.out 0; have hfz48_1 := Zf BK609.out 1; have hfz48_2 := Zf BK609.out 2; have hfz48_3 := Zf BK609.out 3; have hfz48_4 := Zf BK609.out 4; have hfz48_5 := Zf BK609.out 5; have hfz48_6 := Zf BK609.out 6; have hfz48_7 := Zf BK609.out 7; have hfz48_8 := Zf BK609.out 8))
          refine bodyPost_ret (results_ctt rfl _ _ gb609 27 #[.int .i64 x609000_2, .int .i64 x609001_2, .int .i64 x609002_2, .int .i64 x609003_2, .int .i64 x609004_2, .int .i64 x609005_2, .int .i64 x609006_2, .int .i64 x609007_2, .int .i64 x609008_2] (0, 0) _ rfl (by (with_reducible repeat (first | refine Zn ?_ _ | refine Zd ?_ | refine Za ?_ _)); refine blk_put (cs := #[.int .i64 x609000_2, .int .i64 x609001_2, .int .i64 x609002_2, .int .i64 x609003_2, .int .i64 x609004_2, .int .i64 x609005_2, .int .i64 x609006_2, .int .i64 x609007_2, .int .i64 x610008_2]) ?_ 8 _ rfl; (with_reducible repeat (first | refine Zn ?_ _ | refine Zd ?_ | refine Za ?_ _)); refine blk_put (cs := #[.int .i64 x609000_2, .int .i64 x609001_2, .int .i64 x609002_2, .int .i64 x609003_2, .int .i64 x609004_2, .int .i64 x609005_2, .int .i64 x609006_2, .int .i64 x610007_2, .int .i64 x610008_2]) ?_ 7 _ rfl; (with_reducible repeat (first | refine Zn ?_ _ | refine Zd ?_ | refine Za ?_ _)); refine blk_put (cs := #[.int .i64 x609000_2, .int .i64 x609001_2, .int .i64 x609002_2, .int .i64 x609003_2, .int .i64 x609004_2, .int .i64 x609005_2, .int .i64 x610006_2, .int .i64 x610007_2, .int .i64 x610008_2]) ?_ 6 _ rfl; (with_reducible repeat (first | refine Zn ?_ _ | refine Zd ?_ | refine Za ?_ _)); refine blk_put (cs := #[.int .i64 x609000_2, .int .i64 x609001_2, .int .i64 x609002_2, .int .i64 x609003_2, .int .i64 x609004_2, .int .i64 x610005_2, .int .i64 x610006_2, .int .i64 x610007_2, .int .i64 x610008_2]) ?_ 5 _ rfl; (with_reducible repeat (first | refine Zn ?_ _ | refine Zd ?_ | refine Za ?_ _)); refine blk_put (cs := #[.int .i64 x609000_2, .int .i64 x609001_2, .int .i64 x609002_2, .int .i64 x609003_2, .int .i64 x610004_2, .int .i64 x610005_2, .int .i64 x610006_2, .int .i64 x610007_2, .int .i64 x610008_2]) ?_ 4 _ rfl; (with_reducible repeat (first | refine Zn ?_ _ | refine Zd ?_ | refine Za ?_ _)); refine blk_put (cs := #[.int .i64 x609000_2, .int .i64 x609001_2, .int .i64 x609002_2, .int .i64 x610003_2, .int .i64 x610004_2, .int .i64 x610005_2, .int .i64 x610006_2, .int .i64 x610007_2, .int .i64 x610008_2]) ?_ 3 _ rfl; (with_reducible repeat (first | refine Zn ?_ _ | refine Zd ?_ | refine Za ?_ _)); refine blk_put (cs := #[.int .i64 x609000_2, .int .i64 x609001_2, .int .i64 x610002_2, .int .i64 x610003_2, .int .i64 x610004_2, .int .i64 x610005_2, .int .i64 x610006_2, .int .i64 x610007_2, .int .i64 x610008_2]) ?_ 2 _ rfl; (with_reducible repeat (first | refine Zn ?_ _ | refine Zd ?_ | refine Za ?_ _)); refine blk_put (cs := #[.int .i64 x609000_2, .int .i64 x610001_2, .int .i64 x610002_2, .int .i64 x610003_2, .int .i64 x610004_2, .int .i64 x610005_2, .int .i64 x610006_2, .int .i64 x610007_2, .int .i64 x610008_2]) ?_ 1 _ rfl; (with_reducible repeat (first | refine Zn ?_ _ | refine Zd ?_ | refine Za ?_ _)); refine blk_put (cs := #[.int .i64 x610000_2, .int .i64 x610001_2, .int .i64 x610002_2, .int .i64 x610003_2, .int .i64 x610004_2, .int .i64 x610005_2, .int .i64 x610006_2, .int .i64 x610007_2, .int .i64 x610008_2]) ?_ 0 _ rfl; (with_reducible repeat (first | refine Zn ?_ _ | refine Zd ?_ | refine Za ?_ _)); refine blk_far ?_ NB609_623.out _; (with_reducible repeat (first | refine Zn ?_ _ | refine Zd ?_ | refine Za ?_ _)); refine blk_far ?_ NB609_623.out _; (with_reducible repeat (first | refine Zn ?_ _ | refine Zd ?_ | refine Za ?_ _)); refine blk_far ?_ NB609_623.out _; (with_reducible repeat (first | refine Zn ?_ _ | refine Zd ?_ | refine Za ?_ _)); refine blk_far ?_ NB609_623.out _; (with_reducible repeat (first | refine Zn ?_ _ | refine Zd ?_ | refine Za ?_ _)); refine blk_far ?_ NB609_623.out _; (with_reducible repeat (first | refine Zn ?_ _ | refine Zd ?_ | refine Za ?_ _)); refine blk_far ?_ NB609_623.out _; (with_reducible repeat (first | refine Zn ?_ _ | refine Zd ?_ | refine Za ?_ _)); refine blk_far ?_ NB609_623.out _; (with_reducible repeat (first | refine Zn ?_ _ | refine Zd ?_ | refine Za ?_ _)); refine blk_far ?_ NB609_623.out _; (with_reducible repeat (first | refine Zn ?_ _ | refine Zd ?_ | refine Za ?_ _)); refine blk_far ?_ NB609_623.out _; (with_reducible repeat (first | refine Zn ?_ _ | refine Zd ?_ | refine Za ?_ _)); exact BK609.out) Try.underlying27 rfl (by kernel_rfl)) rfl ?_
          exact ⟨by first | rfl | (simp [errW_none, errW_some] <;> rfl) | (simp [*, errW_none, errW_some] <;> rfl), by repeat (first | (with_reducible first | exact HB.out | apply Zl | apply Zp | apply Ze | refine Zs ?_ GE608.out | refine Zs ?_ GE609.out | refine Zs ?_ GE612.out | refine Zs ?_ GE623.out) | exact HB.out)⟩
        ·rw [if_neg c19] at H
         exact absurd H (by simp)
       ·rw [if_neg c18] at H
        exact absurd H (by simp)
      ·rw [if_neg c17] at H
       have c17b0 : decide (x22_2 < (l1.length : Int)) = false := decide_eq_false c17
       clear c17
       simp only [Option.some.injEq, Prod.mk.injEq] at H
       obtain ⟨rfl, rfl, rfl, rfl, rfl, rfl, rfl, rfl, rfl, rfl, rfl⟩ := H
       have hnb49 := NB608_609.out
       have hnc49 := NB609_608.out
       have hcz50_0 : wr.cell? ⟨gb608, 0, none⟩ = some (.int .i64 x609000_2) := (Zc BK608.out 0).trans rfl
       have hcz50_1 : wr.cell? ⟨gb608, 1, none⟩ = some (.int .i64 x609001_2) := (Zc BK608.out 1).trans rfl
       have hcz50_2 : wr.cell? ⟨gb608, 2, none⟩ = some (.int .i64 x609002_2) := (Zc BK608.out 2).trans rfl
       have hcz50_3 : wr.cell? ⟨gb608, 3, none⟩ = some (.int .i64 x609003_2) := (Zc BK608.out 3).trans rfl
       have hcz50_4 : wr.cell? ⟨gb608, 4, none⟩ = some (.int .i64 x609004_2) := (Zc BK608.out 4).trans rfl
       have hcz50_5 : wr.cell? ⟨gb608, 5, none⟩ = some (.int .i64 x609005_2) := (Zc BK608.out 5).trans rfl
       have hcz50_6 : wr.cell? ⟨gb608, 6, none⟩ = some (.int .i64 x609006_2) := (Zc BK608.out 6).trans rfl
       have hcz50_7 : wr.cell? ⟨gb608, 7, none⟩ = some (.int .i64 x609007_2) := (Zc BK608.out 7).trans rfl
       have hcz50_8 : wr.cell? ⟨gb608, 8, none⟩ = some (.int .i64 x609008_2) := (Zc BK608.out 8).trans rfl
       have hfz50_0 := Zf BK608.out 0
       have hfz50_1 := Zf BK608.out 1
       have hfz50_2 := Zf BK608.out 2
       have hfz50_3 := Zf BK608.out 3
       have hfz50_4 := Zf BK608.out 4
       have hfz50_5 := Zf BK608.out 5
       have hfz50_6 := Zf BK608.out 6
       have hfz50_7 := Zf BK608.out 7
       have hfz50_8 := Zf BK608.out 8
       have hcz51_0 : wr.cell? ⟨gb609, 0, none⟩ = some (.int .i64 x610000_2) := (Zc BK609.out 0).trans rfl
       have hcz51_1 : wr.cell? ⟨gb609, 1, none⟩ = some (.int .i64 x610001_2) := (Zc BK609.out 1).trans rfl
       have hcz51_2 : wr.cell? ⟨gb609, 2, none⟩ = some (.int .i64 x610002_2) := (Zc BK609.out 2).trans rfl
       have hcz51_3 : wr.cell? ⟨gb609, 3, none⟩ = some (.int .i64 x610003_2) := (Zc BK609.out 3).trans rfl
       have hcz51_4 : wr.cell? ⟨gb609, 4, none⟩ = some (.int .i64 x610004_2) := (Zc BK609.out 4).trans rfl
       have hcz51_5 : wr.cell? ⟨gb609, 5, none⟩ = some (.int .i64 x610005_2) := (Zc BK609.out 5).trans rfl
       have hcz51_6 : wr.cell? ⟨gb609, 6, none⟩ = some (.int .i64 x610006_2) := (Zc BK609.out 6).trans rfl
       have hcz51_7 : wr.cell? ⟨gb609, 7, none⟩ = some (.int .i64 x610007_2) := (Zc BK609.out 7).trans rfl
       have hcz51_8 : wr.cell? ⟨gb609, 8, none⟩ = some (.int .i64 x610008_2) := (Zc BK609.out 8).trans rfl
       have hfz51_0 := Zf BK609.out 0
       have hfz51_1 := Zf BK609.out 1
       have hfz51_2 := Zf BK609.out 2
       have hfz51_3 := Zf BK609.out 3
       have hfz51_4 := Zf BK609.out 4
       have hfz51_5 := Zf BK609.out 5
       have hfz51_6 := Zf BK609.out 6
       have hfz51_7 := Zf BK609.out 7
       have hfz51_8 := Zf BK609.out 8
       go_wp2
       refine bodyPost_ret (results_ctt rfl _ _ gb609 27 #[.int .i64 x609000_2, .int .i64 x609001_2, .int .i64 x609002_2, .int .i64 x609003_2, .int .i64 x609004_2, .int .i64 x609005_2, .int .i64 x609006_2, .int .i64 x609007_2, .int .i64 x609008_2] (0, 0) _ rfl (by (with_reducible repeat (first | refine Zn ?_ _ | refine Zd ?_ | refine Za ?_ _)); refine blk_put (cs := #[.int .i64 x609000_2, .int .i64 x609001_2, .int .i64 x609002_2, .int .i64 x609003_2, .int .i64 x609004_2, .int .i64 x609005_2, .int .i64 x609006_2, .int .i64 x609007_2, .int .i64 x610008_2]) ?_ 8 _ rfl; (with_reducible repeat (first | refine Zn ?_ _ | refine Zd ?_ | refine Za ?_ _)); refine blk_put (cs := #[.int .i64 x609000_2, .int .i64 x609001_2, .int .i64 x609002_2, .int .i64 x609003_2, .int .i64 x609004_2, .int .i64 x609005_2, .int .i64 x609006_2, .int .i64 x610007_2, .int .i64 x610008_2]) ?_ 7 _ rfl; (with_reducible repeat (first | refine Zn ?_ _ | refine Zd ?_ | refine Za ?_ _)); refine blk_put (cs := #[.int .i64 x609000_2, .int .i64 x609001_2, .int .i64 x609002_2, .int .i64 x609003_2, .int .i64 x609004_2, .int .i64 x609005_2, .int .i64 x610006_2, .int .i64 x610007_2, .int .i64 x610008_2]) ?_ 6 _ rfl; (with_reducible repeat (first | refine Zn ?_ _ | refine Zd ?_ | refine Za ?_ _)); refine blk_put (cs := #[.int .i64 x609000_2, .int .i64 x609001_2, .int .i64 x609002_2, .int .i64 x609003_2, .int .i64 x609004_2, .int .i64 x610005_2, .int .i64 x610006_2, .int .i64 x610007_2, .int .i64 x610008_2]) ?_ 5 _ rfl; (with_reducible repeat (first | refine Zn ?_ _ | refine Zd ?_ | refine Za ?_ _)); refine blk_put (cs := #[.int .i64 x609000_2, .int .i64 x609001_2, .int .i64 x609002_2, .int .i64 x609003_2, .int .i64 x610004_2, .int .i64 x610005_2, .int .i64 x610006_2, .int .i64 x610007_2, .int .i64 x610008_2]) ?_ 4 _ rfl; (with_reducible repeat (first | refine Zn ?_ _ | refine Zd ?_ | refine Za ?_ _)); refine blk_put (cs := #[.int .i64 x609000_2, .int .i64 x609001_2, .int .i64 x609002_2, .int .i64 x610003_2, .int .i64 x610004_2, .int .i64 x610005_2, .int .i64 x610006_2, .int .i64 x610007_2, .int .i64 x610008_2]) ?_ 3 _ rfl; (with_reducible repeat (first | refine Zn ?_ _ | refine Zd ?_ | refine Za ?_ _)); refine blk_put (cs := #[.int .i64 x609000_2, .int .i64 x609001_2, .int .i64 x610002_2, .int .i64 x610003_2, .int .i64 x610004_2, .int .i64 x610005_2, .int .i64 x610006_2, .int .i64 x610007_2, .int .i64 x610008_2]) ?_ 2 _ rfl; (with_reducible repeat (first | refine Zn ?_ _ | refine Zd ?_ | refine Za ?_ _)); refine blk_put (cs := #[.int .i64 x609000_2, .int .i64 x610001_2, .int .i64 x610002_2, .int .i64 x610003_2, .int .i64 x610004_2, .int .i64 x610005_2, .int .i64 x610006_2, .int .i64 x610007_2, .int .i64 x610008_2]) ?_ 1 _ rfl; (with_reducible repeat (first | refine Zn ?_ _ | refine Zd ?_ | refine Za ?_ _)); refine blk_put (cs := #[.int .i64 x610000_2, .int .i64 x610001_2, .int .i64 x610002_2, .int .i64 x610003_2, .int .i64 x610004_2, .int .i64 x610005_2, .int .i64 x610006_2, .int .i64 x610007_2, .int .i64 x610008_2]) ?_ 0 _ rfl; (with_reducible repeat (first | refine Zn ?_ _ | refine Zd ?_ | refine Za ?_ _)); exact BK609.out) Try.underlying27 rfl (by kernel_rfl)) rfl ?_
       exact ⟨by first | rfl | (simp [errW_none, errW_some] <;> rfl) | (simp [*, errW_none, errW_some] <;> rfl), by repeat (first | (with_reducible first | exact HB.out | apply Zl | apply Zp | apply Ze | refine Zs ?_ GE608.out | refine Zs ?_ GE609.out) | exact HB.out)⟩

/-! ### laws_szCycleS: function 32 -/
def laws_szCycleS.f (l0 : List (S101)) (a1 : Int) : Option (Int) := if (wrap64 (a1 - (l0.length : Int))) < 0 then (some (-1)) else (some (wrap64 (a1 - (l0.length : Int))))
set_option maxHeartbeats 8000000 in
set_option maxRecDepth 100000 in
theorem laws_szCycleS.calls (A0 : Option Addr) (c0 : Nat) (l0 : List (S101)) (a1 : Int) (r : Int) (w : World) (hr0 : Kd.C k101 w A0 l0.length l0) (hc0 : l0.length ≤ c0) (h : laws_szCycleS.f l0 a1 = some r) :
  Calls Try.prog 32 #[.slice A0 l0.length c0, .int .i64 a1] w fun e w' => e = .returned (.int .i64 r) ∧ Drawn0 w w' := by
 have HR0 := Zm hr0
 have HC0 := Zm hc0
 clear hr0 hc0
 have H : (if (wrap64 (a1 - (l0.length : Int))) < 0 then (some (-1)) else (some (wrap64 (a1 - (l0.length : Int))))) = some r := h
 clear h
 by_cases c3 : (wrap64 (a1 - (l0.length : Int))) < 0
 ·rw [if_pos c3] at H
  have c3b0 : decide ((wrap64 (a1 - (l0.length : Int))) < 0) = true := decide_eq_true c3
  clear c3
  obtain rfl := Option.some.inj H
  go_enter Try.func32, Try.ntmps32
  go_wp2
  go_ret
  exact ⟨by first | rfl | (simp; done) | (simp [*]; done), by repeat (first | exact Drawn0.refl _ | apply Drawn0.step)⟩
 ·rw [if_neg c3] at H
  have c3b0 : decide ((wrap64 (a1 - (l0.length : Int))) < 0) = false := decide_eq_false c3
  clear c3
  obtain rfl := Option.some.inj H
  go_enter Try.func32, Try.ntmps32
  go_wp2
  go_ret
  exact ⟨by first | rfl | (simp; done) | (simp [*]; done), by repeat (first | exact Drawn0.refl _ | apply Drawn0.step)⟩

end Go.Proofs.Ytncdmooobfomeaa.G
