-- laid by wip/tools/regroup.py: printed functions, grouped by the laws that need them. Lean checks it.
import Derived.Test.YtncdmooobfomeaaGx0
namespace Go.Proofs.Ytncdmooobfomeaa.G
open Go.RowKit Go.Proofs.YtncdmooobfomeaaW.PrintWords Go.Proofs.YtncdmooobfomeaaW.PrintLast Go.Proofs.YtncdmooobfomeaaW.PrintMore
attribute [local go_sem] max2_int min2_int max_two min_two max_three min_three max_four min_four   -- for this text's walks alone
set_option linter.unusedVariables false
set_option linter.unusedSimpArgs false

/-! ### laws_eqRing: function 82 -/
def laws_eqRing.f (a0_0 : Int) (a0_1 : Int) (a1_0 : Int) (a1_1 : Int) : Option (Bool) := if a0_0 = a1_0 then (if a0_1 = a1_1 then (some true) else (some false)) else (some false)
set_option maxHeartbeats 8000000 in
set_option maxRecDepth 100000 in
theorem laws_eqRing.calls (a0_0 : Int) (a0_1 : Int) (a1_0 : Int) (a1_1 : Int) (r : Bool) (w : World) (h : laws_eqRing.f a0_0 a0_1 a1_0 a1_1 = some r) :
  Calls Try.prog 82 #[.agg #[.int .i64 a0_0, .int .i64 a0_1], .agg #[.int .i64 a1_0, .int .i64 a1_1]] w fun e w' => e = .returned (.bool r) ∧ Below w.heap.size w w' := by
 have hu47 := Try.underlying47
 have HB := Zm (Below.refl w.heap.size w)
 have H : (if a0_0 = a1_0 then (if a0_1 = a1_1 then (some true) else (some false)) else (some false)) = some r := h
 clear h
 by_cases c3 : a0_0 = a1_0
 ·rw [if_pos c3] at H
  have c3b0 : (a0_0 == a1_0) = true := beq_iff_eq.mpr c3
  have c3b1 : (a0_0 != a1_0) = false := bne_eq_false_iff_eq.mpr c3
  clear c3
  by_cases c4 : a0_1 = a1_1
  ·rw [if_pos c4] at H
   have c4b0 : (a0_1 == a1_1) = true := beq_iff_eq.mpr c4
   have c4b1 : (a0_1 != a1_1) = false := bne_eq_false_iff_eq.mpr c4
   clear c4
   obtain rfl := Option.some.inj H
   go_enter Try.func82, Try.ntmps82
   go_wp2_with (first | ((with_reducible refine gate_dst (N := 2) rfl ?_); refine box_event ?hg (N := 2) ?hd (cs := #[.int .i64 a0_0, .int .i64 a0_1]) (t := 47) ?hr ?_; (case hd => rfl); (case hg => rfl); (case hr => first | (go_simp; done) | (go_simp; rfl)); intro gb724 hg w5 hbox hb; have n0_ := Zm (below_step (by repeat (first | (with_reducible first | exact HB.out | apply Zl | apply Zp | apply Ze) | exact HB.out)) hb); have n1_ := Zm (hbox); have n2_ := Zm ((by rw [hg]; exact (below_size (by repeat (first | (with_reducible first | exact HB.out | apply Zl | apply Zp | apply Ze) | exact HB.out))) : w.heap.size ≤ gb724)); have n3_ := Zm ((by rw [hg]; exact (below_size (by repeat (first | (with_reducible first | exact HB.out | apply Zl | apply Zp | apply Ze) | exact HB.out))) : w.heap.size ≤ gb724)); clear HB; have HB := n0_; have BK724 := n1_; have GW724 := n2_; have GE724 := n3_; clear n0_ n1_ n2_ n3_; clear hb hbox hg) | ((with_reducible refine gate_dst (N := 3) rfl ?_); refine box_event ?hg (N := 3) ?hd (cs := #[.int .i64 a1_0, .int .i64 a1_1]) (t := 47) ?hr ?_; (case hd => rfl); (case hg => rfl); (case hr => first | (go_simp; done) | (go_simp; rfl)); intro gb725 hg w6 hbox hb; have n0_ := Zm (blk_below (g := gb724) (o := .cells #[.int .i64 a0_0, .int .i64 a0_1] 47 (0, 0)) (by (with_reducible repeat (first | refine Zn ?_ _ | refine Zd ?_ | refine Za ?_ _)); exact BK724.out) hb); have n1_ := Zm (below_step (by repeat (first | (with_reducible first | exact HB.out | apply Zl | apply Zp | apply Ze | refine Zs ?_ GE724.out) | exact HB.out)) hb); have n2_ := Zm (hbox); have n3_ := Zm ((by rw [hg]; exact (below_size (by repeat (first | (with_reducible first | exact HB.out | apply Zl | apply Zp | apply Ze | refine Zs ?_ GE724.out) | exact HB.out))) : w.heap.size ≤ gb725)); have n4_ := Zm ((by rw [hg]; exact (below_size (by repeat (first | (with_reducible first | exact HB.out | apply Zl | apply Zp | apply Ze | refine Zs ?_ GE724.out) | exact HB.out))) : w.heap.size ≤ gb725)); have n5_ := Zm ((by rw [hg]; exact Nat.ne_of_lt (blk_lt (g := gb724) (o := .cells #[.int .i64 a0_0, .int .i64 a0_1] 47 (0, 0)) (by (with_reducible repeat (first | refine Zn ?_ _ | refine Zd ?_ | refine Za ?_ _)); exact BK724.out)) : gb724 ≠ gb725)); have n6_ := Zm ((by rw [hg]; exact Nat.ne_of_gt (blk_lt (g := gb724) (o := .cells #[.int .i64 a0_0, .int .i64 a0_1] 47 (0, 0)) (by (with_reducible repeat (first | refine Zn ?_ _ | refine Zd ?_ | refine Za ?_ _)); exact BK724.out)) : gb725 ≠ gb724)); clear BK724; clear HB; have BK724 := n0_; have HB := n1_; have BK725 := n2_; have GW725 := n3_; have GE725 := n4_; have NB724_725 := n5_; have NB725_724 := n6_; clear n0_ n1_ n2_ n3_ n4_ n5_ n6_; clear hb hbox hg; have hnb7 := NB724_725.out; have hnc7 := NB725_724.out; have hcz8_0 : w6.cell? ⟨gb724, 0, none⟩ = some (.int .i64 a0_0) := (Zc BK724.out 0).trans rfl; have hcz8_1 : w6.cell? ⟨gb724, 1, none⟩ = some (.int .i64 a0_1) := (Zc BK724.out 1).trans rfl; have hfz8_0 := Zf BK724.out 0; have hfz8_1 := Zf BK724.out 1; have hcz9_0 : w6.cell? ⟨gb725, 0, none⟩ = some (.int .i64 a1_0) := (Zc BK725.out 0).trans rfl; have hcz9_1 : w6.cell? ⟨gb725, 1, none⟩ = some (.int .i64 a1_1) := (Zc BK725.out 1).trans rfl; have hfz9_0 := Zf BK725.out 0; have hfz9_1 := Zf BK725.out 1))
   go_ret
   exact ⟨by first | rfl | (simp [errW_none, errW_some] <;> rfl) | (simp [*, errW_none, errW_some] <;> rfl), by repeat (first | (with_reducible first | exact HB.out | apply Zl | apply Zp | apply Ze | refine Zs ?_ GE724.out | refine Zs ?_ GE725.out) | exact HB.out)⟩
  ·rw [if_neg c4] at H
   have c4b0 : (a0_1 == a1_1) = false := beq_eq_false_iff_ne.mpr c4
   have c4b1 : (a0_1 != a1_1) = true := bne_iff_ne.mpr c4
   obtain rfl := Option.some.inj H
   go_enter Try.func82, Try.ntmps82
   go_wp2_with (first | ((with_reducible refine gate_dst (N := 2) rfl ?_); refine box_event ?hg (N := 2) ?hd (cs := #[.int .i64 a0_0, .int .i64 a0_1]) (t := 47) ?hr ?_; (case hd => rfl); (case hg => rfl); (case hr => first | (go_simp; done) | (go_simp; rfl)); intro gb724 hg w10 hbox hb; have n0_ := Zm (below_step (by repeat (first | (with_reducible first | exact HB.out | apply Zl | apply Zp | apply Ze) | exact HB.out)) hb); have n1_ := Zm (hbox); have n2_ := Zm ((by rw [hg]; exact (below_size (by repeat (first | (with_reducible first | exact HB.out | apply Zl | apply Zp | apply Ze) | exact HB.out))) : w.heap.size ≤ gb724)); have n3_ := Zm ((by rw [hg]; exact (below_size (by repeat (first | (with_reducible first | exact HB.out | apply Zl | apply Zp | apply Ze) | exact HB.out))) : w.heap.size ≤ gb724)); clear HB; have HB := n0_; have BK724 := n1_; have GW724 := n2_; have GE724 := n3_; clear n0_ n1_ n2_ n3_; clear hb hbox hg) | ((with_reducible refine gate_dst (N := 3) rfl ?_); refine box_event ?hg (N := 3) ?hd (cs := #[.int .i64 a1_0, .int .i64 a1_1]) (t := 47) ?hr ?_; (case hd => rfl); (case hg => rfl); (case hr => first | (go_simp; done) | (go_simp; rfl)); intro gb725 hg w11 hbox hb; have n0_ := Zm (blk_below (g := gb724) (o := .cells #[.int .i64 a0_0, .int .i64 a0_1] 47 (0, 0)) (by (with_reducible repeat (first | refine Zn ?_ _ | refine Zd ?_ | refine Za ?_ _)); exact BK724.out) hb); have n1_ := Zm (below_step (by repeat (first | (with_reducible first | exact HB.out | apply Zl | apply Zp | apply Ze | refine Zs ?_ GE724.out) | exact HB.out)) hb); have n2_ := Zm (hbox); have n3_ := Zm ((by rw [hg]; exact (below_size (by repeat (first | (with_reducible first | exact HB.out | apply Zl | apply Zp | apply Ze | refine Zs ?_ GE724.out) | exact HB.out))) : w.heap.size ≤ gb725)); have n4_ := Zm ((by rw [hg]; exact (below_size (by repeat (first | (with_reducible first | exact HB.out | apply Zl | apply Zp | apply Ze | refine Zs ?_ GE724.out) | exact HB.out))) : w.heap.size ≤ gb725)); have n5_ := Zm ((by rw [hg]; exact Nat.ne_of_lt (blk_lt (g := gb724) (o := .cells #[.int .i64 a0_0, .int .i64 a0_1] 47 (0, 0)) (by (with_reducible repeat (first | refine Zn ?_ _ | refine Zd ?_ | refine Za ?_ _)); exact BK724.out)) : gb724 ≠ gb725)); have n6_ := Zm ((by rw [hg]; exact Nat.ne_of_gt (blk_lt (g := gb724) (o := .cells #[.int .i64 a0_0, .int .i64 a0_1] 47 (0, 0)) (by (with_reducible repeat (first | refine Zn ?_ _ | refine Zd ?_ | refine Za ?_ _)); exact BK724.out)) : gb725 ≠ gb724)); clear BK724; clear HB; have BK724 := n0_; have HB := n1_; have BK725 := n2_; have GW725 := n3_; have GE725 := n4_; have NB724_725 := n5_; have NB725_724 := n6_; clear n0_ n1_ n2_ n3_ n4_ n5_ n6_; clear hb hbox hg; have hnb12 := NB724_725.out; have hnc12 := NB725_724.out; have hcz13_0 : w11.cell? ⟨gb724, 0, none⟩ = some (.int .i64 a0_0) := (Zc BK724.out 0).trans rfl; have hcz13_1 : w11.cell? ⟨gb724, 1, none⟩ = some (.int .i64 a0_1) := (Zc BK724.out 1).trans rfl; have hfz13_0 := Zf BK724.out 0; have hfz13_1 := Zf BK724.out 1; have hcz14_0 : w11.cell? ⟨gb725, 0, none⟩ = some (.int .i64 a1_0) := (Zc BK725.out 0).trans rfl; have hcz14_1 : w11.cell? ⟨gb725, 1, none⟩ = some (.int .i64 a1_1) := (Zc BK725.out 1).trans rfl; have hfz14_0 := Zf BK725.out 0; have hfz14_1 := Zf BK725.out 1))
   go_ret
   exact ⟨by first | rfl | (simp [errW_none, errW_some] <;> rfl) | (simp [*, errW_none, errW_some] <;> rfl), by repeat (first | (with_reducible first | exact HB.out | apply Zl | apply Zp | apply Ze | refine Zs ?_ GE724.out | refine Zs ?_ GE725.out) | exact HB.out)⟩
 ·rw [if_neg c3] at H
  have c3b0 : (a0_0 == a1_0) = false := beq_eq_false_iff_ne.mpr c3
  have c3b1 : (a0_0 != a1_0) = true := bne_iff_ne.mpr c3
  obtain rfl := Option.some.inj H
  go_enter Try.func82, Try.ntmps82
  go_wp2_with (first | ((with_reducible refine gate_dst (N := 2) rfl ?_); refine box_event ?hg (N := 2) ?hd (cs := #[.int .i64 a0_0, .int .i64 a0_1]) (t := 47) ?hr ?_; (case hd => rfl); (case hg => rfl); (case hr => first | (go_simp; done) | (go_simp; rfl)); intro gb724 hg w15 hbox hb; have n0_ := Zm (below_step (by repeat (first | (with_reducible first | exact HB.out | apply Zl | apply Zp | apply Ze) | exact HB.out)) hb); have n1_ := Zm (hbox); have n2_ := Zm ((by rw [hg]; exact (below_size (by repeat (first | (with_reducible first | exact HB.out | apply Zl | apply Zp | apply Ze) | exact HB.out))) : w.heap.size ≤ gb724)); have n3_ := Zm ((by rw [hg]; exact (below_size (by repeat (first | (with_reducible first | exact HB.out | apply Zl | apply Zp | apply Ze) | exact HB.out))) : w.heap.size ≤ gb724)); clear HB; have HB := n0_; have BK724 := n1_; have GW724 := n2_; have GE724 := n3_; clear n0_ n1_ n2_ n3_; clear hb hbox hg) | ((with_reducible refine gate_dst (N := 3) rfl ?_); refine box_event ?hg (N := 3) ?hd (cs := #[.int .i64 a1_0, .int .i64 a1_1]) (t := 47) ?hr ?_; (case hd => rfl); (case hg => rfl); (case hr => first | (go_simp; done) | (go_simp; rfl)); intro gb725 hg w16 hbox hb; have n0_ := Zm (blk_below (g := gb724) (o := .cells #[.int .i64 a0_0, .int .i64 a0_1] 47 (0, 0)) (by (with_reducible repeat (first | refine Zn ?_ _ | refine Zd ?_ | refine Za ?_ _)); exact BK724.out) hb); have n1_ := Zm (below_step (by repeat (first | (with_reducible first | exact HB.out | apply Zl | apply Zp | apply Ze | refine Zs ?_ GE724.out) | exact HB.out)) hb); have n2_ := Zm (hbox); have n3_ := Zm ((by rw [hg]; exact (below_size (by repeat (first | (with_reducible first | exact HB.out | apply Zl | apply Zp | apply Ze | refine Zs ?_ GE724.out) | exact HB.out))) : w.heap.size ≤ gb725)); have n4_ := Zm ((by rw [hg]; exact (below_size (by repeat (first | (with_reducible first | exact HB.out | apply Zl | apply Zp | apply Ze | refine Zs ?_ GE724.out) | exact HB.out))) : w.heap.size ≤ gb725)); have n5_ := Zm ((by rw [hg]; exact Nat.ne_of_lt (blk_lt (g := gb724) (o := .cells #[.int .i64 a0_0, .int .i64 a0_1] 47 (0, 0)) (by (with_reducible repeat (first | refine Zn ?_ _ | refine Zd ?_ | refine Za ?_ _)); exact BK724.out)) : gb724 ≠ gb725)); have n6_ := Zm ((by rw [hg]; exact Nat.ne_of_gt (blk_lt (g := gb724) (o := .cells #[.int .i64 a0_0, .int .i64 a0_1] 47 (0, 0)) (by (with_reducible repeat (first | refine Zn ?_ _ | refine Zd ?_ | refine Za ?_ _)); exact BK724.out)) : gb725 ≠ gb724)); clear BK724; clear HB; have BK724 := n0_; have HB := n1_; have BK725 := n2_; have GW725 := n3_; have GE725 := n4_; have NB724_725 := n5_; have NB725_724 := n6_; clear n0_ n1_ n2_ n3_ n4_ n5_ n6_; clear hb hbox hg; have hnb17 := NB724_725.out; have hnc17 := NB725_724.out; have hcz18_0 : w16.cell? ⟨gb724, 0, none⟩ = some (.int .i64 a0_0) := (Zc BK724.out 0).trans rfl; have hcz18_1 : w16.cell? ⟨gb724, 1, none⟩ = some (.int .i64 a0_1) := (Zc BK724.out 1).trans rfl; have hfz18_0 := Zf BK724.out 0; have hfz18_1 := Zf BK724.out 1; have hcz19_0 : w16.cell? ⟨gb725, 0, none⟩ = some (.int .i64 a1_0) := (Zc BK725.out 0).trans rfl; have hcz19_1 : w16.cell? ⟨gb725, 1, none⟩ = some (.int .i64 a1_1) := (Zc BK725.out 1).trans rfl; have hfz19_0 := Zf BK725.out 0; have hfz19_1 := Zf BK725.out 1))
  go_ret
  exact ⟨by first | rfl | (simp [errW_none, errW_some] <;> rfl) | (simp [*, errW_none, errW_some] <;> rfl), by repeat (first | (with_reducible first | exact HB.out | apply Zl | apply Zp | apply Ze | refine Zs ?_ GE724.out | refine Zs ?_ GE725.out) | exact HB.out)⟩

/-! ### laws_eqCycle: function 68 -/
def laws_eqCycle.f (a0_0 : Int) (a0_1 : Int) (a0_2 : Int) (a0_3 : Int) (a1_0 : Int) (a1_1 : Int) (a1_2 : Int) (a1_3 : Int) : Option (Bool) := if a0_0 = a1_0 then (if a0_1 = a1_1 then ((laws_eqRing.f a0_2 a0_3 a1_2 a1_3).bind fun t728 => (if t728 = true then (some true) else (some false))) else (some false)) else (some false)
set_option maxHeartbeats 8000000 in
set_option maxRecDepth 100000 in
theorem laws_eqCycle.calls (a0_0 : Int) (a0_1 : Int) (a0_2 : Int) (a0_3 : Int) (a1_0 : Int) (a1_1 : Int) (a1_2 : Int) (a1_3 : Int) (r : Bool) (w : World) (h : laws_eqCycle.f a0_0 a0_1 a0_2 a0_3 a1_0 a1_1 a1_2 a1_3 = some r) :
  Calls Try.prog 68 #[.agg #[.int .i64 a0_0, .int .i64 a0_1, .int .i64 a0_2, .int .i64 a0_3], .agg #[.int .i64 a1_0, .int .i64 a1_1, .int .i64 a1_2, .int .i64 a1_3]] w fun e w' => e = .returned (.bool r) ∧ Below w.heap.size w w' := by
 have hu58 := Try.underlying58
 have hu47 := Try.underlying47
 have HB := Zm (Below.refl w.heap.size w)
 have H : (if a0_0 = a1_0 then (if a0_1 = a1_1 then ((laws_eqRing.f a0_2 a0_3 a1_2 a1_3).bind fun t728 => (if t728 = true then (some true) else (some false))) else (some false)) else (some false)) = some r := h
 clear h
 by_cases c3 : a0_0 = a1_0
 ·rw [if_pos c3] at H
  have c3b0 : (a0_0 == a1_0) = true := beq_iff_eq.mpr c3
  have c3b1 : (a0_0 != a1_0) = false := bne_eq_false_iff_eq.mpr c3
  clear c3
  by_cases c4 : a0_1 = a1_1
  ·rw [if_pos c4] at H
   have c4b0 : (a0_1 == a1_1) = true := beq_iff_eq.mpr c4
   have c4b1 : (a0_1 != a1_1) = false := bne_eq_false_iff_eq.mpr c4
   clear c4
   replace H := Option.bind_eq_some_iff.mp H
   obtain ⟨t728, A50, H⟩ := H
   replace H : (if t728 = true then (some true) else (some false)) = some r := H
   have A5 := Zm A50
   clear A50
   by_cases c6 : t728 = true
   ·subst c6
    have H1 : (some true) = some r := by rw [if_pos rfl] at H; exact H
    clear H
    have H := H1
    clear H1
    obtain rfl := Option.some.inj H
    go_enter Try.func68, Try.ntmps68
    go_wp2_with (first | ((with_reducible refine gate_dst (N := 2) rfl ?_); refine box_event ?hg (N := 2) ?hd (cs := #[.int .i64 a0_0, .int .i64 a0_1, .int .i64 a0_2, .int .i64 a0_3]) (t := 58) ?hr ?_; (case hd => rfl); (case hg => rfl); (case hr => first | (go_simp; done) | (go_simp; rfl)); intro gb726 hg w7 hbox hb; have n0_ := Zm (below_step (by repeat (first | (with_reducible first | exact HB.out | apply Zl | apply Zp | apply Ze) | exact HB.out)) hb); have n1_ := Zm (hbox); have n2_ := Zm ((by rw [hg]; exact (below_size (by repeat (first | (with_reducible first | exact HB.out | apply Zl | apply Zp | apply Ze) | exact HB.out))) : w.heap.size ≤ gb726)); have n3_ := Zm ((by rw [hg]; exact (below_size (by repeat (first | (with_reducible first | exact HB.out | apply Zl | apply Zp | apply Ze) | exact HB.out))) : w.heap.size ≤ gb726)); clear HB; have HB := n0_; have BK726 := n1_; have GW726 := n2_; have GE726 := n3_; clear n0_ n1_ n2_ n3_; clear hb hbox hg) | ((with_reducible refine gate_dst (N := 3) rfl ?_); refine box_event ?hg (N := 3) ?hd (cs := #[.int .i64 a1_0, .int .i64 a1_1, .int .i64 a1_2, .int .i64 a1_3]) (t := 58) ?hr ?_; (case hd => rfl); (case hg => rfl); (case hr => first | (go_simp; done) | (go_simp; rfl)); intro gb727 hg w8 hbox hb; have n0_ := Zm (blk_below (g := gb726) (o := .cells #[.int .i64 a0_0, .int .i64 a0_1, .int .i64 a0_2, .int .i64 a0_3] 58 (0, 0)) (by (with_reducible repeat (first | refine Zn ?_ _ | refine Zd ?_ | refine Za ?_ _)); exact BK726.out) hb); have n1_ := Zm (below_step (by repeat (first | (with_reducible first | exact HB.out | apply Zl | apply Zp | apply Ze | refine Zs ?_ GE726.out) | exact HB.out)) hb); have n2_ := Zm (hbox); have n3_ := Zm ((by rw [hg]; exact (below_size (by repeat (first | (with_reducible first | exact HB.out | apply Zl | apply Zp | apply Ze | refine Zs ?_ GE726.out) | exact HB.out))) : w.heap.size ≤ gb727)); have n4_ := Zm ((by rw [hg]; exact (below_size (by repeat (first | (with_reducible first | exact HB.out | apply Zl | apply Zp | apply Ze | refine Zs ?_ GE726.out) | exact HB.out))) : w.heap.size ≤ gb727)); have n5_ := Zm ((by rw [hg]; exact Nat.ne_of_lt (blk_lt (g := gb726) (o := .cells #[.int .i64 a0_0, .int .i64 a0_1, .int .i64 a0_2, .int .i64 a0_3] 58 (0, 0)) (by (with_reducible repeat (first | refine Zn ?_ _ | refine Zd ?_ | refine Za ?_ _)); exact BK726.out)) : gb726 ≠ gb727)); have n6_ := Zm ((by rw [hg]; exact Nat.ne_of_gt (blk_lt (g := gb726) (o := .cells #[.int .i64 a0_0, .int .i64 a0_1, .int .i64 a0_2, .int .i64 a0_3] 58 (0, 0)) (by (with_reducible repeat (first | refine Zn ?_ _ | refine Zd ?_ | refine Za ?_ _)); exact BK726.out)) : gb727 ≠ gb726)); clear BK726; clear HB; have BK726 := n0_; have HB := n1_; have BK727 := n2_; have GW727 := n3_; have GE727 := n4_; have NB726_727 := n5_; have NB727_726 := n6_; clear n0_ n1_ n2_ n3_ n4_ n5_ n6_; clear hb hbox hg; have hnb9 := NB726_727.out; have hnc9 := NB727_726.out; have hcz10_0 : w8.cell? ⟨gb726, 0, none⟩ = some (.int .i64 a0_0) := (Zc BK726.out 0).trans rfl; have hcz10_1 : w8.cell? ⟨gb726, 1, none⟩ = some (.int .i64 a0_1) := (Zc BK726.out 1).trans rfl; have hcz10_2 : w8.cell? ⟨gb726, 2, none⟩ = some (.int .i64 a0_2) := (Zc BK726.out 2).trans rfl; have hcz10_3 : w8.cell? ⟨gb726, 3, none⟩ = some (.int .i64 a0_3) := (Zc BK726.out 3).trans rfl; have hfz10_0 := Zf BK726.out 0; have hfz10_1 := Zf BK726.out 1; have hfz10_2 := Zf BK726.out 2; have hfz10_3 := Zf BK726.out 3; have hcz11_0 : w8.cell? ⟨gb727, 0, none⟩ = some (.int .i64 a1_0) := (Zc BK727.out 0).trans rfl; have hcz11_1 : w8.cell? ⟨gb727, 1, none⟩ = some (.int .i64 a1_1) := (Zc BK727.out 1).trans rfl; have hcz11_2 : w8.cell? ⟨gb727, 2, none⟩ = some (.int .i64 a1_2) := (Zc BK727.out 2).trans rfl; have hcz11_3 : w8.cell? ⟨gb727, 3, none⟩ = some (.int .i64 a1_3) := (Zc BK727.out 3).trans rfl; have hfz11_0 := Zf BK727.out 0; have hfz11_1 := Zf BK727.out 1; have hfz11_2 := Zf BK727.out 2; have hfz11_3 := Zf BK727.out 3) | ((with_reducible refine gate_callee (f := 82) rfl ?_); refine goesL_ (some 19) rfl rfl Try.func82 (by kernel_rfl) rfl #[.agg #[.int .i64 a0_2, .int .i64 a0_3], .agg #[.int .i64 a1_2, .int .i64 a1_3]] rfl (by (try simp only [List.map_toArray, List.map_cons, List.map_nil]); first | done | rfl | (simp only [List.length_drop, List.length_take]; rfl)) ?_; (with_reducible refine (laws_eqRing.calls a0_2 a0_3 a1_2 a1_3 true _ A5.out).mono ?_); rintro e w12 ⟨rfl, hb⟩; refine ⟨_, rfl, ?_⟩; have n0_ := Zm (blk_below (g := gb726) (o := .cells #[.int .i64 a0_0, .int .i64 a0_1, .int .i64 a0_2, .int .i64 a0_3] 58 (0, 0)) (by (with_reducible repeat (first | refine Zn ?_ _ | refine Zd ?_ | refine Za ?_ _)); exact BK726.out) hb); have n1_ := Zm (blk_below (g := gb727) (o := .cells #[.int .i64 a1_0, .int .i64 a1_1, .int .i64 a1_2, .int .i64 a1_3] 58 (0, 0)) (by (with_reducible repeat (first | refine Zn ?_ _ | refine Zd ?_ | refine Za ?_ _)); exact BK727.out) hb); have n2_ := Zm (below_step (by repeat (first | (with_reducible first | exact HB.out | apply Zl | apply Zp | apply Ze | refine Zs ?_ GE726.out | refine Zs ?_ GE727.out) | exact HB.out)) hb); clear BK726; clear BK727; clear HB; have BK726 := n0_; have BK727 := n1_; have HB := n2_; clear n0_ n1_ n2_; (try clear hb); (try clear hb2); (try clear hk); (try clear hi)))
    go_ret
    exact ⟨by first | rfl | (simp [errW_none, errW_some] <;> rfl) | (simp [*, errW_none, errW_some] <;> rfl), by repeat (first | (with_reducible first | exact HB.out | apply Zl | apply Zp | apply Ze | refine Zs ?_ GE726.out | refine Zs ?_ GE727.out) | exact HB.out)⟩
   ·replace c6 := Bool.eq_false_iff.mpr c6
    subst c6
    have H1 : (some false) = some r := by rw [if_neg (show ¬ (false = true) by decide)] at H; exact H
    clear H
    have H := H1
    clear H1
    obtain rfl := Option.some.inj H
    go_enter Try.func68, Try.ntmps68
    go_wp2_with (first | ((with_reducible refine gate_dst (N := 2) rfl ?_); refine box_event ?hg (N := 2) ?hd (cs := #[.int .i64 a0_0, .int .i64 a0_1, .int .i64 a0_2, .int .i64 a0_3]) (t := 58) ?hr ?_; (case hd => rfl); (case hg => rfl); (case hr => first | (go_simp; done) | (go_simp; rfl)); intro gb726 hg w13 hbox hb; have n0_ := Zm (below_step (by repeat (first | (with_reducible first | exact HB.out | apply Zl | apply Zp | apply Ze) | exact HB.out)) hb); have n1_ := Zm (hbox); have n2_ := Zm ((by rw [hg]; exact (below_size (by repeat (first | (with_reducible first | exact HB.out | apply Zl | apply Zp | apply Ze) | exact HB.out))) : w.heap.size ≤ gb726)); have n3_ := Zm ((by rw [hg]; exact (below_size (by repeat (first | (with_reducible first | exact HB.out | apply Zl | apply Zp | apply Ze) | exact HB.out))) : w.heap.size ≤ gb726)); clear HB; have HB := n0_; have BK726 := n1_; have GW726 := n2_; have GE726 := n3_; clear n0_ n1_ n2_ n3_; clear hb hbox hg) | ((with_reducible refine gate_dst (N := 3) rfl ?_); refine box_event ?hg (N := 3) ?hd (cs := #[.int .i64 a1_0, .int .i64 a1_1, .int .i64 a1_2, .int .i64 a1_3]) (t := 58) ?hr ?_; (case hd => rfl); (case hg => rfl); (case hr => first | (go_simp; done) | (go_simp; rfl)); intro gb727 hg w14 hbox hb; have n0_ := Zm (blk_below (g := gb726) (o := .cells #[.int .i64 a0_0, .int .i64 a0_1, .int .i64 a0_2, .int .i64 a0_3] 58 (0, 0)) (by (with_reducible repeat (first | refine Zn ?_ _ | refine Zd ?_ | refine Za ?_ _)); exact BK726.out) hb); have n1_ := Zm (below_step (by repeat (first | (with_reducible first | exact HB.out | apply Zl | apply Zp | apply Ze | refine Zs ?_ GE726.out) | exact HB.out)) hb); have n2_ := Zm (hbox); have n3_ := Zm ((by rw [hg]; exact (below_size (by repeat (first | (with_reducible first | exact HB.out | apply Zl | apply Zp | apply Ze | refine Zs ?_ GE726.out) | exact HB.out))) : w.heap.size ≤ gb727)); have n4_ := Zm ((by rw [hg]; exact (below_size (by repeat (first | (with_reducible first | exact HB.out | apply Zl | apply Zp | apply Ze | refine Zs ?_ GE726.out) | exact HB.out))) : w.heap.size ≤ gb727)); have n5_ := Zm ((by rw [hg]; exact Nat.ne_of_lt (blk_lt (g := gb726) (o := .cells #[.int .i64 a0_0, .int .i64 a0_1, .int .i64 a0_2, .int .i64 a0_3] 58 (0, 0)) (by (with_reducible repeat (first | refine Zn ?_ _ | refine Zd ?_ | refine Za ?_ _)); exact BK726.out)) : gb726 ≠ gb727)); have n6_ := Zm ((by rw [hg]; exact Nat.ne_of_gt (blk_lt (g := gb726) (o := .cells #[.int .i64 a0_0, .int .i64 a0_1, .int .i64 a0_2, .int .i64 a0_3] 58 (0, 0)) (by (with_reducible repeat (first | refine Zn ?_ _ | refine Zd ?_ | refine Za ?_ _)); exact BK726.out)) : gb727 ≠ gb726)); clear BK726; clear HB; have BK726 := n0_; have HB := n1_; have BK727 := n2_; have GW727 := n3_; have GE727 := n4_; have NB726_727 := n5_; have NB727_726 := n6_; clear n0_ n1_ n2_ n3_ n4_ n5_ n6_; clear hb hbox hg; have hnb15 := NB726_727.out; have hnc15 := NB727_726.out; have hcz16_0 : w14.cell? ⟨gb726, 0, none⟩ = some (.int .i64 a0_0) := (Zc BK726.out 0).trans rfl; have hcz16_1 : w14.cell? ⟨gb726, 1, none⟩ = some (.int .i64 a0_1) := (Zc BK726.out 1).trans rfl; have hcz16_2 : w14.cell? ⟨gb726, 2, none⟩ = some (.int .i64 a0_2) := (Zc BK726.out 2).trans rfl; have hcz16_3 : w14.cell? ⟨gb726, 3, none⟩ = some (.int .i64 a0_3) := (Zc BK726.out 3).trans rfl; have hfz16_0 := Zf BK726.out 0; have hfz16_1 := Zf BK726.out 1; have hfz16_2 := Zf BK726.out 2; have hfz16_3 := Zf BK726.out 3; have hcz17_0 : w14.cell? ⟨gb727, 0, none⟩ = some (.int .i64 a1_0) := (Zc BK727.out 0).trans rfl; have hcz17_1 : w14.cell? ⟨gb727, 1, none⟩ = some (.int .i64 a1_1) := (Zc BK727.out 1).trans rfl; have hcz17_2 : w14.cell? ⟨gb727, 2, none⟩ = some (.int .i64 a1_2) := (Zc BK727.out 2).trans rfl; have hcz17_3 : w14.cell? ⟨gb727, 3, none⟩ = some (.int .i64 a1_3) := (Zc BK727.out 3).trans rfl; have hfz17_0 := Zf BK727.out 0; have hfz17_1 := Zf BK727.out 1; have hfz17_2 := Zf BK727.out 2; have hfz17_3 := Zf BK727.out 3) | ((with_reducible refine gate_callee (f := 82) rfl ?_); refine goesL_ (some 19) rfl rfl Try.func82 (by kernel_rfl) rfl #[.agg #[.int .i64 a0_2, .int .i64 a0_3], .agg #[.int .i64 a1_2, .int .i64 a1_3]] rfl (by (try simp only [List.map_toArray, List.map_cons, List.map_nil]); first | done | rfl | (simp only [List.length_drop, List.length_take]; rfl)) ?_; (with_reducible refine (laws_eqRing.calls a0_2 a0_3 a1_2 a1_3 false _ A5.out).mono ?_); rintro e w18 ⟨rfl, hb⟩; refine ⟨_, rfl, ?_⟩; have n0_ := Zm (blk_below (g := gb726) (o := .cells #[.int .i64 a0_0, .int .i64 a0_1, .int .i64 a0_2, .int .i64 a0_3] 58 (0, 0)) (by (with_reducible repeat (first | refine Zn ?_ _ | refine Zd ?_ | refine Za ?_ _)); exact BK726.out) hb); have n1_ := Zm (blk_below (g := gb727) (o := .cells #[.int .i64 a1_0, .int .i64 a1_1, .int .i64 a1_2, .int .i64 a1_3] 58 (0, 0)) (by (with_reducible repeat (first | refine Zn ?_ _ | refine Zd ?_ | refine Za ?_ _)); exact BK727.out) hb); have n2_ := Zm (below_step (by repeat (first | (with_reducible first | exact HB.out | apply Zl | apply Zp | apply Ze | refine Zs ?_ GE726.out | refine Zs ?_ GE727.out) | exact HB.out)) hb); clear BK726; clear BK727; clear HB; have BK726 := n0_; have BK727 := n1_; have HB := n2_; clear n0_ n1_ n2_; (try clear hb); (try clear hb2); (try clear hk); (try clear hi)))
    go_ret
    exact ⟨by first | rfl | (simp [errW_none, errW_some] <;> rfl) | (simp [*, errW_none, errW_some] <;> rfl), by repeat (first | (with_reducible first | exact HB.out | apply Zl | apply Zp | apply Ze | refine Zs ?_ GE726.out | refine Zs ?_ GE727.out) | exact HB.out)⟩
  ·rw [if_neg c4] at H
   have c4b0 : (a0_1 == a1_1) = false := beq_eq_false_iff_ne.mpr c4
   have c4b1 : (a0_1 != a1_1) = true := bne_iff_ne.mpr c4
   obtain rfl := Option.some.inj H
   go_enter Try.func68, Try.ntmps68
   go_wp2_with (first | ((with_reducible refine gate_dst (N := 2) rfl ?_); refine box_event ?hg (N := 2) ?hd (cs := #[.int .i64 a0_0, .int .i64 a0_1, .int .i64 a0_2, .int .i64 a0_3]) (t := 58) ?hr ?_; (case hd => rfl); (case hg => rfl); (case hr => first | (go_simp; done) | (go_simp; rfl)); intro gb726 hg w19 hbox hb; have n0_ := Zm (below_step (by repeat (first | (with_reducible first | exact HB.out | apply Zl | apply Zp | apply Ze) | exact HB.out)) hb); have n1_ := Zm (hbox); have n2_ := Zm ((by rw [hg]; exact (below_size (by repeat (first | (with_reducible first | exact HB.out | apply Zl | apply Zp | apply Ze) | exact HB.out))) : w.heap.size ≤ gb726)); have n3_ := Zm ((by rw [hg]; exact (below_size (by repeat (first | (with_reducible first | exact HB.out | apply Zl | apply Zp | apply Ze) | exact HB.out))) : w.heap.size ≤ gb726)); clear HB; have HB := n0_; have BK726 := n1_; have GW726 := n2_; have GE726 := n3_; clear n0_ n1_ n2_ n3_; clear hb hbox hg) | ((with_reducible refine gate_dst (N := 3) rfl ?_); refine box_event ?hg (N := 3) ?hd (cs := #[.int .i64 a1_0, .int .i64 a1_1, .int .i64 a1_2, .int .i64 a1_3]) (t := 58) ?hr ?_; (case hd => rfl); (case hg => rfl); (case hr => first | (go_simp; done) | (go_simp; rfl)); intro gb727 hg w20 hbox hb; have n0_ := Zm (blk_below (g := gb726) (o := .cells #[.int .i64 a0_0, .int .i64 a0_1, .int .i64 a0_2, .int .i64 a0_3] 58 (0, 0)) (by (with_reducible repeat (first | refine Zn ?_ _ | refine Zd ?_ | refine Za ?_ _)); exact BK726.out) hb); have n1_ := Zm (below_step (by repeat (first | (with_reducible first | exact HB.out | apply Zl | apply Zp | apply Ze | refine Zs ?_ GE726.out) | exact HB.out)) hb); have n2_ := Zm (hbox); have n3_ := Zm ((by rw [hg]; exact (below_size (by repeat (first | (with_reducible first | exact HB.out | apply Zl | apply Zp | apply Ze | refine Zs ?_ GE726.out) | exact HB.out))) : w.heap.size ≤ gb727)); have n4_ := Zm ((by rw [hg]; exact (below_size (by repeat (first | (with_reducible first | exact HB.out | apply Zl | apply Zp | apply Ze | refine Zs ?_ GE726.out) | exact HB.out))) : w.heap.size ≤ gb727)); have n5_ := Zm ((by rw [hg]; exact Nat.ne_of_lt (blk_lt (g := gb726) (o := .cells #[.int .i64 a0_0, .int .i64 a0_1, .int .i64 a0_2, .int .i64 a0_3] 58 (0, 0)) (by (with_reducible repeat (first | refine Zn ?_ _ | refine Zd ?_ | refine Za ?_ _)); exact BK726.out)) : gb726 ≠ gb727)); have n6_ := Zm ((by rw [hg]; exact Nat.ne_of_gt (blk_lt (g := gb726) (o := .cells #[.int .i64 a0_0, .int .i64 a0_1, .int .i64 a0_2, .int .i64 a0_3] 58 (0, 0)) (by (with_reducible repeat (first | refine Zn ?_ _ | refine Zd ?_ | refine Za ?_ _)); exact BK726.out)) : gb727 ≠ gb726)); clear BK726; clear HB; have BK726 := n0_; have HB := n1_; have BK727 := n2_; have GW727 := n3_; have GE727 := n4_; have NB726_727 := n5_; have NB727_726 := n6_; clear n0_ n1_ n2_ n3_ n4_ n5_ n6_; clear hb hbox hg; have hnb21 := NB726_727.out; have hnc21 := NB727_726.out; have hcz22_0 : w20.cell? ⟨gb726, 0, none⟩ = some (.int .i64 a0_0) := (Zc BK726.out 0).trans rfl; have hcz22_1 : w20.cell? ⟨gb726, 1, none⟩ = some (.int .i64 a0_1) := (Zc BK726.out 1).trans rfl; have hcz22_2 : w20.cell? ⟨gb726, 2, none⟩ = some (.int .i64 a0_2) := (Zc BK726.out 2).trans rfl; have hcz22_3 : w20.cell? ⟨gb726, 3, none⟩ = some (.int .i64 a0_3) := (Zc BK726.out 3).trans rfl; have hfz22_0 := Zf BK726.out 0; have hfz22_1 := Zf BK726.out 1; have hfz22_2 := Zf BK726.out 2; have hfz22_3 := Zf BK726.out 3; have hcz23_0 : w20.cell? ⟨gb727, 0, none⟩ = some (.int .i64 a1_0) := (Zc BK727.out 0).trans rfl; have hcz23_1 : w20.cell? ⟨gb727, 1, none⟩ = some (.int .i64 a1_1) := (Zc BK727.out 1).trans rfl; have hcz23_2 : w20.cell? ⟨gb727, 2, none⟩ = some (.int .i64 a1_2) := (Zc BK727.out 2).trans rfl; have hcz23_3 : w20.cell? ⟨gb727, 3, none⟩ = some (.int .i64 a1_3) := (Zc BK727.out 3).trans rfl; have hfz23_0 := Zf BK727.out 0; have hfz23_1 := Zf BK727.out 1; have hfz23_2 := Zf BK727.out 2; have hfz23_3 := Zf BK727.out 3))
   go_ret
   exact ⟨by first | rfl | (simp [errW_none, errW_some] <;> rfl) | (simp [*, errW_none, errW_some] <;> rfl), by repeat (first | (with_reducible first | exact HB.out | apply Zl | apply Zp | apply Ze | refine Zs ?_ GE726.out | refine Zs ?_ GE727.out) | exact HB.out)⟩
 ·rw [if_neg c3] at H
  have c3b0 : (a0_0 == a1_0) = false := beq_eq_false_iff_ne.mpr c3
  have c3b1 : (a0_0 != a1_0) = true := bne_iff_ne.mpr c3
  obtain rfl := Option.some.inj H
  go_enter Try.func68, Try.ntmps68
  go_wp2_with (first | ((with_reducible refine gate_dst (N := 2) rfl ?_); refine box_event ?hg (N := 2) ?hd (cs := #[.int .i64 a0_0, .int .i64 a0_1, .int .i64 a0_2, .int .i64 a0_3]) (t := 58) ?hr ?_; (case hd => rfl); (case hg => rfl); (case hr => first | (go_simp; done) | (go_simp; rfl)); intro gb726 hg w24 hbox hb; have n0_ := Zm (below_step (by repeat (first | (with_reducible first | exact HB.out | apply Zl | apply Zp | apply Ze) | exact HB.out)) hb); have n1_ := Zm (hbox); have n2_ := Zm ((by rw [hg]; exact (below_size (by repeat (first | (with_reducible first | exact HB.out | apply Zl | apply Zp | apply Ze) | exact HB.out))) : w.heap.size ≤ gb726)); have n3_ := Zm ((by rw [hg]; exact (below_size (by repeat (first | (with_reducible first | exact HB.out | apply Zl | apply Zp | apply Ze) | exact HB.out))) : w.heap.size ≤ gb726)); clear HB; have HB := n0_; have BK726 := n1_; have GW726 := n2_; have GE726 := n3_; clear n0_ n1_ n2_ n3_; clear hb hbox hg) | ((with_reducible refine gate_dst (N := 3) rfl ?_); refine box_event ?hg (N := 3) ?hd (cs := #[.int .i64 a1_0, .int .i64 a1_1, .int .i64 a1_2, .int .i64 a1_3]) (t := 58) ?hr ?_; (case hd => rfl); (case hg => rfl); (case hr => first | (go_simp; done) | (go_simp; rfl)); intro gb727 hg w25 hbox hb; have n0_ := Zm (blk_below (g := gb726) (o := .cells #[.int .i64 a0_0, .int .i64 a0_1, .int .i64 a0_2, .int .i64 a0_3] 58 (0, 0)) (by (with_reducible repeat (first | refine Zn ?_ _ | refine Zd ?_ | refine Za ?_ _)); exact BK726.out) hb); have n1_ := Zm (below_step (by repeat (first | (with_reducible first | exact HB.out | apply Zl | apply Zp | apply Ze | refine Zs ?_ GE726.out) | exact HB.out)) hb); have n2_ := Zm (hbox); have n3_ := Zm ((by rw [hg]; exact (below_size (by repeat (first | (with_reducible first | exact HB.out | apply Zl | apply Zp | apply Ze | refine Zs ?_ GE726.out) | exact HB.out))) : w.heap.size ≤ gb727)); have n4_ := Zm ((by rw [hg]; exact (below_size (by repeat (first | (with_reducible first | exact HB.out | apply Zl | apply Zp | apply Ze | refine Zs ?_ GE726.out) | exact HB.out))) : w.heap.size ≤ gb727)); have n5_ := Zm ((by rw [hg]; exact Nat.ne_of_lt (blk_lt (g := gb726) (o := .cells #[.int .i64 a0_0, .int .i64 a0_1, .int .i64 a0_2, .int .i64 a0_3] 58 (0, 0)) (by (with_reducible repeat (first | refine Zn ?_ _ | refine Zd ?_ | refine Za ?_ _)); exact BK726.out)) : gb726 ≠ gb727)); have n6_ := Zm ((by rw [hg]; exact Nat.ne_of_gt (blk_lt (g := gb726) (o := .cells #[.int .i64 a0_0, .int .i64 a0_1, .int .i64 a0_2, .int .i64 a0_3] 58 (0, 0)) (by (with_reducible repeat (first | refine Zn ?_ _ | refine Zd ?_ | refine Za ?_ _)); exact BK726.out)) : gb727 ≠ gb726)); clear BK726; clear HB; have BK726 := n0_; have HB := n1_; have BK727 := n2_; have GW727 := n3_; have GE727 := n4_; have NB726_727 := n5_; have NB727_726 := n6_; clear n0_ n1_ n2_ n3_ n4_ n5_ n6_; clear hb hbox hg; have hnb26 := NB726_727.out; have hnc26 := NB727_726.out; have hcz27_0 : w25.cell? ⟨gb726, 0, none⟩ = some (.int .i64 a0_0) := (Zc BK726.out 0).trans rfl; have hcz27_1 : w25.cell? ⟨gb726, 1, none⟩ = some (.int .i64 a0_1) := (Zc BK726.out 1).trans rfl; have hcz27_2 : w25.cell? ⟨gb726, 2, none⟩ = some (.int .i64 a0_2) := (Zc BK726.out 2).trans rfl; have hcz27_3 : w25.cell? ⟨gb726, 3, none⟩ = some (.int .i64 a0_3) := (Zc BK726.out 3).trans rfl; have hfz27_0 := Zf BK726.out 0; have hfz27_1 := Zf BK726.out 1; have hfz27_2 := Zf BK726.out 2; have hfz27_3 := Zf BK726.out 3; have hcz28_0 : w25.cell? ⟨gb727, 0, none⟩ = some (.int .i64 a1_0) := (Zc BK727.out 0).trans rfl; have hcz28_1 : w25.cell? ⟨gb727, 1, none⟩ = some (.int .i64 a1_1) := (Zc BK727.out 1).trans rfl; have hcz28_2 : w25.cell? ⟨gb727, 2, none⟩ = some (.int .i64 a1_2) := (Zc BK727.out 2).trans rfl; have hcz28_3 : w25.cell? ⟨gb727, 3, none⟩ = some (.int .i64 a1_3) := (Zc BK727.out 3).trans rfl; have hfz28_0 := Zf BK727.out 0; have hfz28_1 := Zf BK727.out 1; have hfz28_2 := Zf BK727.out 2; have hfz28_3 := Zf BK727.out 3))
  go_ret
  exact ⟨by first | rfl | (simp [errW_none, errW_some] <;> rfl) | (simp [*, errW_none, errW_some] <;> rfl), by repeat (first | (with_reducible first | exact HB.out | apply Zl | apply Zp | apply Ze | refine Zs ?_ GE726.out | refine Zs ?_ GE727.out) | exact HB.out)⟩

/-! ### laws_eqCycleS: function 36 -/
def laws_eqCycleS.l0 : Nat → List (S58) → List (S58) → Int → Option (Bool)
 | 0, _, _, _ => none
 | k + 1, x0, x1, x5 => if x5 < (x0.length : Int) then (if 0 ≤ x5 then (if x5 < (x1.length : Int) then ((laws_eqCycle.f ((rd_T58 x0 x5).f0) ((rd_T58 x0 x5).f1) ((rd_T58 x0 x5).f2.f0) ((rd_T58 x0 x5).f2.f1) ((rd_T58 x1 x5).f0) ((rd_T58 x1 x5).f1) ((rd_T58 x1 x5).f2.f0) ((rd_T58 x1 x5).f2.f1)).bind fun t731 => (if t731 = true then (laws_eqCycleS.l0 k x0 x1 (wrap64 (x5 + 1))) else (some false))) else (none)) else (none)) else (some true)
def laws_eqCycleS.f (k : Nat) (l0 : List (S58)) (l1 : List (S58)) : Option (Bool) := if (l0.length : Int) = (l1.length : Int) then (laws_eqCycleS.l0 k l0 l1 0) else (some false)
theorem laws_eqCycleS.mono_l : ∀ k, (∀ y0 y1 y2, LeO (laws_eqCycleS.l0 k y0 y1 y2) (laws_eqCycleS.l0 (k + 1) y0 y1 y2))
 | 0 => fun _ _ _ r h => by simp [laws_eqCycleS.l0] at h
 | k + 1 => by
  have ih0 := laws_eqCycleS.mono_l k
  ·intro y0 y1 y2
   unfold laws_eqCycleS.l0
   repeat' first
   | (with_reducible exact ih0 _ _ _)
   | (with_reducible exact LeO.refl _)
   | (with_reducible exact LeO.none _)
   | (with_reducible refine LeO.ite ?_ ?_)
   | (with_reducible refine LeO.bind ?_ (fun _ => ?_))
   | exact ih0 _ _ _
   | exact LeO.none _
   | refine LeO.ite ?_ ?_
   | refine LeO.bind ?_ (fun _ => ?_)
theorem laws_eqCycleS.mono : ∀ a0 a1 k, LeO (laws_eqCycleS.f k a0 a1) (laws_eqCycleS.f (k + 1) a0 a1) := by
 intro a0 a1 k
 have ih0 := laws_eqCycleS.mono_l k
 unfold laws_eqCycleS.f
 repeat' first
   | (with_reducible exact ih0 _ _ _)
   | (with_reducible exact LeO.refl _)
   | (with_reducible exact LeO.none _)
   | (with_reducible refine LeO.ite ?_ ?_)
   | (with_reducible refine LeO.bind ?_ (fun _ => ?_))
   | exact ih0 _ _ _
   | exact LeO.none _
   | refine LeO.ite ?_ ?_
   | refine LeO.bind ?_ (fun _ => ?_)
def laws_eqCycleS.T6 : Bool × List (List Nat × List Nat) := (true, [([], []), ([], []), ([0, 1], [0, 1]), ([2], [2]), ([], []), ([], []), ([4, 5], [4, 5]), ([6], [6]), ([3, 7], [3, 7]), ([8], [8])])
def laws_eqCycleS.B6 : List Nat := [0, 0, 3, 7, 0, 0, 48, 112, 255, 511]
theorem laws_eqCycleS.tab6 : rtab .any (opsOf Try.f36 6) = laws_eqCycleS.T6 := by kernel_rfl
theorem laws_eqCycleS.bits6 : waitsOk laws_eqCycleS.T6.2 laws_eqCycleS.B6 = true := by kernel_rfl
set_option maxHeartbeats 8000000 in
set_option maxRecDepth 100000 in
theorem laws_eqCycleS.calls (k : Nat) (A0 : Option Addr) (c0 : Nat) (l0 : List (S58)) (A1 : Option Addr) (c1 : Nat) (l1 : List (S58)) (r : Bool) (w : World) (hr0 : Kd.C k58 w A0 l0.length l0) (hc0 : l0.length ≤ c0) (hr1 : Kd.C k58 w A1 l1.length l1) (hc1 : l1.length ≤ c1) (h : laws_eqCycleS.f k l0 l1 = some r) :
  Calls Try.prog 36 #[.slice A0 l0.length c0, .slice A1 l1.length c1] w fun e w' => e = .returned (.bool r) ∧ Below w.heap.size w w' := by
 have hu58 := Try.underlying58
 have HR0 := Zm hr0
 have HC0 := Zm hc0
 clear hr0 hc0
 have HR1 := Zm hr1
 have HC1 := Zm hc1
 clear hr1 hc1
 have HB := Zm (Below.refl w.heap.size w)
 have H : (if (l0.length : Int) = (l1.length : Int) then (laws_eqCycleS.l0 k l0 l1 0) else (some false)) = some r := h
 clear h
 by_cases c3 : (l0.length : Int) = (l1.length : Int)
 ·rw [if_pos c3] at H
  have c3b0 : ((l0.length : Int) == (l1.length : Int)) = true := beq_iff_eq.mpr c3
  have c3b1 : ((l0.length : Int) != (l1.length : Int)) = false := bne_eq_false_iff_eq.mpr c3
  have c3b2 : (l0.length == l1.length) = true := by first | simpa using c3 | (simp at c3 ⊢; omega)
  clear c3
  have H' := Zm H
  clear H
  go_enter Try.func36, Try.ntmps36
  go_wp2
  go_loopg [5] k (fun kq v5 w' => ∃ (x5_1 : Int), v5 = .int .i64 x5_1 ∧ Aside0 (laws_eqCycleS.l0 kq l0 l1 x5_1 = some r) ∧ Aside0 (kq ≤ k) ∧ Aside0 (Below w.heap.size w w'))
  case atStart => exact ⟨(0), (by first | rfl | (simp; done) | (simp [*]; done)), H', ⟨Nat.le_refl _⟩, ⟨by repeat (first | (with_reducible first | exact HB.out | apply Zl | apply Zp | apply Ze) | exact HB.out)⟩⟩
  case round =>
   clear H'
   try clear c1
   try clear p2
   try clear c3
   try clear c3b0
   try clear c3b1
   try clear c3b2
   obtain ⟨x5_1, rfl, HA, HK1, HB⟩ := hrel
   cases gk with
   | zero => exact absurd HA.out (by simp [laws_eqCycleS.l0])
   | succ k1 =>
    have H := HA.out
    clear HA
    simp only [laws_eqCycleS.l0] at H
    by_cases c4 : x5_1 < (l0.length : Int)
    ·rw [if_pos c4] at H
     have c4b0 : decide (x5_1 < (l0.length : Int)) = true := decide_eq_true c4
     clear c4
     by_cases c5 : 0 ≤ x5_1
     ·rw [if_pos c5] at H
      have c5b0 : decide (0 ≤ x5_1) = true := decide_eq_true c5
      clear c5
      by_cases c6 : x5_1 < (l1.length : Int)
      ·rw [if_pos c6] at H
       have c6b0 : decide (x5_1 < (l1.length : Int)) = true := decide_eq_true c6
       clear c6
       replace H := Option.bind_eq_some_iff.mp H
       obtain ⟨t731, A70, H⟩ := H
       replace H : (if t731 = true then (laws_eqCycleS.l0 k1 l0 l1 (wrap64 (x5_1 + 1))) else (some false)) = some r := H
       have A7 := Zm A70
       clear A70
       by_cases c8 : t731 = true
       ·subst c8
        have H1 : (laws_eqCycleS.l0 k1 l0 l1 (wrap64 (x5_1 + 1))) = some r := by rw [if_pos rfl] at H; exact H
        clear H
        have H := H1
        clear H1
        have H' := Zm H
        clear H
        try go_wp2
        have n0_ := Zm (Ze HB.out)
        clear HB
        have HB := n0_
        clear n0_
        have p729 : 0 ≤ (x5_1 : Int) := of_decide_eq_true (by first | (with_reducible assumption) | assumption)
        have q729 : x5_1 < (l0.length : Int) := of_decide_eq_true (by first | (with_reducible assumption) | assumption)
        obtain ⟨ad729, e729, hx729_0, hx729_1, hx729_2, hx729_3⟩ := at_T58 HR0.out x5_1 p729 q729
        have hw729_3 := hx729_3
        have hw729_2 := hx729_2
        have hw729_1 := hx729_1
        have hw729_0 := hx729_0
        cases e729
        replace hx729_0 := (HB.out.cell (World.block_lt_of_cell? w _ hx729_0)).trans hx729_0
        replace hx729_1 := (HB.out.cell (World.block_lt_of_cell? w _ hx729_1)).trans hx729_1
        replace hx729_2 := (HB.out.cell (World.block_lt_of_cell? w _ hx729_2)).trans hx729_2
        replace hx729_3 := (HB.out.cell (World.block_lt_of_cell? w _ hx729_3)).trans hx729_3
        replace p729 := eq_true p729
        replace q729 := eq_true q729
        have p730 : 0 ≤ (x5_1 : Int) := of_decide_eq_true (by first | (with_reducible assumption) | assumption)
        have q730 : x5_1 < (l1.length : Int) := of_decide_eq_true (by first | (with_reducible assumption) | assumption)
        obtain ⟨ad730, e730, hx730_0, hx730_1, hx730_2, hx730_3⟩ := at_T58 HR1.out x5_1 p730 q730
        have hw730_3 := hx730_3
        have hw730_2 := hx730_2
        have hw730_1 := hx730_1
        have hw730_0 := hx730_0
        cases e730
        replace hx730_0 := (HB.out.cell (World.block_lt_of_cell? w _ hx730_0)).trans hx730_0
        replace hx730_1 := (HB.out.cell (World.block_lt_of_cell? w _ hx730_1)).trans hx730_1
        replace hx730_2 := (HB.out.cell (World.block_lt_of_cell? w _ hx730_2)).trans hx730_2
        replace hx730_3 := (HB.out.cell (World.block_lt_of_cell? w _ hx730_3)).trans hx730_3
        replace p730 := eq_true p730
        replace q730 := eq_true q730
        refine start_ (n := 10) (S := fun w' => w'.cell? (ad729.add ((x5_1).toNat * 4)) = some (.int .i64 ((rd_T58 l0 x5_1).f0)) ∧ w'.cell? ⟨(ad729.add ((x5_1).toNat * 4)).block, (ad729.add ((x5_1).toNat * 4)).off + 1, none⟩ = some (.int .i64 ((rd_T58 l0 x5_1).f1)) ∧ w'.cell? ⟨(ad729.add ((x5_1).toNat * 4)).block, (ad729.add ((x5_1).toNat * 4)).off + 2, none⟩ = some (.int .i64 ((rd_T58 l0 x5_1).f2.f0)) ∧ w'.cell? ⟨(ad729.add ((x5_1).toNat * 4)).block, (ad729.add ((x5_1).toNat * 4)).off + 3, none⟩ = some (.int .i64 ((rd_T58 l0 x5_1).f2.f1)) ∧ w'.cell? (ad730.add ((x5_1).toNat * 4)) = some (.int .i64 ((rd_T58 l1 x5_1).f0)) ∧ w'.cell? ⟨(ad730.add ((x5_1).toNat * 4)).block, (ad730.add ((x5_1).toNat * 4)).off + 1, none⟩ = some (.int .i64 ((rd_T58 l1 x5_1).f1)) ∧ w'.cell? ⟨(ad730.add ((x5_1).toNat * 4)).block, (ad730.add ((x5_1).toNat * 4)).off + 2, none⟩ = some (.int .i64 ((rd_T58 l1 x5_1).f2.f0)) ∧ w'.cell? ⟨(ad730.add ((x5_1).toNat * 4)).block, (ad730.add ((x5_1).toNat * 4)).off + 3, none⟩ = some (.int .i64 ((rd_T58 l1 x5_1).f2.f1))) (ds := []) #[false, false, false, false, false, false, false, false, false, false] (by kernel_rfl) rfl rfl ⟨((HB.out.cell (World.block_lt_of_cell? w _ hw729_0)).trans hw729_0), ((HB.out.cell (World.block_lt_of_cell? w _ hw729_1)).trans hw729_1), ((HB.out.cell (World.block_lt_of_cell? w _ hw729_2)).trans hw729_2), ((HB.out.cell (World.block_lt_of_cell? w _ hw729_3)).trans hw729_3), ((HB.out.cell (World.block_lt_of_cell? w _ hw730_0)).trans hw730_0), ((HB.out.cell (World.block_lt_of_cell? w _ hw730_1)).trans hw730_1), ((HB.out.cell (World.block_lt_of_cell? w _ hw730_2)).trans hw730_2), ((HB.out.cell (World.block_lt_of_cell? w _ hw730_3)).trans hw730_3)⟩ (fun hHeld => ?_); refine with_tabW laws_eqCycleS.tab6 laws_eqCycleS.bits6 (fun HT_ HW_ => ?_)
        generalize wr.drew = w9 at HB hx729_0 hx729_1 hx729_2 hx729_3 hx730_0 hx730_1 hx730_2 hx730_3 hHeld ⊢
        refine pure_ (i := 0) (N := some 17) (v := ?_) (a' := ?_) #[true, false, false, false, false, false, false, false, false, false] rfl rfl (any_of HT_.out (by kernel_rfl)) (fun _ _ _ h => h) (Or.inl ⟨by rfl, ?_⟩) ?_ ?_
        rotate_left
        ·intro w'
         go_simp
         with_reducible rfl
        rotate_left
        ·simp only [Act.put, List.setIfInBounds_toArray, List.set_cons_zero, List.set_cons_succ, i64_w, i32_w]
         rfl
        refine pure_ (i := 1) (N := some 18) (v := ?_) (a' := ?_) #[true, true, false, false, false, false, false, false, false, false] rfl rfl (any_of HT_.out (by kernel_rfl)) (fun _ _ _ h => h) (Or.inl ⟨by rfl, ?_⟩) ?_ ?_
        rotate_left
        ·intro w'
         go_simp
         with_reducible rfl
        rotate_left
        ·simp only [Act.put, List.setIfInBounds_toArray, List.set_cons_zero, List.set_cons_succ, i64_w, i32_w]
         rfl
        refine pure_ (i := 2) (N := some 19) (v := ?_) (a' := ?_) #[true, true, true, false, false, false, false, false, false, false] rfl rfl (any_of HT_.out (by kernel_rfl)) (fun _ _ _ h => h) (Or.inl ⟨by rfl, ?_⟩) ?_ ?_
        rotate_left
        ·intro w'
         go_simp
         with_reducible rfl
        rotate_left
        ·simp only [Act.put, List.setIfInBounds_toArray, List.set_cons_zero, List.set_cons_succ, i64_w, i32_w]
         rfl
        refine pure_ (i := 4) (N := some 21) (v := ?_) (a' := ?_) #[true, true, true, false, true, false, false, false, false, false] rfl rfl (any_of HT_.out (by kernel_rfl)) (fun _ _ _ h => h) (Or.inl ⟨by rfl, ?_⟩) ?_ ?_
        rotate_left
        ·intro w'
         go_simp
         with_reducible rfl
        rotate_left
        ·simp only [Act.put, List.setIfInBounds_toArray, List.set_cons_zero, List.set_cons_succ, i64_w, i32_w]
         rfl
        refine pure_ (i := 5) (N := some 22) (v := ?_) (a' := ?_) #[true, true, true, false, true, true, false, false, false, false] rfl rfl (any_of HT_.out (by kernel_rfl)) (fun _ _ _ h => h) (Or.inl ⟨by rfl, ?_⟩) ?_ ?_
        rotate_left
        ·intro w'
         go_simp
         with_reducible rfl
        rotate_left
        ·simp only [Act.put, List.setIfInBounds_toArray, List.set_cons_zero, List.set_cons_succ, i64_w, i32_w]
         rfl
        refine pure_ (i := 6) (N := some 23) (v := ?_) (a' := ?_) #[true, true, true, false, true, true, true, false, false, false] rfl rfl (any_of HT_.out (by kernel_rfl)) (fun _ _ _ h => h) (Or.inl ⟨by rfl, ?_⟩) ?_ ?_
        rotate_left
        ·intro w'
         go_simp
         with_reducible rfl
        rotate_left
        ·simp only [Act.put, List.setIfInBounds_toArray, List.set_cons_zero, List.set_cons_succ, i64_w, i32_w]
         rfl
        refine take_ (i := 3) (N := some 20) (v := ?_) (a' := ?_) #[true, true, true, true, true, true, true, false, false, false] rfl rfl (take_ofW HT_.out HW_.out (by kernel_rfl)) (fun _ _ _ h => h) (Or.inl ⟨by rfl, ?_⟩) hHeld ?_ ?_
        rotate_left
        ·rintro w' ⟨s0, s1, s2, s3, s4, s5, s6, s7⟩
         go_simp
         with_reducible rfl
        rotate_left
        ·simp only [Act.put, List.setIfInBounds_toArray, List.set_cons_zero, List.set_cons_succ, i64_w, i32_w]
         rfl
        refine take_ (i := 7) (N := some 24) (v := ?_) (a' := ?_) #[true, true, true, true, true, true, true, true, false, false] rfl rfl (take_ofW HT_.out HW_.out (by kernel_rfl)) (fun _ _ _ h => h) (Or.inl ⟨by rfl, ?_⟩) hHeld ?_ ?_
        rotate_left
        ·rintro w' ⟨s0, s1, s2, s3, s4, s5, s6, s7⟩
         go_simp
         with_reducible rfl
        rotate_left
        ·simp only [Act.put, List.setIfInBounds_toArray, List.set_cons_zero, List.set_cons_succ, i64_w, i32_w]
         rfl
        refine one_ (i := 8) (N := some 25) #[true, true, true, true, true, true, true, true, true, false] rfl rfl (one_of HT_.out (by kernel_rfl)) (by decide) (fun K hK => ?_)
        refine goes_ Try.func68 (by kernel_rfl) rfl #[.agg #[.int .i64 ((rd_T58 l0 x5_1).f0), .int .i64 ((rd_T58 l0 x5_1).f1), .int .i64 ((rd_T58 l0 x5_1).f2.f0), .int .i64 ((rd_T58 l0 x5_1).f2.f1)], .agg #[.int .i64 ((rd_T58 l1 x5_1).f0), .int .i64 ((rd_T58 l1 x5_1).f1), .int .i64 ((rd_T58 l1 x5_1).f2.f0), .int .i64 ((rd_T58 l1 x5_1).f2.f1)]] (by rfl) rfl rfl (by (try simp only [List.map_toArray, List.map_cons, List.map_nil]); first | done | rfl | (simp only [List.length_drop, List.length_take]; rfl)) ?_
        with_reducible refine (laws_eqCycle.calls ((rd_T58 l0 x5_1).f0) ((rd_T58 l0 x5_1).f1) ((rd_T58 l0 x5_1).f2.f0) ((rd_T58 l0 x5_1).f2.f1) ((rd_T58 l1 x5_1).f0) ((rd_T58 l1 x5_1).f1) ((rd_T58 l1 x5_1).f2.f0) ((rd_T58 l1 x5_1).f2.f1) true _ A7.out).mono ?_
        rintro e w10 ⟨rfl, hb⟩
        refine ⟨_, rfl, ?_⟩
        have n0_ := Zm (below_step (by repeat (first | (with_reducible first | exact HB.out | apply Zl | apply Zp | apply Ze) | exact HB.out)) hb)
        clear HB
        have HB := n0_
        clear n0_
        (try clear hb)
        (try clear hb2)
        (try clear hk)
        (try clear hi)
        refine hK.out _ _ ⟨((HB.out.cell (World.block_lt_of_cell? w _ hw729_0)).trans hw729_0), ((HB.out.cell (World.block_lt_of_cell? w _ hw729_1)).trans hw729_1), ((HB.out.cell (World.block_lt_of_cell? w _ hw729_2)).trans hw729_2), ((HB.out.cell (World.block_lt_of_cell? w _ hw729_3)).trans hw729_3), ((HB.out.cell (World.block_lt_of_cell? w _ hw730_0)).trans hw730_0), ((HB.out.cell (World.block_lt_of_cell? w _ hw730_1)).trans hw730_1), ((HB.out.cell (World.block_lt_of_cell? w _ hw730_2)).trans hw730_2), ((HB.out.cell (World.block_lt_of_cell? w _ hw730_3)).trans hw730_3)⟩ (fun hHeld => ?_)
        clear hK K
        refine norm_ (a' := ?_) ?_ ?_
        rotate_left
        ·show Act.put _ (some 25) _ = _
         simp only [Act.put, List.setIfInBounds_toArray, List.set_cons_zero, List.set_cons_succ, i64_w, i32_w]
         rfl
        refine pure_ (i := 9) (N := some 26) (v := ?_) (a' := ?_) #[true, true, true, true, true, true, true, true, true, true] rfl rfl (any_of HT_.out (by kernel_rfl)) (fun _ _ _ h => h) (Or.inl ⟨by rfl, ?_⟩) ?_ ?_
        rotate_left
        ·intro w'
         go_simp
         with_reducible rfl
        rotate_left
        ·simp only [Act.put, List.setIfInBounds_toArray, List.set_cons_zero, List.set_cons_succ, i64_w, i32_w]
         rfl
        refine done_ (done_of HT_.out (by kernel_rfl)) ?_
        try go_wp2
        go_roundg k1
        case measure => have := HK1.out; omega
        case rel => exact ⟨(wrap64 (x5_1 + 1)), (by first | rfl | (simp; done) | (simp [*]; done)), H', ⟨by have := HK1.out; omega⟩, ⟨by repeat (first | (with_reducible first | exact HB.out | apply Zl | apply Zp | apply Ze) | exact HB.out)⟩⟩
       ·replace c8 := Bool.eq_false_iff.mpr c8
        subst c8
        have H1 : (some false) = some r := by rw [if_neg (show ¬ (false = true) by decide)] at H; exact H
        clear H
        have H := H1
        clear H1
        obtain rfl := Option.some.inj H
        try go_wp2
        have n0_ := Zm (Ze HB.out)
        clear HB
        have HB := n0_
        clear n0_
        have p729 : 0 ≤ (x5_1 : Int) := of_decide_eq_true (by first | (with_reducible assumption) | assumption)
        have q729 : x5_1 < (l0.length : Int) := of_decide_eq_true (by first | (with_reducible assumption) | assumption)
        obtain ⟨ad729, e729, hx729_0, hx729_1, hx729_2, hx729_3⟩ := at_T58 HR0.out x5_1 p729 q729
        have hw729_3 := hx729_3
        have hw729_2 := hx729_2
        have hw729_1 := hx729_1
        have hw729_0 := hx729_0
        cases e729
        replace hx729_0 := (HB.out.cell (World.block_lt_of_cell? w _ hx729_0)).trans hx729_0
        replace hx729_1 := (HB.out.cell (World.block_lt_of_cell? w _ hx729_1)).trans hx729_1
        replace hx729_2 := (HB.out.cell (World.block_lt_of_cell? w _ hx729_2)).trans hx729_2
        replace hx729_3 := (HB.out.cell (World.block_lt_of_cell? w _ hx729_3)).trans hx729_3
        replace p729 := eq_true p729
        replace q729 := eq_true q729
        have p730 : 0 ≤ (x5_1 : Int) := of_decide_eq_true (by first | (with_reducible assumption) | assumption)
        have q730 : x5_1 < (l1.length : Int) := of_decide_eq_true (by first | (with_reducible assumption) | assumption)
        obtain ⟨ad730, e730, hx730_0, hx730_1, hx730_2, hx730_3⟩ := at_T58 HR1.out x5_1 p730 q730
        have hw730_3 := hx730_3
        have hw730_2 := hx730_2
        have hw730_1 := hx730_1
        have hw730_0 := hx730_0
        cases e730
        replace hx730_0 := (HB.out.cell (World.block_lt_of_cell? w _ hx730_0)).trans hx730_0
        replace hx730_1 := (HB.out.cell (World.block_lt_of_cell? w _ hx730_1)).trans hx730_1
        replace hx730_2 := (HB.out.cell (World.block_lt_of_cell? w _ hx730_2)).trans hx730_2
        replace hx730_3 := (HB.out.cell (World.block_lt_of_cell? w _ hx730_3)).trans hx730_3
        replace p730 := eq_true p730
        replace q730 := eq_true q730
        refine start_ (n := 10) (S := fun w' => w'.cell? (ad729.add ((x5_1).toNat * 4)) = some (.int .i64 ((rd_T58 l0 x5_1).f0)) ∧ w'.cell? ⟨(ad729.add ((x5_1).toNat * 4)).block, (ad729.add ((x5_1).toNat * 4)).off + 1, none⟩ = some (.int .i64 ((rd_T58 l0 x5_1).f1)) ∧ w'.cell? ⟨(ad729.add ((x5_1).toNat * 4)).block, (ad729.add ((x5_1).toNat * 4)).off + 2, none⟩ = some (.int .i64 ((rd_T58 l0 x5_1).f2.f0)) ∧ w'.cell? ⟨(ad729.add ((x5_1).toNat * 4)).block, (ad729.add ((x5_1).toNat * 4)).off + 3, none⟩ = some (.int .i64 ((rd_T58 l0 x5_1).f2.f1)) ∧ w'.cell? (ad730.add ((x5_1).toNat * 4)) = some (.int .i64 ((rd_T58 l1 x5_1).f0)) ∧ w'.cell? ⟨(ad730.add ((x5_1).toNat * 4)).block, (ad730.add ((x5_1).toNat * 4)).off + 1, none⟩ = some (.int .i64 ((rd_T58 l1 x5_1).f1)) ∧ w'.cell? ⟨(ad730.add ((x5_1).toNat * 4)).block, (ad730.add ((x5_1).toNat * 4)).off + 2, none⟩ = some (.int .i64 ((rd_T58 l1 x5_1).f2.f0)) ∧ w'.cell? ⟨(ad730.add ((x5_1).toNat * 4)).block, (ad730.add ((x5_1).toNat * 4)).off + 3, none⟩ = some (.int .i64 ((rd_T58 l1 x5_1).f2.f1))) (ds := []) #[false, false, false, false, false, false, false, false, false, false] (by kernel_rfl) rfl rfl ⟨((HB.out.cell (World.block_lt_of_cell? w _ hw729_0)).trans hw729_0), ((HB.out.cell (World.block_lt_of_cell? w _ hw729_1)).trans hw729_1), ((HB.out.cell (World.block_lt_of_cell? w _ hw729_2)).trans hw729_2), ((HB.out.cell (World.block_lt_of_cell? w _ hw729_3)).trans hw729_3), ((HB.out.cell (World.block_lt_of_cell? w _ hw730_0)).trans hw730_0), ((HB.out.cell (World.block_lt_of_cell? w _ hw730_1)).trans hw730_1), ((HB.out.cell (World.block_lt_of_cell? w _ hw730_2)).trans hw730_2), ((HB.out.cell (World.block_lt_of_cell? w _ hw730_3)).trans hw730_3)⟩ (fun hHeld => ?_); refine with_tabW laws_eqCycleS.tab6 laws_eqCycleS.bits6 (fun HT_ HW_ => ?_)
        generalize wr.drew = w11 at HB hx729_0 hx729_1 hx729_2 hx729_3 hx730_0 hx730_1 hx730_2 hx730_3 hHeld ⊢
        refine pure_ (i := 0) (N := some 17) (v := ?_) (a' := ?_) #[true, false, false, false, false, false, false, false, false, false] rfl rfl (any_of HT_.out (by kernel_rfl)) (fun _ _ _ h => h) (Or.inl ⟨by rfl, ?_⟩) ?_ ?_
        rotate_left
        ·intro w'
         go_simp
         with_reducible rfl
        rotate_left
        ·simp only [Act.put, List.setIfInBounds_toArray, List.set_cons_zero, List.set_cons_succ, i64_w, i32_w]
         rfl
        refine pure_ (i := 1) (N := some 18) (v := ?_) (a' := ?_) #[true, true, false, false, false, false, false, false, false, false] rfl rfl (any_of HT_.out (by kernel_rfl)) (fun _ _ _ h => h) (Or.inl ⟨by rfl, ?_⟩) ?_ ?_
        rotate_left
        ·intro w'
         go_simp
         with_reducible rfl
        rotate_left
        ·simp only [Act.put, List.setIfInBounds_toArray, List.set_cons_zero, List.set_cons_succ, i64_w, i32_w]
         rfl
        refine pure_ (i := 2) (N := some 19) (v := ?_) (a' := ?_) #[true, true, true, false, false, false, false, false, false, false] rfl rfl (any_of HT_.out (by kernel_rfl)) (fun _ _ _ h => h) (Or.inl ⟨by rfl, ?_⟩) ?_ ?_
        rotate_left
        ·intro w'
         go_simp
         with_reducible rfl
        rotate_left
        ·simp only [Act.put, List.setIfInBounds_toArray, List.set_cons_zero, List.set_cons_succ, i64_w, i32_w]
         rfl
        refine pure_ (i := 4) (N := some 21) (v := ?_) (a' := ?_) #[true, true, true, false, true, false, false, false, false, false] rfl rfl (any_of HT_.out (by kernel_rfl)) (fun _ _ _ h => h) (Or.inl ⟨by rfl, ?_⟩) ?_ ?_
        rotate_left
        ·intro w'
         go_simp
         with_reducible rfl
        rotate_left
        ·simp only [Act.put, List.setIfInBounds_toArray, List.set_cons_zero, List.set_cons_succ, i64_w, i32_w]
         rfl
        refine pure_ (i := 5) (N := some 22) (v := ?_) (a' := ?_) #[true, true, true, false, true, true, false, false, false, false] rfl rfl (any_of HT_.out (by kernel_rfl)) (fun _ _ _ h => h) (Or.inl ⟨by rfl, ?_⟩) ?_ ?_
        rotate_left
        ·intro w'
         go_simp
         with_reducible rfl
        rotate_left
        ·simp only [Act.put, List.setIfInBounds_toArray, List.set_cons_zero, List.set_cons_succ, i64_w, i32_w]
         rfl
        refine pure_ (i := 6) (N := some 23) (v := ?_) (a' := ?_) #[true, true, true, false, true, true, true, false, false, false] rfl rfl (any_of HT_.out (by kernel_rfl)) (fun _ _ _ h => h) (Or.inl ⟨by rfl, ?_⟩) ?_ ?_
        rotate_left
        ·intro w'
         go_simp
         with_reducible rfl
        rotate_left
        ·simp only [Act.put, List.setIfInBounds_toArray, List.set_cons_zero, List.set_cons_succ, i64_w, i32_w]
         rfl
        refine take_ (i := 3) (N := some 20) (v := ?_) (a' := ?_) #[true, true, true, true, true, true, true, false, false, false] rfl rfl (take_ofW HT_.out HW_.out (by kernel_rfl)) (fun _ _ _ h => h) (Or.inl ⟨by rfl, ?_⟩) hHeld ?_ ?_
        rotate_left
        ·rintro w' ⟨s0, s1, s2, s3, s4, s5, s6, s7⟩
         go_simp
         with_reducible rfl
        rotate_left
        ·simp only [Act.put, List.setIfInBounds_toArray, List.set_cons_zero, List.set_cons_succ, i64_w, i32_w]
         rfl
        refine take_ (i := 7) (N := some 24) (v := ?_) (a' := ?_) #[true, true, true, true, true, true, true, true, false, false] rfl rfl (take_ofW HT_.out HW_.out (by kernel_rfl)) (fun _ _ _ h => h) (Or.inl ⟨by rfl, ?_⟩) hHeld ?_ ?_
        rotate_left
        ·rintro w' ⟨s0, s1, s2, s3, s4, s5, s6, s7⟩
         go_simp
         with_reducible rfl
        rotate_left
        ·simp only [Act.put, List.setIfInBounds_toArray, List.set_cons_zero, List.set_cons_succ, i64_w, i32_w]
         rfl
        refine one_ (i := 8) (N := some 25) #[true, true, true, true, true, true, true, true, true, false] rfl rfl (one_of HT_.out (by kernel_rfl)) (by decide) (fun K hK => ?_)
        refine goes_ Try.func68 (by kernel_rfl) rfl #[.agg #[.int .i64 ((rd_T58 l0 x5_1).f0), .int .i64 ((rd_T58 l0 x5_1).f1), .int .i64 ((rd_T58 l0 x5_1).f2.f0), .int .i64 ((rd_T58 l0 x5_1).f2.f1)], .agg #[.int .i64 ((rd_T58 l1 x5_1).f0), .int .i64 ((rd_T58 l1 x5_1).f1), .int .i64 ((rd_T58 l1 x5_1).f2.f0), .int .i64 ((rd_T58 l1 x5_1).f2.f1)]] (by rfl) rfl rfl (by (try simp only [List.map_toArray, List.map_cons, List.map_nil]); first | done | rfl | (simp only [List.length_drop, List.length_take]; rfl)) ?_
        with_reducible refine (laws_eqCycle.calls ((rd_T58 l0 x5_1).f0) ((rd_T58 l0 x5_1).f1) ((rd_T58 l0 x5_1).f2.f0) ((rd_T58 l0 x5_1).f2.f1) ((rd_T58 l1 x5_1).f0) ((rd_T58 l1 x5_1).f1) ((rd_T58 l1 x5_1).f2.f0) ((rd_T58 l1 x5_1).f2.f1) false _ A7.out).mono ?_
        rintro e w12 ⟨rfl, hb⟩
        refine ⟨_, rfl, ?_⟩
        have n0_ := Zm (below_step (by repeat (first | (with_reducible first | exact HB.out | apply Zl | apply Zp | apply Ze) | exact HB.out)) hb)
        clear HB
        have HB := n0_
        clear n0_
        (try clear hb)
        (try clear hb2)
        (try clear hk)
        (try clear hi)
        refine hK.out _ _ ⟨((HB.out.cell (World.block_lt_of_cell? w _ hw729_0)).trans hw729_0), ((HB.out.cell (World.block_lt_of_cell? w _ hw729_1)).trans hw729_1), ((HB.out.cell (World.block_lt_of_cell? w _ hw729_2)).trans hw729_2), ((HB.out.cell (World.block_lt_of_cell? w _ hw729_3)).trans hw729_3), ((HB.out.cell (World.block_lt_of_cell? w _ hw730_0)).trans hw730_0), ((HB.out.cell (World.block_lt_of_cell? w _ hw730_1)).trans hw730_1), ((HB.out.cell (World.block_lt_of_cell? w _ hw730_2)).trans hw730_2), ((HB.out.cell (World.block_lt_of_cell? w _ hw730_3)).trans hw730_3)⟩ (fun hHeld => ?_)
        clear hK K
        refine norm_ (a' := ?_) ?_ ?_
        rotate_left
        ·show Act.put _ (some 25) _ = _
         simp only [Act.put, List.setIfInBounds_toArray, List.set_cons_zero, List.set_cons_succ, i64_w, i32_w]
         rfl
        refine pure_ (i := 9) (N := some 26) (v := ?_) (a' := ?_) #[true, true, true, true, true, true, true, true, true, true] rfl rfl (any_of HT_.out (by kernel_rfl)) (fun _ _ _ h => h) (Or.inl ⟨by rfl, ?_⟩) ?_ ?_
        rotate_left
        ·intro w'
         go_simp
         with_reducible rfl
        rotate_left
        ·simp only [Act.put, List.setIfInBounds_toArray, List.set_cons_zero, List.set_cons_succ, i64_w, i32_w]
         rfl
        refine done_ (done_of HT_.out (by kernel_rfl)) ?_
        try go_wp2
        go_ret
        exact ⟨by first | rfl | (simp [errW_none, errW_some] <;> rfl) | (simp [*, errW_none, errW_some] <;> rfl), by repeat (first | (with_reducible first | exact HB.out | apply Zl | apply Zp | apply Ze) | exact HB.out)⟩
      ·rw [if_neg c6] at H
       exact absurd H (by simp)
     ·rw [if_neg c5] at H
      exact absurd H (by simp)
    ·rw [if_neg c4] at H
     have c4b0 : decide (x5_1 < (l0.length : Int)) = false := decide_eq_false c4
     clear c4
     obtain rfl := Option.some.inj H
     go_wp2
     go_ret
     exact ⟨by first | rfl | (simp [errW_none, errW_some] <;> rfl) | (simp [*, errW_none, errW_some] <;> rfl), by repeat (first | (with_reducible first | exact HB.out | apply Zl | apply Zp | apply Ze) | exact HB.out)⟩
 ·rw [if_neg c3] at H
  have c3b0 : ((l0.length : Int) == (l1.length : Int)) = false := beq_eq_false_iff_ne.mpr c3
  have c3b1 : ((l0.length : Int) != (l1.length : Int)) = true := bne_iff_ne.mpr c3
  have c3b2 : (l0.length == l1.length) = false := by first | simpa using c3 | (simp at c3 ⊢; omega)
  obtain rfl := Option.some.inj H
  go_enter Try.func36, Try.ntmps36
  go_wp2
  go_ret
  exact ⟨by first | rfl | (simp [errW_none, errW_some] <;> rfl) | (simp [*, errW_none, errW_some] <;> rfl), by repeat (first | (with_reducible first | exact HB.out | apply Zl | apply Zp | apply Ze) | exact HB.out)⟩

end Go.Proofs.Ytncdmooobfomeaa.G
